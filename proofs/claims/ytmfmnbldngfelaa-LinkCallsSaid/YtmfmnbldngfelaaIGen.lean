/- Parts of the proof, printed. -/
import Derived.Test.YtmfmnbldngfelaaLibD
import Derived.Test.YtmfmnbldngfelaaProg
import Derived.KernelRfl
set_option linter.unusedVariables false
set_option maxRecDepth 100000
namespace Go.Proofs.Ytmfmnbldngfelaa.I
open Go Go.Proofs.Ytmfmnbldngfelaa.Abs Go.Proofs
abbrev rep (n : Nat) (l : List SV) : List SV := List.replicate n .any ++ l
noncomputable def T0 : Prims := fun _ => none
noncomputable def E : Cal := EV Try.prog T0
section
variable {R : Type} (M : Mk) (C : Cal)
def k41x2 : AC := .ret
def k41x1 : AC := .seq (.mask 64) k41x2
def k41x0 : AC := .seq (.ops true [
    ⟨(some 7), .move (.tmp 0), none, []⟩,
    ⟨(some 8), .move (.tmp 1), none, []⟩,
    ⟨(some 9), .bin .other .geq (.tmp 7) (.tmp 8), none, []⟩,
    ⟨(some 10), .move (.tmp 9), none, []⟩,
    ⟨(some 11), .move (.tmp 0), (some (10, true)), []⟩,
    ⟨(some 12), .move (.tmp 2), (some (10, true)), []⟩,
    ⟨(some 13), .bin .other .leq (.tmp 11) (.tmp 12), (some (10, true)), []⟩,
    ⟨(some 14), .pick (.tmp 10) (.tmp 13) (.c (.bool false)), none, []⟩,
    ⟨(some 6), .move (.tmp 14), none, []⟩]) k41x1
/-- provenance/insn.in -/
def c41 : AFn := ⟨15, [.tmp 6],
  .seq (.ops false [
    ⟨(some 6), .move (.c (.bool false)), none, []⟩]) k41x0⟩
theorem r41 (i0 : Int) (i1 : Int) (i2 : Int) (h : Heap) : runE M C c41 [(.int .i64 i0), (.int .i64 i1), (.int .i64 i2)] h = (
  letK ((decide ((i1 : Int) ≤ i0)) : Bool) fun b9 =>
  letK ((decide ((i0 : Int) ≤ i2)) : Bool) fun b13 =>
  letK ((if b9 = true then b13 else false) : Bool) fun b14 =>
  some ((.bool b14), h)
  ) := by kernel_rfl
theorem cf41 : cFn Try.prog 41 = some c41 := by kernel_rfl
theorem e41 (i0 : Int) (i1 : Int) (i2 : Int) (h : Heap) : E 41 [(.int .i64 i0), (.int .i64 i1), (.int .i64 i2)] h = (
  letK ((decide ((i1 : Int) ≤ i0)) : Bool) fun b9 =>
  letK ((decide ((i0 : Int) ≤ i2)) : Bool) fun b13 =>
  letK ((if b9 = true then b13 else false) : Bool) fun b14 =>
  some ((.bool b14), h)
  ) := (EV_eq (P := Try.prog) (T := T0) rfl cf41 [(.int .i64 i0), (.int .i64 i1), (.int .i64 i2)] h).trans (r41 mk0 E i0 i1 i2 h)
def k51x6 : AC := .join 28
def k51x5 : AC := .seq (.cond (.tmp 4)
   (.skip)
   (.ops false [
      ⟨(some 6), .bin .other .eql (.tmp 3) (.c (.int .i64 22)), none, []⟩,
      ⟨(some 4), .move (.tmp 6), none, []⟩])) k51x6
def k51x10 : AC := .ret
def k51x9 : AC := .seq (.mask 4) k51x10
def k51x25 : AC := .join 268
def k51x24 : AC := .seq (.cond (.tmp 8)
   (.skip)
   (.ops false [
      ⟨(some 16), .bin .other .eql (.tmp 3) (.c (.int .i64 15)), none, []⟩,
      ⟨(some 8), .move (.tmp 16), none, []⟩])) k51x25
def k51x23 : AC := .join 268
def k51x22 : AC := .seq (.cond (.tmp 8)
   (.skip)
   (.seq (.ops false [
      ⟨(some 15), .bin .other .eql (.tmp 3) (.c (.int .i64 7)), none, []⟩,
      ⟨(some 8), .move (.tmp 15), none, []⟩]) k51x24)) k51x23
def k51x21 : AC := .join 268
def k51x20 : AC := .seq (.cond (.tmp 8)
   (.skip)
   (.seq (.ops false [
      ⟨(some 14), .bin .other .eql (.tmp 3) (.c (.int .i64 6)), none, []⟩,
      ⟨(some 8), .move (.tmp 14), none, []⟩]) k51x22)) k51x21
def k51x19 : AC := .join 268
def k51x18 : AC := .seq (.cond (.tmp 8)
   (.skip)
   (.seq (.ops false [
      ⟨(some 13), .bin .other .eql (.tmp 3) (.c (.int .i64 5)), none, []⟩,
      ⟨(some 8), .move (.tmp 13), none, []⟩]) k51x20)) k51x19
def k51x17 : AC := .join 268
def k51x16 : AC := .seq (.cond (.tmp 8)
   (.skip)
   (.seq (.ops false [
      ⟨(some 12), .bin .other .eql (.tmp 3) (.c (.int .i64 4)), none, []⟩,
      ⟨(some 8), .move (.tmp 12), none, []⟩]) k51x18)) k51x17
def k51x15 : AC := .join 268
def k51x14 : AC := .seq (.cond (.tmp 8)
   (.skip)
   (.seq (.ops false [
      ⟨(some 11), .bin .other .eql (.tmp 3) (.c (.int .i64 3)), none, []⟩,
      ⟨(some 8), .move (.tmp 11), none, []⟩]) k51x16)) k51x15
def k51x13 : AC := .join 268
def k51x12 : AC := .seq (.cond (.tmp 8)
   (.skip)
   (.seq (.ops false [
      ⟨(some 10), .bin .other .eql (.tmp 3) (.c (.int .i64 2)), none, []⟩,
      ⟨(some 8), .move (.tmp 10), none, []⟩]) k51x14)) k51x13
def k51x35 : AC := .ret
def k51x34 : AC := .seq (.mask 4) k51x35
def k51x42 : AC := .join 262156
def k51x41 : AC := .seq (.cond (.tmp 18)
   (.skip)
   (.ops false [
      ⟨(some 22), .bin .other .eql (.tmp 3) (.c (.int .i64 12)), none, []⟩,
      ⟨(some 18), .move (.tmp 22), none, []⟩])) k51x42
def k51x40 : AC := .join 262156
def k51x39 : AC := .seq (.cond (.tmp 18)
   (.skip)
   (.seq (.ops false [
      ⟨(some 21), .bin .other .eql (.tmp 3) (.c (.int .i64 10)), none, []⟩,
      ⟨(some 18), .move (.tmp 21), none, []⟩]) k51x41)) k51x40
def k51x38 : AC := .join 262156
def k51x37 : AC := .seq (.cond (.tmp 18)
   (.skip)
   (.seq (.ops false [
      ⟨(some 20), .bin .other .eql (.tmp 3) (.c (.int .i64 9)), none, []⟩,
      ⟨(some 18), .move (.tmp 20), none, []⟩]) k51x39)) k51x38
def k51x48 : AC := .ret
def k51x47 : AC := .seq (.mask 4) k51x48
def k51x52 : AC := .ret
def k51x51 : AC := .seq (.mask 4) k51x52
def k51x59 : AC := .join 134217740
def k51x58 : AC := .seq (.cond (.tmp 27)
   (.skip)
   (.ops false [
      ⟨(some 31), .bin .other .eql (.tmp 3) (.c (.int .i64 18)), none, []⟩,
      ⟨(some 27), .move (.tmp 31), none, []⟩])) k51x59
def k51x57 : AC := .join 134217740
def k51x56 : AC := .seq (.cond (.tmp 27)
   (.skip)
   (.seq (.ops false [
      ⟨(some 30), .bin .other .eql (.tmp 3) (.c (.int .i64 17)), none, []⟩,
      ⟨(some 27), .move (.tmp 30), none, []⟩]) k51x58)) k51x57
def k51x55 : AC := .join 134217740
def k51x54 : AC := .seq (.cond (.tmp 27)
   (.skip)
   (.seq (.ops false [
      ⟨(some 29), .bin .other .eql (.tmp 3) (.c (.int .i64 16)), none, []⟩,
      ⟨(some 27), .move (.tmp 29), none, []⟩]) k51x56)) k51x55
def k51x65 : AC := .ret
def k51x64 : AC := .seq (.mask 4) k51x65
def k51x69 : AC := .ret
def k51x68 : AC := .seq (.mask 4) k51x69
def k51x74 : AC := .join 68719476740
def k51x73 : AC := .seq (.cond (.tmp 36)
   (.skip)
   (.ops false [
      ⟨(some 39), .bin .other .eql (.tmp 3) (.c (.int .i64 24)), none, []⟩,
      ⟨(some 36), .move (.tmp 39), none, []⟩])) k51x74
def k51x72 : AC := .join 68719476740
def k51x71 : AC := .seq (.cond (.tmp 36)
   (.skip)
   (.seq (.ops false [
      ⟨(some 38), .bin .other .eql (.tmp 3) (.c (.int .i64 20)), none, []⟩,
      ⟨(some 36), .move (.tmp 38), none, []⟩]) k51x73)) k51x72
def k51x79 : AC := .ret
def k51x78 : AC := .seq (.mask 4) k51x79
def k51x77 : AC := .mask 4
def k51x70 : AC := .seq (.cond (.tmp 36)
   (.seq (.ops false [
      ⟨(some 40), .build [(.bool false), (.bool false), (.bool false), (.bool false)] [(3, 1, (.c (.bool true)))], none, []⟩,
      ⟨none, .store 4 (.tmp 2) (.tmp 40), none, []⟩]) k51x78)
   (.skip)) k51x77
def k51x67 : AC := .mask 4
def k51x66 : AC := .seq (.cond (.tmp 33)
   (.seq (.ops false [
      ⟨(some 35), .build [(.bool false), (.bool false), (.bool false), (.bool false)] [(0, 1, (.c (.bool true))), (2, 1, (.c (.bool true))), (3, 1, (.c (.bool true)))], none, []⟩,
      ⟨none, .store 4 (.tmp 2) (.tmp 35), none, []⟩]) k51x68)
   (.seq (.seq (.ops false [
      ⟨(some 37), .bin .other .eql (.tmp 3) (.c (.int .i64 19)), none, []⟩,
      ⟨(some 36), .move (.tmp 37), none, []⟩]) k51x71) k51x70)) k51x67
def k51x63 : AC := .mask 4
def k51x53 : AC := .seq (.cond (.tmp 27)
   (.seq (.ops false [
      ⟨(some 32), .build [(.bool false), (.bool false), (.bool false), (.bool false)] [(1, 1, (.c (.bool true))), (2, 1, (.c (.bool true))), (3, 1, (.c (.bool true)))], none, []⟩,
      ⟨none, .store 4 (.tmp 2) (.tmp 32), none, []⟩]) k51x64)
   (.seq (.ops false [
      ⟨(some 34), .bin .other .eql (.tmp 3) (.c (.int .i64 14)), none, []⟩,
      ⟨(some 33), .move (.tmp 34), none, []⟩]) k51x66)) k51x63
def k51x50 : AC := .mask 4
def k51x49 : AC := .seq (.cond (.tmp 24)
   (.seq (.ops false [
      ⟨(some 26), .build [(.bool false), (.bool false), (.bool false), (.bool false)] [(0, 1, (.c (.bool true))), (3, 1, (.c (.bool true)))], none, []⟩,
      ⟨none, .store 4 (.tmp 2) (.tmp 26), none, []⟩]) k51x51)
   (.seq (.seq (.ops false [
      ⟨(some 28), .bin .other .eql (.tmp 3) (.c (.int .i64 13)), none, []⟩,
      ⟨(some 27), .move (.tmp 28), none, []⟩]) k51x54) k51x53)) k51x50
def k51x46 : AC := .mask 4
def k51x36 : AC := .seq (.cond (.tmp 18)
   (.seq (.ops false [
      ⟨(some 23), .build [(.bool false), (.bool false), (.bool false), (.bool false)] [(0, 1, (.c (.bool true))), (1, 1, (.c (.bool true))), (3, 1, (.c (.bool true)))], none, []⟩,
      ⟨none, .store 4 (.tmp 2) (.tmp 23), none, []⟩]) k51x47)
   (.seq (.ops false [
      ⟨(some 25), .bin .other .eql (.tmp 3) (.c (.int .i64 11)), none, []⟩,
      ⟨(some 24), .move (.tmp 25), none, []⟩]) k51x49)) k51x46
def k51x33 : AC := .mask 4
def k51x11 : AC := .seq (.cond (.tmp 8)
   (.seq (.ops false [
      ⟨(some 17), .build [(.bool false), (.bool false), (.bool false), (.bool false)] [(0, 1, (.c (.bool true))), (1, 1, (.c (.bool true))), (2, 1, (.c (.bool true)))], none, []⟩,
      ⟨none, .store 4 (.tmp 2) (.tmp 17), none, []⟩]) k51x34)
   (.seq (.seq (.ops false [
      ⟨(some 19), .bin .other .eql (.tmp 3) (.c (.int .i64 8)), none, []⟩,
      ⟨(some 18), .move (.tmp 19), none, []⟩]) k51x37) k51x36)) k51x33
def k51x8 : AC := .mask 4
def k51x4 : AC := .seq (.cond (.tmp 4)
   (.seq (.ops false [
      ⟨(some 7), .build [(.bool false), (.bool false), (.bool false), (.bool false)] [], none, []⟩,
      ⟨none, .store 4 (.tmp 2) (.tmp 7), none, []⟩]) k51x9)
   (.seq (.seq (.ops false [
      ⟨(some 9), .bin .other .eql (.tmp 3) (.c (.int .i64 1)), none, []⟩,
      ⟨(some 8), .move (.tmp 9), none, []⟩]) k51x12) k51x11)) k51x8
def k51x3 : AC := .mask 4
def k51x2 : AC := .seq (.block 0 (.seq (.seq (.ops false [
     ⟨(some 5), .bin .other .eql (.tmp 3) (.c (.int .i64 0)), none, []⟩,
     ⟨(some 4), .move (.tmp 5), none, []⟩]) k51x5) k51x4)) k51x3
def k51x81 : AC := .ret
def k51x80 : AC := .seq (.mask 4) k51x81
def k51x1 : AC := .seq (.ops false [
    ⟨(some 41), .build [(.bool false), (.bool false), (.bool false), (.bool false)] [(1, 1, (.c (.bool true)))], none, []⟩,
    ⟨none, .store 4 (.tmp 2) (.tmp 41), none, []⟩]) k51x80
def k51x0 : AC := .seq (.seq (.ops false [
    ⟨(some 3), .move (.tmp 0), none, []⟩]) k51x2) k51x1
/-- provenance/insn.used -/
def c51 : AFn := ⟨42, [.cell 2 (.agg [.bool, .bool, .bool, .bool])],
  .seq (.ops false [
    ⟨(some 2), .allocL [(.bool false), (.bool false), (.bool false), (.bool false)], none, []⟩]) k51x0⟩
noncomputable def J51x7 (M : Mk) (C : Cal) (b2x0 : Bool) (b2x1 : Bool) (b2x2 : Bool) (b2x3 : Bool) (i3 : Int) (b4 : Bool) (h : Heap) : Res := M (AV × Heap) (seqQ (evalE M C k51x4) (blockQ 0 (seqQ (evalE M C k51x3) (seqQ (evalE M C k51x1) (endQ [.cell 2 (.agg [.bool, .bool, .bool, .bool])]))))) (.any :: .any :: (.box [(.bool b2x0), (.bool b2x1), (.bool b2x2), (.bool b2x3)] :: (.g [] true (.int .i64 i3) :: (.g [] true (.bool b4) :: (rep 37 []))))) h
noncomputable def J51x32 (M : Mk) (C : Cal) (b2x0 : Bool) (b2x1 : Bool) (b2x2 : Bool) (b2x3 : Bool) (i3 : Int) (b8 : Bool) (h : Heap) : Res := M (AV × Heap) (seqQ (evalE M C k51x11) (seqQ (evalE M C k51x8) (blockQ 0 (seqQ (evalE M C k51x3) (seqQ (evalE M C k51x1) (endQ [.cell 2 (.agg [.bool, .bool, .bool, .bool])])))))) (.any :: .any :: (.box [(.bool b2x0), (.bool b2x1), (.bool b2x2), (.bool b2x3)] :: (.g [] true (.int .i64 i3) :: (rep 4 (.g [] true (.bool b8) :: (rep 33 [])))))) h
noncomputable def J51x31 (M : Mk) (C : Cal) (b2x0 : Bool) (b2x1 : Bool) (b2x2 : Bool) (b2x3 : Bool) (i3 : Int) (b8 : Bool) (h : Heap) : Res := M (AV × Heap) (seqQ (evalE M C k51x13) (seqQ (evalE M C k51x11) (seqQ (evalE M C k51x8) (blockQ 0 (seqQ (evalE M C k51x3) (seqQ (evalE M C k51x1) (endQ [.cell 2 (.agg [.bool, .bool, .bool, .bool])]))))))) (.any :: .any :: (.box [(.bool b2x0), (.bool b2x1), (.bool b2x2), (.bool b2x3)] :: (.g [] true (.int .i64 i3) :: (rep 4 (.g [] true (.bool b8) :: (rep 33 [])))))) h
noncomputable def J51x30 (M : Mk) (C : Cal) (b2x0 : Bool) (b2x1 : Bool) (b2x2 : Bool) (b2x3 : Bool) (i3 : Int) (b8 : Bool) (h : Heap) : Res := M (AV × Heap) (seqQ (evalE M C k51x15) (seqQ (evalE M C k51x13) (seqQ (evalE M C k51x11) (seqQ (evalE M C k51x8) (blockQ 0 (seqQ (evalE M C k51x3) (seqQ (evalE M C k51x1) (endQ [.cell 2 (.agg [.bool, .bool, .bool, .bool])])))))))) (.any :: .any :: (.box [(.bool b2x0), (.bool b2x1), (.bool b2x2), (.bool b2x3)] :: (.g [] true (.int .i64 i3) :: (rep 4 (.g [] true (.bool b8) :: (rep 33 [])))))) h
noncomputable def J51x29 (M : Mk) (C : Cal) (b2x0 : Bool) (b2x1 : Bool) (b2x2 : Bool) (b2x3 : Bool) (i3 : Int) (b8 : Bool) (h : Heap) : Res := M (AV × Heap) (seqQ (evalE M C k51x17) (seqQ (evalE M C k51x15) (seqQ (evalE M C k51x13) (seqQ (evalE M C k51x11) (seqQ (evalE M C k51x8) (blockQ 0 (seqQ (evalE M C k51x3) (seqQ (evalE M C k51x1) (endQ [.cell 2 (.agg [.bool, .bool, .bool, .bool])]))))))))) (.any :: .any :: (.box [(.bool b2x0), (.bool b2x1), (.bool b2x2), (.bool b2x3)] :: (.g [] true (.int .i64 i3) :: (rep 4 (.g [] true (.bool b8) :: (rep 33 [])))))) h
noncomputable def J51x28 (M : Mk) (C : Cal) (b2x0 : Bool) (b2x1 : Bool) (b2x2 : Bool) (b2x3 : Bool) (i3 : Int) (b8 : Bool) (h : Heap) : Res := M (AV × Heap) (seqQ (evalE M C k51x19) (seqQ (evalE M C k51x17) (seqQ (evalE M C k51x15) (seqQ (evalE M C k51x13) (seqQ (evalE M C k51x11) (seqQ (evalE M C k51x8) (blockQ 0 (seqQ (evalE M C k51x3) (seqQ (evalE M C k51x1) (endQ [.cell 2 (.agg [.bool, .bool, .bool, .bool])])))))))))) (.any :: .any :: (.box [(.bool b2x0), (.bool b2x1), (.bool b2x2), (.bool b2x3)] :: (.g [] true (.int .i64 i3) :: (rep 4 (.g [] true (.bool b8) :: (rep 33 [])))))) h
noncomputable def J51x27 (M : Mk) (C : Cal) (b2x0 : Bool) (b2x1 : Bool) (b2x2 : Bool) (b2x3 : Bool) (i3 : Int) (b8 : Bool) (h : Heap) : Res := M (AV × Heap) (seqQ (evalE M C k51x21) (seqQ (evalE M C k51x19) (seqQ (evalE M C k51x17) (seqQ (evalE M C k51x15) (seqQ (evalE M C k51x13) (seqQ (evalE M C k51x11) (seqQ (evalE M C k51x8) (blockQ 0 (seqQ (evalE M C k51x3) (seqQ (evalE M C k51x1) (endQ [.cell 2 (.agg [.bool, .bool, .bool, .bool])]))))))))))) (.any :: .any :: (.box [(.bool b2x0), (.bool b2x1), (.bool b2x2), (.bool b2x3)] :: (.g [] true (.int .i64 i3) :: (rep 4 (.g [] true (.bool b8) :: (rep 33 [])))))) h
noncomputable def J51x26 (M : Mk) (C : Cal) (b2x0 : Bool) (b2x1 : Bool) (b2x2 : Bool) (b2x3 : Bool) (i3 : Int) (b8 : Bool) (h : Heap) : Res := M (AV × Heap) (seqQ (evalE M C k51x23) (seqQ (evalE M C k51x21) (seqQ (evalE M C k51x19) (seqQ (evalE M C k51x17) (seqQ (evalE M C k51x15) (seqQ (evalE M C k51x13) (seqQ (evalE M C k51x11) (seqQ (evalE M C k51x8) (blockQ 0 (seqQ (evalE M C k51x3) (seqQ (evalE M C k51x1) (endQ [.cell 2 (.agg [.bool, .bool, .bool, .bool])])))))))))))) (.any :: .any :: (.box [(.bool b2x0), (.bool b2x1), (.bool b2x2), (.bool b2x3)] :: (.g [] true (.int .i64 i3) :: (rep 4 (.g [] true (.bool b8) :: (rep 33 [])))))) h
noncomputable def J51x45 (M : Mk) (C : Cal) (b2x0 : Bool) (b2x1 : Bool) (b2x2 : Bool) (b2x3 : Bool) (i3 : Int) (b18 : Bool) (h : Heap) : Res := M (AV × Heap) (seqQ (evalE M C k51x36) (seqQ (evalE M C k51x33) (seqQ (evalE M C k51x8) (blockQ 0 (seqQ (evalE M C k51x3) (seqQ (evalE M C k51x1) (endQ [.cell 2 (.agg [.bool, .bool, .bool, .bool])]))))))) (.any :: .any :: (.box [(.bool b2x0), (.bool b2x1), (.bool b2x2), (.bool b2x3)] :: (.g [] true (.int .i64 i3) :: (rep 14 (.g [] true (.bool b18) :: (rep 23 [])))))) h
noncomputable def J51x44 (M : Mk) (C : Cal) (b2x0 : Bool) (b2x1 : Bool) (b2x2 : Bool) (b2x3 : Bool) (i3 : Int) (b18 : Bool) (h : Heap) : Res := M (AV × Heap) (seqQ (evalE M C k51x38) (seqQ (evalE M C k51x36) (seqQ (evalE M C k51x33) (seqQ (evalE M C k51x8) (blockQ 0 (seqQ (evalE M C k51x3) (seqQ (evalE M C k51x1) (endQ [.cell 2 (.agg [.bool, .bool, .bool, .bool])])))))))) (.any :: .any :: (.box [(.bool b2x0), (.bool b2x1), (.bool b2x2), (.bool b2x3)] :: (.g [] true (.int .i64 i3) :: (rep 14 (.g [] true (.bool b18) :: (rep 23 [])))))) h
noncomputable def J51x43 (M : Mk) (C : Cal) (b2x0 : Bool) (b2x1 : Bool) (b2x2 : Bool) (b2x3 : Bool) (i3 : Int) (b18 : Bool) (h : Heap) : Res := M (AV × Heap) (seqQ (evalE M C k51x40) (seqQ (evalE M C k51x38) (seqQ (evalE M C k51x36) (seqQ (evalE M C k51x33) (seqQ (evalE M C k51x8) (blockQ 0 (seqQ (evalE M C k51x3) (seqQ (evalE M C k51x1) (endQ [.cell 2 (.agg [.bool, .bool, .bool, .bool])]))))))))) (.any :: .any :: (.box [(.bool b2x0), (.bool b2x1), (.bool b2x2), (.bool b2x3)] :: (.g [] true (.int .i64 i3) :: (rep 14 (.g [] true (.bool b18) :: (rep 23 [])))))) h
noncomputable def J51x62 (M : Mk) (C : Cal) (b2x0 : Bool) (b2x1 : Bool) (b2x2 : Bool) (b2x3 : Bool) (i3 : Int) (b27 : Bool) (h : Heap) : Res := M (AV × Heap) (seqQ (evalE M C k51x53) (seqQ (evalE M C k51x50) (seqQ (evalE M C k51x46) (seqQ (evalE M C k51x33) (seqQ (evalE M C k51x8) (blockQ 0 (seqQ (evalE M C k51x3) (seqQ (evalE M C k51x1) (endQ [.cell 2 (.agg [.bool, .bool, .bool, .bool])]))))))))) (.any :: .any :: (.box [(.bool b2x0), (.bool b2x1), (.bool b2x2), (.bool b2x3)] :: (.g [] true (.int .i64 i3) :: (rep 23 (.g [] true (.bool b27) :: (rep 14 [])))))) h
noncomputable def J51x61 (M : Mk) (C : Cal) (b2x0 : Bool) (b2x1 : Bool) (b2x2 : Bool) (b2x3 : Bool) (i3 : Int) (b27 : Bool) (h : Heap) : Res := M (AV × Heap) (seqQ (evalE M C k51x55) (seqQ (evalE M C k51x53) (seqQ (evalE M C k51x50) (seqQ (evalE M C k51x46) (seqQ (evalE M C k51x33) (seqQ (evalE M C k51x8) (blockQ 0 (seqQ (evalE M C k51x3) (seqQ (evalE M C k51x1) (endQ [.cell 2 (.agg [.bool, .bool, .bool, .bool])])))))))))) (.any :: .any :: (.box [(.bool b2x0), (.bool b2x1), (.bool b2x2), (.bool b2x3)] :: (.g [] true (.int .i64 i3) :: (rep 23 (.g [] true (.bool b27) :: (rep 14 [])))))) h
noncomputable def J51x60 (M : Mk) (C : Cal) (b2x0 : Bool) (b2x1 : Bool) (b2x2 : Bool) (b2x3 : Bool) (i3 : Int) (b27 : Bool) (h : Heap) : Res := M (AV × Heap) (seqQ (evalE M C k51x57) (seqQ (evalE M C k51x55) (seqQ (evalE M C k51x53) (seqQ (evalE M C k51x50) (seqQ (evalE M C k51x46) (seqQ (evalE M C k51x33) (seqQ (evalE M C k51x8) (blockQ 0 (seqQ (evalE M C k51x3) (seqQ (evalE M C k51x1) (endQ [.cell 2 (.agg [.bool, .bool, .bool, .bool])]))))))))))) (.any :: .any :: (.box [(.bool b2x0), (.bool b2x1), (.bool b2x2), (.bool b2x3)] :: (.g [] true (.int .i64 i3) :: (rep 23 (.g [] true (.bool b27) :: (rep 14 [])))))) h
noncomputable def J51x76 (M : Mk) (C : Cal) (b2x0 : Bool) (b2x1 : Bool) (b2x2 : Bool) (b2x3 : Bool) (b36 : Bool) (h : Heap) : Res := M (AV × Heap) (seqQ (evalE M C k51x70) (seqQ (evalE M C k51x67) (seqQ (evalE M C k51x63) (seqQ (evalE M C k51x50) (seqQ (evalE M C k51x46) (seqQ (evalE M C k51x33) (seqQ (evalE M C k51x8) (blockQ 0 (seqQ (evalE M C k51x3) (seqQ (evalE M C k51x1) (endQ [.cell 2 (.agg [.bool, .bool, .bool, .bool])]))))))))))) (.any :: .any :: (.box [(.bool b2x0), (.bool b2x1), (.bool b2x2), (.bool b2x3)] :: (rep 33 (.g [] true (.bool b36) :: (rep 5 []))))) h
noncomputable def J51x75 (M : Mk) (C : Cal) (b2x0 : Bool) (b2x1 : Bool) (b2x2 : Bool) (b2x3 : Bool) (b36 : Bool) (h : Heap) : Res := M (AV × Heap) (seqQ (evalE M C k51x72) (seqQ (evalE M C k51x70) (seqQ (evalE M C k51x67) (seqQ (evalE M C k51x63) (seqQ (evalE M C k51x50) (seqQ (evalE M C k51x46) (seqQ (evalE M C k51x33) (seqQ (evalE M C k51x8) (blockQ 0 (seqQ (evalE M C k51x3) (seqQ (evalE M C k51x1) (endQ [.cell 2 (.agg [.bool, .bool, .bool, .bool])])))))))))))) (.any :: .any :: (.box [(.bool b2x0), (.bool b2x1), (.bool b2x2), (.bool b2x3)] :: (rep 33 (.g [] true (.bool b36) :: (rep 5 []))))) h
theorem r51 (i0 : Int) (h : Heap) : runE M C c51 [(.int .i64 i0)] h = (
  letK ((decide ((i0 : Int) = 0)) : Bool) fun b5 =>
  if b5 = true then
    (
    J51x7 M C false false false false i0 b5 h
    )
  else
    (
    letK ((decide ((i0 : Int) = 22)) : Bool) fun b6 =>
    J51x7 M C false false false false i0 b6 h
    )
  ) := by kernel_rfl
theorem cf51 : cFn Try.prog 51 = some c51 := by kernel_rfl
theorem e51 (i0 : Int) (h : Heap) : E 51 [(.int .i64 i0)] h = (
  letK ((decide ((i0 : Int) = 0)) : Bool) fun b5 =>
  if b5 = true then
    (
    J51x7 mk0 E false false false false i0 b5 h
    )
  else
    (
    letK ((decide ((i0 : Int) = 22)) : Bool) fun b6 =>
    J51x7 mk0 E false false false false i0 b6 h
    )
  ) := (EV_eq (P := Try.prog) (T := T0) rfl cf51 [(.int .i64 i0)] h).trans (r51 mk0 E i0 h)
theorem J51x7xaux (M : Mk) (C : Cal) (b2x0 : Bool) (b2x1 : Bool) (b2x2 : Bool) (b2x3 : Bool) (i3 : Int) (b4 : Bool) (h : Heap) : (forceK tk (.any :: .any :: (.box [(.bool b2x0), (.bool b2x1), (.bool b2x2), (.bool b2x3)] :: (.g [] true (.int .i64 i3) :: (.g [] true (.bool b4) :: (rep 37 []))))) fun e => (seqQ (evalE M C k51x4) (blockQ 0 (seqQ (evalE M C k51x3) (seqQ (evalE M C k51x1) (endQ [.cell 2 (.agg [.bool, .bool, .bool, .bool])]))))) .normal ⟨e, h⟩) = (
  if b4 = true then
    (
    some ((.agg [(.bool false), (.bool false), (.bool false), (.bool false)]), h)
    )
  else
    (
    letK ((decide ((i3 : Int) = 1)) : Bool) fun b9 =>
    if b9 = true then
      (
      J51x32 M C b2x0 b2x1 b2x2 b2x3 i3 b9 h
      )
    else
      (
      letK ((decide ((i3 : Int) = 2)) : Bool) fun b10 =>
      if b10 = true then
        (
        J51x31 M C b2x0 b2x1 b2x2 b2x3 i3 b10 h
        )
      else
        (
        letK ((decide ((i3 : Int) = 3)) : Bool) fun b11 =>
        if b11 = true then
          (
          J51x30 M C b2x0 b2x1 b2x2 b2x3 i3 b11 h
          )
        else
          (
          letK ((decide ((i3 : Int) = 4)) : Bool) fun b12 =>
          if b12 = true then
            (
            J51x29 M C b2x0 b2x1 b2x2 b2x3 i3 b12 h
            )
          else
            (
            letK ((decide ((i3 : Int) = 5)) : Bool) fun b13 =>
            if b13 = true then
              (
              J51x28 M C b2x0 b2x1 b2x2 b2x3 i3 b13 h
              )
            else
              (
              letK ((decide ((i3 : Int) = 6)) : Bool) fun b14 =>
              if b14 = true then
                (
                J51x27 M C b2x0 b2x1 b2x2 b2x3 i3 b14 h
                )
              else
                (
                letK ((decide ((i3 : Int) = 7)) : Bool) fun b15 =>
                if b15 = true then
                  (
                  J51x26 M C b2x0 b2x1 b2x2 b2x3 i3 b15 h
                  )
                else
                  (
                  letK ((decide ((i3 : Int) = 15)) : Bool) fun b16 =>
                  J51x26 M C b2x0 b2x1 b2x2 b2x3 i3 b16 h
                  )
                )
              )
            )
          )
        )
      )
    )
  ) := by kernel_rfl
theorem J51x7xeq (C : Cal) (b2x0 : Bool) (b2x1 : Bool) (b2x2 : Bool) (b2x3 : Bool) (i3 : Int) (b4 : Bool) (h : Heap) : J51x7 mk0 C b2x0 b2x1 b2x2 b2x3 i3 b4 h = (
  if b4 = true then
    (
    some ((.agg [(.bool false), (.bool false), (.bool false), (.bool false)]), h)
    )
  else
    (
    letK ((decide ((i3 : Int) = 1)) : Bool) fun b9 =>
    if b9 = true then
      (
      J51x32 mk0 C b2x0 b2x1 b2x2 b2x3 i3 b9 h
      )
    else
      (
      letK ((decide ((i3 : Int) = 2)) : Bool) fun b10 =>
      if b10 = true then
        (
        J51x31 mk0 C b2x0 b2x1 b2x2 b2x3 i3 b10 h
        )
      else
        (
        letK ((decide ((i3 : Int) = 3)) : Bool) fun b11 =>
        if b11 = true then
          (
          J51x30 mk0 C b2x0 b2x1 b2x2 b2x3 i3 b11 h
          )
        else
          (
          letK ((decide ((i3 : Int) = 4)) : Bool) fun b12 =>
          if b12 = true then
            (
            J51x29 mk0 C b2x0 b2x1 b2x2 b2x3 i3 b12 h
            )
          else
            (
            letK ((decide ((i3 : Int) = 5)) : Bool) fun b13 =>
            if b13 = true then
              (
              J51x28 mk0 C b2x0 b2x1 b2x2 b2x3 i3 b13 h
              )
            else
              (
              letK ((decide ((i3 : Int) = 6)) : Bool) fun b14 =>
              if b14 = true then
                (
                J51x27 mk0 C b2x0 b2x1 b2x2 b2x3 i3 b14 h
                )
              else
                (
                letK ((decide ((i3 : Int) = 7)) : Bool) fun b15 =>
                if b15 = true then
                  (
                  J51x26 mk0 C b2x0 b2x1 b2x2 b2x3 i3 b15 h
                  )
                else
                  (
                  letK ((decide ((i3 : Int) = 15)) : Bool) fun b16 =>
                  J51x26 mk0 C b2x0 b2x1 b2x2 b2x3 i3 b16 h
                  )
                )
              )
            )
          )
        )
      )
    )
  ) := join_eqn (seqQ (evalE mk0 C k51x4) (blockQ 0 (seqQ (evalE mk0 C k51x3) (seqQ (evalE mk0 C k51x1) (endQ [.cell 2 (.agg [.bool, .bool, .bool, .bool])]))))) (.any :: .any :: (.box [(.bool b2x0), (.bool b2x1), (.bool b2x2), (.bool b2x3)] :: (.g [] true (.int .i64 i3) :: (.g [] true (.bool b4) :: (rep 37 []))))) h (J51x7xaux mk0 C b2x0 b2x1 b2x2 b2x3 i3 b4 h)
theorem J51x32xaux (M : Mk) (C : Cal) (b2x0 : Bool) (b2x1 : Bool) (b2x2 : Bool) (b2x3 : Bool) (i3 : Int) (b8 : Bool) (h : Heap) : (forceK tk (.any :: .any :: (.box [(.bool b2x0), (.bool b2x1), (.bool b2x2), (.bool b2x3)] :: (.g [] true (.int .i64 i3) :: (rep 4 (.g [] true (.bool b8) :: (rep 33 [])))))) fun e => (seqQ (evalE M C k51x11) (seqQ (evalE M C k51x8) (blockQ 0 (seqQ (evalE M C k51x3) (seqQ (evalE M C k51x1) (endQ [.cell 2 (.agg [.bool, .bool, .bool, .bool])])))))) .normal ⟨e, h⟩) = (
  if b8 = true then
    (
    some ((.agg [(.bool true), (.bool true), (.bool true), (.bool false)]), h)
    )
  else
    (
    letK ((decide ((i3 : Int) = 8)) : Bool) fun b19 =>
    if b19 = true then
      (
      J51x45 M C b2x0 b2x1 b2x2 b2x3 i3 b19 h
      )
    else
      (
      letK ((decide ((i3 : Int) = 9)) : Bool) fun b20 =>
      if b20 = true then
        (
        J51x44 M C b2x0 b2x1 b2x2 b2x3 i3 b20 h
        )
      else
        (
        letK ((decide ((i3 : Int) = 10)) : Bool) fun b21 =>
        if b21 = true then
          (
          J51x43 M C b2x0 b2x1 b2x2 b2x3 i3 b21 h
          )
        else
          (
          letK ((decide ((i3 : Int) = 12)) : Bool) fun b22 =>
          J51x43 M C b2x0 b2x1 b2x2 b2x3 i3 b22 h
          )
        )
      )
    )
  ) := by kernel_rfl
theorem J51x32xeq (C : Cal) (b2x0 : Bool) (b2x1 : Bool) (b2x2 : Bool) (b2x3 : Bool) (i3 : Int) (b8 : Bool) (h : Heap) : J51x32 mk0 C b2x0 b2x1 b2x2 b2x3 i3 b8 h = (
  if b8 = true then
    (
    some ((.agg [(.bool true), (.bool true), (.bool true), (.bool false)]), h)
    )
  else
    (
    letK ((decide ((i3 : Int) = 8)) : Bool) fun b19 =>
    if b19 = true then
      (
      J51x45 mk0 C b2x0 b2x1 b2x2 b2x3 i3 b19 h
      )
    else
      (
      letK ((decide ((i3 : Int) = 9)) : Bool) fun b20 =>
      if b20 = true then
        (
        J51x44 mk0 C b2x0 b2x1 b2x2 b2x3 i3 b20 h
        )
      else
        (
        letK ((decide ((i3 : Int) = 10)) : Bool) fun b21 =>
        if b21 = true then
          (
          J51x43 mk0 C b2x0 b2x1 b2x2 b2x3 i3 b21 h
          )
        else
          (
          letK ((decide ((i3 : Int) = 12)) : Bool) fun b22 =>
          J51x43 mk0 C b2x0 b2x1 b2x2 b2x3 i3 b22 h
          )
        )
      )
    )
  ) := join_eqn (seqQ (evalE mk0 C k51x11) (seqQ (evalE mk0 C k51x8) (blockQ 0 (seqQ (evalE mk0 C k51x3) (seqQ (evalE mk0 C k51x1) (endQ [.cell 2 (.agg [.bool, .bool, .bool, .bool])])))))) (.any :: .any :: (.box [(.bool b2x0), (.bool b2x1), (.bool b2x2), (.bool b2x3)] :: (.g [] true (.int .i64 i3) :: (rep 4 (.g [] true (.bool b8) :: (rep 33 [])))))) h (J51x32xaux mk0 C b2x0 b2x1 b2x2 b2x3 i3 b8 h)
theorem J51x31xaux (M : Mk) (C : Cal) (b2x0 : Bool) (b2x1 : Bool) (b2x2 : Bool) (b2x3 : Bool) (i3 : Int) (b8 : Bool) (h : Heap) : (forceK tk (.any :: .any :: (.box [(.bool b2x0), (.bool b2x1), (.bool b2x2), (.bool b2x3)] :: (.g [] true (.int .i64 i3) :: (rep 4 (.g [] true (.bool b8) :: (rep 33 [])))))) fun e => (seqQ (evalE M C k51x13) (seqQ (evalE M C k51x11) (seqQ (evalE M C k51x8) (blockQ 0 (seqQ (evalE M C k51x3) (seqQ (evalE M C k51x1) (endQ [.cell 2 (.agg [.bool, .bool, .bool, .bool])]))))))) .normal ⟨e, h⟩) = (
  J51x32 M C b2x0 b2x1 b2x2 b2x3 i3 b8 h
  ) := by kernel_rfl
theorem J51x31xeq (C : Cal) (b2x0 : Bool) (b2x1 : Bool) (b2x2 : Bool) (b2x3 : Bool) (i3 : Int) (b8 : Bool) (h : Heap) : J51x31 mk0 C b2x0 b2x1 b2x2 b2x3 i3 b8 h = (
  J51x32 mk0 C b2x0 b2x1 b2x2 b2x3 i3 b8 h
  ) := join_eqn (seqQ (evalE mk0 C k51x13) (seqQ (evalE mk0 C k51x11) (seqQ (evalE mk0 C k51x8) (blockQ 0 (seqQ (evalE mk0 C k51x3) (seqQ (evalE mk0 C k51x1) (endQ [.cell 2 (.agg [.bool, .bool, .bool, .bool])]))))))) (.any :: .any :: (.box [(.bool b2x0), (.bool b2x1), (.bool b2x2), (.bool b2x3)] :: (.g [] true (.int .i64 i3) :: (rep 4 (.g [] true (.bool b8) :: (rep 33 [])))))) h (J51x31xaux mk0 C b2x0 b2x1 b2x2 b2x3 i3 b8 h)
theorem J51x30xaux (M : Mk) (C : Cal) (b2x0 : Bool) (b2x1 : Bool) (b2x2 : Bool) (b2x3 : Bool) (i3 : Int) (b8 : Bool) (h : Heap) : (forceK tk (.any :: .any :: (.box [(.bool b2x0), (.bool b2x1), (.bool b2x2), (.bool b2x3)] :: (.g [] true (.int .i64 i3) :: (rep 4 (.g [] true (.bool b8) :: (rep 33 [])))))) fun e => (seqQ (evalE M C k51x15) (seqQ (evalE M C k51x13) (seqQ (evalE M C k51x11) (seqQ (evalE M C k51x8) (blockQ 0 (seqQ (evalE M C k51x3) (seqQ (evalE M C k51x1) (endQ [.cell 2 (.agg [.bool, .bool, .bool, .bool])])))))))) .normal ⟨e, h⟩) = (
  J51x31 M C b2x0 b2x1 b2x2 b2x3 i3 b8 h
  ) := by kernel_rfl
theorem J51x30xeq (C : Cal) (b2x0 : Bool) (b2x1 : Bool) (b2x2 : Bool) (b2x3 : Bool) (i3 : Int) (b8 : Bool) (h : Heap) : J51x30 mk0 C b2x0 b2x1 b2x2 b2x3 i3 b8 h = (
  J51x31 mk0 C b2x0 b2x1 b2x2 b2x3 i3 b8 h
  ) := join_eqn (seqQ (evalE mk0 C k51x15) (seqQ (evalE mk0 C k51x13) (seqQ (evalE mk0 C k51x11) (seqQ (evalE mk0 C k51x8) (blockQ 0 (seqQ (evalE mk0 C k51x3) (seqQ (evalE mk0 C k51x1) (endQ [.cell 2 (.agg [.bool, .bool, .bool, .bool])])))))))) (.any :: .any :: (.box [(.bool b2x0), (.bool b2x1), (.bool b2x2), (.bool b2x3)] :: (.g [] true (.int .i64 i3) :: (rep 4 (.g [] true (.bool b8) :: (rep 33 [])))))) h (J51x30xaux mk0 C b2x0 b2x1 b2x2 b2x3 i3 b8 h)
theorem J51x29xaux (M : Mk) (C : Cal) (b2x0 : Bool) (b2x1 : Bool) (b2x2 : Bool) (b2x3 : Bool) (i3 : Int) (b8 : Bool) (h : Heap) : (forceK tk (.any :: .any :: (.box [(.bool b2x0), (.bool b2x1), (.bool b2x2), (.bool b2x3)] :: (.g [] true (.int .i64 i3) :: (rep 4 (.g [] true (.bool b8) :: (rep 33 [])))))) fun e => (seqQ (evalE M C k51x17) (seqQ (evalE M C k51x15) (seqQ (evalE M C k51x13) (seqQ (evalE M C k51x11) (seqQ (evalE M C k51x8) (blockQ 0 (seqQ (evalE M C k51x3) (seqQ (evalE M C k51x1) (endQ [.cell 2 (.agg [.bool, .bool, .bool, .bool])]))))))))) .normal ⟨e, h⟩) = (
  J51x30 M C b2x0 b2x1 b2x2 b2x3 i3 b8 h
  ) := by kernel_rfl
theorem J51x29xeq (C : Cal) (b2x0 : Bool) (b2x1 : Bool) (b2x2 : Bool) (b2x3 : Bool) (i3 : Int) (b8 : Bool) (h : Heap) : J51x29 mk0 C b2x0 b2x1 b2x2 b2x3 i3 b8 h = (
  J51x30 mk0 C b2x0 b2x1 b2x2 b2x3 i3 b8 h
  ) := join_eqn (seqQ (evalE mk0 C k51x17) (seqQ (evalE mk0 C k51x15) (seqQ (evalE mk0 C k51x13) (seqQ (evalE mk0 C k51x11) (seqQ (evalE mk0 C k51x8) (blockQ 0 (seqQ (evalE mk0 C k51x3) (seqQ (evalE mk0 C k51x1) (endQ [.cell 2 (.agg [.bool, .bool, .bool, .bool])]))))))))) (.any :: .any :: (.box [(.bool b2x0), (.bool b2x1), (.bool b2x2), (.bool b2x3)] :: (.g [] true (.int .i64 i3) :: (rep 4 (.g [] true (.bool b8) :: (rep 33 [])))))) h (J51x29xaux mk0 C b2x0 b2x1 b2x2 b2x3 i3 b8 h)
theorem J51x28xaux (M : Mk) (C : Cal) (b2x0 : Bool) (b2x1 : Bool) (b2x2 : Bool) (b2x3 : Bool) (i3 : Int) (b8 : Bool) (h : Heap) : (forceK tk (.any :: .any :: (.box [(.bool b2x0), (.bool b2x1), (.bool b2x2), (.bool b2x3)] :: (.g [] true (.int .i64 i3) :: (rep 4 (.g [] true (.bool b8) :: (rep 33 [])))))) fun e => (seqQ (evalE M C k51x19) (seqQ (evalE M C k51x17) (seqQ (evalE M C k51x15) (seqQ (evalE M C k51x13) (seqQ (evalE M C k51x11) (seqQ (evalE M C k51x8) (blockQ 0 (seqQ (evalE M C k51x3) (seqQ (evalE M C k51x1) (endQ [.cell 2 (.agg [.bool, .bool, .bool, .bool])])))))))))) .normal ⟨e, h⟩) = (
  J51x29 M C b2x0 b2x1 b2x2 b2x3 i3 b8 h
  ) := by kernel_rfl
theorem J51x28xeq (C : Cal) (b2x0 : Bool) (b2x1 : Bool) (b2x2 : Bool) (b2x3 : Bool) (i3 : Int) (b8 : Bool) (h : Heap) : J51x28 mk0 C b2x0 b2x1 b2x2 b2x3 i3 b8 h = (
  J51x29 mk0 C b2x0 b2x1 b2x2 b2x3 i3 b8 h
  ) := join_eqn (seqQ (evalE mk0 C k51x19) (seqQ (evalE mk0 C k51x17) (seqQ (evalE mk0 C k51x15) (seqQ (evalE mk0 C k51x13) (seqQ (evalE mk0 C k51x11) (seqQ (evalE mk0 C k51x8) (blockQ 0 (seqQ (evalE mk0 C k51x3) (seqQ (evalE mk0 C k51x1) (endQ [.cell 2 (.agg [.bool, .bool, .bool, .bool])])))))))))) (.any :: .any :: (.box [(.bool b2x0), (.bool b2x1), (.bool b2x2), (.bool b2x3)] :: (.g [] true (.int .i64 i3) :: (rep 4 (.g [] true (.bool b8) :: (rep 33 [])))))) h (J51x28xaux mk0 C b2x0 b2x1 b2x2 b2x3 i3 b8 h)
theorem J51x27xaux (M : Mk) (C : Cal) (b2x0 : Bool) (b2x1 : Bool) (b2x2 : Bool) (b2x3 : Bool) (i3 : Int) (b8 : Bool) (h : Heap) : (forceK tk (.any :: .any :: (.box [(.bool b2x0), (.bool b2x1), (.bool b2x2), (.bool b2x3)] :: (.g [] true (.int .i64 i3) :: (rep 4 (.g [] true (.bool b8) :: (rep 33 [])))))) fun e => (seqQ (evalE M C k51x21) (seqQ (evalE M C k51x19) (seqQ (evalE M C k51x17) (seqQ (evalE M C k51x15) (seqQ (evalE M C k51x13) (seqQ (evalE M C k51x11) (seqQ (evalE M C k51x8) (blockQ 0 (seqQ (evalE M C k51x3) (seqQ (evalE M C k51x1) (endQ [.cell 2 (.agg [.bool, .bool, .bool, .bool])]))))))))))) .normal ⟨e, h⟩) = (
  J51x28 M C b2x0 b2x1 b2x2 b2x3 i3 b8 h
  ) := by kernel_rfl
theorem J51x27xeq (C : Cal) (b2x0 : Bool) (b2x1 : Bool) (b2x2 : Bool) (b2x3 : Bool) (i3 : Int) (b8 : Bool) (h : Heap) : J51x27 mk0 C b2x0 b2x1 b2x2 b2x3 i3 b8 h = (
  J51x28 mk0 C b2x0 b2x1 b2x2 b2x3 i3 b8 h
  ) := join_eqn (seqQ (evalE mk0 C k51x21) (seqQ (evalE mk0 C k51x19) (seqQ (evalE mk0 C k51x17) (seqQ (evalE mk0 C k51x15) (seqQ (evalE mk0 C k51x13) (seqQ (evalE mk0 C k51x11) (seqQ (evalE mk0 C k51x8) (blockQ 0 (seqQ (evalE mk0 C k51x3) (seqQ (evalE mk0 C k51x1) (endQ [.cell 2 (.agg [.bool, .bool, .bool, .bool])]))))))))))) (.any :: .any :: (.box [(.bool b2x0), (.bool b2x1), (.bool b2x2), (.bool b2x3)] :: (.g [] true (.int .i64 i3) :: (rep 4 (.g [] true (.bool b8) :: (rep 33 [])))))) h (J51x27xaux mk0 C b2x0 b2x1 b2x2 b2x3 i3 b8 h)
theorem J51x26xaux (M : Mk) (C : Cal) (b2x0 : Bool) (b2x1 : Bool) (b2x2 : Bool) (b2x3 : Bool) (i3 : Int) (b8 : Bool) (h : Heap) : (forceK tk (.any :: .any :: (.box [(.bool b2x0), (.bool b2x1), (.bool b2x2), (.bool b2x3)] :: (.g [] true (.int .i64 i3) :: (rep 4 (.g [] true (.bool b8) :: (rep 33 [])))))) fun e => (seqQ (evalE M C k51x23) (seqQ (evalE M C k51x21) (seqQ (evalE M C k51x19) (seqQ (evalE M C k51x17) (seqQ (evalE M C k51x15) (seqQ (evalE M C k51x13) (seqQ (evalE M C k51x11) (seqQ (evalE M C k51x8) (blockQ 0 (seqQ (evalE M C k51x3) (seqQ (evalE M C k51x1) (endQ [.cell 2 (.agg [.bool, .bool, .bool, .bool])])))))))))))) .normal ⟨e, h⟩) = (
  J51x27 M C b2x0 b2x1 b2x2 b2x3 i3 b8 h
  ) := by kernel_rfl
theorem J51x26xeq (C : Cal) (b2x0 : Bool) (b2x1 : Bool) (b2x2 : Bool) (b2x3 : Bool) (i3 : Int) (b8 : Bool) (h : Heap) : J51x26 mk0 C b2x0 b2x1 b2x2 b2x3 i3 b8 h = (
  J51x27 mk0 C b2x0 b2x1 b2x2 b2x3 i3 b8 h
  ) := join_eqn (seqQ (evalE mk0 C k51x23) (seqQ (evalE mk0 C k51x21) (seqQ (evalE mk0 C k51x19) (seqQ (evalE mk0 C k51x17) (seqQ (evalE mk0 C k51x15) (seqQ (evalE mk0 C k51x13) (seqQ (evalE mk0 C k51x11) (seqQ (evalE mk0 C k51x8) (blockQ 0 (seqQ (evalE mk0 C k51x3) (seqQ (evalE mk0 C k51x1) (endQ [.cell 2 (.agg [.bool, .bool, .bool, .bool])])))))))))))) (.any :: .any :: (.box [(.bool b2x0), (.bool b2x1), (.bool b2x2), (.bool b2x3)] :: (.g [] true (.int .i64 i3) :: (rep 4 (.g [] true (.bool b8) :: (rep 33 [])))))) h (J51x26xaux mk0 C b2x0 b2x1 b2x2 b2x3 i3 b8 h)
theorem J51x45xaux (M : Mk) (C : Cal) (b2x0 : Bool) (b2x1 : Bool) (b2x2 : Bool) (b2x3 : Bool) (i3 : Int) (b18 : Bool) (h : Heap) : (forceK tk (.any :: .any :: (.box [(.bool b2x0), (.bool b2x1), (.bool b2x2), (.bool b2x3)] :: (.g [] true (.int .i64 i3) :: (rep 14 (.g [] true (.bool b18) :: (rep 23 [])))))) fun e => (seqQ (evalE M C k51x36) (seqQ (evalE M C k51x33) (seqQ (evalE M C k51x8) (blockQ 0 (seqQ (evalE M C k51x3) (seqQ (evalE M C k51x1) (endQ [.cell 2 (.agg [.bool, .bool, .bool, .bool])]))))))) .normal ⟨e, h⟩) = (
  if b18 = true then
    (
    some ((.agg [(.bool true), (.bool true), (.bool false), (.bool true)]), h)
    )
  else
    (
    letK ((decide ((i3 : Int) = 11)) : Bool) fun b25 =>
    if b25 = true then
      (
      some ((.agg [(.bool true), (.bool false), (.bool false), (.bool true)]), h)
      )
    else
      (
      letK ((decide ((i3 : Int) = 13)) : Bool) fun b28 =>
      if b28 = true then
        (
        J51x62 M C b2x0 b2x1 b2x2 b2x3 i3 b28 h
        )
      else
        (
        letK ((decide ((i3 : Int) = 16)) : Bool) fun b29 =>
        if b29 = true then
          (
          J51x61 M C b2x0 b2x1 b2x2 b2x3 i3 b29 h
          )
        else
          (
          letK ((decide ((i3 : Int) = 17)) : Bool) fun b30 =>
          if b30 = true then
            (
            J51x60 M C b2x0 b2x1 b2x2 b2x3 i3 b30 h
            )
          else
            (
            letK ((decide ((i3 : Int) = 18)) : Bool) fun b31 =>
            J51x60 M C b2x0 b2x1 b2x2 b2x3 i3 b31 h
            )
          )
        )
      )
    )
  ) := by kernel_rfl
theorem J51x45xeq (C : Cal) (b2x0 : Bool) (b2x1 : Bool) (b2x2 : Bool) (b2x3 : Bool) (i3 : Int) (b18 : Bool) (h : Heap) : J51x45 mk0 C b2x0 b2x1 b2x2 b2x3 i3 b18 h = (
  if b18 = true then
    (
    some ((.agg [(.bool true), (.bool true), (.bool false), (.bool true)]), h)
    )
  else
    (
    letK ((decide ((i3 : Int) = 11)) : Bool) fun b25 =>
    if b25 = true then
      (
      some ((.agg [(.bool true), (.bool false), (.bool false), (.bool true)]), h)
      )
    else
      (
      letK ((decide ((i3 : Int) = 13)) : Bool) fun b28 =>
      if b28 = true then
        (
        J51x62 mk0 C b2x0 b2x1 b2x2 b2x3 i3 b28 h
        )
      else
        (
        letK ((decide ((i3 : Int) = 16)) : Bool) fun b29 =>
        if b29 = true then
          (
          J51x61 mk0 C b2x0 b2x1 b2x2 b2x3 i3 b29 h
          )
        else
          (
          letK ((decide ((i3 : Int) = 17)) : Bool) fun b30 =>
          if b30 = true then
            (
            J51x60 mk0 C b2x0 b2x1 b2x2 b2x3 i3 b30 h
            )
          else
            (
            letK ((decide ((i3 : Int) = 18)) : Bool) fun b31 =>
            J51x60 mk0 C b2x0 b2x1 b2x2 b2x3 i3 b31 h
            )
          )
        )
      )
    )
  ) := join_eqn (seqQ (evalE mk0 C k51x36) (seqQ (evalE mk0 C k51x33) (seqQ (evalE mk0 C k51x8) (blockQ 0 (seqQ (evalE mk0 C k51x3) (seqQ (evalE mk0 C k51x1) (endQ [.cell 2 (.agg [.bool, .bool, .bool, .bool])]))))))) (.any :: .any :: (.box [(.bool b2x0), (.bool b2x1), (.bool b2x2), (.bool b2x3)] :: (.g [] true (.int .i64 i3) :: (rep 14 (.g [] true (.bool b18) :: (rep 23 [])))))) h (J51x45xaux mk0 C b2x0 b2x1 b2x2 b2x3 i3 b18 h)
theorem J51x44xaux (M : Mk) (C : Cal) (b2x0 : Bool) (b2x1 : Bool) (b2x2 : Bool) (b2x3 : Bool) (i3 : Int) (b18 : Bool) (h : Heap) : (forceK tk (.any :: .any :: (.box [(.bool b2x0), (.bool b2x1), (.bool b2x2), (.bool b2x3)] :: (.g [] true (.int .i64 i3) :: (rep 14 (.g [] true (.bool b18) :: (rep 23 [])))))) fun e => (seqQ (evalE M C k51x38) (seqQ (evalE M C k51x36) (seqQ (evalE M C k51x33) (seqQ (evalE M C k51x8) (blockQ 0 (seqQ (evalE M C k51x3) (seqQ (evalE M C k51x1) (endQ [.cell 2 (.agg [.bool, .bool, .bool, .bool])])))))))) .normal ⟨e, h⟩) = (
  J51x45 M C b2x0 b2x1 b2x2 b2x3 i3 b18 h
  ) := by kernel_rfl
theorem J51x44xeq (C : Cal) (b2x0 : Bool) (b2x1 : Bool) (b2x2 : Bool) (b2x3 : Bool) (i3 : Int) (b18 : Bool) (h : Heap) : J51x44 mk0 C b2x0 b2x1 b2x2 b2x3 i3 b18 h = (
  J51x45 mk0 C b2x0 b2x1 b2x2 b2x3 i3 b18 h
  ) := join_eqn (seqQ (evalE mk0 C k51x38) (seqQ (evalE mk0 C k51x36) (seqQ (evalE mk0 C k51x33) (seqQ (evalE mk0 C k51x8) (blockQ 0 (seqQ (evalE mk0 C k51x3) (seqQ (evalE mk0 C k51x1) (endQ [.cell 2 (.agg [.bool, .bool, .bool, .bool])])))))))) (.any :: .any :: (.box [(.bool b2x0), (.bool b2x1), (.bool b2x2), (.bool b2x3)] :: (.g [] true (.int .i64 i3) :: (rep 14 (.g [] true (.bool b18) :: (rep 23 [])))))) h (J51x44xaux mk0 C b2x0 b2x1 b2x2 b2x3 i3 b18 h)
theorem J51x43xaux (M : Mk) (C : Cal) (b2x0 : Bool) (b2x1 : Bool) (b2x2 : Bool) (b2x3 : Bool) (i3 : Int) (b18 : Bool) (h : Heap) : (forceK tk (.any :: .any :: (.box [(.bool b2x0), (.bool b2x1), (.bool b2x2), (.bool b2x3)] :: (.g [] true (.int .i64 i3) :: (rep 14 (.g [] true (.bool b18) :: (rep 23 [])))))) fun e => (seqQ (evalE M C k51x40) (seqQ (evalE M C k51x38) (seqQ (evalE M C k51x36) (seqQ (evalE M C k51x33) (seqQ (evalE M C k51x8) (blockQ 0 (seqQ (evalE M C k51x3) (seqQ (evalE M C k51x1) (endQ [.cell 2 (.agg [.bool, .bool, .bool, .bool])]))))))))) .normal ⟨e, h⟩) = (
  J51x44 M C b2x0 b2x1 b2x2 b2x3 i3 b18 h
  ) := by kernel_rfl
theorem J51x43xeq (C : Cal) (b2x0 : Bool) (b2x1 : Bool) (b2x2 : Bool) (b2x3 : Bool) (i3 : Int) (b18 : Bool) (h : Heap) : J51x43 mk0 C b2x0 b2x1 b2x2 b2x3 i3 b18 h = (
  J51x44 mk0 C b2x0 b2x1 b2x2 b2x3 i3 b18 h
  ) := join_eqn (seqQ (evalE mk0 C k51x40) (seqQ (evalE mk0 C k51x38) (seqQ (evalE mk0 C k51x36) (seqQ (evalE mk0 C k51x33) (seqQ (evalE mk0 C k51x8) (blockQ 0 (seqQ (evalE mk0 C k51x3) (seqQ (evalE mk0 C k51x1) (endQ [.cell 2 (.agg [.bool, .bool, .bool, .bool])]))))))))) (.any :: .any :: (.box [(.bool b2x0), (.bool b2x1), (.bool b2x2), (.bool b2x3)] :: (.g [] true (.int .i64 i3) :: (rep 14 (.g [] true (.bool b18) :: (rep 23 [])))))) h (J51x43xaux mk0 C b2x0 b2x1 b2x2 b2x3 i3 b18 h)
theorem J51x62xaux (M : Mk) (C : Cal) (b2x0 : Bool) (b2x1 : Bool) (b2x2 : Bool) (b2x3 : Bool) (i3 : Int) (b27 : Bool) (h : Heap) : (forceK tk (.any :: .any :: (.box [(.bool b2x0), (.bool b2x1), (.bool b2x2), (.bool b2x3)] :: (.g [] true (.int .i64 i3) :: (rep 23 (.g [] true (.bool b27) :: (rep 14 [])))))) fun e => (seqQ (evalE M C k51x53) (seqQ (evalE M C k51x50) (seqQ (evalE M C k51x46) (seqQ (evalE M C k51x33) (seqQ (evalE M C k51x8) (blockQ 0 (seqQ (evalE M C k51x3) (seqQ (evalE M C k51x1) (endQ [.cell 2 (.agg [.bool, .bool, .bool, .bool])]))))))))) .normal ⟨e, h⟩) = (
  if b27 = true then
    (
    some ((.agg [(.bool false), (.bool true), (.bool true), (.bool true)]), h)
    )
  else
    (
    letK ((decide ((i3 : Int) = 14)) : Bool) fun b34 =>
    if b34 = true then
      (
      some ((.agg [(.bool true), (.bool false), (.bool true), (.bool true)]), h)
      )
    else
      (
      letK ((decide ((i3 : Int) = 19)) : Bool) fun b37 =>
      if b37 = true then
        (
        J51x76 M C b2x0 b2x1 b2x2 b2x3 b37 h
        )
      else
        (
        letK ((decide ((i3 : Int) = 20)) : Bool) fun b38 =>
        if b38 = true then
          (
          J51x75 M C b2x0 b2x1 b2x2 b2x3 b38 h
          )
        else
          (
          letK ((decide ((i3 : Int) = 24)) : Bool) fun b39 =>
          J51x75 M C b2x0 b2x1 b2x2 b2x3 b39 h
          )
        )
      )
    )
  ) := by kernel_rfl
theorem J51x62xeq (C : Cal) (b2x0 : Bool) (b2x1 : Bool) (b2x2 : Bool) (b2x3 : Bool) (i3 : Int) (b27 : Bool) (h : Heap) : J51x62 mk0 C b2x0 b2x1 b2x2 b2x3 i3 b27 h = (
  if b27 = true then
    (
    some ((.agg [(.bool false), (.bool true), (.bool true), (.bool true)]), h)
    )
  else
    (
    letK ((decide ((i3 : Int) = 14)) : Bool) fun b34 =>
    if b34 = true then
      (
      some ((.agg [(.bool true), (.bool false), (.bool true), (.bool true)]), h)
      )
    else
      (
      letK ((decide ((i3 : Int) = 19)) : Bool) fun b37 =>
      if b37 = true then
        (
        J51x76 mk0 C b2x0 b2x1 b2x2 b2x3 b37 h
        )
      else
        (
        letK ((decide ((i3 : Int) = 20)) : Bool) fun b38 =>
        if b38 = true then
          (
          J51x75 mk0 C b2x0 b2x1 b2x2 b2x3 b38 h
          )
        else
          (
          letK ((decide ((i3 : Int) = 24)) : Bool) fun b39 =>
          J51x75 mk0 C b2x0 b2x1 b2x2 b2x3 b39 h
          )
        )
      )
    )
  ) := join_eqn (seqQ (evalE mk0 C k51x53) (seqQ (evalE mk0 C k51x50) (seqQ (evalE mk0 C k51x46) (seqQ (evalE mk0 C k51x33) (seqQ (evalE mk0 C k51x8) (blockQ 0 (seqQ (evalE mk0 C k51x3) (seqQ (evalE mk0 C k51x1) (endQ [.cell 2 (.agg [.bool, .bool, .bool, .bool])]))))))))) (.any :: .any :: (.box [(.bool b2x0), (.bool b2x1), (.bool b2x2), (.bool b2x3)] :: (.g [] true (.int .i64 i3) :: (rep 23 (.g [] true (.bool b27) :: (rep 14 [])))))) h (J51x62xaux mk0 C b2x0 b2x1 b2x2 b2x3 i3 b27 h)
theorem J51x61xaux (M : Mk) (C : Cal) (b2x0 : Bool) (b2x1 : Bool) (b2x2 : Bool) (b2x3 : Bool) (i3 : Int) (b27 : Bool) (h : Heap) : (forceK tk (.any :: .any :: (.box [(.bool b2x0), (.bool b2x1), (.bool b2x2), (.bool b2x3)] :: (.g [] true (.int .i64 i3) :: (rep 23 (.g [] true (.bool b27) :: (rep 14 [])))))) fun e => (seqQ (evalE M C k51x55) (seqQ (evalE M C k51x53) (seqQ (evalE M C k51x50) (seqQ (evalE M C k51x46) (seqQ (evalE M C k51x33) (seqQ (evalE M C k51x8) (blockQ 0 (seqQ (evalE M C k51x3) (seqQ (evalE M C k51x1) (endQ [.cell 2 (.agg [.bool, .bool, .bool, .bool])])))))))))) .normal ⟨e, h⟩) = (
  J51x62 M C b2x0 b2x1 b2x2 b2x3 i3 b27 h
  ) := by kernel_rfl
theorem J51x61xeq (C : Cal) (b2x0 : Bool) (b2x1 : Bool) (b2x2 : Bool) (b2x3 : Bool) (i3 : Int) (b27 : Bool) (h : Heap) : J51x61 mk0 C b2x0 b2x1 b2x2 b2x3 i3 b27 h = (
  J51x62 mk0 C b2x0 b2x1 b2x2 b2x3 i3 b27 h
  ) := join_eqn (seqQ (evalE mk0 C k51x55) (seqQ (evalE mk0 C k51x53) (seqQ (evalE mk0 C k51x50) (seqQ (evalE mk0 C k51x46) (seqQ (evalE mk0 C k51x33) (seqQ (evalE mk0 C k51x8) (blockQ 0 (seqQ (evalE mk0 C k51x3) (seqQ (evalE mk0 C k51x1) (endQ [.cell 2 (.agg [.bool, .bool, .bool, .bool])])))))))))) (.any :: .any :: (.box [(.bool b2x0), (.bool b2x1), (.bool b2x2), (.bool b2x3)] :: (.g [] true (.int .i64 i3) :: (rep 23 (.g [] true (.bool b27) :: (rep 14 [])))))) h (J51x61xaux mk0 C b2x0 b2x1 b2x2 b2x3 i3 b27 h)
theorem J51x60xaux (M : Mk) (C : Cal) (b2x0 : Bool) (b2x1 : Bool) (b2x2 : Bool) (b2x3 : Bool) (i3 : Int) (b27 : Bool) (h : Heap) : (forceK tk (.any :: .any :: (.box [(.bool b2x0), (.bool b2x1), (.bool b2x2), (.bool b2x3)] :: (.g [] true (.int .i64 i3) :: (rep 23 (.g [] true (.bool b27) :: (rep 14 [])))))) fun e => (seqQ (evalE M C k51x57) (seqQ (evalE M C k51x55) (seqQ (evalE M C k51x53) (seqQ (evalE M C k51x50) (seqQ (evalE M C k51x46) (seqQ (evalE M C k51x33) (seqQ (evalE M C k51x8) (blockQ 0 (seqQ (evalE M C k51x3) (seqQ (evalE M C k51x1) (endQ [.cell 2 (.agg [.bool, .bool, .bool, .bool])]))))))))))) .normal ⟨e, h⟩) = (
  J51x61 M C b2x0 b2x1 b2x2 b2x3 i3 b27 h
  ) := by kernel_rfl
theorem J51x60xeq (C : Cal) (b2x0 : Bool) (b2x1 : Bool) (b2x2 : Bool) (b2x3 : Bool) (i3 : Int) (b27 : Bool) (h : Heap) : J51x60 mk0 C b2x0 b2x1 b2x2 b2x3 i3 b27 h = (
  J51x61 mk0 C b2x0 b2x1 b2x2 b2x3 i3 b27 h
  ) := join_eqn (seqQ (evalE mk0 C k51x57) (seqQ (evalE mk0 C k51x55) (seqQ (evalE mk0 C k51x53) (seqQ (evalE mk0 C k51x50) (seqQ (evalE mk0 C k51x46) (seqQ (evalE mk0 C k51x33) (seqQ (evalE mk0 C k51x8) (blockQ 0 (seqQ (evalE mk0 C k51x3) (seqQ (evalE mk0 C k51x1) (endQ [.cell 2 (.agg [.bool, .bool, .bool, .bool])]))))))))))) (.any :: .any :: (.box [(.bool b2x0), (.bool b2x1), (.bool b2x2), (.bool b2x3)] :: (.g [] true (.int .i64 i3) :: (rep 23 (.g [] true (.bool b27) :: (rep 14 [])))))) h (J51x60xaux mk0 C b2x0 b2x1 b2x2 b2x3 i3 b27 h)
theorem J51x76xaux (M : Mk) (C : Cal) (b2x0 : Bool) (b2x1 : Bool) (b2x2 : Bool) (b2x3 : Bool) (b36 : Bool) (h : Heap) : (forceK tk (.any :: .any :: (.box [(.bool b2x0), (.bool b2x1), (.bool b2x2), (.bool b2x3)] :: (rep 33 (.g [] true (.bool b36) :: (rep 5 []))))) fun e => (seqQ (evalE M C k51x70) (seqQ (evalE M C k51x67) (seqQ (evalE M C k51x63) (seqQ (evalE M C k51x50) (seqQ (evalE M C k51x46) (seqQ (evalE M C k51x33) (seqQ (evalE M C k51x8) (blockQ 0 (seqQ (evalE M C k51x3) (seqQ (evalE M C k51x1) (endQ [.cell 2 (.agg [.bool, .bool, .bool, .bool])]))))))))))) .normal ⟨e, h⟩) = (
  if b36 = true then
    (
    some ((.agg [(.bool false), (.bool false), (.bool false), (.bool true)]), h)
    )
  else
    (
    some ((.agg [(.bool false), (.bool true), (.bool false), (.bool false)]), h)
    )
  ) := by kernel_rfl
theorem J51x76xeq (C : Cal) (b2x0 : Bool) (b2x1 : Bool) (b2x2 : Bool) (b2x3 : Bool) (b36 : Bool) (h : Heap) : J51x76 mk0 C b2x0 b2x1 b2x2 b2x3 b36 h = (
  if b36 = true then
    (
    some ((.agg [(.bool false), (.bool false), (.bool false), (.bool true)]), h)
    )
  else
    (
    some ((.agg [(.bool false), (.bool true), (.bool false), (.bool false)]), h)
    )
  ) := join_eqn (seqQ (evalE mk0 C k51x70) (seqQ (evalE mk0 C k51x67) (seqQ (evalE mk0 C k51x63) (seqQ (evalE mk0 C k51x50) (seqQ (evalE mk0 C k51x46) (seqQ (evalE mk0 C k51x33) (seqQ (evalE mk0 C k51x8) (blockQ 0 (seqQ (evalE mk0 C k51x3) (seqQ (evalE mk0 C k51x1) (endQ [.cell 2 (.agg [.bool, .bool, .bool, .bool])]))))))))))) (.any :: .any :: (.box [(.bool b2x0), (.bool b2x1), (.bool b2x2), (.bool b2x3)] :: (rep 33 (.g [] true (.bool b36) :: (rep 5 []))))) h (J51x76xaux mk0 C b2x0 b2x1 b2x2 b2x3 b36 h)
theorem J51x75xaux (M : Mk) (C : Cal) (b2x0 : Bool) (b2x1 : Bool) (b2x2 : Bool) (b2x3 : Bool) (b36 : Bool) (h : Heap) : (forceK tk (.any :: .any :: (.box [(.bool b2x0), (.bool b2x1), (.bool b2x2), (.bool b2x3)] :: (rep 33 (.g [] true (.bool b36) :: (rep 5 []))))) fun e => (seqQ (evalE M C k51x72) (seqQ (evalE M C k51x70) (seqQ (evalE M C k51x67) (seqQ (evalE M C k51x63) (seqQ (evalE M C k51x50) (seqQ (evalE M C k51x46) (seqQ (evalE M C k51x33) (seqQ (evalE M C k51x8) (blockQ 0 (seqQ (evalE M C k51x3) (seqQ (evalE M C k51x1) (endQ [.cell 2 (.agg [.bool, .bool, .bool, .bool])])))))))))))) .normal ⟨e, h⟩) = (
  J51x76 M C b2x0 b2x1 b2x2 b2x3 b36 h
  ) := by kernel_rfl
theorem J51x75xeq (C : Cal) (b2x0 : Bool) (b2x1 : Bool) (b2x2 : Bool) (b2x3 : Bool) (b36 : Bool) (h : Heap) : J51x75 mk0 C b2x0 b2x1 b2x2 b2x3 b36 h = (
  J51x76 mk0 C b2x0 b2x1 b2x2 b2x3 b36 h
  ) := join_eqn (seqQ (evalE mk0 C k51x72) (seqQ (evalE mk0 C k51x70) (seqQ (evalE mk0 C k51x67) (seqQ (evalE mk0 C k51x63) (seqQ (evalE mk0 C k51x50) (seqQ (evalE mk0 C k51x46) (seqQ (evalE mk0 C k51x33) (seqQ (evalE mk0 C k51x8) (blockQ 0 (seqQ (evalE mk0 C k51x3) (seqQ (evalE mk0 C k51x1) (endQ [.cell 2 (.agg [.bool, .bool, .bool, .bool])])))))))))))) (.any :: .any :: (.box [(.bool b2x0), (.bool b2x1), (.bool b2x2), (.bool b2x3)] :: (rep 33 (.g [] true (.bool b36) :: (rep 5 []))))) h (J51x75xaux mk0 C b2x0 b2x1 b2x2 b2x3 b36 h)
def k39x5 : AC := .ret
def k39x4 : AC := .seq (.mask 4) k39x5
def k39x3 : AC := .mask 2
def k39x2 : AC := .seq (.cond (.tmp 7)
   (.seq (.ops false [
      ⟨(some 2), .move (.c (.int .i64 1)), none, []⟩]) k39x4)
   (.skip)) k39x3
def k39x10 : AC := .ret
def k39x9 : AC := .seq (.mask 4) k39x10
def k39x8 : AC := .mask 2
def k39x7 : AC := .seq (.cond (.tmp 29)
   (.seq (.ops false [
      ⟨(some 2), .move (.c (.int .i64 4)), none, []⟩]) k39x9)
   (.skip)) k39x8
def k39x16 : AC := .ret
def k39x15 : AC := .seq (.mask 4) k39x16
def k39x14 : AC := .mask 2
def k39x13 : AC := .seq (.cond (.tmp 70)
   (.seq (.ops false [
      ⟨(some 2), .move (.c (.int .i64 3)), none, []⟩]) k39x15)
   (.skip)) k39x14
def k39x21 : AC := .ret
def k39x20 : AC := .seq (.mask 4) k39x21
def k39x19 : AC := .mask 0
def k39x18 : AC := .seq (.cond (.tmp 106)
   (.seq (.ops false [
      ⟨(some 2), .move (.c (.int .i64 4)), none, []⟩]) k39x20)
   (.skip)) k39x19
def k39x23 : AC := .ret
def k39x22 : AC := .seq (.mask 4) k39x23
def k39x17 : AC := .seq (.ops false [
    ⟨(some 2), .move (.c (.int .i64 0)), none, []⟩]) k39x22
def k39x12 : AC := .seq (.seq (.ops true [
    ⟨(some 71), .fieldAddr 0 (.tmp 1), none, []⟩,
    ⟨(some 72), .load (.cell (.int .i64)) (.tmp 71), none, []⟩,
    ⟨(some 73), .bin .other .eql (.tmp 72) (.c (.int .i64 9)), none, []⟩,
    ⟨(some 74), .move (.tmp 73), none, []⟩,
    ⟨(some 75), .fieldAddr 0 (.tmp 1), (some (74, false)), []⟩,
    ⟨(some 76), .load (.cell (.int .i64)) (.tmp 75), (some (74, false)), []⟩,
    ⟨(some 77), .bin .other .eql (.tmp 76) (.c (.int .i64 10)), (some (74, false)), []⟩,
    ⟨(some 78), .pick (.tmp 74) (.c (.bool true)) (.tmp 77), none, []⟩,
    ⟨(some 79), .move (.tmp 78), none, []⟩,
    ⟨(some 80), .fieldAddr 4 (.tmp 1), (some (79, true)), []⟩,
    ⟨(some 81), .load (.cell (.int .i64)) (.tmp 80), (some (79, true)), []⟩,
    ⟨(some 82), .call 41 [(.tmp 81), (.c (.int .i64 0)), (.c (.int .i64 31))] [(.cell .bool)] (.bool false), (some (79, true)), []⟩,
    ⟨(some 83), .un .not (.tmp 82), (some (79, true)), []⟩,
    ⟨(some 84), .pick (.tmp 79) (.tmp 83) (.c (.bool false)), none, []⟩,
    ⟨(some 85), .move (.tmp 84), none, []⟩,
    ⟨(some 86), .fieldAddr 0 (.tmp 1), (some (85, false)), []⟩,
    ⟨(some 87), .load (.cell (.int .i64)) (.tmp 86), (some (85, false)), []⟩,
    ⟨(some 88), .bin .other .eql (.tmp 87) (.c (.int .i64 14)), (some (85, false)), []⟩,
    ⟨(some 89), .move (.tmp 88), (some (85, false)), []⟩,
    ⟨(some 90), .fieldAddr 4 (.tmp 1), (some (89, true)), []⟩,
    ⟨(some 91), .load (.cell (.int .i64)) (.tmp 90), (some (89, true)), []⟩,
    ⟨(some 92), .call 41 [(.tmp 91), (.c (.int .i64 0)), (.c (.int .i64 4095))] [(.cell .bool)] (.bool false), (some (89, true)), []⟩,
    ⟨(some 93), .un .not (.tmp 92), (some (89, true)), []⟩,
    ⟨(some 94), .pick (.tmp 89) (.tmp 93) (.c (.bool false)), (some (85, false)), []⟩,
    ⟨(some 95), .pick (.tmp 85) (.c (.bool true)) (.tmp 94), none, []⟩,
    ⟨(some 96), .move (.tmp 95), none, []⟩,
    ⟨(some 97), .fieldAddr 0 (.tmp 1), (some (96, false)), []⟩,
    ⟨(some 98), .load (.cell (.int .i64)) (.tmp 97), (some (96, false)), []⟩,
    ⟨(some 99), .bin .other .eql (.tmp 98) (.c (.int .i64 24)), (some (96, false)), []⟩,
    ⟨(some 100), .move (.tmp 99), (some (96, false)), []⟩,
    ⟨(some 101), .fieldAddr 4 (.tmp 1), (some (100, true)), []⟩,
    ⟨(some 102), .load (.cell (.int .i64)) (.tmp 101), (some (100, true)), []⟩,
    ⟨(some 103), .call 41 [(.tmp 102), (.c (.int .i64 1)), (.c (.int .i64 6))] [(.cell .bool)] (.bool false), (some (100, true)), []⟩,
    ⟨(some 104), .un .not (.tmp 103), (some (100, true)), []⟩,
    ⟨(some 105), .pick (.tmp 100) (.tmp 104) (.c (.bool false)), (some (96, false)), []⟩,
    ⟨(some 106), .pick (.tmp 96) (.c (.bool true)) (.tmp 105), none, []⟩]) k39x18) k39x17
def k39x11 : AC := .seq (.seq (.ops true [
    ⟨(some 33), .fieldAddr 0 (.tmp 3), none, []⟩,
    ⟨(some 34), .load (.cell .bool) (.tmp 33), none, []⟩,
    ⟨(some 35), .un .not (.tmp 34), none, []⟩,
    ⟨(some 36), .move (.tmp 35), none, []⟩,
    ⟨(some 37), .fieldAddr 1 (.tmp 1), (some (36, true)), []⟩,
    ⟨(some 38), .load (.cell (.int .i64)) (.tmp 37), (some (36, true)), []⟩,
    ⟨(some 39), .bin .other .neq (.tmp 38) (.c (.int .i64 0)), (some (36, true)), []⟩,
    ⟨(some 40), .pick (.tmp 36) (.tmp 39) (.c (.bool false)), none, []⟩,
    ⟨(some 41), .move (.tmp 40), none, []⟩,
    ⟨(some 42), .fieldAddr 1 (.tmp 3), (some (41, false)), []⟩,
    ⟨(some 43), .load (.cell .bool) (.tmp 42), (some (41, false)), []⟩,
    ⟨(some 44), .un .not (.tmp 43), (some (41, false)), []⟩,
    ⟨(some 45), .move (.tmp 44), (some (41, false)), []⟩,
    ⟨(some 46), .fieldAddr 2 (.tmp 1), (some (45, true)), []⟩,
    ⟨(some 47), .load (.cell (.int .i64)) (.tmp 46), (some (45, true)), []⟩,
    ⟨(some 48), .bin .other .neq (.tmp 47) (.c (.int .i64 0)), (some (45, true)), []⟩,
    ⟨(some 49), .pick (.tmp 45) (.tmp 48) (.c (.bool false)), (some (41, false)), []⟩,
    ⟨(some 50), .pick (.tmp 41) (.c (.bool true)) (.tmp 49), none, []⟩,
    ⟨(some 51), .move (.tmp 50), none, []⟩,
    ⟨(some 52), .fieldAddr 2 (.tmp 3), (some (51, false)), []⟩,
    ⟨(some 53), .load (.cell .bool) (.tmp 52), (some (51, false)), []⟩,
    ⟨(some 54), .un .not (.tmp 53), (some (51, false)), []⟩,
    ⟨(some 55), .move (.tmp 54), (some (51, false)), []⟩,
    ⟨(some 56), .fieldAddr 3 (.tmp 1), (some (55, true)), []⟩,
    ⟨(some 57), .load (.cell (.int .i64)) (.tmp 56), (some (55, true)), []⟩,
    ⟨(some 58), .bin .other .neq (.tmp 57) (.c (.int .i64 0)), (some (55, true)), []⟩,
    ⟨(some 59), .pick (.tmp 55) (.tmp 58) (.c (.bool false)), (some (51, false)), []⟩,
    ⟨(some 60), .pick (.tmp 51) (.c (.bool true)) (.tmp 59), none, []⟩,
    ⟨(some 61), .move (.tmp 60), none, []⟩,
    ⟨(some 62), .fieldAddr 3 (.tmp 3), (some (61, false)), []⟩,
    ⟨(some 63), .load (.cell .bool) (.tmp 62), (some (61, false)), []⟩,
    ⟨(some 64), .un .not (.tmp 63), (some (61, false)), []⟩,
    ⟨(some 65), .move (.tmp 64), (some (61, false)), []⟩,
    ⟨(some 66), .fieldAddr 4 (.tmp 1), (some (65, true)), []⟩,
    ⟨(some 67), .load (.cell (.int .i64)) (.tmp 66), (some (65, true)), []⟩,
    ⟨(some 68), .bin .other .neq (.tmp 67) (.c (.int .i64 0)), (some (65, true)), []⟩,
    ⟨(some 69), .pick (.tmp 65) (.tmp 68) (.c (.bool false)), (some (61, false)), []⟩,
    ⟨(some 70), .pick (.tmp 61) (.c (.bool true)) (.tmp 69), none, []⟩]) k39x13) k39x12
def k39x6 : AC := .seq (.ops false [
    ⟨(some 30), .fieldAddr 0 (.tmp 1), none, []⟩,
    ⟨(some 31), .load (.cell (.int .i64)) (.tmp 30), none, []⟩,
    ⟨(some 32), .call 51 [(.tmp 31)] [(.agg [.bool, .bool, .bool, .bool])] (.agg [(.bool false), (.bool false), (.bool false), (.bool false)]), none, []⟩,
    ⟨(some 3), .allocL [(.bool false), (.bool false), (.bool false), (.bool false)], none, []⟩,
    ⟨none, .store 4 (.tmp 3) (.tmp 32), none, []⟩]) k39x11
def k39x1 : AC := .seq (.seq (.ops true [
    ⟨(some 8), .fieldAddr 1 (.tmp 1), none, []⟩,
    ⟨(some 9), .load (.cell (.int .i64)) (.tmp 8), none, []⟩,
    ⟨(some 10), .call 41 [(.tmp 9), (.c (.int .i64 0)), (.c (.int .i64 15))] [(.cell .bool)] (.bool false), none, []⟩,
    ⟨(some 11), .un .not (.tmp 10), none, []⟩,
    ⟨(some 12), .move (.tmp 11), none, []⟩,
    ⟨(some 13), .fieldAddr 2 (.tmp 1), (some (12, false)), []⟩,
    ⟨(some 14), .load (.cell (.int .i64)) (.tmp 13), (some (12, false)), []⟩,
    ⟨(some 15), .call 41 [(.tmp 14), (.c (.int .i64 0)), (.c (.int .i64 15))] [(.cell .bool)] (.bool false), (some (12, false)), []⟩,
    ⟨(some 16), .un .not (.tmp 15), (some (12, false)), []⟩,
    ⟨(some 17), .pick (.tmp 12) (.c (.bool true)) (.tmp 16), none, []⟩,
    ⟨(some 18), .move (.tmp 17), none, []⟩,
    ⟨(some 19), .fieldAddr 3 (.tmp 1), (some (18, false)), []⟩,
    ⟨(some 20), .load (.cell (.int .i64)) (.tmp 19), (some (18, false)), []⟩,
    ⟨(some 21), .call 41 [(.tmp 20), (.c (.int .i64 0)), (.c (.int .i64 15))] [(.cell .bool)] (.bool false), (some (18, false)), []⟩,
    ⟨(some 22), .un .not (.tmp 21), (some (18, false)), []⟩,
    ⟨(some 23), .pick (.tmp 18) (.c (.bool true)) (.tmp 22), none, []⟩,
    ⟨(some 24), .move (.tmp 23), none, []⟩,
    ⟨(some 25), .fieldAddr 4 (.tmp 1), (some (24, false)), []⟩,
    ⟨(some 26), .load (.cell (.int .i64)) (.tmp 25), (some (24, false)), []⟩,
    ⟨(some 27), .call 41 [(.tmp 26), (.c (.int .i64 (-2147483648))), (.c (.int .i64 2147483647))] [(.cell .bool)] (.bool false), (some (24, false)), []⟩,
    ⟨(some 28), .un .not (.tmp 27), (some (24, false)), []⟩,
    ⟨(some 29), .pick (.tmp 24) (.c (.bool true)) (.tmp 28), none, []⟩]) k39x7) k39x6
def k39x0 : AC := .seq (.seq (.ops false [
    ⟨(some 4), .fieldAddr 0 (.tmp 1), none, []⟩,
    ⟨(some 5), .load (.cell (.int .i64)) (.tmp 4), none, []⟩,
    ⟨(some 6), .call 41 [(.tmp 5), (.c (.int .i64 0)), (.c (.int .i64 24))] [(.cell .bool)] (.bool false), none, []⟩,
    ⟨(some 7), .un .not (.tmp 6), none, []⟩]) k39x2) k39x1
/-- provenance/insn.Check -/
def c39 : AFn := ⟨107, [.tmp 2],
  .seq (.ops false [
    ⟨(some 1), .boxL (.tmp 0), none, []⟩,
    ⟨(some 2), .move (.c (.int .i64 0)), none, []⟩]) k39x0⟩
theorem r39 (i0x0 : Int) (i0x1 : Int) (i0x2 : Int) (i0x3 : Int) (i0x4 : Int) (h : Heap) : runE M C c39 [(.agg [(.int .i64 i0x0), (.int .i64 i0x1), (.int .i64 i0x2), (.int .i64 i0x3), (.int .i64 i0x4)])] h = (
  (C 41 [(.int .i64 i0x0), (.int .i64 0), (.int .i64 24)] h).bind fun r6 =>
  gB (some r6.1) true fun b6 =>
  if (!b6) = true then
    (
    some ((.int .i64 1), r6.2)
    )
  else
    (
    (C 41 [(.int .i64 i0x1), (.int .i64 0), (.int .i64 15)] r6.2).bind fun r10 =>
    gB (some r10.1) true fun b10 =>
    gI .i64 (some (.int .i64 i0x2)) (!(!b10)) fun i14 =>
    (callO (!(!b10)) (C 41 [(.int .i64 i14), (.int .i64 0), (.int .i64 15)] r10.2) (.bool false) r10.2).bind fun r15 =>
    gB (some r15.1) (!(!b10)) fun b15 =>
    letK ((if (!b10) = true then true else (!b15)) : Bool) fun b17 =>
    gI .i64 (some (.int .i64 i0x3)) (!b17) fun i20 =>
    (callO (!b17) (C 41 [(.int .i64 i20), (.int .i64 0), (.int .i64 15)] r15.2) (.bool false) r15.2).bind fun r21 =>
    gB (some r21.1) (!b17) fun b21 =>
    letK ((if b17 = true then true else (!b21)) : Bool) fun b23 =>
    gI .i64 (some (.int .i64 i0x4)) (!b23) fun i26 =>
    (callO (!b23) (C 41 [(.int .i64 i26), (.int .i64 (-2147483648)), (.int .i64 2147483647)] r21.2) (.bool false) r21.2).bind fun r27 =>
    gB (some r27.1) (!b23) fun b27 =>
    letK ((if b23 = true then true else (!b27)) : Bool) fun b29 =>
    if b29 = true then
      (
      some ((.int .i64 4), r27.2)
      )
    else
      (
      (C 51 [(.int .i64 i0x0)] r27.2).bind fun r32 =>
      gA r32.1 true fun l32 =>
      chk (true = true → l32.length = 4) <|
      gB (l32[0]?) true fun b32x0 =>
      gB (l32[1]?) true fun b32x1 =>
      gB (l32[2]?) true fun b32x2 =>
      gB (l32[3]?) true fun b32x3 =>
      gI .i64 (some (.int .i64 i0x1)) (!b32x0) fun i38 =>
      letK ((!decide ((i38 : Int) = 0)) : Bool) fun b39 =>
      letK ((if (!b32x0) = true then b39 else false) : Bool) fun b40 =>
      gB (some (.bool b32x1)) (!b40) fun b43 =>
      gI .i64 (some (.int .i64 i0x2)) (andB (!b40) (!b43)) fun i47 =>
      letK ((!decide ((i47 : Int) = 0)) : Bool) fun b48 =>
      letK ((if (!b43) = true then b48 else false) : Bool) fun b49 =>
      letK ((if b40 = true then true else b49) : Bool) fun b50 =>
      gB (some (.bool b32x2)) (!b50) fun b53 =>
      gI .i64 (some (.int .i64 i0x3)) (andB (!b50) (!b53)) fun i57 =>
      letK ((!decide ((i57 : Int) = 0)) : Bool) fun b58 =>
      letK ((if (!b53) = true then b58 else false) : Bool) fun b59 =>
      letK ((if b50 = true then true else b59) : Bool) fun b60 =>
      gB (some (.bool b32x3)) (!b60) fun b63 =>
      gI .i64 (some (.int .i64 i0x4)) (andB (!b60) (!b63)) fun i67 =>
      letK ((!decide ((i67 : Int) = 0)) : Bool) fun b68 =>
      letK ((if (!b63) = true then b68 else false) : Bool) fun b69 =>
      letK ((if b60 = true then true else b69) : Bool) fun b70 =>
      if b70 = true then
        (
        some ((.int .i64 3), r32.2)
        )
      else
        (
        letK ((decide ((i0x0 : Int) = 9)) : Bool) fun b73 =>
        gI .i64 (some (.int .i64 i0x0)) (!b73) fun i76 =>
        letK ((decide ((i76 : Int) = 10)) : Bool) fun b77 =>
        letK ((if b73 = true then true else b77) : Bool) fun b78 =>
        gI .i64 (some (.int .i64 i0x4)) b78 fun i81 =>
        (callO b78 (C 41 [(.int .i64 i81), (.int .i64 0), (.int .i64 31)] r32.2) (.bool false) r32.2).bind fun r82 =>
        gB (some r82.1) b78 fun b82 =>
        letK ((if b78 = true then (!b82) else false) : Bool) fun b84 =>
        gI .i64 (some (.int .i64 i0x0)) (!b84) fun i87 =>
        letK ((decide ((i87 : Int) = 14)) : Bool) fun b88 =>
        gI .i64 (some (.int .i64 i0x4)) (andB (!b84) b88) fun i91 =>
        (callO (andB (!b84) b88) (C 41 [(.int .i64 i91), (.int .i64 0), (.int .i64 4095)] r82.2) (.bool false) r82.2).bind fun r92 =>
        gB (some r92.1) (andB (!b84) b88) fun b92 =>
        letK ((if b88 = true then (!b92) else false) : Bool) fun b94 =>
        letK ((if b84 = true then true else b94) : Bool) fun b95 =>
        gI .i64 (some (.int .i64 i0x0)) (!b95) fun i98 =>
        letK ((decide ((i98 : Int) = 24)) : Bool) fun b99 =>
        gI .i64 (some (.int .i64 i0x4)) (andB (!b95) b99) fun i102 =>
        (callO (andB (!b95) b99) (C 41 [(.int .i64 i102), (.int .i64 1), (.int .i64 6)] r92.2) (.bool false) r92.2).bind fun r103 =>
        gB (some r103.1) (andB (!b95) b99) fun b103 =>
        letK ((if b99 = true then (!b103) else false) : Bool) fun b105 =>
        letK ((if b95 = true then true else b105) : Bool) fun b106 =>
        if b106 = true then
          (
          some ((.int .i64 4), r103.2)
          )
        else
          (
          some ((.int .i64 0), r103.2)
          )
        )
      )
    )
  ) := by kernel_rfl
theorem cf39 : cFn Try.prog 39 = some c39 := by kernel_rfl
theorem e39 (i0x0 : Int) (i0x1 : Int) (i0x2 : Int) (i0x3 : Int) (i0x4 : Int) (h : Heap) : E 39 [(.agg [(.int .i64 i0x0), (.int .i64 i0x1), (.int .i64 i0x2), (.int .i64 i0x3), (.int .i64 i0x4)])] h = (
  (E 41 [(.int .i64 i0x0), (.int .i64 0), (.int .i64 24)] h).bind fun r6 =>
  gB (some r6.1) true fun b6 =>
  if (!b6) = true then
    (
    some ((.int .i64 1), r6.2)
    )
  else
    (
    (E 41 [(.int .i64 i0x1), (.int .i64 0), (.int .i64 15)] r6.2).bind fun r10 =>
    gB (some r10.1) true fun b10 =>
    gI .i64 (some (.int .i64 i0x2)) (!(!b10)) fun i14 =>
    (callO (!(!b10)) (E 41 [(.int .i64 i14), (.int .i64 0), (.int .i64 15)] r10.2) (.bool false) r10.2).bind fun r15 =>
    gB (some r15.1) (!(!b10)) fun b15 =>
    letK ((if (!b10) = true then true else (!b15)) : Bool) fun b17 =>
    gI .i64 (some (.int .i64 i0x3)) (!b17) fun i20 =>
    (callO (!b17) (E 41 [(.int .i64 i20), (.int .i64 0), (.int .i64 15)] r15.2) (.bool false) r15.2).bind fun r21 =>
    gB (some r21.1) (!b17) fun b21 =>
    letK ((if b17 = true then true else (!b21)) : Bool) fun b23 =>
    gI .i64 (some (.int .i64 i0x4)) (!b23) fun i26 =>
    (callO (!b23) (E 41 [(.int .i64 i26), (.int .i64 (-2147483648)), (.int .i64 2147483647)] r21.2) (.bool false) r21.2).bind fun r27 =>
    gB (some r27.1) (!b23) fun b27 =>
    letK ((if b23 = true then true else (!b27)) : Bool) fun b29 =>
    if b29 = true then
      (
      some ((.int .i64 4), r27.2)
      )
    else
      (
      (E 51 [(.int .i64 i0x0)] r27.2).bind fun r32 =>
      gA r32.1 true fun l32 =>
      chk (true = true → l32.length = 4) <|
      gB (l32[0]?) true fun b32x0 =>
      gB (l32[1]?) true fun b32x1 =>
      gB (l32[2]?) true fun b32x2 =>
      gB (l32[3]?) true fun b32x3 =>
      gI .i64 (some (.int .i64 i0x1)) (!b32x0) fun i38 =>
      letK ((!decide ((i38 : Int) = 0)) : Bool) fun b39 =>
      letK ((if (!b32x0) = true then b39 else false) : Bool) fun b40 =>
      gB (some (.bool b32x1)) (!b40) fun b43 =>
      gI .i64 (some (.int .i64 i0x2)) (andB (!b40) (!b43)) fun i47 =>
      letK ((!decide ((i47 : Int) = 0)) : Bool) fun b48 =>
      letK ((if (!b43) = true then b48 else false) : Bool) fun b49 =>
      letK ((if b40 = true then true else b49) : Bool) fun b50 =>
      gB (some (.bool b32x2)) (!b50) fun b53 =>
      gI .i64 (some (.int .i64 i0x3)) (andB (!b50) (!b53)) fun i57 =>
      letK ((!decide ((i57 : Int) = 0)) : Bool) fun b58 =>
      letK ((if (!b53) = true then b58 else false) : Bool) fun b59 =>
      letK ((if b50 = true then true else b59) : Bool) fun b60 =>
      gB (some (.bool b32x3)) (!b60) fun b63 =>
      gI .i64 (some (.int .i64 i0x4)) (andB (!b60) (!b63)) fun i67 =>
      letK ((!decide ((i67 : Int) = 0)) : Bool) fun b68 =>
      letK ((if (!b63) = true then b68 else false) : Bool) fun b69 =>
      letK ((if b60 = true then true else b69) : Bool) fun b70 =>
      if b70 = true then
        (
        some ((.int .i64 3), r32.2)
        )
      else
        (
        letK ((decide ((i0x0 : Int) = 9)) : Bool) fun b73 =>
        gI .i64 (some (.int .i64 i0x0)) (!b73) fun i76 =>
        letK ((decide ((i76 : Int) = 10)) : Bool) fun b77 =>
        letK ((if b73 = true then true else b77) : Bool) fun b78 =>
        gI .i64 (some (.int .i64 i0x4)) b78 fun i81 =>
        (callO b78 (E 41 [(.int .i64 i81), (.int .i64 0), (.int .i64 31)] r32.2) (.bool false) r32.2).bind fun r82 =>
        gB (some r82.1) b78 fun b82 =>
        letK ((if b78 = true then (!b82) else false) : Bool) fun b84 =>
        gI .i64 (some (.int .i64 i0x0)) (!b84) fun i87 =>
        letK ((decide ((i87 : Int) = 14)) : Bool) fun b88 =>
        gI .i64 (some (.int .i64 i0x4)) (andB (!b84) b88) fun i91 =>
        (callO (andB (!b84) b88) (E 41 [(.int .i64 i91), (.int .i64 0), (.int .i64 4095)] r82.2) (.bool false) r82.2).bind fun r92 =>
        gB (some r92.1) (andB (!b84) b88) fun b92 =>
        letK ((if b88 = true then (!b92) else false) : Bool) fun b94 =>
        letK ((if b84 = true then true else b94) : Bool) fun b95 =>
        gI .i64 (some (.int .i64 i0x0)) (!b95) fun i98 =>
        letK ((decide ((i98 : Int) = 24)) : Bool) fun b99 =>
        gI .i64 (some (.int .i64 i0x4)) (andB (!b95) b99) fun i102 =>
        (callO (andB (!b95) b99) (E 41 [(.int .i64 i102), (.int .i64 1), (.int .i64 6)] r92.2) (.bool false) r92.2).bind fun r103 =>
        gB (some r103.1) (andB (!b95) b99) fun b103 =>
        letK ((if b99 = true then (!b103) else false) : Bool) fun b105 =>
        letK ((if b95 = true then true else b105) : Bool) fun b106 =>
        if b106 = true then
          (
          some ((.int .i64 4), r103.2)
          )
        else
          (
          some ((.int .i64 0), r103.2)
          )
        )
      )
    )
  ) := (EV_eq (P := Try.prog) (T := T0) rfl cf39 [(.agg [(.int .i64 i0x0), (.int .i64 i0x1), (.int .i64 i0x2), (.int .i64 i0x3), (.int .i64 i0x4)])] h).trans (r39 mk0 E i0x0 i0x1 i0x2 i0x3 i0x4 h)
def k40x2 : AC := .ret
def k40x1 : AC := .seq (.mask 4) k40x2
def k40x0 : AC := .seq (.ops false [
    ⟨(some 3), .fieldAddr 0 (.tmp 1), none, []⟩,
    ⟨(some 4), .load (.cell (.int .i64)) (.tmp 3), none, []⟩,
    ⟨(some 5), .bin .other .shl (.tmp 4) (.c (.int .u64 27)), none, []⟩,
    ⟨(some 6), .fieldAddr 1 (.tmp 1), none, []⟩,
    ⟨(some 7), .load (.cell (.int .i64)) (.tmp 6), none, []⟩,
    ⟨(some 8), .bin .other .shl (.tmp 7) (.c (.int .u64 22)), none, []⟩,
    ⟨(some 9), .bin .other .or (.tmp 5) (.tmp 8), none, []⟩,
    ⟨(some 10), .fieldAddr 2 (.tmp 1), none, []⟩,
    ⟨(some 11), .load (.cell (.int .i64)) (.tmp 10), none, []⟩,
    ⟨(some 12), .bin .other .shl (.tmp 11) (.c (.int .u64 18)), none, []⟩,
    ⟨(some 13), .bin .other .or (.tmp 9) (.tmp 12), none, []⟩,
    ⟨(some 14), .fieldAddr 3 (.tmp 1), none, []⟩,
    ⟨(some 15), .load (.cell (.int .i64)) (.tmp 14), none, []⟩,
    ⟨(some 16), .bin .other .shl (.tmp 15) (.c (.int .u64 14)), none, []⟩,
    ⟨(some 17), .bin .other .or (.tmp 13) (.tmp 16), none, []⟩,
    ⟨(some 2), .move (.tmp 17), none, []⟩]) k40x1
/-- provenance/insn.word -/
def c40 : AFn := ⟨18, [.tmp 2],
  .seq (.ops false [
    ⟨(some 1), .boxL (.tmp 0), none, []⟩,
    ⟨(some 2), .move (.c (.int .i64 0)), none, []⟩]) k40x0⟩
theorem r40 (i0x0 : Int) (i0x1 : Int) (i0x2 : Int) (i0x3 : Int) (i0x4 : Int) (h : Heap) : runE M C c40 [(.agg [(.int .i64 i0x0), (.int .i64 i0x1), (.int .i64 i0x2), (.int .i64 i0x3), (.int .i64 i0x4)])] h = (
  letK ((IntKind.wrap .i64 (i0x0 * 2 ^ 27)) : Int) fun i5 =>
  letK ((IntKind.wrap .i64 (i0x1 * 2 ^ 22)) : Int) fun i8 =>
  letK ((Go.bits .or .i64 i5 i8) : Int) fun i9 =>
  letK ((IntKind.wrap .i64 (i0x2 * 2 ^ 18)) : Int) fun i12 =>
  letK ((Go.bits .or .i64 i9 i12) : Int) fun i13 =>
  letK ((IntKind.wrap .i64 (i0x3 * 2 ^ 14)) : Int) fun i16 =>
  letK ((Go.bits .or .i64 i13 i16) : Int) fun i17 =>
  some ((.int .i64 i17), h)
  ) := by kernel_rfl
theorem cf40 : cFn Try.prog 40 = some c40 := by kernel_rfl
theorem e40 (i0x0 : Int) (i0x1 : Int) (i0x2 : Int) (i0x3 : Int) (i0x4 : Int) (h : Heap) : E 40 [(.agg [(.int .i64 i0x0), (.int .i64 i0x1), (.int .i64 i0x2), (.int .i64 i0x3), (.int .i64 i0x4)])] h = (
  letK ((IntKind.wrap .i64 (i0x0 * 2 ^ 27)) : Int) fun i5 =>
  letK ((IntKind.wrap .i64 (i0x1 * 2 ^ 22)) : Int) fun i8 =>
  letK ((Go.bits .or .i64 i5 i8) : Int) fun i9 =>
  letK ((IntKind.wrap .i64 (i0x2 * 2 ^ 18)) : Int) fun i12 =>
  letK ((Go.bits .or .i64 i9 i12) : Int) fun i13 =>
  letK ((IntKind.wrap .i64 (i0x3 * 2 ^ 14)) : Int) fun i16 =>
  letK ((Go.bits .or .i64 i13 i16) : Int) fun i17 =>
  some ((.int .i64 i17), h)
  ) := (EV_eq (P := Try.prog) (T := T0) rfl cf40 [(.agg [(.int .i64 i0x0), (.int .i64 i0x1), (.int .i64 i0x2), (.int .i64 i0x3), (.int .i64 i0x4)])] h).trans (r40 mk0 E i0x0 i0x1 i0x2 i0x3 i0x4 h)
def k25x5 : AC := .ret
def k25x4 : AC := .seq (.mask 4) k25x5
def k25x3 : AC := .mask 0
def k25x2 : AC := .seq (.cond (.tmp 5)
   (.seq (.ops false [
      ⟨(some 2), .move (.c (.int .i64 1)), none, []⟩]) k25x4)
   (.skip)) k25x3
def k25x7 : AC := .ret
def k25x6 : AC := .seq (.mask 4) k25x7
def k25x1 : AC := .seq (.ops false [
    ⟨(some 2), .move (.c (.int .i64 2)), none, []⟩]) k25x6
def k25x0 : AC := .seq (.seq (.ops false [
    ⟨(some 3), .fieldAddr 4 (.tmp 1), none, []⟩,
    ⟨(some 4), .load (.cell (.int .i64)) (.tmp 3), none, []⟩,
    ⟨(some 5), .call 41 [(.tmp 4), (.c (.int .i64 (-128))), (.c (.int .i64 127))] [(.cell .bool)] (.bool false), none, []⟩]) k25x2) k25x1
/-- provenance/insn.Size -/
def c25 : AFn := ⟨6, [.tmp 2],
  .seq (.ops false [
    ⟨(some 1), .boxL (.tmp 0), none, []⟩,
    ⟨(some 2), .move (.c (.int .i64 0)), none, []⟩]) k25x0⟩
theorem r25 (i0x0 : Int) (i0x1 : Int) (i0x2 : Int) (i0x3 : Int) (i0x4 : Int) (h : Heap) : runE M C c25 [(.agg [(.int .i64 i0x0), (.int .i64 i0x1), (.int .i64 i0x2), (.int .i64 i0x3), (.int .i64 i0x4)])] h = (
  (C 41 [(.int .i64 i0x4), (.int .i64 (-128)), (.int .i64 127)] h).bind fun r5 =>
  gB (some r5.1) true fun b5 =>
  if b5 = true then
    (
    some ((.int .i64 1), r5.2)
    )
  else
    (
    some ((.int .i64 2), r5.2)
    )
  ) := by kernel_rfl
theorem cf25 : cFn Try.prog 25 = some c25 := by kernel_rfl
theorem e25 (i0x0 : Int) (i0x1 : Int) (i0x2 : Int) (i0x3 : Int) (i0x4 : Int) (h : Heap) : E 25 [(.agg [(.int .i64 i0x0), (.int .i64 i0x1), (.int .i64 i0x2), (.int .i64 i0x3), (.int .i64 i0x4)])] h = (
  (E 41 [(.int .i64 i0x4), (.int .i64 (-128)), (.int .i64 127)] h).bind fun r5 =>
  gB (some r5.1) true fun b5 =>
  if b5 = true then
    (
    some ((.int .i64 1), r5.2)
    )
  else
    (
    some ((.int .i64 2), r5.2)
    )
  ) := (EV_eq (P := Try.prog) (T := T0) rfl cf25 [(.agg [(.int .i64 i0x0), (.int .i64 i0x1), (.int .i64 i0x2), (.int .i64 i0x3), (.int .i64 i0x4)])] h).trans (r25 mk0 E i0x0 i0x1 i0x2 i0x3 i0x4 h)
def k23x6 : AC := .ret
def k23x5 : AC := .seq (.mask 12) k23x6
def k23x4 : AC := .mask 2
def k23x3 : AC := .seq (.cond (.tmp 8)
   (.seq (.ops false [
      ⟨(some 9), .move (.tmp 4), none, []⟩,
      ⟨(some 2), .move (.c (.sl .nil 0)), none, []⟩,
      ⟨(some 3), .move (.tmp 9), none, []⟩]) k23x5)
   (.skip)) k23x4
def k23x2 : AC := .seq (.ops false [
    ⟨(some 7), .move (.tmp 4), none, []⟩,
    ⟨(some 8), .bin .other .neq (.tmp 7) (.c (.int .i64 0)), none, []⟩]) k23x3
def k23x8 : AC := .ret
def k23x7 : AC := .seq (.mask 12) k23x8
def k23x1 : AC := .seq (.ops false [
    ⟨(some 10), .load (.agg [(.int .i64), (.int .i64), (.int .i64), (.int .i64), (.int .i64)]) (.tmp 1), none, []⟩,
    ⟨(some 13), .fieldAddr 4 (.tmp 1), none, []⟩,
    ⟨(some 14), .load (.cell (.int .i64)) (.tmp 13), none, []⟩,
    ⟨(some 15), .bin .other .and (.tmp 14) (.c (.int .i64 4294967295)), none, []⟩,
    ⟨(some 11), .call 40 [(.tmp 10)] [(.cell (.int .i64))] (.int .i64 0), none, [.load 1 13 none]⟩,
    ⟨(some 12), .bin .other .or (.tmp 11) (.c (.int .i64 67108864)), none, []⟩,
    ⟨(some 16), .buildSl [(.int .i64 0), (.int .i64 0)] 1 [(0, (.tmp 12)), (1, (.tmp 15))], none, []⟩,
    ⟨(some 2), .move (.tmp 16), none, []⟩,
    ⟨(some 3), .move (.c (.int .i64 0)), none, []⟩]) k23x7
def k23x0 : AC := .seq (.seq (.ops false [
    ⟨(some 5), .load (.agg [(.int .i64), (.int .i64), (.int .i64), (.int .i64), (.int .i64)]) (.tmp 1), none, []⟩,
    ⟨(some 6), .call 39 [(.tmp 5)] [(.cell (.int .i64))] (.int .i64 0), none, []⟩,
    ⟨(some 4), .move (.tmp 6), none, []⟩]) k23x2) k23x1
/-- provenance/insn.Long -/
def c23 : AFn := ⟨17, [.tmp 2, .tmp 3],
  .seq (.ops false [
    ⟨(some 1), .boxL (.tmp 0), none, []⟩,
    ⟨(some 2), .move (.c (.sl .nil 0)), none, []⟩,
    ⟨(some 3), .move (.c (.int .i64 0)), none, []⟩]) k23x0⟩
theorem r23 (i0x0 : Int) (i0x1 : Int) (i0x2 : Int) (i0x3 : Int) (i0x4 : Int) (h : Heap) : runE M C c23 [(.agg [(.int .i64 i0x0), (.int .i64 i0x1), (.int .i64 i0x2), (.int .i64 i0x3), (.int .i64 i0x4)])] h = (
  (C 39 [(.agg [(.int .i64 i0x0), (.int .i64 i0x1), (.int .i64 i0x2), (.int .i64 i0x3), (.int .i64 i0x4)])] h).bind fun r6 =>
  gI .i64 (some r6.1) true fun i6 =>
  letK ((!decide ((i6 : Int) = 0)) : Bool) fun b8 =>
  if b8 = true then
    (
    some (.tup [(.sl .nil 0), (.int .i64 i6)], r6.2)
    )
  else
    (
    letK ((Go.bits .and .i64 i0x4 4294967295) : Int) fun i15 =>
    (C 40 [(.agg [(.int .i64 i0x0), (.int .i64 i0x1), (.int .i64 i0x2), (.int .i64 i0x3), (.int .i64 i0x4)])] r6.2).bind fun r11 =>
    gI .i64 (some r11.1) true fun i11 =>
    letK ((Go.bits .or .i64 i11 67108864) : Int) fun i12 =>
    newK r11.2 (.cells [(.int .i64 i12), (.int .i64 i15)] (.grow 1) 0) fun h_2 =>
    some (.tup [(.sl (.pos ⟨List.length r11.2, 0, 0⟩) 2), (.int .i64 0)], h_2)
    )
  ) := by kernel_rfl
theorem cf23 : cFn Try.prog 23 = some c23 := by kernel_rfl
theorem e23 (i0x0 : Int) (i0x1 : Int) (i0x2 : Int) (i0x3 : Int) (i0x4 : Int) (h : Heap) : E 23 [(.agg [(.int .i64 i0x0), (.int .i64 i0x1), (.int .i64 i0x2), (.int .i64 i0x3), (.int .i64 i0x4)])] h = (
  (E 39 [(.agg [(.int .i64 i0x0), (.int .i64 i0x1), (.int .i64 i0x2), (.int .i64 i0x3), (.int .i64 i0x4)])] h).bind fun r6 =>
  gI .i64 (some r6.1) true fun i6 =>
  letK ((!decide ((i6 : Int) = 0)) : Bool) fun b8 =>
  if b8 = true then
    (
    some (.tup [(.sl .nil 0), (.int .i64 i6)], r6.2)
    )
  else
    (
    letK ((Go.bits .and .i64 i0x4 4294967295) : Int) fun i15 =>
    (E 40 [(.agg [(.int .i64 i0x0), (.int .i64 i0x1), (.int .i64 i0x2), (.int .i64 i0x3), (.int .i64 i0x4)])] r6.2).bind fun r11 =>
    gI .i64 (some r11.1) true fun i11 =>
    letK ((Go.bits .or .i64 i11 67108864) : Int) fun i12 =>
    newK r11.2 (.cells [(.int .i64 i12), (.int .i64 i15)] (.grow 1) 0) fun h_2 =>
    some (.tup [(.sl (.pos ⟨List.length r11.2, 0, 0⟩) 2), (.int .i64 0)], h_2)
    )
  ) := (EV_eq (P := Try.prog) (T := T0) rfl cf23 [(.agg [(.int .i64 i0x0), (.int .i64 i0x1), (.int .i64 i0x2), (.int .i64 i0x3), (.int .i64 i0x4)])] h).trans (r23 mk0 E i0x0 i0x1 i0x2 i0x3 i0x4 h)
def k22x6 : AC := .ret
def k22x5 : AC := .seq (.mask 12) k22x6
def k22x4 : AC := .mask 2
def k22x3 : AC := .seq (.cond (.tmp 8)
   (.seq (.ops false [
      ⟨(some 9), .move (.tmp 4), none, []⟩,
      ⟨(some 2), .move (.c (.sl .nil 0)), none, []⟩,
      ⟨(some 3), .move (.tmp 9), none, []⟩]) k22x5)
   (.skip)) k22x4
def k22x2 : AC := .seq (.ops false [
    ⟨(some 7), .move (.tmp 4), none, []⟩,
    ⟨(some 8), .bin .other .neq (.tmp 7) (.c (.int .i64 0)), none, []⟩]) k22x3
def k22x11 : AC := .ret
def k22x10 : AC := .seq (.mask 12) k22x11
def k22x9 : AC := .mask 2
def k22x8 : AC := .seq (.cond (.tmp 12)
   (.seq (.ops false [
      ⟨(some 13), .load (.agg [(.int .i64), (.int .i64), (.int .i64), (.int .i64), (.int .i64)]) (.tmp 1), none, []⟩,
      ⟨(some 14), .call 23 [(.tmp 13)] [(.cell .sl), (.cell (.int .i64))] .opq, none, []⟩,
      ⟨(some 15), .extract (.tmp 14) 0, none, []⟩,
      ⟨(some 16), .extract (.tmp 14) 1, none, []⟩,
      ⟨(some 2), .move (.tmp 15), none, []⟩,
      ⟨(some 3), .move (.tmp 16), none, []⟩]) k22x10)
   (.skip)) k22x9
def k22x13 : AC := .ret
def k22x12 : AC := .seq (.mask 12) k22x13
def k22x7 : AC := .seq (.ops false [
    ⟨(some 17), .load (.agg [(.int .i64), (.int .i64), (.int .i64), (.int .i64), (.int .i64)]) (.tmp 1), none, []⟩,
    ⟨(some 19), .fieldAddr 4 (.tmp 1), none, []⟩,
    ⟨(some 20), .load (.cell (.int .i64)) (.tmp 19), none, []⟩,
    ⟨(some 21), .bin .other .and (.tmp 20) (.c (.int .i64 255)), none, []⟩,
    ⟨(some 18), .call 40 [(.tmp 17)] [(.cell (.int .i64))] (.int .i64 0), none, [.load 1 19 none]⟩,
    ⟨(some 22), .bin .other .or (.tmp 18) (.tmp 21), none, []⟩,
    ⟨(some 23), .buildSl [(.int .i64 0)] 1 [(0, (.tmp 22))], none, []⟩,
    ⟨(some 2), .move (.tmp 23), none, []⟩,
    ⟨(some 3), .move (.c (.int .i64 0)), none, []⟩]) k22x12
def k22x1 : AC := .seq (.seq (.ops false [
    ⟨(some 10), .load (.agg [(.int .i64), (.int .i64), (.int .i64), (.int .i64), (.int .i64)]) (.tmp 1), none, []⟩,
    ⟨(some 11), .call 25 [(.tmp 10)] [(.cell (.int .i64))] (.int .i64 0), none, []⟩,
    ⟨(some 12), .bin .other .eql (.tmp 11) (.c (.int .i64 2)), none, []⟩]) k22x8) k22x7
def k22x0 : AC := .seq (.seq (.ops false [
    ⟨(some 5), .load (.agg [(.int .i64), (.int .i64), (.int .i64), (.int .i64), (.int .i64)]) (.tmp 1), none, []⟩,
    ⟨(some 6), .call 39 [(.tmp 5)] [(.cell (.int .i64))] (.int .i64 0), none, []⟩,
    ⟨(some 4), .move (.tmp 6), none, []⟩]) k22x2) k22x1
/-- provenance/insn.Encode -/
def c22 : AFn := ⟨24, [.tmp 2, .tmp 3],
  .seq (.ops false [
    ⟨(some 1), .boxL (.tmp 0), none, []⟩,
    ⟨(some 2), .move (.c (.sl .nil 0)), none, []⟩,
    ⟨(some 3), .move (.c (.int .i64 0)), none, []⟩]) k22x0⟩
theorem r22 (i0x0 : Int) (i0x1 : Int) (i0x2 : Int) (i0x3 : Int) (i0x4 : Int) (h : Heap) : runE M C c22 [(.agg [(.int .i64 i0x0), (.int .i64 i0x1), (.int .i64 i0x2), (.int .i64 i0x3), (.int .i64 i0x4)])] h = (
  (C 39 [(.agg [(.int .i64 i0x0), (.int .i64 i0x1), (.int .i64 i0x2), (.int .i64 i0x3), (.int .i64 i0x4)])] h).bind fun r6 =>
  gI .i64 (some r6.1) true fun i6 =>
  letK ((!decide ((i6 : Int) = 0)) : Bool) fun b8 =>
  if b8 = true then
    (
    some (.tup [(.sl .nil 0), (.int .i64 i6)], r6.2)
    )
  else
    (
    (C 25 [(.agg [(.int .i64 i0x0), (.int .i64 i0x1), (.int .i64 i0x2), (.int .i64 i0x3), (.int .i64 i0x4)])] r6.2).bind fun r11 =>
    gI .i64 (some r11.1) true fun i11 =>
    letK ((decide ((i11 : Int) = 2)) : Bool) fun b12 =>
    if b12 = true then
      (
      (C 23 [(.agg [(.int .i64 i0x0), (.int .i64 i0x1), (.int .i64 i0x2), (.int .i64 i0x3), (.int .i64 i0x4)])] r11.2).bind fun r14 =>
      gT 2 r14.1 true fun u14 =>
      gL (some (List.getD u14 0 .opq)) true fun s14x0 n14x0 =>
      gI .i64 (some (List.getD u14 1 .opq)) true fun i14x1 =>
      some (.tup [(.sl s14x0 n14x0), (.int .i64 i14x1)], r14.2)
      )
    else
      (
      letK ((Go.bits .and .i64 i0x4 255) : Int) fun i21 =>
      (C 40 [(.agg [(.int .i64 i0x0), (.int .i64 i0x1), (.int .i64 i0x2), (.int .i64 i0x3), (.int .i64 i0x4)])] r11.2).bind fun r18 =>
      gI .i64 (some r18.1) true fun i18 =>
      letK ((Go.bits .or .i64 i18 i21) : Int) fun i22 =>
      newK r18.2 (.cells [(.int .i64 i22)] (.grow 1) 0) fun h_2 =>
      some (.tup [(.sl (.pos ⟨List.length r18.2, 0, 0⟩) 1), (.int .i64 0)], h_2)
      )
    )
  ) := by kernel_rfl
theorem cf22 : cFn Try.prog 22 = some c22 := by kernel_rfl
theorem e22 (i0x0 : Int) (i0x1 : Int) (i0x2 : Int) (i0x3 : Int) (i0x4 : Int) (h : Heap) : E 22 [(.agg [(.int .i64 i0x0), (.int .i64 i0x1), (.int .i64 i0x2), (.int .i64 i0x3), (.int .i64 i0x4)])] h = (
  (E 39 [(.agg [(.int .i64 i0x0), (.int .i64 i0x1), (.int .i64 i0x2), (.int .i64 i0x3), (.int .i64 i0x4)])] h).bind fun r6 =>
  gI .i64 (some r6.1) true fun i6 =>
  letK ((!decide ((i6 : Int) = 0)) : Bool) fun b8 =>
  if b8 = true then
    (
    some (.tup [(.sl .nil 0), (.int .i64 i6)], r6.2)
    )
  else
    (
    (E 25 [(.agg [(.int .i64 i0x0), (.int .i64 i0x1), (.int .i64 i0x2), (.int .i64 i0x3), (.int .i64 i0x4)])] r6.2).bind fun r11 =>
    gI .i64 (some r11.1) true fun i11 =>
    letK ((decide ((i11 : Int) = 2)) : Bool) fun b12 =>
    if b12 = true then
      (
      (E 23 [(.agg [(.int .i64 i0x0), (.int .i64 i0x1), (.int .i64 i0x2), (.int .i64 i0x3), (.int .i64 i0x4)])] r11.2).bind fun r14 =>
      gT 2 r14.1 true fun u14 =>
      gL (some (List.getD u14 0 .opq)) true fun s14x0 n14x0 =>
      gI .i64 (some (List.getD u14 1 .opq)) true fun i14x1 =>
      some (.tup [(.sl s14x0 n14x0), (.int .i64 i14x1)], r14.2)
      )
    else
      (
      letK ((Go.bits .and .i64 i0x4 255) : Int) fun i21 =>
      (E 40 [(.agg [(.int .i64 i0x0), (.int .i64 i0x1), (.int .i64 i0x2), (.int .i64 i0x3), (.int .i64 i0x4)])] r11.2).bind fun r18 =>
      gI .i64 (some r18.1) true fun i18 =>
      letK ((Go.bits .or .i64 i18 i21) : Int) fun i22 =>
      newK r18.2 (.cells [(.int .i64 i22)] (.grow 1) 0) fun h_2 =>
      some (.tup [(.sl (.pos ⟨List.length r18.2, 0, 0⟩) 1), (.int .i64 0)], h_2)
      )
    )
  ) := (EV_eq (P := Try.prog) (T := T0) rfl cf22 [(.agg [(.int .i64 i0x0), (.int .i64 i0x1), (.int .i64 i0x2), (.int .i64 i0x3), (.int .i64 i0x4)])] h).trans (r22 mk0 E i0x0 i0x1 i0x2 i0x3 i0x4 h)
def k27x5 : AC := .ret
def k27x4 : AC := .seq (.mask 28) k27x5
def k27x3 : AC := .mask 5
def k27x2 : AC := .seq (.cond (.tmp 10)
   (.seq (.ops false [
      ⟨(some 11), .build [(.int .i64 0), (.int .i64 0), (.int .i64 0), (.int .i64 0), (.int .i64 0)] [], none, []⟩,
      ⟨none, .store 5 (.tmp 2) (.tmp 11), none, []⟩,
      ⟨(some 3), .move (.c (.int .i64 0)), none, []⟩,
      ⟨(some 4), .move (.c (.int .i64 12)), none, []⟩]) k27x4)
   (.skip)) k27x3
def k27x11 : AC := .ret
def k27x10 : AC := .seq (.mask 28) k27x11
def k27x9 : AC := .mask 37
def k27x8 : AC := .seq (.cond (.tmp 22)
   (.seq (.ops false [
      ⟨(some 23), .build [(.int .i64 0), (.int .i64 0), (.int .i64 0), (.int .i64 0), (.int .i64 0)] [], none, []⟩,
      ⟨none, .store 5 (.tmp 2) (.tmp 23), none, []⟩,
      ⟨(some 3), .move (.c (.int .i64 0)), none, []⟩,
      ⟨(some 4), .move (.c (.int .i64 3)), none, []⟩]) k27x10)
   (.skip)) k27x9
def k27x21 : AC := .ret
def k27x20 : AC := .seq (.mask 28) k27x21
def k27x19 : AC := .mask 69
def k27x18 : AC := .seq (.cond (.tmp 45)
   (.seq (.ops false [
      ⟨(some 46), .build [(.int .i64 0), (.int .i64 0), (.int .i64 0), (.int .i64 0), (.int .i64 0)] [], none, []⟩,
      ⟨none, .store 5 (.tmp 2) (.tmp 46), none, []⟩,
      ⟨(some 3), .move (.c (.int .i64 0)), none, []⟩,
      ⟨(some 4), .move (.c (.int .i64 3)), none, []⟩]) k27x20)
   (.skip)) k27x19
def k27x26 : AC := .ret
def k27x25 : AC := .seq (.mask 28) k27x26
def k27x24 : AC := .mask 69
def k27x23 : AC := .seq (.cond (.tmp 49)
   (.seq (.ops false [
      ⟨(some 50), .build [(.int .i64 0), (.int .i64 0), (.int .i64 0), (.int .i64 0), (.int .i64 0)] [], none, []⟩,
      ⟨none, .store 5 (.tmp 2) (.tmp 50), none, []⟩,
      ⟨(some 3), .move (.c (.int .i64 0)), none, []⟩,
      ⟨(some 4), .move (.c (.int .i64 12)), none, []⟩]) k27x25)
   (.skip)) k27x24
def k27x31 : AC := .ret
def k27x30 : AC := .seq (.mask 28) k27x31
def k27x29 : AC := .mask 69
def k27x28 : AC := .seq (.cond (.tmp 55)
   (.seq (.ops false [
      ⟨(some 56), .build [(.int .i64 0), (.int .i64 0), (.int .i64 0), (.int .i64 0), (.int .i64 0)] [], none, []⟩,
      ⟨none, .store 5 (.tmp 2) (.tmp 56), none, []⟩,
      ⟨(some 3), .move (.c (.int .i64 0)), none, []⟩,
      ⟨(some 4), .move (.c (.int .i64 3)), none, []⟩]) k27x30)
   (.skip)) k27x29
def k27x27 : AC := .ops false [
    ⟨(some 57), .move (.tmp 0), none, []⟩,
    ⟨(some 58), .indexAddr 1 (.tmp 57) (.c (.int .i64 1)), none, []⟩,
    ⟨(some 59), .load (.cell (.int .i64)) (.tmp 58), none, []⟩,
    ⟨(some 60), .conv .i32 (.tmp 59), none, []⟩,
    ⟨(some 61), .conv .i64 (.tmp 60), none, []⟩,
    ⟨(some 62), .fieldAddr 4 (.tmp 6), none, []⟩,
    ⟨none, .store 1 (.tmp 62) (.tmp 61), none, []⟩,
    ⟨(some 7), .move (.c (.int .i64 2)), none, []⟩]
def k27x22 : AC := .seq (.seq (.ops false [
    ⟨(some 51), .move (.tmp 0), none, []⟩,
    ⟨(some 52), .indexAddr 1 (.tmp 51) (.c (.int .i64 1)), none, []⟩,
    ⟨(some 53), .load (.cell (.int .i64)) (.tmp 52), none, []⟩,
    ⟨(some 54), .call 41 [(.tmp 53), (.c (.int .i64 0)), (.c (.int .i64 4294967295))] [(.cell .bool)] (.bool false), none, []⟩,
    ⟨(some 55), .un .not (.tmp 54), none, []⟩]) k27x28) k27x27
def k27x17 : AC := .seq (.seq (.ops false [
    ⟨(some 47), .move (.tmp 0), none, []⟩,
    ⟨(some 48), .lenSl (.tmp 47), none, []⟩,
    ⟨(some 49), .bin .other .lss (.tmp 48) (.c (.int .i64 2)), none, []⟩]) k27x23) k27x22
def k27x16 : AC := .join 196
def k27x15 : AC := .seq (.cond (.tmp 42)
   (.seq (.seq (.ops false [
      ⟨(some 43), .move (.tmp 5), none, []⟩,
      ⟨(some 44), .bin .other .and (.tmp 43) (.c (.int .i64 255)), none, []⟩,
      ⟨(some 45), .bin .other .neq (.tmp 44) (.c (.int .i64 0)), none, []⟩]) k27x18) k27x17)
   (.skip)) k27x16
def k27x37 : AC := .ret
def k27x36 : AC := .seq (.mask 28) k27x37
def k27x35 : AC := .mask 196
def k27x34 : AC := .seq (.cond (.tmp 65)
   (.seq (.ops false [
      ⟨(some 66), .build [(.int .i64 0), (.int .i64 0), (.int .i64 0), (.int .i64 0), (.int .i64 0)] [], none, []⟩,
      ⟨none, .store 5 (.tmp 2) (.tmp 66), none, []⟩,
      ⟨(some 3), .move (.c (.int .i64 0)), none, []⟩,
      ⟨(some 4), .move (.c (.int .i64 3)), none, []⟩]) k27x36)
   (.skip)) k27x35
def k27x39 : AC := .ret
def k27x38 : AC := .seq (.mask 28) k27x39
def k27x33 : AC := .seq (.ops false [
    ⟨(some 67), .load (.agg [(.int .i64), (.int .i64), (.int .i64), (.int .i64), (.int .i64)]) (.tmp 6), none, []⟩,
    ⟨(some 68), .move (.tmp 7), none, []⟩,
    ⟨none, .store 5 (.tmp 2) (.tmp 67), none, []⟩,
    ⟨(some 3), .move (.tmp 68), none, []⟩,
    ⟨(some 4), .move (.c (.int .i64 0)), none, []⟩]) k27x38
def k27x14 : AC := .seq (.seq (.ops false [
    ⟨(some 63), .load (.agg [(.int .i64), (.int .i64), (.int .i64), (.int .i64), (.int .i64)]) (.tmp 6), none, []⟩,
    ⟨(some 64), .call 39 [(.tmp 63)] [(.cell (.int .i64))] (.int .i64 0), none, []⟩,
    ⟨(some 65), .bin .other .neq (.tmp 64) (.c (.int .i64 0)), none, []⟩]) k27x34) k27x33
def k27x13 : AC := .seq (.seq (.ops false [
    ⟨(some 40), .move (.tmp 5), none, []⟩,
    ⟨(some 41), .bin .other .and (.tmp 40) (.c (.int .i64 67108864)), none, []⟩,
    ⟨(some 42), .bin .other .neq (.tmp 41) (.c (.int .i64 0)), none, []⟩]) k27x15) k27x14
def k27x12 : AC := .seq (.ops false [
    ⟨(some 7), .move (.c (.int .i64 1)), none, []⟩]) k27x13
def k27x7 : AC := .seq (.ops false [
    ⟨(some 24), .move (.tmp 5), none, []⟩,
    ⟨(some 25), .bin .other .shr (.tmp 24) (.c (.int .u64 27)), none, []⟩,
    ⟨(some 26), .move (.tmp 5), none, []⟩,
    ⟨(some 27), .bin .other .shr (.tmp 26) (.c (.int .u64 22)), none, []⟩,
    ⟨(some 28), .bin .other .and (.tmp 27) (.c (.int .i64 15)), none, []⟩,
    ⟨(some 29), .move (.tmp 5), none, []⟩,
    ⟨(some 30), .bin .other .shr (.tmp 29) (.c (.int .u64 18)), none, []⟩,
    ⟨(some 31), .bin .other .and (.tmp 30) (.c (.int .i64 15)), none, []⟩,
    ⟨(some 32), .move (.tmp 5), none, []⟩,
    ⟨(some 33), .bin .other .shr (.tmp 32) (.c (.int .u64 14)), none, []⟩,
    ⟨(some 34), .bin .other .and (.tmp 33) (.c (.int .i64 15)), none, []⟩,
    ⟨(some 35), .move (.tmp 5), none, []⟩,
    ⟨(some 36), .bin .other .and (.tmp 35) (.c (.int .i64 255)), none, []⟩,
    ⟨(some 37), .conv .i8 (.tmp 36), none, []⟩,
    ⟨(some 38), .conv .i64 (.tmp 37), none, []⟩,
    ⟨(some 39), .build [(.int .i64 0), (.int .i64 0), (.int .i64 0), (.int .i64 0), (.int .i64 0)] [(0, 1, (.tmp 25)), (1, 1, (.tmp 28)), (2, 1, (.tmp 31)), (3, 1, (.tmp 34)), (4, 1, (.tmp 38))], none, []⟩,
    ⟨(some 6), .allocL [(.int .i64 0), (.int .i64 0), (.int .i64 0), (.int .i64 0), (.int .i64 0)], none, []⟩,
    ⟨none, .store 5 (.tmp 6) (.tmp 39), none, []⟩]) k27x12
def k27x6 : AC := .seq (.seq (.ops true [
    ⟨(some 15), .move (.tmp 5), none, []⟩,
    ⟨(some 16), .call 41 [(.tmp 15), (.c (.int .i64 0)), (.c (.int .i64 4294967295))] [(.cell .bool)] (.bool false), none, []⟩,
    ⟨(some 17), .un .not (.tmp 16), none, []⟩,
    ⟨(some 18), .move (.tmp 17), none, []⟩,
    ⟨(some 19), .move (.tmp 5), (some (18, false)), []⟩,
    ⟨(some 20), .bin .other .and (.tmp 19) (.c (.int .i64 16128)), (some (18, false)), []⟩,
    ⟨(some 21), .bin .other .neq (.tmp 20) (.c (.int .i64 0)), (some (18, false)), []⟩,
    ⟨(some 22), .pick (.tmp 18) (.c (.bool true)) (.tmp 21), none, []⟩]) k27x8) k27x7
def k27x1 : AC := .seq (.ops false [
    ⟨(some 12), .move (.tmp 0), none, []⟩,
    ⟨(some 13), .indexAddr 1 (.tmp 12) (.c (.int .i64 0)), none, []⟩,
    ⟨(some 14), .load (.cell (.int .i64)) (.tmp 13), none, []⟩,
    ⟨(some 5), .move (.tmp 14), none, []⟩]) k27x6
def k27x0 : AC := .seq (.seq (.ops false [
    ⟨(some 8), .move (.tmp 0), none, []⟩,
    ⟨(some 9), .lenSl (.tmp 8), none, []⟩,
    ⟨(some 10), .bin .other .eql (.tmp 9) (.c (.int .i64 0)), none, []⟩]) k27x2) k27x1
/-- provenance/insn.Decode -/
def c27 : AFn := ⟨69, [.cell 2 (.agg [(.int .i64), (.int .i64), (.int .i64), (.int .i64), (.int .i64)]), .tmp 3, .tmp 4],
  .seq (.ops false [
    ⟨(some 2), .allocL [(.int .i64 0), (.int .i64 0), (.int .i64 0), (.int .i64 0), (.int .i64 0)], none, []⟩,
    ⟨(some 3), .move (.c (.int .i64 0)), none, []⟩,
    ⟨(some 4), .move (.c (.int .i64 0)), none, []⟩]) k27x0⟩
noncomputable def J27x32 (M : Mk) (C : Cal) (i2x0 : Int) (i2x1 : Int) (i2x2 : Int) (i2x3 : Int) (i2x4 : Int) (i6x0 : Int) (i6x1 : Int) (i6x2 : Int) (i6x3 : Int) (i6x4 : Int) (i7 : Int) (h : Heap) : Res := M (AV × Heap) (seqQ (evalE M C k27x14) (endQ [.cell 2 (.agg [(.int .i64), (.int .i64), (.int .i64), (.int .i64), (.int .i64)]), .tmp 3, .tmp 4])) (.any :: .any :: (.box [(.int .i64 i2x0), (.int .i64 i2x1), (.int .i64 i2x2), (.int .i64 i2x3), (.int .i64 i2x4)] :: (rep 3 (.box [(.int .i64 i6x0), (.int .i64 i6x1), (.int .i64 i6x2), (.int .i64 i6x3), (.int .i64 i6x4)] :: (.g [] true (.int .i64 i7) :: (rep 61 [])))))) h
theorem r27 (s0 : SA) (n0 : Nat) (h : Heap) : runE M C c27 [(.sl s0 n0)] h = (
  letK ((decide ((((n0 : Nat) : Int) : Int) = 0)) : Bool) fun b10 =>
  if b10 = true then
    (
    some (.tup [(.agg [(.int .i64 0), (.int .i64 0), (.int .i64 0), (.int .i64 0), (.int .i64 0)]), (.int .i64 0), (.int .i64 12)], h)
    )
  else
    (
    chk (true = true → (0 : Int) ≤ 0 ∧ (0 : Int) < ((n0 : Nat) : Int)) <|
    atP (adP s0) true fun a13 =>
    gI .i64 (ld1 h (Ad.add a13 (Int.toNat 0 * 1))) true fun i14 =>
    (C 41 [(.int .i64 i14), (.int .i64 0), (.int .i64 4294967295)] h).bind fun r16 =>
    gB (some r16.1) true fun b16 =>
    letK ((Go.bits .and .i64 i14 16128) : Int) fun i20 =>
    letK ((!decide ((i20 : Int) = 0)) : Bool) fun b21 =>
    letK ((if (!b16) = true then true else b21) : Bool) fun b22 =>
    if b22 = true then
      (
      some (.tup [(.agg [(.int .i64 0), (.int .i64 0), (.int .i64 0), (.int .i64 0), (.int .i64 0)]), (.int .i64 0), (.int .i64 3)], r16.2)
      )
    else
      (
      letK ((Int.fdiv i14 (2 ^ 27)) : Int) fun i25 =>
      letK ((Int.fdiv i14 (2 ^ 22)) : Int) fun i27 =>
      letK ((Go.bits .and .i64 i27 15) : Int) fun i28 =>
      letK ((Int.fdiv i14 (2 ^ 18)) : Int) fun i30 =>
      letK ((Go.bits .and .i64 i30 15) : Int) fun i31 =>
      letK ((Int.fdiv i14 (2 ^ 14)) : Int) fun i33 =>
      letK ((Go.bits .and .i64 i33 15) : Int) fun i34 =>
      letK ((Go.bits .and .i64 i14 255) : Int) fun i36 =>
      letK ((IntKind.wrap .i8 i36) : Int) fun i37 =>
      letK ((IntKind.wrap .i64 i37) : Int) fun i38 =>
      letK ((Go.bits .and .i64 i14 67108864) : Int) fun i41 =>
      letK ((!decide ((i41 : Int) = 0)) : Bool) fun b42 =>
      if b42 = true then
        (
        letK ((Go.bits .and .i64 i14 255) : Int) fun i44 =>
        letK ((!decide ((i44 : Int) = 0)) : Bool) fun b45 =>
        if b45 = true then
          (
          some (.tup [(.agg [(.int .i64 0), (.int .i64 0), (.int .i64 0), (.int .i64 0), (.int .i64 0)]), (.int .i64 0), (.int .i64 3)], r16.2)
          )
        else
          (
          letK ((decide ((((n0 : Nat) : Int) : Int) < 2)) : Bool) fun b49 =>
          if b49 = true then
            (
            some (.tup [(.agg [(.int .i64 0), (.int .i64 0), (.int .i64 0), (.int .i64 0), (.int .i64 0)]), (.int .i64 0), (.int .i64 12)], r16.2)
            )
          else
            (
            chk (true = true → (0 : Int) ≤ 1 ∧ (1 : Int) < ((n0 : Nat) : Int)) <|
            atP (adP s0) true fun a52 =>
            gI .i64 (ld1 r16.2 (Ad.add a52 (Int.toNat 1 * 1))) true fun i53 =>
            (C 41 [(.int .i64 i53), (.int .i64 0), (.int .i64 4294967295)] r16.2).bind fun r54 =>
            gB (some r54.1) true fun b54 =>
            if (!b54) = true then
              (
              some (.tup [(.agg [(.int .i64 0), (.int .i64 0), (.int .i64 0), (.int .i64 0), (.int .i64 0)]), (.int .i64 0), (.int .i64 3)], r54.2)
              )
            else
              (
              chk (true = true → (0 : Int) ≤ 1 ∧ (1 : Int) < ((n0 : Nat) : Int)) <|
              atP (adP s0) true fun a58 =>
              gI .i64 (ld1 r54.2 (Ad.add a58 (Int.toNat 1 * 1))) true fun i59 =>
              letK ((IntKind.wrap .i32 i59) : Int) fun i60 =>
              letK ((IntKind.wrap .i64 i60) : Int) fun i61 =>
              J27x32 M C 0 0 0 0 0 i25 i28 i31 i34 i61 2 r54.2
              )
            )
          )
        )
      else
        (
        J27x32 M C 0 0 0 0 0 i25 i28 i31 i34 i38 1 r16.2
        )
      )
    )
  ) := by kernel_rfl
theorem cf27 : cFn Try.prog 27 = some c27 := by kernel_rfl
theorem e27 (s0 : SA) (n0 : Nat) (h : Heap) : E 27 [(.sl s0 n0)] h = (
  letK ((decide ((((n0 : Nat) : Int) : Int) = 0)) : Bool) fun b10 =>
  if b10 = true then
    (
    some (.tup [(.agg [(.int .i64 0), (.int .i64 0), (.int .i64 0), (.int .i64 0), (.int .i64 0)]), (.int .i64 0), (.int .i64 12)], h)
    )
  else
    (
    chk (true = true → (0 : Int) ≤ 0 ∧ (0 : Int) < ((n0 : Nat) : Int)) <|
    atP (adP s0) true fun a13 =>
    gI .i64 (ld1 h (Ad.add a13 (Int.toNat 0 * 1))) true fun i14 =>
    (E 41 [(.int .i64 i14), (.int .i64 0), (.int .i64 4294967295)] h).bind fun r16 =>
    gB (some r16.1) true fun b16 =>
    letK ((Go.bits .and .i64 i14 16128) : Int) fun i20 =>
    letK ((!decide ((i20 : Int) = 0)) : Bool) fun b21 =>
    letK ((if (!b16) = true then true else b21) : Bool) fun b22 =>
    if b22 = true then
      (
      some (.tup [(.agg [(.int .i64 0), (.int .i64 0), (.int .i64 0), (.int .i64 0), (.int .i64 0)]), (.int .i64 0), (.int .i64 3)], r16.2)
      )
    else
      (
      letK ((Int.fdiv i14 (2 ^ 27)) : Int) fun i25 =>
      letK ((Int.fdiv i14 (2 ^ 22)) : Int) fun i27 =>
      letK ((Go.bits .and .i64 i27 15) : Int) fun i28 =>
      letK ((Int.fdiv i14 (2 ^ 18)) : Int) fun i30 =>
      letK ((Go.bits .and .i64 i30 15) : Int) fun i31 =>
      letK ((Int.fdiv i14 (2 ^ 14)) : Int) fun i33 =>
      letK ((Go.bits .and .i64 i33 15) : Int) fun i34 =>
      letK ((Go.bits .and .i64 i14 255) : Int) fun i36 =>
      letK ((IntKind.wrap .i8 i36) : Int) fun i37 =>
      letK ((IntKind.wrap .i64 i37) : Int) fun i38 =>
      letK ((Go.bits .and .i64 i14 67108864) : Int) fun i41 =>
      letK ((!decide ((i41 : Int) = 0)) : Bool) fun b42 =>
      if b42 = true then
        (
        letK ((Go.bits .and .i64 i14 255) : Int) fun i44 =>
        letK ((!decide ((i44 : Int) = 0)) : Bool) fun b45 =>
        if b45 = true then
          (
          some (.tup [(.agg [(.int .i64 0), (.int .i64 0), (.int .i64 0), (.int .i64 0), (.int .i64 0)]), (.int .i64 0), (.int .i64 3)], r16.2)
          )
        else
          (
          letK ((decide ((((n0 : Nat) : Int) : Int) < 2)) : Bool) fun b49 =>
          if b49 = true then
            (
            some (.tup [(.agg [(.int .i64 0), (.int .i64 0), (.int .i64 0), (.int .i64 0), (.int .i64 0)]), (.int .i64 0), (.int .i64 12)], r16.2)
            )
          else
            (
            chk (true = true → (0 : Int) ≤ 1 ∧ (1 : Int) < ((n0 : Nat) : Int)) <|
            atP (adP s0) true fun a52 =>
            gI .i64 (ld1 r16.2 (Ad.add a52 (Int.toNat 1 * 1))) true fun i53 =>
            (E 41 [(.int .i64 i53), (.int .i64 0), (.int .i64 4294967295)] r16.2).bind fun r54 =>
            gB (some r54.1) true fun b54 =>
            if (!b54) = true then
              (
              some (.tup [(.agg [(.int .i64 0), (.int .i64 0), (.int .i64 0), (.int .i64 0), (.int .i64 0)]), (.int .i64 0), (.int .i64 3)], r54.2)
              )
            else
              (
              chk (true = true → (0 : Int) ≤ 1 ∧ (1 : Int) < ((n0 : Nat) : Int)) <|
              atP (adP s0) true fun a58 =>
              gI .i64 (ld1 r54.2 (Ad.add a58 (Int.toNat 1 * 1))) true fun i59 =>
              letK ((IntKind.wrap .i32 i59) : Int) fun i60 =>
              letK ((IntKind.wrap .i64 i60) : Int) fun i61 =>
              J27x32 mk0 E 0 0 0 0 0 i25 i28 i31 i34 i61 2 r54.2
              )
            )
          )
        )
      else
        (
        J27x32 mk0 E 0 0 0 0 0 i25 i28 i31 i34 i38 1 r16.2
        )
      )
    )
  ) := (EV_eq (P := Try.prog) (T := T0) rfl cf27 [(.sl s0 n0)] h).trans (r27 mk0 E s0 n0 h)
theorem J27x32xaux (M : Mk) (C : Cal) (i2x0 : Int) (i2x1 : Int) (i2x2 : Int) (i2x3 : Int) (i2x4 : Int) (i6x0 : Int) (i6x1 : Int) (i6x2 : Int) (i6x3 : Int) (i6x4 : Int) (i7 : Int) (h : Heap) : (forceK tk (.any :: .any :: (.box [(.int .i64 i2x0), (.int .i64 i2x1), (.int .i64 i2x2), (.int .i64 i2x3), (.int .i64 i2x4)] :: (rep 3 (.box [(.int .i64 i6x0), (.int .i64 i6x1), (.int .i64 i6x2), (.int .i64 i6x3), (.int .i64 i6x4)] :: (.g [] true (.int .i64 i7) :: (rep 61 [])))))) fun e => (seqQ (evalE M C k27x14) (endQ [.cell 2 (.agg [(.int .i64), (.int .i64), (.int .i64), (.int .i64), (.int .i64)]), .tmp 3, .tmp 4])) .normal ⟨e, h⟩) = (
  (C 39 [(.agg [(.int .i64 i6x0), (.int .i64 i6x1), (.int .i64 i6x2), (.int .i64 i6x3), (.int .i64 i6x4)])] h).bind fun r64 =>
  gI .i64 (some r64.1) true fun i64 =>
  letK ((!decide ((i64 : Int) = 0)) : Bool) fun b65 =>
  if b65 = true then
    (
    some (.tup [(.agg [(.int .i64 0), (.int .i64 0), (.int .i64 0), (.int .i64 0), (.int .i64 0)]), (.int .i64 0), (.int .i64 3)], r64.2)
    )
  else
    (
    some (.tup [(.agg [(.int .i64 i6x0), (.int .i64 i6x1), (.int .i64 i6x2), (.int .i64 i6x3), (.int .i64 i6x4)]), (.int .i64 i7), (.int .i64 0)], r64.2)
    )
  ) := by kernel_rfl
theorem J27x32xeq (C : Cal) (i2x0 : Int) (i2x1 : Int) (i2x2 : Int) (i2x3 : Int) (i2x4 : Int) (i6x0 : Int) (i6x1 : Int) (i6x2 : Int) (i6x3 : Int) (i6x4 : Int) (i7 : Int) (h : Heap) : J27x32 mk0 C i2x0 i2x1 i2x2 i2x3 i2x4 i6x0 i6x1 i6x2 i6x3 i6x4 i7 h = (
  (C 39 [(.agg [(.int .i64 i6x0), (.int .i64 i6x1), (.int .i64 i6x2), (.int .i64 i6x3), (.int .i64 i6x4)])] h).bind fun r64 =>
  gI .i64 (some r64.1) true fun i64 =>
  letK ((!decide ((i64 : Int) = 0)) : Bool) fun b65 =>
  if b65 = true then
    (
    some (.tup [(.agg [(.int .i64 0), (.int .i64 0), (.int .i64 0), (.int .i64 0), (.int .i64 0)]), (.int .i64 0), (.int .i64 3)], r64.2)
    )
  else
    (
    some (.tup [(.agg [(.int .i64 i6x0), (.int .i64 i6x1), (.int .i64 i6x2), (.int .i64 i6x3), (.int .i64 i6x4)]), (.int .i64 i7), (.int .i64 0)], r64.2)
    )
  ) := join_eqn (seqQ (evalE mk0 C k27x14) (endQ [.cell 2 (.agg [(.int .i64), (.int .i64), (.int .i64), (.int .i64), (.int .i64)]), .tmp 3, .tmp 4])) (.any :: .any :: (.box [(.int .i64 i2x0), (.int .i64 i2x1), (.int .i64 i2x2), (.int .i64 i2x3), (.int .i64 i2x4)] :: (rep 3 (.box [(.int .i64 i6x0), (.int .i64 i6x1), (.int .i64 i6x2), (.int .i64 i6x3), (.int .i64 i6x4)] :: (.g [] true (.int .i64 i7) :: (rep 61 [])))))) h (J27x32xaux mk0 C i2x0 i2x1 i2x2 i2x3 i2x4 i6x0 i6x1 i6x2 i6x3 i6x4 i7 h)
def k26x5 : AC := .ret
def k26x4 : AC := .seq (.mask 16) k26x5
def k26x3 : AC := .mask 3
def k26x2 : AC := .seq (.cond (.tmp 10)
   (.seq (.ops false [
      ⟨(some 4), .move (.c (.bool false)), none, []⟩]) k26x4)
   (.skip)) k26x3
def k26x13 : AC := .exit 0
def k26x12 : AC := .mask 12291
def k26x20 : AC := .ret
def k26x19 : AC := .seq (.mask 16) k26x20
def k26x18 : AC := .mask 12291
def k26x17 : AC := .seq (.cond (.tmp 24)
   (.seq (.ops false [
      ⟨(some 4), .move (.c (.bool false)), none, []⟩]) k26x19)
   (.skip)) k26x18
def k26x16 : AC := .seq (.ops false [
    ⟨(some 16), .move (.tmp 0), none, []⟩,
    ⟨(some 17), .move (.tmp 5), none, []⟩,
    ⟨(some 18), .indexAddr 1 (.tmp 16) (.tmp 17), none, []⟩,
    ⟨(some 19), .load (.cell (.int .i64)) (.tmp 18), none, []⟩,
    ⟨(some 20), .move (.tmp 1), none, []⟩,
    ⟨(some 21), .move (.tmp 5), none, []⟩,
    ⟨(some 22), .indexAddr 1 (.tmp 20) (.tmp 21), none, []⟩,
    ⟨(some 23), .load (.cell (.int .i64)) (.tmp 22), none, []⟩,
    ⟨(some 24), .bin .other .neq (.tmp 19) (.tmp 23), none, []⟩]) k26x17
def k26x15 : AC := .mask 12291
def k26x14 : AC := .ops false [
    ⟨(some 25), .bin .other .add (.tmp 13) (.c (.int .i64 1)), none, []⟩,
    ⟨(some 13), .move (.tmp 25), none, []⟩]
def k26x11 : AC := .seq (.seq (.block 1 (.seq (.ops false [
     ⟨(some 15), .move (.tmp 13), none, []⟩,
     ⟨(some 5), .move (.tmp 15), none, []⟩]) k26x16)) k26x15) k26x14
def k26x10 : AC := .seq (.seq (.cond (.tmp 14)
   (.skip)
   (.seq (.mask 0) k26x13)) k26x12) k26x11
def k26x9 : AC := .seq (.ops false [
    ⟨(some 14), .bin .other .lss (.tmp 13) (.tmp 12), none, []⟩]) k26x10
def k26x8 : AC := .mask 0
def k26x7 : AC := .seq (.block 0 (.loop 12291 0 k26x9)) k26x8
def k26x22 : AC := .ret
def k26x21 : AC := .seq (.mask 16) k26x22
def k26x6 : AC := .seq (.ops false [
    ⟨(some 4), .move (.c (.bool true)), none, []⟩]) k26x21
def k26x1 : AC := .seq (.seq (.ops false [
    ⟨(some 11), .move (.tmp 0), none, []⟩,
    ⟨(some 12), .lenSl (.tmp 11), none, []⟩,
    ⟨(some 13), .move (.c (.int .i64 0)), none, []⟩]) k26x7) k26x6
def k26x0 : AC := .seq (.seq (.ops false [
    ⟨(some 6), .move (.tmp 0), none, []⟩,
    ⟨(some 7), .lenSl (.tmp 6), none, []⟩,
    ⟨(some 8), .move (.tmp 1), none, []⟩,
    ⟨(some 9), .lenSl (.tmp 8), none, []⟩,
    ⟨(some 10), .bin .other .neq (.tmp 7) (.tmp 9), none, []⟩]) k26x2) k26x1
/-- slices.Equal[[]int,int] -/
def c26 : AFn := ⟨26, [.tmp 4],
  .seq (.ops false [
    ⟨(some 4), .move (.c (.bool false)), none, []⟩]) k26x0⟩
def S26xr (b4 : Bool) (h : Heap) : St := ⟨(rep 4 (.g [] true (.bool b4) :: (rep 21 []))), h⟩
def S26xe0 (h : Heap) : St := ⟨(rep 26 []), h⟩
noncomputable def Q26x9 (M : Mk) (C : Cal) : Kont (AV × Heap) := (blockQ 0 (seqQ (evalE M C k26x8) (seqQ (evalE M C k26x6) (endQ [.tmp 4]))))
noncomputable def L26x9 (s0 : SA) (n0 : Nat) (s1 : SA) (n1 : Nat) (i12 : Int) (i13 : Int) (h : Heap) (Q : Kont R) : Option R := loopE (evalE M C k26x9) 12291 0 ⟨(.g [] true (.sl s0 n0) :: (.g [] true (.sl s1 n1) :: (rep 10 (.g [] true (.int .i64 i12) :: (.g [] true (.int .i64 i13) :: (rep 12 [])))))), h⟩ Q
theorem r26 (s0 : SA) (n0 : Nat) (s1 : SA) (n1 : Nat) (h : Heap) : runE M C c26 [(.sl s0 n0), (.sl s1 n1)] h = (
  letK ((!decide ((((n0 : Nat) : Int) : Int) = ((n1 : Nat) : Int))) : Bool) fun b10 =>
  if b10 = true then
    (
    some ((.bool false), h)
    )
  else
    (
    L26x9 M C s0 n0 s1 n1 ((n0 : Nat) : Int) 0 h (Q26x9 M C)
    )
  ) := by kernel_rfl
theorem cf26 : cFn Try.prog 26 = some c26 := by kernel_rfl
theorem e26 (s0 : SA) (n0 : Nat) (s1 : SA) (n1 : Nat) (h : Heap) : E 26 [(.sl s0 n0), (.sl s1 n1)] h = (
  letK ((!decide ((((n0 : Nat) : Int) : Int) = ((n1 : Nat) : Int))) : Bool) fun b10 =>
  if b10 = true then
    (
    some ((.bool false), h)
    )
  else
    (
    L26x9 mk0 E s0 n0 s1 n1 ((n0 : Nat) : Int) 0 h (Q26x9 mk0 E)
    )
  ) := (EV_eq (P := Try.prog) (T := T0) rfl cf26 [(.sl s0 n0), (.sl s1 n1)] h).trans (r26 mk0 E s0 n0 s1 n1 h)
theorem L26x9xaux (s0 : SA) (n0 : Nat) (s1 : SA) (n1 : Nat) (i12 : Int) (i13 : Int) (h : Heap) (Q : Kont R) : (restrF 12291 ⟨(.g [] true (.sl s0 n0) :: (.g [] true (.sl s1 n1) :: (rep 10 (.g [] true (.int .i64 i12) :: (.g [] true (.int .i64 i13) :: (rep 12 [])))))), h⟩ fun σ => evalE M C k26x9 σ (roundQ M C k26x9 12291 0 Q)) = (
  letK ((decide ((i13 : Int) < i12)) : Bool) fun b14 =>
  if b14 = true then
    (
    chk (true = true → (0 : Int) ≤ i13 ∧ (i13 : Int) < ((n0 : Nat) : Int)) <|
    atP (adP s0) true fun a18 =>
    gI .i64 (ld1 h (Ad.add a18 (Int.toNat i13 * 1))) true fun i19 =>
    chk (true = true → (0 : Int) ≤ i13 ∧ (i13 : Int) < ((n1 : Nat) : Int)) <|
    atP (adP s1) true fun a22 =>
    gI .i64 (ld1 h (Ad.add a22 (Int.toNat i13 * 1))) true fun i23 =>
    letK ((!decide ((i19 : Int) = i23)) : Bool) fun b24 =>
    if b24 = true then
      (
      Q .ret (S26xr false h)
      )
    else
      (
      letK ((IntKind.wrap .i64 (i13 + 1)) : Int) fun i25 =>
      L26x9 M C s0 n0 s1 n1 i12 i25 h Q
      )
    )
  else
    (
    Q (.exit 0) (S26xe0 h)
    )
  ) := by kernel_rfl
theorem L26x9xeq (s0 : SA) (n0 : Nat) (s1 : SA) (n1 : Nat) (i12 : Int) (i13 : Int) (h : Heap) (Q : Kont R) : L26x9 mk0 C s0 n0 s1 n1 i12 i13 h Q = (
  letK ((decide ((i13 : Int) < i12)) : Bool) fun b14 =>
  if b14 = true then
    (
    chk (true = true → (0 : Int) ≤ i13 ∧ (i13 : Int) < ((n0 : Nat) : Int)) <|
    atP (adP s0) true fun a18 =>
    gI .i64 (ld1 h (Ad.add a18 (Int.toNat i13 * 1))) true fun i19 =>
    chk (true = true → (0 : Int) ≤ i13 ∧ (i13 : Int) < ((n1 : Nat) : Int)) <|
    atP (adP s1) true fun a22 =>
    gI .i64 (ld1 h (Ad.add a22 (Int.toNat i13 * 1))) true fun i23 =>
    letK ((!decide ((i19 : Int) = i23)) : Bool) fun b24 =>
    if b24 = true then
      (
      Q .ret (S26xr false h)
      )
    else
      (
      letK ((IntKind.wrap .i64 (i13 + 1)) : Int) fun i25 =>
      L26x9 mk0 C s0 n0 s1 n1 i12 i25 h Q
      )
    )
  else
    (
    Q (.exit 0) (S26xe0 h)
    )
  ) := loop_eqn C k26x9 12291 0 (.g [] true (.sl s0 n0) :: (.g [] true (.sl s1 n1) :: (rep 10 (.g [] true (.int .i64 i12) :: (.g [] true (.int .i64 i13) :: (rep 12 [])))))) h Q (by kernel_rfl) (L26x9xaux mk0 C s0 n0 s1 n1 i12 i13 h Q)
theorem X26x9xr (M : Mk) (C : Cal) (b4 : Bool) (h : Heap) : Q26x9 M C .ret (S26xr b4 h) = (
  some ((.bool b4), h)
  ) := by kernel_rfl
theorem X26x9xe0 (M : Mk) (C : Cal) (h : Heap) : Q26x9 M C (.exit 0) (S26xe0 h) = (
  some ((.bool true), h)
  ) := by kernel_rfl
end
end Go.Proofs.Ytmfmnbldngfelaa.I
