/- Parts of the proof, printed. -/
import Derived.Test.YtmfmnbldngfelaaLibD
import Derived.Test.YtmfmnbldngfelaaProg
import Derived.KernelRfl
set_option linter.unusedVariables false
set_option maxRecDepth 100000
namespace Go.Proofs.Ytmfmnbldngfelaa.I
open Go Go.Proofs.Ytmfmnbldngfelaa.Abs Go.Proofs
abbrev rep (n : Nat) (l : List SV) : List SV := List.replicate n .any ++ l
noncomputable def T0 : Prims := fun _ => none
noncomputable def E : Cal := EV Try.prog T0
section
variable {R : Type} (M : Mk) (C : Cal)
def k41x2 : AC := .ret
def k41x1 : AC := .seq (.mask 64) k41x2
def k41x0 : AC := .seq (.ops true [
    ⟨(some 7), .move (.tmp 0), none, []⟩,
    ⟨(some 8), .move (.tmp 1), none, []⟩,
    ⟨(some 9), .bin .other .geq (.tmp 7) (.tmp 8), none, []⟩,
    ⟨(some 10), .move (.tmp 9), none, []⟩,
    ⟨(some 11), .move (.tmp 0), (some (10, true)), []⟩,
    ⟨(some 12), .move (.tmp 2), (some (10, true)), []⟩,
    ⟨(some 13), .bin .other .leq (.tmp 11) (.tmp 12), (some (10, true)), []⟩,
    ⟨(some 14), .pick (.tmp 10) (.tmp 13) (.c (.bool false)), none, []⟩,
    ⟨(some 6), .move (.tmp 14), none, []⟩]) k41x1
/-- provenance/insn.in -/
def c41 : AFn := ⟨15, [.tmp 6],
  .seq (.ops false [
    ⟨(some 6), .move (.c (.bool false)), none, []⟩]) k41x0⟩
theorem r41 (i0 : Int) (i1 : Int) (i2 : Int) (h : Heap) : runE M C c41 [(.int .i64 i0), (.int .i64 i1), (.int .i64 i2)] h = (
  letK ((decide ((i1 : Int) ≤ i0)) : Bool) fun b9 =>
  letK ((decide ((i0 : Int) ≤ i2)) : Bool) fun b13 =>
  letK ((if b9 = true then b13 else false) : Bool) fun b14 =>
  some ((.bool b14), h)
  ) := by kernel_rfl
theorem cf41 : cFn Try.prog 41 = some c41 := by kernel_rfl
theorem e41 (i0 : Int) (i1 : Int) (i2 : Int) (h : Heap) : E 41 [(.int .i64 i0), (.int .i64 i1), (.int .i64 i2)] h = (
  letK ((decide ((i1 : Int) ≤ i0)) : Bool) fun b9 =>
  letK ((decide ((i0 : Int) ≤ i2)) : Bool) fun b13 =>
  letK ((if b9 = true then b13 else false) : Bool) fun b14 =>
  some ((.bool b14), h)
  ) := (EV_eq (P := Try.prog) (T := T0) rfl cf41 [(.int .i64 i0), (.int .i64 i1), (.int .i64 i2)] h).trans (r41 mk0 E i0 i1 i2 h)
def k51x6 : AC := .join 28
def k51x5 : AC := .seq (.cond (.tmp 4)
   (.skip)
   (.ops false [
      ⟨(some 6), .bin .other .eql (.tmp 3) (.c (.int .i64 22)), none, []⟩,
      ⟨(some 4), .move (.tmp 6), none, []⟩])) k51x6
def k51x10 : AC := .ret
def k51x9 : AC := .seq (.mask 4) k51x10
def k51x25 : AC := .join 268
def k51x24 : AC := .seq (.cond (.tmp 8)
   (.skip)
   (.ops false [
      ⟨(some 16), .bin .other .eql (.tmp 3) (.c (.int .i64 15)), none, []⟩,
      ⟨(some 8), .move (.tmp 16), none, []⟩])) k51x25
def k51x23 : AC := .join 268
def k51x22 : AC := .seq (.cond (.tmp 8)
   (.skip)
   (.seq (.ops false [
      ⟨(some 15), .bin .other .eql (.tmp 3) (.c (.int .i64 7)), none, []⟩,
      ⟨(some 8), .move (.tmp 15), none, []⟩]) k51x24)) k51x23
def k51x21 : AC := .join 268
def k51x20 : AC := .seq (.cond (.tmp 8)
   (.skip)
   (.seq (.ops false [
      ⟨(some 14), .bin .other .eql (.tmp 3) (.c (.int .i64 6)), none, []⟩,
      ⟨(some 8), .move (.tmp 14), none, []⟩]) k51x22)) k51x21
def k51x19 : AC := .join 268
def k51x18 : AC := .seq (.cond (.tmp 8)
   (.skip)
   (.seq (.ops false [
      ⟨(some 13), .bin .other .eql (.tmp 3) (.c (.int .i64 5)), none, []⟩,
      ⟨(some 8), .move (.tmp 13), none, []⟩]) k51x20)) k51x19
def k51x17 : AC := .join 268
def k51x16 : AC := .seq (.cond (.tmp 8)
   (.skip)
   (.seq (.ops false [
      ⟨(some 12), .bin .other .eql (.tmp 3) (.c (.int .i64 4)), none, []⟩,
      ⟨(some 8), .move (.tmp 12), none, []⟩]) k51x18)) k51x17
def k51x15 : AC := .join 268
def k51x14 : AC := .seq (.cond (.tmp 8)
   (.skip)
   (.seq (.ops false [
      ⟨(some 11), .bin .other .eql (.tmp 3) (.c (.int .i64 3)), none, []⟩,
      ⟨(some 8), .move (.tmp 11), none, []⟩]) k51x16)) k51x15
def k51x13 : AC := .join 268
def k51x12 : AC := .seq (.cond (.tmp 8)
   (.skip)
   (.seq (.ops false [
      ⟨(some 10), .bin .other .eql (.tmp 3) (.c (.int .i64 2)), none, []⟩,
      ⟨(some 8), .move (.tmp 10), none, []⟩]) k51x14)) k51x13
def k51x35 : AC := .ret
def k51x34 : AC := .seq (.mask 4) k51x35
def k51x42 : AC := .join 262156
def k51x41 : AC := .seq (.cond (.tmp 18)
   (.skip)
   (.ops false [
      ⟨(some 22), .bin .other .eql (.tmp 3) (.c (.int .i64 12)), none, []⟩,
      ⟨(some 18), .move (.tmp 22), none, []⟩])) k51x42
def k51x40 : AC := .join 262156
def k51x39 : AC := .seq (.cond (.tmp 18)
   (.skip)
   (.seq (.ops false [
      ⟨(some 21), .bin .other .eql (.tmp 3) (.c (.int .i64 10)), none, []⟩,
      ⟨(some 18), .move (.tmp 21), none, []⟩]) k51x41)) k51x40
def k51x38 : AC := .join 262156
def k51x37 : AC := .seq (.cond (.tmp 18)
   (.skip)
   (.seq (.ops false [
      ⟨(some 20), .bin .other .eql (.tmp 3) (.c (.int .i64 9)), none, []⟩,
      ⟨(some 18), .move (.tmp 20), none, []⟩]) k51x39)) k51x38
def k51x48 : AC := .ret
def k51x47 : AC := .seq (.mask 4) k51x48
def k51x52 : AC := .ret
def k51x51 : AC := .seq (.mask 4) k51x52
def k51x59 : AC := .join 134217740
def k51x58 : AC := .seq (.cond (.tmp 27)
   (.skip)
   (.ops false [
      ⟨(some 31), .bin .other .eql (.tmp 3) (.c (.int .i64 18)), none, []⟩,
      ⟨(some 27), .move (.tmp 31), none, []⟩])) k51x59
def k51x57 : AC := .join 134217740
def k51x56 : AC := .seq (.cond (.tmp 27)
   (.skip)
   (.seq (.ops false [
      ⟨(some 30), .bin .other .eql (.tmp 3) (.c (.int .i64 17)), none, []⟩,
      ⟨(some 27), .move (.tmp 30), none, []⟩]) k51x58)) k51x57
def k51x55 : AC := .join 134217740
def k51x54 : AC := .seq (.cond (.tmp 27)
   (.skip)
   (.seq (.ops false [
      ⟨(some 29), .bin .other .eql (.tmp 3) (.c (.int .i64 16)), none, []⟩,
      ⟨(some 27), .move (.tmp 29), none, []⟩]) k51x56)) k51x55
def k51x65 : AC := .ret
def k51x64 : AC := .seq (.mask 4) k51x65
def k51x69 : AC := .ret
def k51x68 : AC := .seq (.mask 4) k51x69
def k51x74 : AC := .join 68719476740
def k51x73 : AC := .seq (.cond (.tmp 36)
   (.skip)
   (.ops false [
      ⟨(some 39), .bin .other .eql (.tmp 3) (.c (.int .i64 24)), none, []⟩,
      ⟨(some 36), .move (.tmp 39), none, []⟩])) k51x74
def k51x72 : AC := .join 68719476740
def k51x71 : AC := .seq (.cond (.tmp 36)
   (.skip)
   (.seq (.ops false [
      ⟨(some 38), .bin .other .eql (.tmp 3) (.c (.int .i64 20)), none, []⟩,
      ⟨(some 36), .move (.tmp 38), none, []⟩]) k51x73)) k51x72
def k51x79 : AC := .ret
def k51x78 : AC := .seq (.mask 4) k51x79
def k51x77 : AC := .mask 4
def k51x70 : AC := .seq (.cond (.tmp 36)
   (.seq (.ops false [
      ⟨(some 40), .build [(.bool false), (.bool false), (.bool false), (.bool false)] [(3, 1, (.c (.bool true)))], none, []⟩,
      ⟨none, .store 4 (.tmp 2) (.tmp 40), none, []⟩]) k51x78)
   (.skip)) k51x77
def k51x67 : AC := .mask 4
def k51x66 : AC := .seq (.cond (.tmp 33)
   (.seq (.ops false [
      ⟨(some 35), .build [(.bool false), (.bool false), (.bool false), (.bool false)] [(0, 1, (.c (.bool true))), (2, 1, (.c (.bool true))), (3, 1, (.c (.bool true)))], none, []⟩,
      ⟨none, .store 4 (.tmp 2) (.tmp 35), none, []⟩]) k51x68)
   (.seq (.seq (.ops false [
      ⟨(some 37), .bin .other .eql (.tmp 3) (.c (.int .i64 19)), none, []⟩,
      ⟨(some 36), .move (.tmp 37), none, []⟩]) k51x71) k51x70)) k51x67
def k51x63 : AC := .mask 4
def k51x53 : AC := .seq (.cond (.tmp 27)
   (.seq (.ops false [
      ⟨(some 32), .build [(.bool false), (.bool false), (.bool false), (.bool false)] [(1, 1, (.c (.bool true))), (2, 1, (.c (.bool true))), (3, 1, (.c (.bool true)))], none, []⟩,
      ⟨none, .store 4 (.tmp 2) (.tmp 32), none, []⟩]) k51x64)
   (.seq (.ops false [
      ⟨(some 34), .bin .other .eql (.tmp 3) (.c (.int .i64 14)), none, []⟩,
      ⟨(some 33), .move (.tmp 34), none, []⟩]) k51x66)) k51x63
def k51x50 : AC := .mask 4
def k51x49 : AC := .seq (.cond (.tmp 24)
   (.seq (.ops false [
      ⟨(some 26), .build [(.bool false), (.bool false), (.bool false), (.bool false)] [(0, 1, (.c (.bool true))), (3, 1, (.c (.bool true)))], none, []⟩,
      ⟨none, .store 4 (.tmp 2) (.tmp 26), none, []⟩]) k51x51)
   (.seq (.seq (.ops false [
      ⟨(some 28), .bin .other .eql (.tmp 3) (.c (.int .i64 13)), none, []⟩,
      ⟨(some 27), .move (.tmp 28), none, []⟩]) k51x54) k51x53)) k51x50
def k51x46 : AC := .mask 4
def k51x36 : AC := .seq (.cond (.tmp 18)
   (.seq (.ops false [
      ⟨(some 23), .build [(.bool false), (.bool false), (.bool false), (.bool false)] [(0, 1, (.c (.bool true))), (1, 1, (.c (.bool true))), (3, 1, (.c (.bool true)))], none, []⟩,
      ⟨none, .store 4 (.tmp 2) (.tmp 23), none, []⟩]) k51x47)
   (.seq (.ops false [
      ⟨(some 25), .bin .other .eql (.tmp 3) (.c (.int .i64 11)), none, []⟩,
      ⟨(some 24), .move (.tmp 25), none, []⟩]) k51x49)) k51x46
def k51x33 : AC := .mask 4
def k51x11 : AC := .seq (.cond (.tmp 8)
   (.seq (.ops false [
      ⟨(some 17), .build [(.bool false), (.bool false), (.bool false), (.bool false)] [(0, 1, (.c (.bool true))), (1, 1, (.c (.bool true))), (2, 1, (.c (.bool true)))], none, []⟩,
      ⟨none, .store 4 (.tmp 2) (.tmp 17), none, []⟩]) k51x34)
   (.seq (.seq (.ops false [
      ⟨(some 19), .bin .other .eql (.tmp 3) (.c (.int .i64 8)), none, []⟩,
      ⟨(some 18), .move (.tmp 19), none, []⟩]) k51x37) k51x36)) k51x33
def k51x8 : AC := .mask 4
def k51x4 : AC := .seq (.cond (.tmp 4)
   (.seq (.ops false [
      ⟨(some 7), .build [(.bool false), (.bool false), (.bool false), (.bool false)] [], none, []⟩,
      ⟨none, .store 4 (.tmp 2) (.tmp 7), none, []⟩]) k51x9)
   (.seq (.seq (.ops false [
      ⟨(some 9), .bin .other .eql (.tmp 3) (.c (.int .i64 1)), none, []⟩,
      ⟨(some 8), .move (.tmp 9), none, []⟩]) k51x12) k51x11)) k51x8
def k51x3 : AC := .mask 4
def k51x2 : AC := .seq (.block 0 (.seq (.seq (.ops false [
     ⟨(some 5), .bin .other .eql (.tmp 3) (.c (.int .i64 0)), none, []⟩,
     ⟨(some 4), .move (.tmp 5), none, []⟩]) k51x5) k51x4)) k51x3
def k51x81 : AC := .ret
def k51x80 : AC := .seq (.mask 4) k51x81
def k51x1 : AC := .seq (.ops false [
    ⟨(some 41), .build [(.bool false), (.bool false), (.bool false), (.bool false)] [(1, 1, (.c (.bool true)))], none, []⟩,
    ⟨none, .store 4 (.tmp 2) (.tmp 41), none, []⟩]) k51x80
def k51x0 : AC := .seq (.seq (.ops false [
    ⟨(some 3), .move (.tmp 0), none, []⟩]) k51x2) k51x1
/-- provenance/insn.used -/
def c51 : AFn := ⟨42, [.cell 2 (.agg [.bool, .bool, .bool, .bool])],
  .seq (.ops false [
    ⟨(some 2), .allocL [(.bool false), (.bool false), (.bool false), (.bool false)], none, []⟩]) k51x0⟩
noncomputable def J51x7 (b2x0 : Bool) (b2x1 : Bool) (b2x2 : Bool) (b2x3 : Bool) (i3 : Int) (b4 : Bool) (h : Heap) : Res := M (AV × Heap) (seqQ (evalE M C k51x4) (blockQ 0 (seqQ (evalE M C k51x3) (seqQ (evalE M C k51x1) (endQ [.cell 2 (.agg [.bool, .bool, .bool, .bool])]))))) (.any :: .any :: (.box [(.bool b2x0), (.bool b2x1), (.bool b2x2), (.bool b2x3)] :: (.g [] true (.int .i64 i3) :: (.g [] true (.bool b4) :: (rep 37 []))))) h
noncomputable def J51x32 (b2x0 : Bool) (b2x1 : Bool) (b2x2 : Bool) (b2x3 : Bool) (i3 : Int) (b8 : Bool) (h : Heap) : Res := M (AV × Heap) (seqQ (evalE M C k51x11) (seqQ (evalE M C k51x8) (blockQ 0 (seqQ (evalE M C k51x3) (seqQ (evalE M C k51x1) (endQ [.cell 2 (.agg [.bool, .bool, .bool, .bool])])))))) (.any :: .any :: (.box [(.bool b2x0), (.bool b2x1), (.bool b2x2), (.bool b2x3)] :: (.g [] true (.int .i64 i3) :: (rep 4 (.g [] true (.bool b8) :: (rep 33 [])))))) h
noncomputable def J51x31 (b2x0 : Bool) (b2x1 : Bool) (b2x2 : Bool) (b2x3 : Bool) (i3 : Int) (b8 : Bool) (h : Heap) : Res := M (AV × Heap) (seqQ (evalE M C k51x13) (seqQ (evalE M C k51x11) (seqQ (evalE M C k51x8) (blockQ 0 (seqQ (evalE M C k51x3) (seqQ (evalE M C k51x1) (endQ [.cell 2 (.agg [.bool, .bool, .bool, .bool])]))))))) (.any :: .any :: (.box [(.bool b2x0), (.bool b2x1), (.bool b2x2), (.bool b2x3)] :: (.g [] true (.int .i64 i3) :: (rep 4 (.g [] true (.bool b8) :: (rep 33 [])))))) h
noncomputable def J51x30 (b2x0 : Bool) (b2x1 : Bool) (b2x2 : Bool) (b2x3 : Bool) (i3 : Int) (b8 : Bool) (h : Heap) : Res := M (AV × Heap) (seqQ (evalE M C k51x15) (seqQ (evalE M C k51x13) (seqQ (evalE M C k51x11) (seqQ (evalE M C k51x8) (blockQ 0 (seqQ (evalE M C k51x3) (seqQ (evalE M C k51x1) (endQ [.cell 2 (.agg [.bool, .bool, .bool, .bool])])))))))) (.any :: .any :: (.box [(.bool b2x0), (.bool b2x1), (.bool b2x2), (.bool b2x3)] :: (.g [] true (.int .i64 i3) :: (rep 4 (.g [] true (.bool b8) :: (rep 33 [])))))) h
noncomputable def J51x29 (b2x0 : Bool) (b2x1 : Bool) (b2x2 : Bool) (b2x3 : Bool) (i3 : Int) (b8 : Bool) (h : Heap) : Res := M (AV × Heap) (seqQ (evalE M C k51x17) (seqQ (evalE M C k51x15) (seqQ (evalE M C k51x13) (seqQ (evalE M C k51x11) (seqQ (evalE M C k51x8) (blockQ 0 (seqQ (evalE M C k51x3) (seqQ (evalE M C k51x1) (endQ [.cell 2 (.agg [.bool, .bool, .bool, .bool])]))))))))) (.any :: .any :: (.box [(.bool b2x0), (.bool b2x1), (.bool b2x2), (.bool b2x3)] :: (.g [] true (.int .i64 i3) :: (rep 4 (.g [] true (.bool b8) :: (rep 33 [])))))) h
noncomputable def J51x28 (b2x0 : Bool) (b2x1 : Bool) (b2x2 : Bool) (b2x3 : Bool) (i3 : Int) (b8 : Bool) (h : Heap) : Res := M (AV × Heap) (seqQ (evalE M C k51x19) (seqQ (evalE M C k51x17) (seqQ (evalE M C k51x15) (seqQ (evalE M C k51x13) (seqQ (evalE M C k51x11) (seqQ (evalE M C k51x8) (blockQ 0 (seqQ (evalE M C k51x3) (seqQ (evalE M C k51x1) (endQ [.cell 2 (.agg [.bool, .bool, .bool, .bool])])))))))))) (.any :: .any :: (.box [(.bool b2x0), (.bool b2x1), (.bool b2x2), (.bool b2x3)] :: (.g [] true (.int .i64 i3) :: (rep 4 (.g [] true (.bool b8) :: (rep 33 [])))))) h
noncomputable def J51x27 (b2x0 : Bool) (b2x1 : Bool) (b2x2 : Bool) (b2x3 : Bool) (i3 : Int) (b8 : Bool) (h : Heap) : Res := M (AV × Heap) (seqQ (evalE M C k51x21) (seqQ (evalE M C k51x19) (seqQ (evalE M C k51x17) (seqQ (evalE M C k51x15) (seqQ (evalE M C k51x13) (seqQ (evalE M C k51x11) (seqQ (evalE M C k51x8) (blockQ 0 (seqQ (evalE M C k51x3) (seqQ (evalE M C k51x1) (endQ [.cell 2 (.agg [.bool, .bool, .bool, .bool])]))))))))))) (.any :: .any :: (.box [(.bool b2x0), (.bool b2x1), (.bool b2x2), (.bool b2x3)] :: (.g [] true (.int .i64 i3) :: (rep 4 (.g [] true (.bool b8) :: (rep 33 [])))))) h
noncomputable def J51x26 (b2x0 : Bool) (b2x1 : Bool) (b2x2 : Bool) (b2x3 : Bool) (i3 : Int) (b8 : Bool) (h : Heap) : Res := M (AV × Heap) (seqQ (evalE M C k51x23) (seqQ (evalE M C k51x21) (seqQ (evalE M C k51x19) (seqQ (evalE M C k51x17) (seqQ (evalE M C k51x15) (seqQ (evalE M C k51x13) (seqQ (evalE M C k51x11) (seqQ (evalE M C k51x8) (blockQ 0 (seqQ (evalE M C k51x3) (seqQ (evalE M C k51x1) (endQ [.cell 2 (.agg [.bool, .bool, .bool, .bool])])))))))))))) (.any :: .any :: (.box [(.bool b2x0), (.bool b2x1), (.bool b2x2), (.bool b2x3)] :: (.g [] true (.int .i64 i3) :: (rep 4 (.g [] true (.bool b8) :: (rep 33 [])))))) h
noncomputable def J51x45 (b2x0 : Bool) (b2x1 : Bool) (b2x2 : Bool) (b2x3 : Bool) (i3 : Int) (b18 : Bool) (h : Heap) : Res := M (AV × Heap) (seqQ (evalE M C k51x36) (seqQ (evalE M C k51x33) (seqQ (evalE M C k51x8) (blockQ 0 (seqQ (evalE M C k51x3) (seqQ (evalE M C k51x1) (endQ [.cell 2 (.agg [.bool, .bool, .bool, .bool])]))))))) (.any :: .any :: (.box [(.bool b2x0), (.bool b2x1), (.bool b2x2), (.bool b2x3)] :: (.g [] true (.int .i64 i3) :: (rep 14 (.g [] true (.bool b18) :: (rep 23 [])))))) h
noncomputable def J51x44 (b2x0 : Bool) (b2x1 : Bool) (b2x2 : Bool) (b2x3 : Bool) (i3 : Int) (b18 : Bool) (h : Heap) : Res := M (AV × Heap) (seqQ (evalE M C k51x38) (seqQ (evalE M C k51x36) (seqQ (evalE M C k51x33) (seqQ (evalE M C k51x8) (blockQ 0 (seqQ (evalE M C k51x3) (seqQ (evalE M C k51x1) (endQ [.cell 2 (.agg [.bool, .bool, .bool, .bool])])))))))) (.any :: .any :: (.box [(.bool b2x0), (.bool b2x1), (.bool b2x2), (.bool b2x3)] :: (.g [] true (.int .i64 i3) :: (rep 14 (.g [] true (.bool b18) :: (rep 23 [])))))) h
noncomputable def J51x43 (b2x0 : Bool) (b2x1 : Bool) (b2x2 : Bool) (b2x3 : Bool) (i3 : Int) (b18 : Bool) (h : Heap) : Res := M (AV × Heap) (seqQ (evalE M C k51x40) (seqQ (evalE M C k51x38) (seqQ (evalE M C k51x36) (seqQ (evalE M C k51x33) (seqQ (evalE M C k51x8) (blockQ 0 (seqQ (evalE M C k51x3) (seqQ (evalE M C k51x1) (endQ [.cell 2 (.agg [.bool, .bool, .bool, .bool])]))))))))) (.any :: .any :: (.box [(.bool b2x0), (.bool b2x1), (.bool b2x2), (.bool b2x3)] :: (.g [] true (.int .i64 i3) :: (rep 14 (.g [] true (.bool b18) :: (rep 23 [])))))) h
noncomputable def J51x62 (b2x0 : Bool) (b2x1 : Bool) (b2x2 : Bool) (b2x3 : Bool) (i3 : Int) (b27 : Bool) (h : Heap) : Res := M (AV × Heap) (seqQ (evalE M C k51x53) (seqQ (evalE M C k51x50) (seqQ (evalE M C k51x46) (seqQ (evalE M C k51x33) (seqQ (evalE M C k51x8) (blockQ 0 (seqQ (evalE M C k51x3) (seqQ (evalE M C k51x1) (endQ [.cell 2 (.agg [.bool, .bool, .bool, .bool])]))))))))) (.any :: .any :: (.box [(.bool b2x0), (.bool b2x1), (.bool b2x2), (.bool b2x3)] :: (.g [] true (.int .i64 i3) :: (rep 23 (.g [] true (.bool b27) :: (rep 14 [])))))) h
noncomputable def J51x61 (b2x0 : Bool) (b2x1 : Bool) (b2x2 : Bool) (b2x3 : Bool) (i3 : Int) (b27 : Bool) (h : Heap) : Res := M (AV × Heap) (seqQ (evalE M C k51x55) (seqQ (evalE M C k51x53) (seqQ (evalE M C k51x50) (seqQ (evalE M C k51x46) (seqQ (evalE M C k51x33) (seqQ (evalE M C k51x8) (blockQ 0 (seqQ (evalE M C k51x3) (seqQ (evalE M C k51x1) (endQ [.cell 2 (.agg [.bool, .bool, .bool, .bool])])))))))))) (.any :: .any :: (.box [(.bool b2x0), (.bool b2x1), (.bool b2x2), (.bool b2x3)] :: (.g [] true (.int .i64 i3) :: (rep 23 (.g [] true (.bool b27) :: (rep 14 [])))))) h
noncomputable def J51x60 (b2x0 : Bool) (b2x1 : Bool) (b2x2 : Bool) (b2x3 : Bool) (i3 : Int) (b27 : Bool) (h : Heap) : Res := M (AV × Heap) (seqQ (evalE M C k51x57) (seqQ (evalE M C k51x55) (seqQ (evalE M C k51x53) (seqQ (evalE M C k51x50) (seqQ (evalE M C k51x46) (seqQ (evalE M C k51x33) (seqQ (evalE M C k51x8) (blockQ 0 (seqQ (evalE M C k51x3) (seqQ (evalE M C k51x1) (endQ [.cell 2 (.agg [.bool, .bool, .bool, .bool])]))))))))))) (.any :: .any :: (.box [(.bool b2x0), (.bool b2x1), (.bool b2x2), (.bool b2x3)] :: (.g [] true (.int .i64 i3) :: (rep 23 (.g [] true (.bool b27) :: (rep 14 [])))))) h
noncomputable def J51x76 (b2x0 : Bool) (b2x1 : Bool) (b2x2 : Bool) (b2x3 : Bool) (b36 : Bool) (h : Heap) : Res := M (AV × Heap) (seqQ (evalE M C k51x70) (seqQ (evalE M C k51x67) (seqQ (evalE M C k51x63) (seqQ (evalE M C k51x50) (seqQ (evalE M C k51x46) (seqQ (evalE M C k51x33) (seqQ (evalE M C k51x8) (blockQ 0 (seqQ (evalE M C k51x3) (seqQ (evalE M C k51x1) (endQ [.cell 2 (.agg [.bool, .bool, .bool, .bool])]))))))))))) (.any :: .any :: (.box [(.bool b2x0), (.bool b2x1), (.bool b2x2), (.bool b2x3)] :: (rep 33 (.g [] true (.bool b36) :: (rep 5 []))))) h
noncomputable def J51x75 (b2x0 : Bool) (b2x1 : Bool) (b2x2 : Bool) (b2x3 : Bool) (b36 : Bool) (h : Heap) : Res := M (AV × Heap) (seqQ (evalE M C k51x72) (seqQ (evalE M C k51x70) (seqQ (evalE M C k51x67) (seqQ (evalE M C k51x63) (seqQ (evalE M C k51x50) (seqQ (evalE M C k51x46) (seqQ (evalE M C k51x33) (seqQ (evalE M C k51x8) (blockQ 0 (seqQ (evalE M C k51x3) (seqQ (evalE M C k51x1) (endQ [.cell 2 (.agg [.bool, .bool, .bool, .bool])])))))))))))) (.any :: .any :: (.box [(.bool b2x0), (.bool b2x1), (.bool b2x2), (.bool b2x3)] :: (rep 33 (.g [] true (.bool b36) :: (rep 5 []))))) h
theorem r51 (i0 : Int) (h : Heap) : runE M C c51 [(.int .i64 i0)] h = (
  letK ((decide ((i0 : Int) = 0)) : Bool) fun b5 =>
  if b5 = true then
    (
    J51x7 M C false false false false i0 b5 h
    )
  else
    (
    letK ((decide ((i0 : Int) = 22)) : Bool) fun b6 =>
    J51x7 M C false false false false i0 b6 h
    )
  ) := by kernel_rfl
theorem cf51 : cFn Try.prog 51 = some c51 := by kernel_rfl
theorem e51 (i0 : Int) (h : Heap) : E 51 [(.int .i64 i0)] h = (
  letK ((decide ((i0 : Int) = 0)) : Bool) fun b5 =>
  if b5 = true then
    (
    J51x7 mk0 E false false false false i0 b5 h
    )
  else
    (
    letK ((decide ((i0 : Int) = 22)) : Bool) fun b6 =>
    J51x7 mk0 E false false false false i0 b6 h
    )
  ) := (EV_eq (P := Try.prog) (T := T0) rfl cf51 [(.int .i64 i0)] h).trans (r51 mk0 E i0 h)
theorem J51x7xaux (b2x0 : Bool) (b2x1 : Bool) (b2x2 : Bool) (b2x3 : Bool) (i3 : Int) (b4 : Bool) (h : Heap) : (forceK tk (.any :: .any :: (.box [(.bool b2x0), (.bool b2x1), (.bool b2x2), (.bool b2x3)] :: (.g [] true (.int .i64 i3) :: (.g [] true (.bool b4) :: (rep 37 []))))) fun e => (seqQ (evalE M C k51x4) (blockQ 0 (seqQ (evalE M C k51x3) (seqQ (evalE M C k51x1) (endQ [.cell 2 (.agg [.bool, .bool, .bool, .bool])]))))) .normal ⟨e, h⟩) = (
  if b4 = true then
    (
    some ((.agg [(.bool false), (.bool false), (.bool false), (.bool false)]), h)
    )
  else
    (
    letK ((decide ((i3 : Int) = 1)) : Bool) fun b9 =>
    if b9 = true then
      (
      J51x32 M C b2x0 b2x1 b2x2 b2x3 i3 b9 h
      )
    else
      (
      letK ((decide ((i3 : Int) = 2)) : Bool) fun b10 =>
      if b10 = true then
        (
        J51x31 M C b2x0 b2x1 b2x2 b2x3 i3 b10 h
        )
      else
        (
        letK ((decide ((i3 : Int) = 3)) : Bool) fun b11 =>
        if b11 = true then
          (
          J51x30 M C b2x0 b2x1 b2x2 b2x3 i3 b11 h
          )
        else
          (
          letK ((decide ((i3 : Int) = 4)) : Bool) fun b12 =>
          if b12 = true then
            (
            J51x29 M C b2x0 b2x1 b2x2 b2x3 i3 b12 h
            )
          else
            (
            letK ((decide ((i3 : Int) = 5)) : Bool) fun b13 =>
            if b13 = true then
              (
              J51x28 M C b2x0 b2x1 b2x2 b2x3 i3 b13 h
              )
            else
              (
              letK ((decide ((i3 : Int) = 6)) : Bool) fun b14 =>
              if b14 = true then
                (
                J51x27 M C b2x0 b2x1 b2x2 b2x3 i3 b14 h
                )
              else
                (
                letK ((decide ((i3 : Int) = 7)) : Bool) fun b15 =>
                if b15 = true then
                  (
                  J51x26 M C b2x0 b2x1 b2x2 b2x3 i3 b15 h
                  )
                else
                  (
                  letK ((decide ((i3 : Int) = 15)) : Bool) fun b16 =>
                  J51x26 M C b2x0 b2x1 b2x2 b2x3 i3 b16 h
                  )
                )
              )
            )
          )
        )
      )
    )
  ) := by kernel_rfl
theorem J51x7xeq (b2x0 : Bool) (b2x1 : Bool) (b2x2 : Bool) (b2x3 : Bool) (i3 : Int) (b4 : Bool) (h : Heap) : J51x7 mk0 C b2x0 b2x1 b2x2 b2x3 i3 b4 h = (
  if b4 = true then
    (
    some ((.agg [(.bool false), (.bool false), (.bool false), (.bool false)]), h)
    )
  else
    (
    letK ((decide ((i3 : Int) = 1)) : Bool) fun b9 =>
    if b9 = true then
      (
      J51x32 mk0 C b2x0 b2x1 b2x2 b2x3 i3 b9 h
      )
    else
      (
      letK ((decide ((i3 : Int) = 2)) : Bool) fun b10 =>
      if b10 = true then
        (
        J51x31 mk0 C b2x0 b2x1 b2x2 b2x3 i3 b10 h
        )
      else
        (
        letK ((decide ((i3 : Int) = 3)) : Bool) fun b11 =>
        if b11 = true then
          (
          J51x30 mk0 C b2x0 b2x1 b2x2 b2x3 i3 b11 h
          )
        else
          (
          letK ((decide ((i3 : Int) = 4)) : Bool) fun b12 =>
          if b12 = true then
            (
            J51x29 mk0 C b2x0 b2x1 b2x2 b2x3 i3 b12 h
            )
          else
            (
            letK ((decide ((i3 : Int) = 5)) : Bool) fun b13 =>
            if b13 = true then
              (
              J51x28 mk0 C b2x0 b2x1 b2x2 b2x3 i3 b13 h
              )
            else
              (
              letK ((decide ((i3 : Int) = 6)) : Bool) fun b14 =>
              if b14 = true then
                (
                J51x27 mk0 C b2x0 b2x1 b2x2 b2x3 i3 b14 h
                )
              else
                (
                letK ((decide ((i3 : Int) = 7)) : Bool) fun b15 =>
                if b15 = true then
                  (
                  J51x26 mk0 C b2x0 b2x1 b2x2 b2x3 i3 b15 h
                  )
                else
                  (
                  letK ((decide ((i3 : Int) = 15)) : Bool) fun b16 =>
                  J51x26 mk0 C b2x0 b2x1 b2x2 b2x3 i3 b16 h
                  )
                )
              )
            )
          )
        )
      )
    )
  ) := join_eqn (seqQ (evalE mk0 C k51x4) (blockQ 0 (seqQ (evalE mk0 C k51x3) (seqQ (evalE mk0 C k51x1) (endQ [.cell 2 (.agg [.bool, .bool, .bool, .bool])]))))) (.any :: .any :: (.box [(.bool b2x0), (.bool b2x1), (.bool b2x2), (.bool b2x3)] :: (.g [] true (.int .i64 i3) :: (.g [] true (.bool b4) :: (rep 37 []))))) h (J51x7xaux mk0 C b2x0 b2x1 b2x2 b2x3 i3 b4 h)
theorem J51x32xaux (b2x0 : Bool) (b2x1 : Bool) (b2x2 : Bool) (b2x3 : Bool) (i3 : Int) (b8 : Bool) (h : Heap) : (forceK tk (.any :: .any :: (.box [(.bool b2x0), (.bool b2x1), (.bool b2x2), (.bool b2x3)] :: (.g [] true (.int .i64 i3) :: (rep 4 (.g [] true (.bool b8) :: (rep 33 [])))))) fun e => (seqQ (evalE M C k51x11) (seqQ (evalE M C k51x8) (blockQ 0 (seqQ (evalE M C k51x3) (seqQ (evalE M C k51x1) (endQ [.cell 2 (.agg [.bool, .bool, .bool, .bool])])))))) .normal ⟨e, h⟩) = (
  if b8 = true then
    (
    some ((.agg [(.bool true), (.bool true), (.bool true), (.bool false)]), h)
    )
  else
    (
    letK ((decide ((i3 : Int) = 8)) : Bool) fun b19 =>
    if b19 = true then
      (
      J51x45 M C b2x0 b2x1 b2x2 b2x3 i3 b19 h
      )
    else
      (
      letK ((decide ((i3 : Int) = 9)) : Bool) fun b20 =>
      if b20 = true then
        (
        J51x44 M C b2x0 b2x1 b2x2 b2x3 i3 b20 h
        )
      else
        (
        letK ((decide ((i3 : Int) = 10)) : Bool) fun b21 =>
        if b21 = true then
          (
          J51x43 M C b2x0 b2x1 b2x2 b2x3 i3 b21 h
          )
        else
          (
          letK ((decide ((i3 : Int) = 12)) : Bool) fun b22 =>
          J51x43 M C b2x0 b2x1 b2x2 b2x3 i3 b22 h
          )
        )
      )
    )
  ) := by kernel_rfl
theorem J51x32xeq (b2x0 : Bool) (b2x1 : Bool) (b2x2 : Bool) (b2x3 : Bool) (i3 : Int) (b8 : Bool) (h : Heap) : J51x32 mk0 C b2x0 b2x1 b2x2 b2x3 i3 b8 h = (
  if b8 = true then
    (
    some ((.agg [(.bool true), (.bool true), (.bool true), (.bool false)]), h)
    )
  else
    (
    letK ((decide ((i3 : Int) = 8)) : Bool) fun b19 =>
    if b19 = true then
      (
      J51x45 mk0 C b2x0 b2x1 b2x2 b2x3 i3 b19 h
      )
    else
      (
      letK ((decide ((i3 : Int) = 9)) : Bool) fun b20 =>
      if b20 = true then
        (
        J51x44 mk0 C b2x0 b2x1 b2x2 b2x3 i3 b20 h
        )
      else
        (
        letK ((decide ((i3 : Int) = 10)) : Bool) fun b21 =>
        if b21 = true then
          (
          J51x43 mk0 C b2x0 b2x1 b2x2 b2x3 i3 b21 h
          )
        else
          (
          letK ((decide ((i3 : Int) = 12)) : Bool) fun b22 =>
          J51x43 mk0 C b2x0 b2x1 b2x2 b2x3 i3 b22 h
          )
        )
      )
    )
  ) := join_eqn (seqQ (evalE mk0 C k51x11) (seqQ (evalE mk0 C k51x8) (blockQ 0 (seqQ (evalE mk0 C k51x3) (seqQ (evalE mk0 C k51x1) (endQ [.cell 2 (.agg [.bool, .bool, .bool, .bool])])))))) (.any :: .any :: (.box [(.bool b2x0), (.bool b2x1), (.bool b2x2), (.bool b2x3)] :: (.g [] true (.int .i64 i3) :: (rep 4 (.g [] true (.bool b8) :: (rep 33 [])))))) h (J51x32xaux mk0 C b2x0 b2x1 b2x2 b2x3 i3 b8 h)
theorem J51x31xaux (b2x0 : Bool) (b2x1 : Bool) (b2x2 : Bool) (b2x3 : Bool) (i3 : Int) (b8 : Bool) (h : Heap) : (forceK tk (.any :: .any :: (.box [(.bool b2x0), (.bool b2x1), (.bool b2x2), (.bool b2x3)] :: (.g [] true (.int .i64 i3) :: (rep 4 (.g [] true (.bool b8) :: (rep 33 [])))))) fun e => (seqQ (evalE M C k51x13) (seqQ (evalE M C k51x11) (seqQ (evalE M C k51x8) (blockQ 0 (seqQ (evalE M C k51x3) (seqQ (evalE M C k51x1) (endQ [.cell 2 (.agg [.bool, .bool, .bool, .bool])]))))))) .normal ⟨e, h⟩) = (
  J51x32 M C b2x0 b2x1 b2x2 b2x3 i3 b8 h
  ) := by kernel_rfl
theorem J51x31xeq (b2x0 : Bool) (b2x1 : Bool) (b2x2 : Bool) (b2x3 : Bool) (i3 : Int) (b8 : Bool) (h : Heap) : J51x31 mk0 C b2x0 b2x1 b2x2 b2x3 i3 b8 h = (
  J51x32 mk0 C b2x0 b2x1 b2x2 b2x3 i3 b8 h
  ) := join_eqn (seqQ (evalE mk0 C k51x13) (seqQ (evalE mk0 C k51x11) (seqQ (evalE mk0 C k51x8) (blockQ 0 (seqQ (evalE mk0 C k51x3) (seqQ (evalE mk0 C k51x1) (endQ [.cell 2 (.agg [.bool, .bool, .bool, .bool])]))))))) (.any :: .any :: (.box [(.bool b2x0), (.bool b2x1), (.bool b2x2), (.bool b2x3)] :: (.g [] true (.int .i64 i3) :: (rep 4 (.g [] true (.bool b8) :: (rep 33 [])))))) h (J51x31xaux mk0 C b2x0 b2x1 b2x2 b2x3 i3 b8 h)
theorem J51x30xaux (b2x0 : Bool) (b2x1 : Bool) (b2x2 : Bool) (b2x3 : Bool) (i3 : Int) (b8 : Bool) (h : Heap) : (forceK tk (.any :: .any :: (.box [(.bool b2x0), (.bool b2x1), (.bool b2x2), (.bool b2x3)] :: (.g [] true (.int .i64 i3) :: (rep 4 (.g [] true (.bool b8) :: (rep 33 [])))))) fun e => (seqQ (evalE M C k51x15) (seqQ (evalE M C k51x13) (seqQ (evalE M C k51x11) (seqQ (evalE M C k51x8) (blockQ 0 (seqQ (evalE M C k51x3) (seqQ (evalE M C k51x1) (endQ [.cell 2 (.agg [.bool, .bool, .bool, .bool])])))))))) .normal ⟨e, h⟩) = (
  J51x31 M C b2x0 b2x1 b2x2 b2x3 i3 b8 h
  ) := by kernel_rfl
theorem J51x30xeq (b2x0 : Bool) (b2x1 : Bool) (b2x2 : Bool) (b2x3 : Bool) (i3 : Int) (b8 : Bool) (h : Heap) : J51x30 mk0 C b2x0 b2x1 b2x2 b2x3 i3 b8 h = (
  J51x31 mk0 C b2x0 b2x1 b2x2 b2x3 i3 b8 h
  ) := join_eqn (seqQ (evalE mk0 C k51x15) (seqQ (evalE mk0 C k51x13) (seqQ (evalE mk0 C k51x11) (seqQ (evalE mk0 C k51x8) (blockQ 0 (seqQ (evalE mk0 C k51x3) (seqQ (evalE mk0 C k51x1) (endQ [.cell 2 (.agg [.bool, .bool, .bool, .bool])])))))))) (.any :: .any :: (.box [(.bool b2x0), (.bool b2x1), (.bool b2x2), (.bool b2x3)] :: (.g [] true (.int .i64 i3) :: (rep 4 (.g [] true (.bool b8) :: (rep 33 [])))))) h (J51x30xaux mk0 C b2x0 b2x1 b2x2 b2x3 i3 b8 h)
theorem J51x29xaux (b2x0 : Bool) (b2x1 : Bool) (b2x2 : Bool) (b2x3 : Bool) (i3 : Int) (b8 : Bool) (h : Heap) : (forceK tk (.any :: .any :: (.box [(.bool b2x0), (.bool b2x1), (.bool b2x2), (.bool b2x3)] :: (.g [] true (.int .i64 i3) :: (rep 4 (.g [] true (.bool b8) :: (rep 33 [])))))) fun e => (seqQ (evalE M C k51x17) (seqQ (evalE M C k51x15) (seqQ (evalE M C k51x13) (seqQ (evalE M C k51x11) (seqQ (evalE M C k51x8) (blockQ 0 (seqQ (evalE M C k51x3) (seqQ (evalE M C k51x1) (endQ [.cell 2 (.agg [.bool, .bool, .bool, .bool])]))))))))) .normal ⟨e, h⟩) = (
  J51x30 M C b2x0 b2x1 b2x2 b2x3 i3 b8 h
  ) := by kernel_rfl
theorem J51x29xeq (b2x0 : Bool) (b2x1 : Bool) (b2x2 : Bool) (b2x3 : Bool) (i3 : Int) (b8 : Bool) (h : Heap) : J51x29 mk0 C b2x0 b2x1 b2x2 b2x3 i3 b8 h = (
  J51x30 mk0 C b2x0 b2x1 b2x2 b2x3 i3 b8 h
  ) := join_eqn (seqQ (evalE mk0 C k51x17) (seqQ (evalE mk0 C k51x15) (seqQ (evalE mk0 C k51x13) (seqQ (evalE mk0 C k51x11) (seqQ (evalE mk0 C k51x8) (blockQ 0 (seqQ (evalE mk0 C k51x3) (seqQ (evalE mk0 C k51x1) (endQ [.cell 2 (.agg [.bool, .bool, .bool, .bool])]))))))))) (.any :: .any :: (.box [(.bool b2x0), (.bool b2x1), (.bool b2x2), (.bool b2x3)] :: (.g [] true (.int .i64 i3) :: (rep 4 (.g [] true (.bool b8) :: (rep 33 [])))))) h (J51x29xaux mk0 C b2x0 b2x1 b2x2 b2x3 i3 b8 h)
theorem J51x28xaux (b2x0 : Bool) (b2x1 : Bool) (b2x2 : Bool) (b2x3 : Bool) (i3 : Int) (b8 : Bool) (h : Heap) : (forceK tk (.any :: .any :: (.box [(.bool b2x0), (.bool b2x1), (.bool b2x2), (.bool b2x3)] :: (.g [] true (.int .i64 i3) :: (rep 4 (.g [] true (.bool b8) :: (rep 33 [])))))) fun e => (seqQ (evalE M C k51x19) (seqQ (evalE M C k51x17) (seqQ (evalE M C k51x15) (seqQ (evalE M C k51x13) (seqQ (evalE M C k51x11) (seqQ (evalE M C k51x8) (blockQ 0 (seqQ (evalE M C k51x3) (seqQ (evalE M C k51x1) (endQ [.cell 2 (.agg [.bool, .bool, .bool, .bool])])))))))))) .normal ⟨e, h⟩) = (
  J51x29 M C b2x0 b2x1 b2x2 b2x3 i3 b8 h
  ) := by kernel_rfl
theorem J51x28xeq (b2x0 : Bool) (b2x1 : Bool) (b2x2 : Bool) (b2x3 : Bool) (i3 : Int) (b8 : Bool) (h : Heap) : J51x28 mk0 C b2x0 b2x1 b2x2 b2x3 i3 b8 h = (
  J51x29 mk0 C b2x0 b2x1 b2x2 b2x3 i3 b8 h
  ) := join_eqn (seqQ (evalE mk0 C k51x19) (seqQ (evalE mk0 C k51x17) (seqQ (evalE mk0 C k51x15) (seqQ (evalE mk0 C k51x13) (seqQ (evalE mk0 C k51x11) (seqQ (evalE mk0 C k51x8) (blockQ 0 (seqQ (evalE mk0 C k51x3) (seqQ (evalE mk0 C k51x1) (endQ [.cell 2 (.agg [.bool, .bool, .bool, .bool])])))))))))) (.any :: .any :: (.box [(.bool b2x0), (.bool b2x1), (.bool b2x2), (.bool b2x3)] :: (.g [] true (.int .i64 i3) :: (rep 4 (.g [] true (.bool b8) :: (rep 33 [])))))) h (J51x28xaux mk0 C b2x0 b2x1 b2x2 b2x3 i3 b8 h)
theorem J51x27xaux (b2x0 : Bool) (b2x1 : Bool) (b2x2 : Bool) (b2x3 : Bool) (i3 : Int) (b8 : Bool) (h : Heap) : (forceK tk (.any :: .any :: (.box [(.bool b2x0), (.bool b2x1), (.bool b2x2), (.bool b2x3)] :: (.g [] true (.int .i64 i3) :: (rep 4 (.g [] true (.bool b8) :: (rep 33 [])))))) fun e => (seqQ (evalE M C k51x21) (seqQ (evalE M C k51x19) (seqQ (evalE M C k51x17) (seqQ (evalE M C k51x15) (seqQ (evalE M C k51x13) (seqQ (evalE M C k51x11) (seqQ (evalE M C k51x8) (blockQ 0 (seqQ (evalE M C k51x3) (seqQ (evalE M C k51x1) (endQ [.cell 2 (.agg [.bool, .bool, .bool, .bool])]))))))))))) .normal ⟨e, h⟩) = (
  J51x28 M C b2x0 b2x1 b2x2 b2x3 i3 b8 h
  ) := by kernel_rfl
theorem J51x27xeq (b2x0 : Bool) (b2x1 : Bool) (b2x2 : Bool) (b2x3 : Bool) (i3 : Int) (b8 : Bool) (h : Heap) : J51x27 mk0 C b2x0 b2x1 b2x2 b2x3 i3 b8 h = (
  J51x28 mk0 C b2x0 b2x1 b2x2 b2x3 i3 b8 h
  ) := join_eqn (seqQ (evalE mk0 C k51x21) (seqQ (evalE mk0 C k51x19) (seqQ (evalE mk0 C k51x17) (seqQ (evalE mk0 C k51x15) (seqQ (evalE mk0 C k51x13) (seqQ (evalE mk0 C k51x11) (seqQ (evalE mk0 C k51x8) (blockQ 0 (seqQ (evalE mk0 C k51x3) (seqQ (evalE mk0 C k51x1) (endQ [.cell 2 (.agg [.bool, .bool, .bool, .bool])]))))))))))) (.any :: .any :: (.box [(.bool b2x0), (.bool b2x1), (.bool b2x2), (.bool b2x3)] :: (.g [] true (.int .i64 i3) :: (rep 4 (.g [] true (.bool b8) :: (rep 33 [])))))) h (J51x27xaux mk0 C b2x0 b2x1 b2x2 b2x3 i3 b8 h)
theorem J51x26xaux (b2x0 : Bool) (b2x1 : Bool) (b2x2 : Bool) (b2x3 : Bool) (i3 : Int) (b8 : Bool) (h : Heap) : (forceK tk (.any :: .any :: (.box [(.bool b2x0), (.bool b2x1), (.bool b2x2), (.bool b2x3)] :: (.g [] true (.int .i64 i3) :: (rep 4 (.g [] true (.bool b8) :: (rep 33 [])))))) fun e => (seqQ (evalE M C k51x23) (seqQ (evalE M C k51x21) (seqQ (evalE M C k51x19) (seqQ (evalE M C k51x17) (seqQ (evalE M C k51x15) (seqQ (evalE M C k51x13) (seqQ (evalE M C k51x11) (seqQ (evalE M C k51x8) (blockQ 0 (seqQ (evalE M C k51x3) (seqQ (evalE M C k51x1) (endQ [.cell 2 (.agg [.bool, .bool, .bool, .bool])])))))))))))) .normal ⟨e, h⟩) = (
  J51x27 M C b2x0 b2x1 b2x2 b2x3 i3 b8 h
  ) := by kernel_rfl
theorem J51x26xeq (b2x0 : Bool) (b2x1 : Bool) (b2x2 : Bool) (b2x3 : Bool) (i3 : Int) (b8 : Bool) (h : Heap) : J51x26 mk0 C b2x0 b2x1 b2x2 b2x3 i3 b8 h = (
  J51x27 mk0 C b2x0 b2x1 b2x2 b2x3 i3 b8 h
  ) := join_eqn (seqQ (evalE mk0 C k51x23) (seqQ (evalE mk0 C k51x21) (seqQ (evalE mk0 C k51x19) (seqQ (evalE mk0 C k51x17) (seqQ (evalE mk0 C k51x15) (seqQ (evalE mk0 C k51x13) (seqQ (evalE mk0 C k51x11) (seqQ (evalE mk0 C k51x8) (blockQ 0 (seqQ (evalE mk0 C k51x3) (seqQ (evalE mk0 C k51x1) (endQ [.cell 2 (.agg [.bool, .bool, .bool, .bool])])))))))))))) (.any :: .any :: (.box [(.bool b2x0), (.bool b2x1), (.bool b2x2), (.bool b2x3)] :: (.g [] true (.int .i64 i3) :: (rep 4 (.g [] true (.bool b8) :: (rep 33 [])))))) h (J51x26xaux mk0 C b2x0 b2x1 b2x2 b2x3 i3 b8 h)
theorem J51x45xaux (b2x0 : Bool) (b2x1 : Bool) (b2x2 : Bool) (b2x3 : Bool) (i3 : Int) (b18 : Bool) (h : Heap) : (forceK tk (.any :: .any :: (.box [(.bool b2x0), (.bool b2x1), (.bool b2x2), (.bool b2x3)] :: (.g [] true (.int .i64 i3) :: (rep 14 (.g [] true (.bool b18) :: (rep 23 [])))))) fun e => (seqQ (evalE M C k51x36) (seqQ (evalE M C k51x33) (seqQ (evalE M C k51x8) (blockQ 0 (seqQ (evalE M C k51x3) (seqQ (evalE M C k51x1) (endQ [.cell 2 (.agg [.bool, .bool, .bool, .bool])]))))))) .normal ⟨e, h⟩) = (
  if b18 = true then
    (
    some ((.agg [(.bool true), (.bool true), (.bool false), (.bool true)]), h)
    )
  else
    (
    letK ((decide ((i3 : Int) = 11)) : Bool) fun b25 =>
    if b25 = true then
      (
      some ((.agg [(.bool true), (.bool false), (.bool false), (.bool true)]), h)
      )
    else
      (
      letK ((decide ((i3 : Int) = 13)) : Bool) fun b28 =>
      if b28 = true then
        (
        J51x62 M C b2x0 b2x1 b2x2 b2x3 i3 b28 h
        )
      else
        (
        letK ((decide ((i3 : Int) = 16)) : Bool) fun b29 =>
        if b29 = true then
          (
          J51x61 M C b2x0 b2x1 b2x2 b2x3 i3 b29 h
          )
        else
          (
          letK ((decide ((i3 : Int) = 17)) : Bool) fun b30 =>
          if b30 = true then
            (
            J51x60 M C b2x0 b2x1 b2x2 b2x3 i3 b30 h
            )
          else
            (
            letK ((decide ((i3 : Int) = 18)) : Bool) fun b31 =>
            J51x60 M C b2x0 b2x1 b2x2 b2x3 i3 b31 h
            )
          )
        )
      )
    )
  ) := by kernel_rfl
theorem J51x45xeq (b2x0 : Bool) (b2x1 : Bool) (b2x2 : Bool) (b2x3 : Bool) (i3 : Int) (b18 : Bool) (h : Heap) : J51x45 mk0 C b2x0 b2x1 b2x2 b2x3 i3 b18 h = (
  if b18 = true then
    (
    some ((.agg [(.bool true), (.bool true), (.bool false), (.bool true)]), h)
    )
  else
    (
    letK ((decide ((i3 : Int) = 11)) : Bool) fun b25 =>
    if b25 = true then
      (
      some ((.agg [(.bool true), (.bool false), (.bool false), (.bool true)]), h)
      )
    else
      (
      letK ((decide ((i3 : Int) = 13)) : Bool) fun b28 =>
      if b28 = true then
        (
        J51x62 mk0 C b2x0 b2x1 b2x2 b2x3 i3 b28 h
        )
      else
        (
        letK ((decide ((i3 : Int) = 16)) : Bool) fun b29 =>
        if b29 = true then
          (
          J51x61 mk0 C b2x0 b2x1 b2x2 b2x3 i3 b29 h
          )
        else
          (
          letK ((decide ((i3 : Int) = 17)) : Bool) fun b30 =>
          if b30 = true then
            (
            J51x60 mk0 C b2x0 b2x1 b2x2 b2x3 i3 b30 h
            )
          else
            (
            letK ((decide ((i3 : Int) = 18)) : Bool) fun b31 =>
            J51x60 mk0 C b2x0 b2x1 b2x2 b2x3 i3 b31 h
            )
          )
        )
      )
    )
  ) := join_eqn (seqQ (evalE mk0 C k51x36) (seqQ (evalE mk0 C k51x33) (seqQ (evalE mk0 C k51x8) (blockQ 0 (seqQ (evalE mk0 C k51x3) (seqQ (evalE mk0 C k51x1) (endQ [.cell 2 (.agg [.bool, .bool, .bool, .bool])]))))))) (.any :: .any :: (.box [(.bool b2x0), (.bool b2x1), (.bool b2x2), (.bool b2x3)] :: (.g [] true (.int .i64 i3) :: (rep 14 (.g [] true (.bool b18) :: (rep 23 [])))))) h (J51x45xaux mk0 C b2x0 b2x1 b2x2 b2x3 i3 b18 h)
theorem J51x44xaux (b2x0 : Bool) (b2x1 : Bool) (b2x2 : Bool) (b2x3 : Bool) (i3 : Int) (b18 : Bool) (h : Heap) : (forceK tk (.any :: .any :: (.box [(.bool b2x0), (.bool b2x1), (.bool b2x2), (.bool b2x3)] :: (.g [] true (.int .i64 i3) :: (rep 14 (.g [] true (.bool b18) :: (rep 23 [])))))) fun e => (seqQ (evalE M C k51x38) (seqQ (evalE M C k51x36) (seqQ (evalE M C k51x33) (seqQ (evalE M C k51x8) (blockQ 0 (seqQ (evalE M C k51x3) (seqQ (evalE M C k51x1) (endQ [.cell 2 (.agg [.bool, .bool, .bool, .bool])])))))))) .normal ⟨e, h⟩) = (
  J51x45 M C b2x0 b2x1 b2x2 b2x3 i3 b18 h
  ) := by kernel_rfl
theorem J51x44xeq (b2x0 : Bool) (b2x1 : Bool) (b2x2 : Bool) (b2x3 : Bool) (i3 : Int) (b18 : Bool) (h : Heap) : J51x44 mk0 C b2x0 b2x1 b2x2 b2x3 i3 b18 h = (
  J51x45 mk0 C b2x0 b2x1 b2x2 b2x3 i3 b18 h
  ) := join_eqn (seqQ (evalE mk0 C k51x38) (seqQ (evalE mk0 C k51x36) (seqQ (evalE mk0 C k51x33) (seqQ (evalE mk0 C k51x8) (blockQ 0 (seqQ (evalE mk0 C k51x3) (seqQ (evalE mk0 C k51x1) (endQ [.cell 2 (.agg [.bool, .bool, .bool, .bool])])))))))) (.any :: .any :: (.box [(.bool b2x0), (.bool b2x1), (.bool b2x2), (.bool b2x3)] :: (.g [] true (.int .i64 i3) :: (rep 14 (.g [] true (.bool b18) :: (rep 23 [])))))) h (J51x44xaux mk0 C b2x0 b2x1 b2x2 b2x3 i3 b18 h)
theorem J51x43xaux (b2x0 : Bool) (b2x1 : Bool) (b2x2 : Bool) (b2x3 : Bool) (i3 : Int) (b18 : Bool) (h : Heap) : (forceK tk (.any :: .any :: (.box [(.bool b2x0), (.bool b2x1), (.bool b2x2), (.bool b2x3)] :: (.g [] true (.int .i64 i3) :: (rep 14 (.g [] true (.bool b18) :: (rep 23 [])))))) fun e => (seqQ (evalE M C k51x40) (seqQ (evalE M C k51x38) (seqQ (evalE M C k51x36) (seqQ (evalE M C k51x33) (seqQ (evalE M C k51x8) (blockQ 0 (seqQ (evalE M C k51x3) (seqQ (evalE M C k51x1) (endQ [.cell 2 (.agg [.bool, .bool, .bool, .bool])]))))))))) .normal ⟨e, h⟩) = (
  J51x44 M C b2x0 b2x1 b2x2 b2x3 i3 b18 h
  ) := by kernel_rfl
theorem J51x43xeq (b2x0 : Bool) (b2x1 : Bool) (b2x2 : Bool) (b2x3 : Bool) (i3 : Int) (b18 : Bool) (h : Heap) : J51x43 mk0 C b2x0 b2x1 b2x2 b2x3 i3 b18 h = (
  J51x44 mk0 C b2x0 b2x1 b2x2 b2x3 i3 b18 h
  ) := join_eqn (seqQ (evalE mk0 C k51x40) (seqQ (evalE mk0 C k51x38) (seqQ (evalE mk0 C k51x36) (seqQ (evalE mk0 C k51x33) (seqQ (evalE mk0 C k51x8) (blockQ 0 (seqQ (evalE mk0 C k51x3) (seqQ (evalE mk0 C k51x1) (endQ [.cell 2 (.agg [.bool, .bool, .bool, .bool])]))))))))) (.any :: .any :: (.box [(.bool b2x0), (.bool b2x1), (.bool b2x2), (.bool b2x3)] :: (.g [] true (.int .i64 i3) :: (rep 14 (.g [] true (.bool b18) :: (rep 23 [])))))) h (J51x43xaux mk0 C b2x0 b2x1 b2x2 b2x3 i3 b18 h)
theorem J51x62xaux (b2x0 : Bool) (b2x1 : Bool) (b2x2 : Bool) (b2x3 : Bool) (i3 : Int) (b27 : Bool) (h : Heap) : (forceK tk (.any :: .any :: (.box [(.bool b2x0), (.bool b2x1), (.bool b2x2), (.bool b2x3)] :: (.g [] true (.int .i64 i3) :: (rep 23 (.g [] true (.bool b27) :: (rep 14 [])))))) fun e => (seqQ (evalE M C k51x53) (seqQ (evalE M C k51x50) (seqQ (evalE M C k51x46) (seqQ (evalE M C k51x33) (seqQ (evalE M C k51x8) (blockQ 0 (seqQ (evalE M C k51x3) (seqQ (evalE M C k51x1) (endQ [.cell 2 (.agg [.bool, .bool, .bool, .bool])]))))))))) .normal ⟨e, h⟩) = (
  if b27 = true then
    (
    some ((.agg [(.bool false), (.bool true), (.bool true), (.bool true)]), h)
    )
  else
    (
    letK ((decide ((i3 : Int) = 14)) : Bool) fun b34 =>
    if b34 = true then
      (
      some ((.agg [(.bool true), (.bool false), (.bool true), (.bool true)]), h)
      )
    else
      (
      letK ((decide ((i3 : Int) = 19)) : Bool) fun b37 =>
      if b37 = true then
        (
        J51x76 M C b2x0 b2x1 b2x2 b2x3 b37 h
        )
      else
        (
        letK ((decide ((i3 : Int) = 20)) : Bool) fun b38 =>
        if b38 = true then
          (
          J51x75 M C b2x0 b2x1 b2x2 b2x3 b38 h
          )
        else
          (
          letK ((decide ((i3 : Int) = 24)) : Bool) fun b39 =>
          J51x75 M C b2x0 b2x1 b2x2 b2x3 b39 h
          )
        )
      )
    )
  ) := by kernel_rfl
theorem J51x62xeq (b2x0 : Bool) (b2x1 : Bool) (b2x2 : Bool) (b2x3 : Bool) (i3 : Int) (b27 : Bool) (h : Heap) : J51x62 mk0 C b2x0 b2x1 b2x2 b2x3 i3 b27 h = (
  if b27 = true then
    (
    some ((.agg [(.bool false), (.bool true), (.bool true), (.bool true)]), h)
    )
  else
    (
    letK ((decide ((i3 : Int) = 14)) : Bool) fun b34 =>
    if b34 = true then
      (
      some ((.agg [(.bool true), (.bool false), (.bool true), (.bool true)]), h)
      )
    else
      (
      letK ((decide ((i3 : Int) = 19)) : Bool) fun b37 =>
      if b37 = true then
        (
        J51x76 mk0 C b2x0 b2x1 b2x2 b2x3 b37 h
        )
      else
        (
        letK ((decide ((i3 : Int) = 20)) : Bool) fun b38 =>
        if b38 = true then
          (
          J51x75 mk0 C b2x0 b2x1 b2x2 b2x3 b38 h
          )
        else
          (
          letK ((decide ((i3 : Int) = 24)) : Bool) fun b39 =>
          J51x75 mk0 C b2x0 b2x1 b2x2 b2x3 b39 h
          )
        )
      )
    )
  ) := join_eqn (seqQ (evalE mk0 C k51x53) (seqQ (evalE mk0 C k51x50) (seqQ (evalE mk0 C k51x46) (seqQ (evalE mk0 C k51x33) (seqQ (evalE mk0 C k51x8) (blockQ 0 (seqQ (evalE mk0 C k51x3) (seqQ (evalE mk0 C k51x1) (endQ [.cell 2 (.agg [.bool, .bool, .bool, .bool])]))))))))) (.any :: .any :: (.box [(.bool b2x0), (.bool b2x1), (.bool b2x2), (.bool b2x3)] :: (.g [] true (.int .i64 i3) :: (rep 23 (.g [] true (.bool b27) :: (rep 14 [])))))) h (J51x62xaux mk0 C b2x0 b2x1 b2x2 b2x3 i3 b27 h)
theorem J51x61xaux (b2x0 : Bool) (b2x1 : Bool) (b2x2 : Bool) (b2x3 : Bool) (i3 : Int) (b27 : Bool) (h : Heap) : (forceK tk (.any :: .any :: (.box [(.bool b2x0), (.bool b2x1), (.bool b2x2), (.bool b2x3)] :: (.g [] true (.int .i64 i3) :: (rep 23 (.g [] true (.bool b27) :: (rep 14 [])))))) fun e => (seqQ (evalE M C k51x55) (seqQ (evalE M C k51x53) (seqQ (evalE M C k51x50) (seqQ (evalE M C k51x46) (seqQ (evalE M C k51x33) (seqQ (evalE M C k51x8) (blockQ 0 (seqQ (evalE M C k51x3) (seqQ (evalE M C k51x1) (endQ [.cell 2 (.agg [.bool, .bool, .bool, .bool])])))))))))) .normal ⟨e, h⟩) = (
  J51x62 M C b2x0 b2x1 b2x2 b2x3 i3 b27 h
  ) := by kernel_rfl
theorem J51x61xeq (b2x0 : Bool) (b2x1 : Bool) (b2x2 : Bool) (b2x3 : Bool) (i3 : Int) (b27 : Bool) (h : Heap) : J51x61 mk0 C b2x0 b2x1 b2x2 b2x3 i3 b27 h = (
  J51x62 mk0 C b2x0 b2x1 b2x2 b2x3 i3 b27 h
  ) := join_eqn (seqQ (evalE mk0 C k51x55) (seqQ (evalE mk0 C k51x53) (seqQ (evalE mk0 C k51x50) (seqQ (evalE mk0 C k51x46) (seqQ (evalE mk0 C k51x33) (seqQ (evalE mk0 C k51x8) (blockQ 0 (seqQ (evalE mk0 C k51x3) (seqQ (evalE mk0 C k51x1) (endQ [.cell 2 (.agg [.bool, .bool, .bool, .bool])])))))))))) (.any :: .any :: (.box [(.bool b2x0), (.bool b2x1), (.bool b2x2), (.bool b2x3)] :: (.g [] true (.int .i64 i3) :: (rep 23 (.g [] true (.bool b27) :: (rep 14 [])))))) h (J51x61xaux mk0 C b2x0 b2x1 b2x2 b2x3 i3 b27 h)
theorem J51x60xaux (b2x0 : Bool) (b2x1 : Bool) (b2x2 : Bool) (b2x3 : Bool) (i3 : Int) (b27 : Bool) (h : Heap) : (forceK tk (.any :: .any :: (.box [(.bool b2x0), (.bool b2x1), (.bool b2x2), (.bool b2x3)] :: (.g [] true (.int .i64 i3) :: (rep 23 (.g [] true (.bool b27) :: (rep 14 [])))))) fun e => (seqQ (evalE M C k51x57) (seqQ (evalE M C k51x55) (seqQ (evalE M C k51x53) (seqQ (evalE M C k51x50) (seqQ (evalE M C k51x46) (seqQ (evalE M C k51x33) (seqQ (evalE M C k51x8) (blockQ 0 (seqQ (evalE M C k51x3) (seqQ (evalE M C k51x1) (endQ [.cell 2 (.agg [.bool, .bool, .bool, .bool])]))))))))))) .normal ⟨e, h⟩) = (
  J51x61 M C b2x0 b2x1 b2x2 b2x3 i3 b27 h
  ) := by kernel_rfl
theorem J51x60xeq (b2x0 : Bool) (b2x1 : Bool) (b2x2 : Bool) (b2x3 : Bool) (i3 : Int) (b27 : Bool) (h : Heap) : J51x60 mk0 C b2x0 b2x1 b2x2 b2x3 i3 b27 h = (
  J51x61 mk0 C b2x0 b2x1 b2x2 b2x3 i3 b27 h
  ) := join_eqn (seqQ (evalE mk0 C k51x57) (seqQ (evalE mk0 C k51x55) (seqQ (evalE mk0 C k51x53) (seqQ (evalE mk0 C k51x50) (seqQ (evalE mk0 C k51x46) (seqQ (evalE mk0 C k51x33) (seqQ (evalE mk0 C k51x8) (blockQ 0 (seqQ (evalE mk0 C k51x3) (seqQ (evalE mk0 C k51x1) (endQ [.cell 2 (.agg [.bool, .bool, .bool, .bool])]))))))))))) (.any :: .any :: (.box [(.bool b2x0), (.bool b2x1), (.bool b2x2), (.bool b2x3)] :: (.g [] true (.int .i64 i3) :: (rep 23 (.g [] true (.bool b27) :: (rep 14 [])))))) h (J51x60xaux mk0 C b2x0 b2x1 b2x2 b2x3 i3 b27 h)
theorem J51x76xaux (b2x0 : Bool) (b2x1 : Bool) (b2x2 : Bool) (b2x3 : Bool) (b36 : Bool) (h : Heap) : (forceK tk (.any :: .any :: (.box [(.bool b2x0), (.bool b2x1), (.bool b2x2), (.bool b2x3)] :: (rep 33 (.g [] true (.bool b36) :: (rep 5 []))))) fun e => (seqQ (evalE M C k51x70) (seqQ (evalE M C k51x67) (seqQ (evalE M C k51x63) (seqQ (evalE M C k51x50) (seqQ (evalE M C k51x46) (seqQ (evalE M C k51x33) (seqQ (evalE M C k51x8) (blockQ 0 (seqQ (evalE M C k51x3) (seqQ (evalE M C k51x1) (endQ [.cell 2 (.agg [.bool, .bool, .bool, .bool])]))))))))))) .normal ⟨e, h⟩) = (
  if b36 = true then
    (
    some ((.agg [(.bool false), (.bool false), (.bool false), (.bool true)]), h)
    )
  else
    (
    some ((.agg [(.bool false), (.bool true), (.bool false), (.bool false)]), h)
    )
  ) := by kernel_rfl
theorem J51x76xeq (b2x0 : Bool) (b2x1 : Bool) (b2x2 : Bool) (b2x3 : Bool) (b36 : Bool) (h : Heap) : J51x76 mk0 C b2x0 b2x1 b2x2 b2x3 b36 h = (
  if b36 = true then
    (
    some ((.agg [(.bool false), (.bool false), (.bool false), (.bool true)]), h)
    )
  else
    (
    some ((.agg [(.bool false), (.bool true), (.bool false), (.bool false)]), h)
    )
  ) := join_eqn (seqQ (evalE mk0 C k51x70) (seqQ (evalE mk0 C k51x67) (seqQ (evalE mk0 C k51x63) (seqQ (evalE mk0 C k51x50) (seqQ (evalE mk0 C k51x46) (seqQ (evalE mk0 C k51x33) (seqQ (evalE mk0 C k51x8) (blockQ 0 (seqQ (evalE mk0 C k51x3) (seqQ (evalE mk0 C k51x1) (endQ [.cell 2 (.agg [.bool, .bool, .bool, .bool])]))))))))))) (.any :: .any :: (.box [(.bool b2x0), (.bool b2x1), (.bool b2x2), (.bool b2x3)] :: (rep 33 (.g [] true (.bool b36) :: (rep 5 []))))) h (J51x76xaux mk0 C b2x0 b2x1 b2x2 b2x3 b36 h)
theorem J51x75xaux (b2x0 : Bool) (b2x1 : Bool) (b2x2 : Bool) (b2x3 : Bool) (b36 : Bool) (h : Heap) : (forceK tk (.any :: .any :: (.box [(.bool b2x0), (.bool b2x1), (.bool b2x2), (.bool b2x3)] :: (rep 33 (.g [] true (.bool b36) :: (rep 5 []))))) fun e => (seqQ (evalE M C k51x72) (seqQ (evalE M C k51x70) (seqQ (evalE M C k51x67) (seqQ (evalE M C k51x63) (seqQ (evalE M C k51x50) (seqQ (evalE M C k51x46) (seqQ (evalE M C k51x33) (seqQ (evalE M C k51x8) (blockQ 0 (seqQ (evalE M C k51x3) (seqQ (evalE M C k51x1) (endQ [.cell 2 (.agg [.bool, .bool, .bool, .bool])])))))))))))) .normal ⟨e, h⟩) = (
  J51x76 M C b2x0 b2x1 b2x2 b2x3 b36 h
  ) := by kernel_rfl
theorem J51x75xeq (b2x0 : Bool) (b2x1 : Bool) (b2x2 : Bool) (b2x3 : Bool) (b36 : Bool) (h : Heap) : J51x75 mk0 C b2x0 b2x1 b2x2 b2x3 b36 h = (
  J51x76 mk0 C b2x0 b2x1 b2x2 b2x3 b36 h
  ) := join_eqn (seqQ (evalE mk0 C k51x72) (seqQ (evalE mk0 C k51x70) (seqQ (evalE mk0 C k51x67) (seqQ (evalE mk0 C k51x63) (seqQ (evalE mk0 C k51x50) (seqQ (evalE mk0 C k51x46) (seqQ (evalE mk0 C k51x33) (seqQ (evalE mk0 C k51x8) (blockQ 0 (seqQ (evalE mk0 C k51x3) (seqQ (evalE mk0 C k51x1) (endQ [.cell 2 (.agg [.bool, .bool, .bool, .bool])])))))))))))) (.any :: .any :: (.box [(.bool b2x0), (.bool b2x1), (.bool b2x2), (.bool b2x3)] :: (rep 33 (.g [] true (.bool b36) :: (rep 5 []))))) h (J51x75xaux mk0 C b2x0 b2x1 b2x2 b2x3 b36 h)
def k39x5 : AC := .ret
def k39x4 : AC := .seq (.mask 4) k39x5
def k39x3 : AC := .mask 2
def k39x2 : AC := .seq (.cond (.tmp 7)
   (.seq (.ops false [
      ⟨(some 2), .move (.c (.int .i64 1)), none, []⟩]) k39x4)
   (.skip)) k39x3
def k39x10 : AC := .ret
def k39x9 : AC := .seq (.mask 4) k39x10
def k39x8 : AC := .mask 2
def k39x7 : AC := .seq (.cond (.tmp 29)
   (.seq (.ops false [
      ⟨(some 2), .move (.c (.int .i64 4)), none, []⟩]) k39x9)
   (.skip)) k39x8
def k39x16 : AC := .ret
def k39x15 : AC := .seq (.mask 4) k39x16
def k39x14 : AC := .mask 2
def k39x13 : AC := .seq (.cond (.tmp 70)
   (.seq (.ops false [
      ⟨(some 2), .move (.c (.int .i64 3)), none, []⟩]) k39x15)
   (.skip)) k39x14
def k39x21 : AC := .ret
def k39x20 : AC := .seq (.mask 4) k39x21
def k39x19 : AC := .mask 0
def k39x18 : AC := .seq (.cond (.tmp 106)
   (.seq (.ops false [
      ⟨(some 2), .move (.c (.int .i64 4)), none, []⟩]) k39x20)
   (.skip)) k39x19
def k39x23 : AC := .ret
def k39x22 : AC := .seq (.mask 4) k39x23
def k39x17 : AC := .seq (.ops false [
    ⟨(some 2), .move (.c (.int .i64 0)), none, []⟩]) k39x22
def k39x12 : AC := .seq (.seq (.ops true [
    ⟨(some 71), .fieldAddr 0 (.tmp 1), none, []⟩,
    ⟨(some 72), .load (.cell (.int .i64)) (.tmp 71), none, []⟩,
    ⟨(some 73), .bin .other .eql (.tmp 72) (.c (.int .i64 9)), none, []⟩,
    ⟨(some 74), .move (.tmp 73), none, []⟩,
    ⟨(some 75), .fieldAddr 0 (.tmp 1), (some (74, false)), []⟩,
    ⟨(some 76), .load (.cell (.int .i64)) (.tmp 75), (some (74, false)), []⟩,
    ⟨(some 77), .bin .other .eql (.tmp 76) (.c (.int .i64 10)), (some (74, false)), []⟩,
    ⟨(some 78), .pick (.tmp 74) (.c (.bool true)) (.tmp 77), none, []⟩,
    ⟨(some 79), .move (.tmp 78), none, []⟩,
    ⟨(some 80), .fieldAddr 4 (.tmp 1), (some (79, true)), []⟩,
    ⟨(some 81), .load (.cell (.int .i64)) (.tmp 80), (some (79, true)), []⟩,
    ⟨(some 82), .call 41 [(.tmp 81), (.c (.int .i64 0)), (.c (.int .i64 31))] [(.cell .bool)] (.bool false), (some (79, true)), []⟩,
    ⟨(some 83), .un .not (.tmp 82), (some (79, true)), []⟩,
    ⟨(some 84), .pick (.tmp 79) (.tmp 83) (.c (.bool false)), none, []⟩,
    ⟨(some 85), .move (.tmp 84), none, []⟩,
    ⟨(some 86), .fieldAddr 0 (.tmp 1), (some (85, false)), []⟩,
    ⟨(some 87), .load (.cell (.int .i64)) (.tmp 86), (some (85, false)), []⟩,
    ⟨(some 88), .bin .other .eql (.tmp 87) (.c (.int .i64 14)), (some (85, false)), []⟩,
    ⟨(some 89), .move (.tmp 88), (some (85, false)), []⟩,
    ⟨(some 90), .fieldAddr 4 (.tmp 1), (some (89, true)), []⟩,
    ⟨(some 91), .load (.cell (.int .i64)) (.tmp 90), (some (89, true)), []⟩,
    ⟨(some 92), .call 41 [(.tmp 91), (.c (.int .i64 0)), (.c (.int .i64 4095))] [(.cell .bool)] (.bool false), (some (89, true)), []⟩,
    ⟨(some 93), .un .not (.tmp 92), (some (89, true)), []⟩,
    ⟨(some 94), .pick (.tmp 89) (.tmp 93) (.c (.bool false)), (some (85, false)), []⟩,
    ⟨(some 95), .pick (.tmp 85) (.c (.bool true)) (.tmp 94), none, []⟩,
    ⟨(some 96), .move (.tmp 95), none, []⟩,
    ⟨(some 97), .fieldAddr 0 (.tmp 1), (some (96, false)), []⟩,
    ⟨(some 98), .load (.cell (.int .i64)) (.tmp 97), (some (96, false)), []⟩,
    ⟨(some 99), .bin .other .eql (.tmp 98) (.c (.int .i64 24)), (some (96, false)), []⟩,
    ⟨(some 100), .move (.tmp 99), (some (96, false)), []⟩,
    ⟨(some 101), .fieldAddr 4 (.tmp 1), (some (100, true)), []⟩,
    ⟨(some 102), .load (.cell (.int .i64)) (.tmp 101), (some (100, true)), []⟩,
    ⟨(some 103), .call 41 [(.tmp 102), (.c (.int .i64 1)), (.c (.int .i64 6))] [(.cell .bool)] (.bool false), (some (100, true)), []⟩,
    ⟨(some 104), .un .not (.tmp 103), (some (100, true)), []⟩,
    ⟨(some 105), .pick (.tmp 100) (.tmp 104) (.c (.bool false)), (some (96, false)), []⟩,
    ⟨(some 106), .pick (.tmp 96) (.c (.bool true)) (.tmp 105), none, []⟩]) k39x18) k39x17
def k39x11 : AC := .seq (.seq (.ops true [
    ⟨(some 33), .fieldAddr 0 (.tmp 3), none, []⟩,
    ⟨(some 34), .load (.cell .bool) (.tmp 33), none, []⟩,
    ⟨(some 35), .un .not (.tmp 34), none, []⟩,
    ⟨(some 36), .move (.tmp 35), none, []⟩,
    ⟨(some 37), .fieldAddr 1 (.tmp 1), (some (36, true)), []⟩,
    ⟨(some 38), .load (.cell (.int .i64)) (.tmp 37), (some (36, true)), []⟩,
    ⟨(some 39), .bin .other .neq (.tmp 38) (.c (.int .i64 0)), (some (36, true)), []⟩,
    ⟨(some 40), .pick (.tmp 36) (.tmp 39) (.c (.bool false)), none, []⟩,
    ⟨(some 41), .move (.tmp 40), none, []⟩,
    ⟨(some 42), .fieldAddr 1 (.tmp 3), (some (41, false)), []⟩,
    ⟨(some 43), .load (.cell .bool) (.tmp 42), (some (41, false)), []⟩,
    ⟨(some 44), .un .not (.tmp 43), (some (41, false)), []⟩,
    ⟨(some 45), .move (.tmp 44), (some (41, false)), []⟩,
    ⟨(some 46), .fieldAddr 2 (.tmp 1), (some (45, true)), []⟩,
    ⟨(some 47), .load (.cell (.int .i64)) (.tmp 46), (some (45, true)), []⟩,
    ⟨(some 48), .bin .other .neq (.tmp 47) (.c (.int .i64 0)), (some (45, true)), []⟩,
    ⟨(some 49), .pick (.tmp 45) (.tmp 48) (.c (.bool false)), (some (41, false)), []⟩,
    ⟨(some 50), .pick (.tmp 41) (.c (.bool true)) (.tmp 49), none, []⟩,
    ⟨(some 51), .move (.tmp 50), none, []⟩,
    ⟨(some 52), .fieldAddr 2 (.tmp 3), (some (51, false)), []⟩,
    ⟨(some 53), .load (.cell .bool) (.tmp 52), (some (51, false)), []⟩,
    ⟨(some 54), .un .not (.tmp 53), (some (51, false)), []⟩,
    ⟨(some 55), .move (.tmp 54), (some (51, false)), []⟩,
    ⟨(some 56), .fieldAddr 3 (.tmp 1), (some (55, true)), []⟩,
    ⟨(some 57), .load (.cell (.int .i64)) (.tmp 56), (some (55, true)), []⟩,
    ⟨(some 58), .bin .other .neq (.tmp 57) (.c (.int .i64 0)), (some (55, true)), []⟩,
    ⟨(some 59), .pick (.tmp 55) (.tmp 58) (.c (.bool false)), (some (51, false)), []⟩,
    ⟨(some 60), .pick (.tmp 51) (.c (.bool true)) (.tmp 59), none, []⟩,
    ⟨(some 61), .move (.tmp 60), none, []⟩,
    ⟨(some 62), .fieldAddr 3 (.tmp 3), (some (61, false)), []⟩,
    ⟨(some 63), .load (.cell .bool) (.tmp 62), (some (61, false)), []⟩,
    ⟨(some 64), .un .not (.tmp 63), (some (61, false)), []⟩,
    ⟨(some 65), .move (.tmp 64), (some (61, false)), []⟩,
    ⟨(some 66), .fieldAddr 4 (.tmp 1), (some (65, true)), []⟩,
    ⟨(some 67), .load (.cell (.int .i64)) (.tmp 66), (some (65, true)), []⟩,
    ⟨(some 68), .bin .other .neq (.tmp 67) (.c (.int .i64 0)), (some (65, true)), []⟩,
    ⟨(some 69), .pick (.tmp 65) (.tmp 68) (.c (.bool false)), (some (61, false)), []⟩,
    ⟨(some 70), .pick (.tmp 61) (.c (.bool true)) (.tmp 69), none, []⟩]) k39x13) k39x12
def k39x6 : AC := .seq (.ops false [
    ⟨(some 30), .fieldAddr 0 (.tmp 1), none, []⟩,
    ⟨(some 31), .load (.cell (.int .i64)) (.tmp 30), none, []⟩,
    ⟨(some 32), .call 51 [(.tmp 31)] [(.agg [.bool, .bool, .bool, .bool])] (.agg [(.bool false), (.bool false), (.bool false), (.bool false)]), none, []⟩,
    ⟨(some 3), .allocL [(.bool false), (.bool false), (.bool false), (.bool false)], none, []⟩,
    ⟨none, .store 4 (.tmp 3) (.tmp 32), none, []⟩]) k39x11
def k39x1 : AC := .seq (.seq (.ops true [
    ⟨(some 8), .fieldAddr 1 (.tmp 1), none, []⟩,
    ⟨(some 9), .load (.cell (.int .i64)) (.tmp 8), none, []⟩,
    ⟨(some 10), .call 41 [(.tmp 9), (.c (.int .i64 0)), (.c (.int .i64 15))] [(.cell .bool)] (.bool false), none, []⟩,
    ⟨(some 11), .un .not (.tmp 10), none, []⟩,
    ⟨(some 12), .move (.tmp 11), none, []⟩,
    ⟨(some 13), .fieldAddr 2 (.tmp 1), (some (12, false)), []⟩,
    ⟨(some 14), .load (.cell (.int .i64)) (.tmp 13), (some (12, false)), []⟩,
    ⟨(some 15), .call 41 [(.tmp 14), (.c (.int .i64 0)), (.c (.int .i64 15))] [(.cell .bool)] (.bool false), (some (12, false)), []⟩,
    ⟨(some 16), .un .not (.tmp 15), (some (12, false)), []⟩,
    ⟨(some 17), .pick (.tmp 12) (.c (.bool true)) (.tmp 16), none, []⟩,
    ⟨(some 18), .move (.tmp 17), none, []⟩,
    ⟨(some 19), .fieldAddr 3 (.tmp 1), (some (18, false)), []⟩,
    ⟨(some 20), .load (.cell (.int .i64)) (.tmp 19), (some (18, false)), []⟩,
    ⟨(some 21), .call 41 [(.tmp 20), (.c (.int .i64 0)), (.c (.int .i64 15))] [(.cell .bool)] (.bool false), (some (18, false)), []⟩,
    ⟨(some 22), .un .not (.tmp 21), (some (18, false)), []⟩,
    ⟨(some 23), .pick (.tmp 18) (.c (.bool true)) (.tmp 22), none, []⟩,
    ⟨(some 24), .move (.tmp 23), none, []⟩,
    ⟨(some 25), .fieldAddr 4 (.tmp 1), (some (24, false)), []⟩,
    ⟨(some 26), .load (.cell (.int .i64)) (.tmp 25), (some (24, false)), []⟩,
    ⟨(some 27), .call 41 [(.tmp 26), (.c (.int .i64 (-2147483648))), (.c (.int .i64 2147483647))] [(.cell .bool)] (.bool false), (some (24, false)), []⟩,
    ⟨(some 28), .un .not (.tmp 27), (some (24, false)), []⟩,
    ⟨(some 29), .pick (.tmp 24) (.c (.bool true)) (.tmp 28), none, []⟩]) k39x7) k39x6
def k39x0 : AC := .seq (.seq (.ops false [
    ⟨(some 4), .fieldAddr 0 (.tmp 1), none, []⟩,
    ⟨(some 5), .load (.cell (.int .i64)) (.tmp 4), none, []⟩,
    ⟨(some 6), .call 41 [(.tmp 5), (.c (.int .i64 0)), (.c (.int .i64 24))] [(.cell .bool)] (.bool false), none, []⟩,
    ⟨(some 7), .un .not (.tmp 6), none, []⟩]) k39x2) k39x1
/-- provenance/insn.Check -/
def c39 : AFn := ⟨107, [.tmp 2],
  .seq (.ops false [
    ⟨(some 1), .boxL (.tmp 0), none, []⟩,
    ⟨(some 2), .move (.c (.int .i64 0)), none, []⟩]) k39x0⟩
theorem r39 (i0x0 : Int) (i0x1 : Int) (i0x2 : Int) (i0x3 : Int) (i0x4 : Int) (h : Heap) : runE M C c39 [(.agg [(.int .i64 i0x0), (.int .i64 i0x1), (.int .i64 i0x2), (.int .i64 i0x3), (.int .i64 i0x4)])] h = (
  (C 41 [(.int .i64 i0x0), (.int .i64 0), (.int .i64 24)] h).bind fun r6 =>
  gB (some r6.1) true fun b6 =>
  if (!b6) = true then
    (
    some ((.int .i64 1), r6.2)
    )
  else
    (
    (C 41 [(.int .i64 i0x1), (.int .i64 0), (.int .i64 15)] r6.2).bind fun r10 =>
    gB (some r10.1) true fun b10 =>
    gI .i64 (some (.int .i64 i0x2)) (!(!b10)) fun i14 =>
    (callO (!(!b10)) (C 41 [(.int .i64 i14), (.int .i64 0), (.int .i64 15)] r10.2) (.bool false) r10.2).bind fun r15 =>
    gB (some r15.1) (!(!b10)) fun b15 =>
    letK ((if (!b10) = true then true else (!b15)) : Bool) fun b17 =>
    gI .i64 (some (.int .i64 i0x3)) (!b17) fun i20 =>
    (callO (!b17) (C 41 [(.int .i64 i20), (.int .i64 0), (.int .i64 15)] r15.2) (.bool false) r15.2).bind fun r21 =>
    gB (some r21.1) (!b17) fun b21 =>
    letK ((if b17 = true then true else (!b21)) : Bool) fun b23 =>
    gI .i64 (some (.int .i64 i0x4)) (!b23) fun i26 =>
    (callO (!b23) (C 41 [(.int .i64 i26), (.int .i64 (-2147483648)), (.int .i64 2147483647)] r21.2) (.bool false) r21.2).bind fun r27 =>
    gB (some r27.1) (!b23) fun b27 =>
    letK ((if b23 = true then true else (!b27)) : Bool) fun b29 =>
    if b29 = true then
      (
      some ((.int .i64 4), r27.2)
      )
    else
      (
      (C 51 [(.int .i64 i0x0)] r27.2).bind fun r32 =>
      gA r32.1 true fun l32 =>
      chk (true = true → l32.length = 4) <|
      gB (l32[0]?) true fun b32x0 =>
      gB (l32[1]?) true fun b32x1 =>
      gB (l32[2]?) true fun b32x2 =>
      gB (l32[3]?) true fun b32x3 =>
      gI .i64 (some (.int .i64 i0x1)) (!b32x0) fun i38 =>
      letK ((!decide ((i38 : Int) = 0)) : Bool) fun b39 =>
      letK ((if (!b32x0) = true then b39 else false) : Bool) fun b40 =>
      gB (some (.bool b32x1)) (!b40) fun b43 =>
      gI .i64 (some (.int .i64 i0x2)) (andB (!b40) (!b43)) fun i47 =>
      letK ((!decide ((i47 : Int) = 0)) : Bool) fun b48 =>
      letK ((if (!b43) = true then b48 else false) : Bool) fun b49 =>
      letK ((if b40 = true then true else b49) : Bool) fun b50 =>
      gB (some (.bool b32x2)) (!b50) fun b53 =>
      gI .i64 (some (.int .i64 i0x3)) (andB (!b50) (!b53)) fun i57 =>
      letK ((!decide ((i57 : Int) = 0)) : Bool) fun b58 =>
      letK ((if (!b53) = true then b58 else false) : Bool) fun b59 =>
      letK ((if b50 = true then true else b59) : Bool) fun b60 =>
      gB (some (.bool b32x3)) (!b60) fun b63 =>
      gI .i64 (some (.int .i64 i0x4)) (andB (!b60) (!b63)) fun i67 =>
      letK ((!decide ((i67 : Int) = 0)) : Bool) fun b68 =>
      letK ((if (!b63) = true then b68 else false) : Bool) fun b69 =>
      letK ((if b60 = true then true else b69) : Bool) fun b70 =>
      if b70 = true then
        (
        some ((.int .i64 3), r32.2)
        )
      else
        (
        letK ((decide ((i0x0 : Int) = 9)) : Bool) fun b73 =>
        gI .i64 (some (.int .i64 i0x0)) (!b73) fun i76 =>
        letK ((decide ((i76 : Int) = 10)) : Bool) fun b77 =>
        letK ((if b73 = true then true else b77) : Bool) fun b78 =>
        gI .i64 (some (.int .i64 i0x4)) b78 fun i81 =>
        (callO b78 (C 41 [(.int .i64 i81), (.int .i64 0), (.int .i64 31)] r32.2) (.bool false) r32.2).bind fun r82 =>
        gB (some r82.1) b78 fun b82 =>
        letK ((if b78 = true then (!b82) else false) : Bool) fun b84 =>
        gI .i64 (some (.int .i64 i0x0)) (!b84) fun i87 =>
        letK ((decide ((i87 : Int) = 14)) : Bool) fun b88 =>
        gI .i64 (some (.int .i64 i0x4)) (andB (!b84) b88) fun i91 =>
        (callO (andB (!b84) b88) (C 41 [(.int .i64 i91), (.int .i64 0), (.int .i64 4095)] r82.2) (.bool false) r82.2).bind fun r92 =>
        gB (some r92.1) (andB (!b84) b88) fun b92 =>
        letK ((if b88 = true then (!b92) else false) : Bool) fun b94 =>
        letK ((if b84 = true then true else b94) : Bool) fun b95 =>
        gI .i64 (some (.int .i64 i0x0)) (!b95) fun i98 =>
        letK ((decide ((i98 : Int) = 24)) : Bool) fun b99 =>
        gI .i64 (some (.int .i64 i0x4)) (andB (!b95) b99) fun i102 =>
        (callO (andB (!b95) b99) (C 41 [(.int .i64 i102), (.int .i64 1), (.int .i64 6)] r92.2) (.bool false) r92.2).bind fun r103 =>
        gB (some r103.1) (andB (!b95) b99) fun b103 =>
        letK ((if b99 = true then (!b103) else false) : Bool) fun b105 =>
        letK ((if b95 = true then true else b105) : Bool) fun b106 =>
        if b106 = true then
          (
          some ((.int .i64 4), r103.2)
          )
        else
          (
          some ((.int .i64 0), r103.2)
          )
        )
      )
    )
  ) := by kernel_rfl
theorem cf39 : cFn Try.prog 39 = some c39 := by kernel_rfl
theorem e39 (i0x0 : Int) (i0x1 : Int) (i0x2 : Int) (i0x3 : Int) (i0x4 : Int) (h : Heap) : E 39 [(.agg [(.int .i64 i0x0), (.int .i64 i0x1), (.int .i64 i0x2), (.int .i64 i0x3), (.int .i64 i0x4)])] h = (
  (E 41 [(.int .i64 i0x0), (.int .i64 0), (.int .i64 24)] h).bind fun r6 =>
  gB (some r6.1) true fun b6 =>
  if (!b6) = true then
    (
    some ((.int .i64 1), r6.2)
    )
  else
    (
    (E 41 [(.int .i64 i0x1), (.int .i64 0), (.int .i64 15)] r6.2).bind fun r10 =>
    gB (some r10.1) true fun b10 =>
    gI .i64 (some (.int .i64 i0x2)) (!(!b10)) fun i14 =>
    (callO (!(!b10)) (E 41 [(.int .i64 i14), (.int .i64 0), (.int .i64 15)] r10.2) (.bool false) r10.2).bind fun r15 =>
    gB (some r15.1) (!(!b10)) fun b15 =>
    letK ((if (!b10) = true then true else (!b15)) : Bool) fun b17 =>
    gI .i64 (some (.int .i64 i0x3)) (!b17) fun i20 =>
    (callO (!b17) (E 41 [(.int .i64 i20), (.int .i64 0), (.int .i64 15)] r15.2) (.bool false) r15.2).bind fun r21 =>
    gB (some r21.1) (!b17) fun b21 =>
    letK ((if b17 = true then true else (!b21)) : Bool) fun b23 =>
    gI .i64 (some (.int .i64 i0x4)) (!b23) fun i26 =>
    (callO (!b23) (E 41 [(.int .i64 i26), (.int .i64 (-2147483648)), (.int .i64 2147483647)] r21.2) (.bool false) r21.2).bind fun r27 =>
    gB (some r27.1) (!b23) fun b27 =>
    letK ((if b23 = true then true else (!b27)) : Bool) fun b29 =>
    if b29 = true then
      (
      some ((.int .i64 4), r27.2)
      )
    else
      (
      (E 51 [(.int .i64 i0x0)] r27.2).bind fun r32 =>
      gA r32.1 true fun l32 =>
      chk (true = true → l32.length = 4) <|
      gB (l32[0]?) true fun b32x0 =>
      gB (l32[1]?) true fun b32x1 =>
      gB (l32[2]?) true fun b32x2 =>
      gB (l32[3]?) true fun b32x3 =>
      gI .i64 (some (.int .i64 i0x1)) (!b32x0) fun i38 =>
      letK ((!decide ((i38 : Int) = 0)) : Bool) fun b39 =>
      letK ((if (!b32x0) = true then b39 else false) : Bool) fun b40 =>
      gB (some (.bool b32x1)) (!b40) fun b43 =>
      gI .i64 (some (.int .i64 i0x2)) (andB (!b40) (!b43)) fun i47 =>
      letK ((!decide ((i47 : Int) = 0)) : Bool) fun b48 =>
      letK ((if (!b43) = true then b48 else false) : Bool) fun b49 =>
      letK ((if b40 = true then true else b49) : Bool) fun b50 =>
      gB (some (.bool b32x2)) (!b50) fun b53 =>
      gI .i64 (some (.int .i64 i0x3)) (andB (!b50) (!b53)) fun i57 =>
      letK ((!decide ((i57 : Int) = 0)) : Bool) fun b58 =>
      letK ((if (!b53) = true then b58 else false) : Bool) fun b59 =>
      letK ((if b50 = true then true else b59) : Bool) fun b60 =>
      gB (some (.bool b32x3)) (!b60) fun b63 =>
      gI .i64 (some (.int .i64 i0x4)) (andB (!b60) (!b63)) fun i67 =>
      letK ((!decide ((i67 : Int) = 0)) : Bool) fun b68 =>
      letK ((if (!b63) = true then b68 else false) : Bool) fun b69 =>
      letK ((if b60 = true then true else b69) : Bool) fun b70 =>
      if b70 = true then
        (
        some ((.int .i64 3), r32.2)
        )
      else
        (
        letK ((decide ((i0x0 : Int) = 9)) : Bool) fun b73 =>
        gI .i64 (some (.int .i64 i0x0)) (!b73) fun i76 =>
        letK ((decide ((i76 : Int) = 10)) : Bool) fun b77 =>
        letK ((if b73 = true then true else b77) : Bool) fun b78 =>
        gI .i64 (some (.int .i64 i0x4)) b78 fun i81 =>
        (callO b78 (E 41 [(.int .i64 i81), (.int .i64 0), (.int .i64 31)] r32.2) (.bool false) r32.2).bind fun r82 =>
        gB (some r82.1) b78 fun b82 =>
        letK ((if b78 = true then (!b82) else false) : Bool) fun b84 =>
        gI .i64 (some (.int .i64 i0x0)) (!b84) fun i87 =>
        letK ((decide ((i87 : Int) = 14)) : Bool) fun b88 =>
        gI .i64 (some (.int .i64 i0x4)) (andB (!b84) b88) fun i91 =>
        (callO (andB (!b84) b88) (E 41 [(.int .i64 i91), (.int .i64 0), (.int .i64 4095)] r82.2) (.bool false) r82.2).bind fun r92 =>
        gB (some r92.1) (andB (!b84) b88) fun b92 =>
        letK ((if b88 = true then (!b92) else false) : Bool) fun b94 =>
        letK ((if b84 = true then true else b94) : Bool) fun b95 =>
        gI .i64 (some (.int .i64 i0x0)) (!b95) fun i98 =>
        letK ((decide ((i98 : Int) = 24)) : Bool) fun b99 =>
        gI .i64 (some (.int .i64 i0x4)) (andB (!b95) b99) fun i102 =>
        (callO (andB (!b95) b99) (E 41 [(.int .i64 i102), (.int .i64 1), (.int .i64 6)] r92.2) (.bool false) r92.2).bind fun r103 =>
        gB (some r103.1) (andB (!b95) b99) fun b103 =>
        letK ((if b99 = true then (!b103) else false) : Bool) fun b105 =>
        letK ((if b95 = true then true else b105) : Bool) fun b106 =>
        if b106 = true then
          (
          some ((.int .i64 4), r103.2)
          )
        else
          (
          some ((.int .i64 0), r103.2)
          )
        )
      )
    )
  ) := (EV_eq (P := Try.prog) (T := T0) rfl cf39 [(.agg [(.int .i64 i0x0), (.int .i64 i0x1), (.int .i64 i0x2), (.int .i64 i0x3), (.int .i64 i0x4)])] h).trans (r39 mk0 E i0x0 i0x1 i0x2 i0x3 i0x4 h)
def k40x2 : AC := .ret
def k40x1 : AC := .seq (.mask 4) k40x2
def k40x0 : AC := .seq (.ops false [
    ⟨(some 3), .fieldAddr 0 (.tmp 1), none, []⟩,
    ⟨(some 4), .load (.cell (.int .i64)) (.tmp 3), none, []⟩,
    ⟨(some 5), .bin .other .shl (.tmp 4) (.c (.int .u64 27)), none, []⟩,
    ⟨(some 6), .fieldAddr 1 (.tmp 1), none, []⟩,
    ⟨(some 7), .load (.cell (.int .i64)) (.tmp 6), none, []⟩,
    ⟨(some 8), .bin .other .shl (.tmp 7) (.c (.int .u64 22)), none, []⟩,
    ⟨(some 9), .bin .other .or (.tmp 5) (.tmp 8), none, []⟩,
    ⟨(some 10), .fieldAddr 2 (.tmp 1), none, []⟩,
    ⟨(some 11), .load (.cell (.int .i64)) (.tmp 10), none, []⟩,
    ⟨(some 12), .bin .other .shl (.tmp 11) (.c (.int .u64 18)), none, []⟩,
    ⟨(some 13), .bin .other .or (.tmp 9) (.tmp 12), none, []⟩,
    ⟨(some 14), .fieldAddr 3 (.tmp 1), none, []⟩,
    ⟨(some 15), .load (.cell (.int .i64)) (.tmp 14), none, []⟩,
    ⟨(some 16), .bin .other .shl (.tmp 15) (.c (.int .u64 14)), none, []⟩,
    ⟨(some 17), .bin .other .or (.tmp 13) (.tmp 16), none, []⟩,
    ⟨(some 2), .move (.tmp 17), none, []⟩]) k40x1
/-- provenance/insn.word -/
def c40 : AFn := ⟨18, [.tmp 2],
  .seq (.ops false [
    ⟨(some 1), .boxL (.tmp 0), none, []⟩,
    ⟨(some 2), .move (.c (.int .i64 0)), none, []⟩]) k40x0⟩
theorem r40 (i0x0 : Int) (i0x1 : Int) (i0x2 : Int) (i0x3 : Int) (i0x4 : Int) (h : Heap) : runE M C c40 [(.agg [(.int .i64 i0x0), (.int .i64 i0x1), (.int .i64 i0x2), (.int .i64 i0x3), (.int .i64 i0x4)])] h = (
  letK ((IntKind.wrap .i64 (i0x0 * 2 ^ 27)) : Int) fun i5 =>
  letK ((IntKind.wrap .i64 (i0x1 * 2 ^ 22)) : Int) fun i8 =>
  letK ((Go.bits .or .i64 i5 i8) : Int) fun i9 =>
  letK ((IntKind.wrap .i64 (i0x2 * 2 ^ 18)) : Int) fun i12 =>
  letK ((Go.bits .or .i64 i9 i12) : Int) fun i13 =>
  letK ((IntKind.wrap .i64 (i0x3 * 2 ^ 14)) : Int) fun i16 =>
  letK ((Go.bits .or .i64 i13 i16) : Int) fun i17 =>
  some ((.int .i64 i17), h)
  ) := by kernel_rfl
theorem cf40 : cFn Try.prog 40 = some c40 := by kernel_rfl
theorem e40 (i0x0 : Int) (i0x1 : Int) (i0x2 : Int) (i0x3 : Int) (i0x4 : Int) (h : Heap) : E 40 [(.agg [(.int .i64 i0x0), (.int .i64 i0x1), (.int .i64 i0x2), (.int .i64 i0x3), (.int .i64 i0x4)])] h = (
  letK ((IntKind.wrap .i64 (i0x0 * 2 ^ 27)) : Int) fun i5 =>
  letK ((IntKind.wrap .i64 (i0x1 * 2 ^ 22)) : Int) fun i8 =>
  letK ((Go.bits .or .i64 i5 i8) : Int) fun i9 =>
  letK ((IntKind.wrap .i64 (i0x2 * 2 ^ 18)) : Int) fun i12 =>
  letK ((Go.bits .or .i64 i9 i12) : Int) fun i13 =>
  letK ((IntKind.wrap .i64 (i0x3 * 2 ^ 14)) : Int) fun i16 =>
  letK ((Go.bits .or .i64 i13 i16) : Int) fun i17 =>
  some ((.int .i64 i17), h)
  ) := (EV_eq (P := Try.prog) (T := T0) rfl cf40 [(.agg [(.int .i64 i0x0), (.int .i64 i0x1), (.int .i64 i0x2), (.int .i64 i0x3), (.int .i64 i0x4)])] h).trans (r40 mk0 E i0x0 i0x1 i0x2 i0x3 i0x4 h)
def k25x5 : AC := .ret
def k25x4 : AC := .seq (.mask 4) k25x5
def k25x3 : AC := .mask 0
def k25x2 : AC := .seq (.cond (.tmp 5)
   (.seq (.ops false [
      ⟨(some 2), .move (.c (.int .i64 1)), none, []⟩]) k25x4)
   (.skip)) k25x3
def k25x7 : AC := .ret
def k25x6 : AC := .seq (.mask 4) k25x7
def k25x1 : AC := .seq (.ops false [
    ⟨(some 2), .move (.c (.int .i64 2)), none, []⟩]) k25x6
def k25x0 : AC := .seq (.seq (.ops false [
    ⟨(some 3), .fieldAddr 4 (.tmp 1), none, []⟩,
    ⟨(some 4), .load (.cell (.int .i64)) (.tmp 3), none, []⟩,
    ⟨(some 5), .call 41 [(.tmp 4), (.c (.int .i64 (-128))), (.c (.int .i64 127))] [(.cell .bool)] (.bool false), none, []⟩]) k25x2) k25x1
/-- provenance/insn.Size -/
def c25 : AFn := ⟨6, [.tmp 2],
  .seq (.ops false [
    ⟨(some 1), .boxL (.tmp 0), none, []⟩,
    ⟨(some 2), .move (.c (.int .i64 0)), none, []⟩]) k25x0⟩
theorem r25 (i0x0 : Int) (i0x1 : Int) (i0x2 : Int) (i0x3 : Int) (i0x4 : Int) (h : Heap) : runE M C c25 [(.agg [(.int .i64 i0x0), (.int .i64 i0x1), (.int .i64 i0x2), (.int .i64 i0x3), (.int .i64 i0x4)])] h = (
  (C 41 [(.int .i64 i0x4), (.int .i64 (-128)), (.int .i64 127)] h).bind fun r5 =>
  gB (some r5.1) true fun b5 =>
  if b5 = true then
    (
    some ((.int .i64 1), r5.2)
    )
  else
    (
    some ((.int .i64 2), r5.2)
    )
  ) := by kernel_rfl
theorem cf25 : cFn Try.prog 25 = some c25 := by kernel_rfl
theorem e25 (i0x0 : Int) (i0x1 : Int) (i0x2 : Int) (i0x3 : Int) (i0x4 : Int) (h : Heap) : E 25 [(.agg [(.int .i64 i0x0), (.int .i64 i0x1), (.int .i64 i0x2), (.int .i64 i0x3), (.int .i64 i0x4)])] h = (
  (E 41 [(.int .i64 i0x4), (.int .i64 (-128)), (.int .i64 127)] h).bind fun r5 =>
  gB (some r5.1) true fun b5 =>
  if b5 = true then
    (
    some ((.int .i64 1), r5.2)
    )
  else
    (
    some ((.int .i64 2), r5.2)
    )
  ) := (EV_eq (P := Try.prog) (T := T0) rfl cf25 [(.agg [(.int .i64 i0x0), (.int .i64 i0x1), (.int .i64 i0x2), (.int .i64 i0x3), (.int .i64 i0x4)])] h).trans (r25 mk0 E i0x0 i0x1 i0x2 i0x3 i0x4 h)
def k23x6 : AC := .ret
def k23x5 : AC := .seq (.mask 12) k23x6
def k23x4 : AC := .mask 2
def k23x3 : AC := .seq (.cond (.tmp 8)
   (.seq (.ops false [
      ⟨(some 9), .move (.tmp 4), none, []⟩,
      ⟨(some 2), .move (.c (.sl .nil 0)), none, []⟩,
      ⟨(some 3), .move (.tmp 9), none, []⟩]) k23x5)
   (.skip)) k23x4
def k23x2 : AC := .seq (.ops false [
    ⟨(some 7), .move (.tmp 4), none, []⟩,
    ⟨(some 8), .bin .other .neq (.tmp 7) (.c (.int .i64 0)), none, []⟩]) k23x3
def k23x8 : AC := .ret
def k23x7 : AC := .seq (.mask 12) k23x8
def k23x1 : AC := .seq (.ops false [
    ⟨(some 10), .load (.agg [(.int .i64), (.int .i64), (.int .i64), (.int .i64), (.int .i64)]) (.tmp 1), none, []⟩,
    ⟨(some 13), .fieldAddr 4 (.tmp 1), none, []⟩,
    ⟨(some 14), .load (.cell (.int .i64)) (.tmp 13), none, []⟩,
    ⟨(some 15), .bin .other .and (.tmp 14) (.c (.int .i64 4294967295)), none, []⟩,
    ⟨(some 11), .call 40 [(.tmp 10)] [(.cell (.int .i64))] (.int .i64 0), none, [.load 1 13 none]⟩,
    ⟨(some 12), .bin .other .or (.tmp 11) (.c (.int .i64 67108864)), none, []⟩,
    ⟨(some 16), .buildSl [(.int .i64 0), (.int .i64 0)] 1 [(0, (.tmp 12)), (1, (.tmp 15))], none, []⟩,
    ⟨(some 2), .move (.tmp 16), none, []⟩,
    ⟨(some 3), .move (.c (.int .i64 0)), none, []⟩]) k23x7
def k23x0 : AC := .seq (.seq (.ops false [
    ⟨(some 5), .load (.agg [(.int .i64), (.int .i64), (.int .i64), (.int .i64), (.int .i64)]) (.tmp 1), none, []⟩,
    ⟨(some 6), .call 39 [(.tmp 5)] [(.cell (.int .i64))] (.int .i64 0), none, []⟩,
    ⟨(some 4), .move (.tmp 6), none, []⟩]) k23x2) k23x1
/-- provenance/insn.Long -/
def c23 : AFn := ⟨17, [.tmp 2, .tmp 3],
  .seq (.ops false [
    ⟨(some 1), .boxL (.tmp 0), none, []⟩,
    ⟨(some 2), .move (.c (.sl .nil 0)), none, []⟩,
    ⟨(some 3), .move (.c (.int .i64 0)), none, []⟩]) k23x0⟩
theorem r23 (i0x0 : Int) (i0x1 : Int) (i0x2 : Int) (i0x3 : Int) (i0x4 : Int) (h : Heap) : runE M C c23 [(.agg [(.int .i64 i0x0), (.int .i64 i0x1), (.int .i64 i0x2), (.int .i64 i0x3), (.int .i64 i0x4)])] h = (
  (C 39 [(.agg [(.int .i64 i0x0), (.int .i64 i0x1), (.int .i64 i0x2), (.int .i64 i0x3), (.int .i64 i0x4)])] h).bind fun r6 =>
  gI .i64 (some r6.1) true fun i6 =>
  letK ((!decide ((i6 : Int) = 0)) : Bool) fun b8 =>
  if b8 = true then
    (
    some (.tup [(.sl .nil 0), (.int .i64 i6)], r6.2)
    )
  else
    (
    letK ((Go.bits .and .i64 i0x4 4294967295) : Int) fun i15 =>
    (C 40 [(.agg [(.int .i64 i0x0), (.int .i64 i0x1), (.int .i64 i0x2), (.int .i64 i0x3), (.int .i64 i0x4)])] r6.2).bind fun r11 =>
    gI .i64 (some r11.1) true fun i11 =>
    letK ((Go.bits .or .i64 i11 67108864) : Int) fun i12 =>
    newK r11.2 (.cells [(.int .i64 i12), (.int .i64 i15)] (.grow 1) 0) fun h_2 =>
    some (.tup [(.sl (.pos ⟨List.length r11.2, 0, 0⟩) 2), (.int .i64 0)], h_2)
    )
  ) := by kernel_rfl
theorem cf23 : cFn Try.prog 23 = some c23 := by kernel_rfl
theorem e23 (i0x0 : Int) (i0x1 : Int) (i0x2 : Int) (i0x3 : Int) (i0x4 : Int) (h : Heap) : E 23 [(.agg [(.int .i64 i0x0), (.int .i64 i0x1), (.int .i64 i0x2), (.int .i64 i0x3), (.int .i64 i0x4)])] h = (
  (E 39 [(.agg [(.int .i64 i0x0), (.int .i64 i0x1), (.int .i64 i0x2), (.int .i64 i0x3), (.int .i64 i0x4)])] h).bind fun r6 =>
  gI .i64 (some r6.1) true fun i6 =>
  letK ((!decide ((i6 : Int) = 0)) : Bool) fun b8 =>
  if b8 = true then
    (
    some (.tup [(.sl .nil 0), (.int .i64 i6)], r6.2)
    )
  else
    (
    letK ((Go.bits .and .i64 i0x4 4294967295) : Int) fun i15 =>
    (E 40 [(.agg [(.int .i64 i0x0), (.int .i64 i0x1), (.int .i64 i0x2), (.int .i64 i0x3), (.int .i64 i0x4)])] r6.2).bind fun r11 =>
    gI .i64 (some r11.1) true fun i11 =>
    letK ((Go.bits .or .i64 i11 67108864) : Int) fun i12 =>
    newK r11.2 (.cells [(.int .i64 i12), (.int .i64 i15)] (.grow 1) 0) fun h_2 =>
    some (.tup [(.sl (.pos ⟨List.length r11.2, 0, 0⟩) 2), (.int .i64 0)], h_2)
    )
  ) := (EV_eq (P := Try.prog) (T := T0) rfl cf23 [(.agg [(.int .i64 i0x0), (.int .i64 i0x1), (.int .i64 i0x2), (.int .i64 i0x3), (.int .i64 i0x4)])] h).trans (r23 mk0 E i0x0 i0x1 i0x2 i0x3 i0x4 h)
def k22x6 : AC := .ret
def k22x5 : AC := .seq (.mask 12) k22x6
def k22x4 : AC := .mask 2
def k22x3 : AC := .seq (.cond (.tmp 8)
   (.seq (.ops false [
      ⟨(some 9), .move (.tmp 4), none, []⟩,
      ⟨(some 2), .move (.c (.sl .nil 0)), none, []⟩,
      ⟨(some 3), .move (.tmp 9), none, []⟩]) k22x5)
   (.skip)) k22x4
def k22x2 : AC := .seq (.ops false [
    ⟨(some 7), .move (.tmp 4), none, []⟩,
    ⟨(some 8), .bin .other .neq (.tmp 7) (.c (.int .i64 0)), none, []⟩]) k22x3
def k22x11 : AC := .ret
def k22x10 : AC := .seq (.mask 12) k22x11
def k22x9 : AC := .mask 2
def k22x8 : AC := .seq (.cond (.tmp 12)
   (.seq (.ops false [
      ⟨(some 13), .load (.agg [(.int .i64), (.int .i64), (.int .i64), (.int .i64), (.int .i64)]) (.tmp 1), none, []⟩,
      ⟨(some 14), .call 23 [(.tmp 13)] [(.cell .sl), (.cell (.int .i64))] .opq, none, []⟩,
      ⟨(some 15), .extract (.tmp 14) 0, none, []⟩,
      ⟨(some 16), .extract (.tmp 14) 1, none, []⟩,
      ⟨(some 2), .move (.tmp 15), none, []⟩,
      ⟨(some 3), .move (.tmp 16), none, []⟩]) k22x10)
   (.skip)) k22x9
def k22x13 : AC := .ret
def k22x12 : AC := .seq (.mask 12) k22x13
def k22x7 : AC := .seq (.ops false [
    ⟨(some 17), .load (.agg [(.int .i64), (.int .i64), (.int .i64), (.int .i64), (.int .i64)]) (.tmp 1), none, []⟩,
    ⟨(some 19), .fieldAddr 4 (.tmp 1), none, []⟩,
    ⟨(some 20), .load (.cell (.int .i64)) (.tmp 19), none, []⟩,
    ⟨(some 21), .bin .other .and (.tmp 20) (.c (.int .i64 255)), none, []⟩,
    ⟨(some 18), .call 40 [(.tmp 17)] [(.cell (.int .i64))] (.int .i64 0), none, [.load 1 19 none]⟩,
    ⟨(some 22), .bin .other .or (.tmp 18) (.tmp 21), none, []⟩,
    ⟨(some 23), .buildSl [(.int .i64 0)] 1 [(0, (.tmp 22))], none, []⟩,
    ⟨(some 2), .move (.tmp 23), none, []⟩,
    ⟨(some 3), .move (.c (.int .i64 0)), none, []⟩]) k22x12
def k22x1 : AC := .seq (.seq (.ops false [
    ⟨(some 10), .load (.agg [(.int .i64), (.int .i64), (.int .i64), (.int .i64), (.int .i64)]) (.tmp 1), none, []⟩,
    ⟨(some 11), .call 25 [(.tmp 10)] [(.cell (.int .i64))] (.int .i64 0), none, []⟩,
    ⟨(some 12), .bin .other .eql (.tmp 11) (.c (.int .i64 2)), none, []⟩]) k22x8) k22x7
def k22x0 : AC := .seq (.seq (.ops false [
    ⟨(some 5), .load (.agg [(.int .i64), (.int .i64), (.int .i64), (.int .i64), (.int .i64)]) (.tmp 1), none, []⟩,
    ⟨(some 6), .call 39 [(.tmp 5)] [(.cell (.int .i64))] (.int .i64 0), none, []⟩,
    ⟨(some 4), .move (.tmp 6), none, []⟩]) k22x2) k22x1
/-- provenance/insn.Encode -/
def c22 : AFn := ⟨24, [.tmp 2, .tmp 3],
  .seq (.ops false [
    ⟨(some 1), .boxL (.tmp 0), none, []⟩,
    ⟨(some 2), .move (.c (.sl .nil 0)), none, []⟩,
    ⟨(some 3), .move (.c (.int .i64 0)), none, []⟩]) k22x0⟩
theorem r22 (i0x0 : Int) (i0x1 : Int) (i0x2 : Int) (i0x3 : Int) (i0x4 : Int) (h : Heap) : runE M C c22 [(.agg [(.int .i64 i0x0), (.int .i64 i0x1), (.int .i64 i0x2), (.int .i64 i0x3), (.int .i64 i0x4)])] h = (
  (C 39 [(.agg [(.int .i64 i0x0), (.int .i64 i0x1), (.int .i64 i0x2), (.int .i64 i0x3), (.int .i64 i0x4)])] h).bind fun r6 =>
  gI .i64 (some r6.1) true fun i6 =>
  letK ((!decide ((i6 : Int) = 0)) : Bool) fun b8 =>
  if b8 = true then
    (
    some (.tup [(.sl .nil 0), (.int .i64 i6)], r6.2)
    )
  else
    (
    (C 25 [(.agg [(.int .i64 i0x0), (.int .i64 i0x1), (.int .i64 i0x2), (.int .i64 i0x3), (.int .i64 i0x4)])] r6.2).bind fun r11 =>
    gI .i64 (some r11.1) true fun i11 =>
    letK ((decide ((i11 : Int) = 2)) : Bool) fun b12 =>
    if b12 = true then
      (
      (C 23 [(.agg [(.int .i64 i0x0), (.int .i64 i0x1), (.int .i64 i0x2), (.int .i64 i0x3), (.int .i64 i0x4)])] r11.2).bind fun r14 =>
      gT 2 r14.1 true fun u14 =>
      gL (some (List.getD u14 0 .opq)) true fun s14x0 n14x0 =>
      gI .i64 (some (List.getD u14 1 .opq)) true fun i14x1 =>
      some (.tup [(.sl s14x0 n14x0), (.int .i64 i14x1)], r14.2)
      )
    else
      (
      letK ((Go.bits .and .i64 i0x4 255) : Int) fun i21 =>
      (C 40 [(.agg [(.int .i64 i0x0), (.int .i64 i0x1), (.int .i64 i0x2), (.int .i64 i0x3), (.int .i64 i0x4)])] r11.2).bind fun r18 =>
      gI .i64 (some r18.1) true fun i18 =>
      letK ((Go.bits .or .i64 i18 i21) : Int) fun i22 =>
      newK r18.2 (.cells [(.int .i64 i22)] (.grow 1) 0) fun h_2 =>
      some (.tup [(.sl (.pos ⟨List.length r18.2, 0, 0⟩) 1), (.int .i64 0)], h_2)
      )
    )
  ) := by kernel_rfl
theorem cf22 : cFn Try.prog 22 = some c22 := by kernel_rfl
theorem e22 (i0x0 : Int) (i0x1 : Int) (i0x2 : Int) (i0x3 : Int) (i0x4 : Int) (h : Heap) : E 22 [(.agg [(.int .i64 i0x0), (.int .i64 i0x1), (.int .i64 i0x2), (.int .i64 i0x3), (.int .i64 i0x4)])] h = (
  (E 39 [(.agg [(.int .i64 i0x0), (.int .i64 i0x1), (.int .i64 i0x2), (.int .i64 i0x3), (.int .i64 i0x4)])] h).bind fun r6 =>
  gI .i64 (some r6.1) true fun i6 =>
  letK ((!decide ((i6 : Int) = 0)) : Bool) fun b8 =>
  if b8 = true then
    (
    some (.tup [(.sl .nil 0), (.int .i64 i6)], r6.2)
    )
  else
    (
    (E 25 [(.agg [(.int .i64 i0x0), (.int .i64 i0x1), (.int .i64 i0x2), (.int .i64 i0x3), (.int .i64 i0x4)])] r6.2).bind fun r11 =>
    gI .i64 (some r11.1) true fun i11 =>
    letK ((decide ((i11 : Int) = 2)) : Bool) fun b12 =>
    if b12 = true then
      (
      (E 23 [(.agg [(.int .i64 i0x0), (.int .i64 i0x1), (.int .i64 i0x2), (.int .i64 i0x3), (.int .i64 i0x4)])] r11.2).bind fun r14 =>
      gT 2 r14.1 true fun u14 =>
      gL (some (List.getD u14 0 .opq)) true fun s14x0 n14x0 =>
      gI .i64 (some (List.getD u14 1 .opq)) true fun i14x1 =>
      some (.tup [(.sl s14x0 n14x0), (.int .i64 i14x1)], r14.2)
      )
    else
      (
      letK ((Go.bits .and .i64 i0x4 255) : Int) fun i21 =>
      (E 40 [(.agg [(.int .i64 i0x0), (.int .i64 i0x1), (.int .i64 i0x2), (.int .i64 i0x3), (.int .i64 i0x4)])] r11.2).bind fun r18 =>
      gI .i64 (some r18.1) true fun i18 =>
      letK ((Go.bits .or .i64 i18 i21) : Int) fun i22 =>
      newK r18.2 (.cells [(.int .i64 i22)] (.grow 1) 0) fun h_2 =>
      some (.tup [(.sl (.pos ⟨List.length r18.2, 0, 0⟩) 1), (.int .i64 0)], h_2)
      )
    )
  ) := (EV_eq (P := Try.prog) (T := T0) rfl cf22 [(.agg [(.int .i64 i0x0), (.int .i64 i0x1), (.int .i64 i0x2), (.int .i64 i0x3), (.int .i64 i0x4)])] h).trans (r22 mk0 E i0x0 i0x1 i0x2 i0x3 i0x4 h)
def k27x5 : AC := .ret
def k27x4 : AC := .seq (.mask 28) k27x5
def k27x3 : AC := .mask 5
def k27x2 : AC := .seq (.cond (.tmp 10)
   (.seq (.ops false [
      ⟨(some 11), .build [(.int .i64 0), (.int .i64 0), (.int .i64 0), (.int .i64 0), (.int .i64 0)] [], none, []⟩,
      ⟨none, .store 5 (.tmp 2) (.tmp 11), none, []⟩,
      ⟨(some 3), .move (.c (.int .i64 0)), none, []⟩,
      ⟨(some 4), .move (.c (.int .i64 12)), none, []⟩]) k27x4)
   (.skip)) k27x3
def k27x11 : AC := .ret
def k27x10 : AC := .seq (.mask 28) k27x11
def k27x9 : AC := .mask 37
def k27x8 : AC := .seq (.cond (.tmp 22)
   (.seq (.ops false [
      ⟨(some 23), .build [(.int .i64 0), (.int .i64 0), (.int .i64 0), (.int .i64 0), (.int .i64 0)] [], none, []⟩,
      ⟨none, .store 5 (.tmp 2) (.tmp 23), none, []⟩,
      ⟨(some 3), .move (.c (.int .i64 0)), none, []⟩,
      ⟨(some 4), .move (.c (.int .i64 3)), none, []⟩]) k27x10)
   (.skip)) k27x9
def k27x21 : AC := .ret
def k27x20 : AC := .seq (.mask 28) k27x21
def k27x19 : AC := .mask 69
def k27x18 : AC := .seq (.cond (.tmp 45)
   (.seq (.ops false [
      ⟨(some 46), .build [(.int .i64 0), (.int .i64 0), (.int .i64 0), (.int .i64 0), (.int .i64 0)] [], none, []⟩,
      ⟨none, .store 5 (.tmp 2) (.tmp 46), none, []⟩,
      ⟨(some 3), .move (.c (.int .i64 0)), none, []⟩,
      ⟨(some 4), .move (.c (.int .i64 3)), none, []⟩]) k27x20)
   (.skip)) k27x19
def k27x26 : AC := .ret
def k27x25 : AC := .seq (.mask 28) k27x26
def k27x24 : AC := .mask 69
def k27x23 : AC := .seq (.cond (.tmp 49)
   (.seq (.ops false [
      ⟨(some 50), .build [(.int .i64 0), (.int .i64 0), (.int .i64 0), (.int .i64 0), (.int .i64 0)] [], none, []⟩,
      ⟨none, .store 5 (.tmp 2) (.tmp 50), none, []⟩,
      ⟨(some 3), .move (.c (.int .i64 0)), none, []⟩,
      ⟨(some 4), .move (.c (.int .i64 12)), none, []⟩]) k27x25)
   (.skip)) k27x24
def k27x31 : AC := .ret
def k27x30 : AC := .seq (.mask 28) k27x31
def k27x29 : AC := .mask 69
def k27x28 : AC := .seq (.cond (.tmp 55)
   (.seq (.ops false [
      ⟨(some 56), .build [(.int .i64 0), (.int .i64 0), (.int .i64 0), (.int .i64 0), (.int .i64 0)] [], none, []⟩,
      ⟨none, .store 5 (.tmp 2) (.tmp 56), none, []⟩,
      ⟨(some 3), .move (.c (.int .i64 0)), none, []⟩,
      ⟨(some 4), .move (.c (.int .i64 3)), none, []⟩]) k27x30)
   (.skip)) k27x29
def k27x27 : AC := .ops false [
    ⟨(some 57), .move (.tmp 0), none, []⟩,
    ⟨(some 58), .indexAddr 1 (.tmp 57) (.c (.int .i64 1)), none, []⟩,
    ⟨(some 59), .load (.cell (.int .i64)) (.tmp 58), none, []⟩,
    ⟨(some 60), .conv .i32 (.tmp 59), none, []⟩,
    ⟨(some 61), .conv .i64 (.tmp 60), none, []⟩,
    ⟨(some 62), .fieldAddr 4 (.tmp 6), none, []⟩,
    ⟨none, .store 1 (.tmp 62) (.tmp 61), none, []⟩,
    ⟨(some 7), .move (.c (.int .i64 2)), none, []⟩]
def k27x22 : AC := .seq (.seq (.ops false [
    ⟨(some 51), .move (.tmp 0), none, []⟩,
    ⟨(some 52), .indexAddr 1 (.tmp 51) (.c (.int .i64 1)), none, []⟩,
    ⟨(some 53), .load (.cell (.int .i64)) (.tmp 52), none, []⟩,
    ⟨(some 54), .call 41 [(.tmp 53), (.c (.int .i64 0)), (.c (.int .i64 4294967295))] [(.cell .bool)] (.bool false), none, []⟩,
    ⟨(some 55), .un .not (.tmp 54), none, []⟩]) k27x28) k27x27
def k27x17 : AC := .seq (.seq (.ops false [
    ⟨(some 47), .move (.tmp 0), none, []⟩,
    ⟨(some 48), .lenSl (.tmp 47), none, []⟩,
    ⟨(some 49), .bin .other .lss (.tmp 48) (.c (.int .i64 2)), none, []⟩]) k27x23) k27x22
def k27x16 : AC := .join 196
def k27x15 : AC := .seq (.cond (.tmp 42)
   (.seq (.seq (.ops false [
      ⟨(some 43), .move (.tmp 5), none, []⟩,
      ⟨(some 44), .bin .other .and (.tmp 43) (.c (.int .i64 255)), none, []⟩,
      ⟨(some 45), .bin .other .neq (.tmp 44) (.c (.int .i64 0)), none, []⟩]) k27x18) k27x17)
   (.skip)) k27x16
def k27x37 : AC := .ret
def k27x36 : AC := .seq (.mask 28) k27x37
def k27x35 : AC := .mask 196
def k27x34 : AC := .seq (.cond (.tmp 65)
   (.seq (.ops false [
      ⟨(some 66), .build [(.int .i64 0), (.int .i64 0), (.int .i64 0), (.int .i64 0), (.int .i64 0)] [], none, []⟩,
      ⟨none, .store 5 (.tmp 2) (.tmp 66), none, []⟩,
      ⟨(some 3), .move (.c (.int .i64 0)), none, []⟩,
      ⟨(some 4), .move (.c (.int .i64 3)), none, []⟩]) k27x36)
   (.skip)) k27x35
def k27x39 : AC := .ret
def k27x38 : AC := .seq (.mask 28) k27x39
def k27x33 : AC := .seq (.ops false [
    ⟨(some 67), .load (.agg [(.int .i64), (.int .i64), (.int .i64), (.int .i64), (.int .i64)]) (.tmp 6), none, []⟩,
    ⟨(some 68), .move (.tmp 7), none, []⟩,
    ⟨none, .store 5 (.tmp 2) (.tmp 67), none, []⟩,
    ⟨(some 3), .move (.tmp 68), none, []⟩,
    ⟨(some 4), .move (.c (.int .i64 0)), none, []⟩]) k27x38
def k27x14 : AC := .seq (.seq (.ops false [
    ⟨(some 63), .load (.agg [(.int .i64), (.int .i64), (.int .i64), (.int .i64), (.int .i64)]) (.tmp 6), none, []⟩,
    ⟨(some 64), .call 39 [(.tmp 63)] [(.cell (.int .i64))] (.int .i64 0), none, []⟩,
    ⟨(some 65), .bin .other .neq (.tmp 64) (.c (.int .i64 0)), none, []⟩]) k27x34) k27x33
def k27x13 : AC := .seq (.seq (.ops false [
    ⟨(some 40), .move (.tmp 5), none, []⟩,
    ⟨(some 41), .bin .other .and (.tmp 40) (.c (.int .i64 67108864)), none, []⟩,
    ⟨(some 42), .bin .other .neq (.tmp 41) (.c (.int .i64 0)), none, []⟩]) k27x15) k27x14
def k27x12 : AC := .seq (.ops false [
    ⟨(some 7), .move (.c (.int .i64 1)), none, []⟩]) k27x13
def k27x7 : AC := .seq (.ops false [
    ⟨(some 24), .move (.tmp 5), none, []⟩,
    ⟨(some 25), .bin .other .shr (.tmp 24) (.c (.int .u64 27)), none, []⟩,
    ⟨(some 26), .move (.tmp 5), none, []⟩,
    ⟨(some 27), .bin .other .shr (.tmp 26) (.c (.int .u64 22)), none, []⟩,
    ⟨(some 28), .bin .other .and (.tmp 27) (.c (.int .i64 15)), none, []⟩,
    ⟨(some 29), .move (.tmp 5), none, []⟩,
    ⟨(some 30), .bin .other .shr (.tmp 29) (.c (.int .u64 18)), none, []⟩,
    ⟨(some 31), .bin .other .and (.tmp 30) (.c (.int .i64 15)), none, []⟩,
    ⟨(some 32), .move (.tmp 5), none, []⟩,
    ⟨(some 33), .bin .other .shr (.tmp 32) (.c (.int .u64 14)), none, []⟩,
    ⟨(some 34), .bin .other .and (.tmp 33) (.c (.int .i64 15)), none, []⟩,
    ⟨(some 35), .move (.tmp 5), none, []⟩,
    ⟨(some 36), .bin .other .and (.tmp 35) (.c (.int .i64 255)), none, []⟩,
    ⟨(some 37), .conv .i8 (.tmp 36), none, []⟩,
    ⟨(some 38), .conv .i64 (.tmp 37), none, []⟩,
    ⟨(some 39), .build [(.int .i64 0), (.int .i64 0), (.int .i64 0), (.int .i64 0), (.int .i64 0)] [(0, 1, (.tmp 25)), (1, 1, (.tmp 28)), (2, 1, (.tmp 31)), (3, 1, (.tmp 34)), (4, 1, (.tmp 38))], none, []⟩,
    ⟨(some 6), .allocL [(.int .i64 0), (.int .i64 0), (.int .i64 0), (.int .i64 0), (.int .i64 0)], none, []⟩,
    ⟨none, .store 5 (.tmp 6) (.tmp 39), none, []⟩]) k27x12
def k27x6 : AC := .seq (.seq (.ops true [
    ⟨(some 15), .move (.tmp 5), none, []⟩,
    ⟨(some 16), .call 41 [(.tmp 15), (.c (.int .i64 0)), (.c (.int .i64 4294967295))] [(.cell .bool)] (.bool false), none, []⟩,
    ⟨(some 17), .un .not (.tmp 16), none, []⟩,
    ⟨(some 18), .move (.tmp 17), none, []⟩,
    ⟨(some 19), .move (.tmp 5), (some (18, false)), []⟩,
    ⟨(some 20), .bin .other .and (.tmp 19) (.c (.int .i64 16128)), (some (18, false)), []⟩,
    ⟨(some 21), .bin .other .neq (.tmp 20) (.c (.int .i64 0)), (some (18, false)), []⟩,
    ⟨(some 22), .pick (.tmp 18) (.c (.bool true)) (.tmp 21), none, []⟩]) k27x8) k27x7
def k27x1 : AC := .seq (.ops false [
    ⟨(some 12), .move (.tmp 0), none, []⟩,
    ⟨(some 13), .indexAddr 1 (.tmp 12) (.c (.int .i64 0)), none, []⟩,
    ⟨(some 14), .load (.cell (.int .i64)) (.tmp 13), none, []⟩,
    ⟨(some 5), .move (.tmp 14), none, []⟩]) k27x6
def k27x0 : AC := .seq (.seq (.ops false [
    ⟨(some 8), .move (.tmp 0), none, []⟩,
    ⟨(some 9), .lenSl (.tmp 8), none, []⟩,
    ⟨(some 10), .bin .other .eql (.tmp 9) (.c (.int .i64 0)), none, []⟩]) k27x2) k27x1
/-- provenance/insn.Decode -/
def c27 : AFn := ⟨69, [.cell 2 (.agg [(.int .i64), (.int .i64), (.int .i64), (.int .i64), (.int .i64)]), .tmp 3, .tmp 4],
  .seq (.ops false [
    ⟨(some 2), .allocL [(.int .i64 0), (.int .i64 0), (.int .i64 0), (.int .i64 0), (.int .i64 0)], none, []⟩,
    ⟨(some 3), .move (.c (.int .i64 0)), none, []⟩,
    ⟨(some 4), .move (.c (.int .i64 0)), none, []⟩]) k27x0⟩
noncomputable def J27x32 (i2x0 : Int) (i2x1 : Int) (i2x2 : Int) (i2x3 : Int) (i2x4 : Int) (i6x0 : Int) (i6x1 : Int) (i6x2 : Int) (i6x3 : Int) (i6x4 : Int) (i7 : Int) (h : Heap) : Res := M (AV × Heap) (seqQ (evalE M C k27x14) (endQ [.cell 2 (.agg [(.int .i64), (.int .i64), (.int .i64), (.int .i64), (.int .i64)]), .tmp 3, .tmp 4])) (.any :: .any :: (.box [(.int .i64 i2x0), (.int .i64 i2x1), (.int .i64 i2x2), (.int .i64 i2x3), (.int .i64 i2x4)] :: (rep 3 (.box [(.int .i64 i6x0), (.int .i64 i6x1), (.int .i64 i6x2), (.int .i64 i6x3), (.int .i64 i6x4)] :: (.g [] true (.int .i64 i7) :: (rep 61 [])))))) h
theorem r27 (s0 : SA) (n0 : Nat) (h : Heap) : runE M C c27 [(.sl s0 n0)] h = (
  letK ((decide ((((n0 : Nat) : Int) : Int) = 0)) : Bool) fun b10 =>
  if b10 = true then
    (
    some (.tup [(.agg [(.int .i64 0), (.int .i64 0), (.int .i64 0), (.int .i64 0), (.int .i64 0)]), (.int .i64 0), (.int .i64 12)], h)
    )
  else
    (
    chk (true = true → (0 : Int) ≤ 0 ∧ (0 : Int) < ((n0 : Nat) : Int)) <|
    atP (adP s0) true fun a13 =>
    gI .i64 (ld1 h (Ad.add a13 (Int.toNat 0 * 1))) true fun i14 =>
    (C 41 [(.int .i64 i14), (.int .i64 0), (.int .i64 4294967295)] h).bind fun r16 =>
    gB (some r16.1) true fun b16 =>
    letK ((Go.bits .and .i64 i14 16128) : Int) fun i20 =>
    letK ((!decide ((i20 : Int) = 0)) : Bool) fun b21 =>
    letK ((if (!b16) = true then true else b21) : Bool) fun b22 =>
    if b22 = true then
      (
      some (.tup [(.agg [(.int .i64 0), (.int .i64 0), (.int .i64 0), (.int .i64 0), (.int .i64 0)]), (.int .i64 0), (.int .i64 3)], r16.2)
      )
    else
      (
      letK ((Int.fdiv i14 (2 ^ 27)) : Int) fun i25 =>
      letK ((Int.fdiv i14 (2 ^ 22)) : Int) fun i27 =>
      letK ((Go.bits .and .i64 i27 15) : Int) fun i28 =>
      letK ((Int.fdiv i14 (2 ^ 18)) : Int) fun i30 =>
      letK ((Go.bits .and .i64 i30 15) : Int) fun i31 =>
      letK ((Int.fdiv i14 (2 ^ 14)) : Int) fun i33 =>
      letK ((Go.bits .and .i64 i33 15) : Int) fun i34 =>
      letK ((Go.bits .and .i64 i14 255) : Int) fun i36 =>
      letK ((IntKind.wrap .i8 i36) : Int) fun i37 =>
      letK ((IntKind.wrap .i64 i37) : Int) fun i38 =>
      letK ((Go.bits .and .i64 i14 67108864) : Int) fun i41 =>
      letK ((!decide ((i41 : Int) = 0)) : Bool) fun b42 =>
      if b42 = true then
        (
        letK ((Go.bits .and .i64 i14 255) : Int) fun i44 =>
        letK ((!decide ((i44 : Int) = 0)) : Bool) fun b45 =>
        if b45 = true then
          (
          some (.tup [(.agg [(.int .i64 0), (.int .i64 0), (.int .i64 0), (.int .i64 0), (.int .i64 0)]), (.int .i64 0), (.int .i64 3)], r16.2)
          )
        else
          (
          letK ((decide ((((n0 : Nat) : Int) : Int) < 2)) : Bool) fun b49 =>
          if b49 = true then
            (
            some (.tup [(.agg [(.int .i64 0), (.int .i64 0), (.int .i64 0), (.int .i64 0), (.int .i64 0)]), (.int .i64 0), (.int .i64 12)], r16.2)
            )
          else
            (
            chk (true = true → (0 : Int) ≤ 1 ∧ (1 : Int) < ((n0 : Nat) : Int)) <|
            atP (adP s0) true fun a52 =>
            gI .i64 (ld1 r16.2 (Ad.add a52 (Int.toNat 1 * 1))) true fun i53 =>
            (C 41 [(.int .i64 i53), (.int .i64 0), (.int .i64 4294967295)] r16.2).bind fun r54 =>
            gB (some r54.1) true fun b54 =>
            if (!b54) = true then
              (
              some (.tup [(.agg [(.int .i64 0), (.int .i64 0), (.int .i64 0), (.int .i64 0), (.int .i64 0)]), (.int .i64 0), (.int .i64 3)], r54.2)
              )
            else
              (
              chk (true = true → (0 : Int) ≤ 1 ∧ (1 : Int) < ((n0 : Nat) : Int)) <|
              atP (adP s0) true fun a58 =>
              gI .i64 (ld1 r54.2 (Ad.add a58 (Int.toNat 1 * 1))) true fun i59 =>
              letK ((IntKind.wrap .i32 i59) : Int) fun i60 =>
              letK ((IntKind.wrap .i64 i60) : Int) fun i61 =>
              J27x32 M C 0 0 0 0 0 i25 i28 i31 i34 i61 2 r54.2
              )
            )
          )
        )
      else
        (
        J27x32 M C 0 0 0 0 0 i25 i28 i31 i34 i38 1 r16.2
        )
      )
    )
  ) := by kernel_rfl
theorem cf27 : cFn Try.prog 27 = some c27 := by kernel_rfl
theorem e27 (s0 : SA) (n0 : Nat) (h : Heap) : E 27 [(.sl s0 n0)] h = (
  letK ((decide ((((n0 : Nat) : Int) : Int) = 0)) : Bool) fun b10 =>
  if b10 = true then
    (
    some (.tup [(.agg [(.int .i64 0), (.int .i64 0), (.int .i64 0), (.int .i64 0), (.int .i64 0)]), (.int .i64 0), (.int .i64 12)], h)
    )
  else
    (
    chk (true = true → (0 : Int) ≤ 0 ∧ (0 : Int) < ((n0 : Nat) : Int)) <|
    atP (adP s0) true fun a13 =>
    gI .i64 (ld1 h (Ad.add a13 (Int.toNat 0 * 1))) true fun i14 =>
    (E 41 [(.int .i64 i14), (.int .i64 0), (.int .i64 4294967295)] h).bind fun r16 =>
    gB (some r16.1) true fun b16 =>
    letK ((Go.bits .and .i64 i14 16128) : Int) fun i20 =>
    letK ((!decide ((i20 : Int) = 0)) : Bool) fun b21 =>
    letK ((if (!b16) = true then true else b21) : Bool) fun b22 =>
    if b22 = true then
      (
      some (.tup [(.agg [(.int .i64 0), (.int .i64 0), (.int .i64 0), (.int .i64 0), (.int .i64 0)]), (.int .i64 0), (.int .i64 3)], r16.2)
      )
    else
      (
      letK ((Int.fdiv i14 (2 ^ 27)) : Int) fun i25 =>
      letK ((Int.fdiv i14 (2 ^ 22)) : Int) fun i27 =>
      letK ((Go.bits .and .i64 i27 15) : Int) fun i28 =>
      letK ((Int.fdiv i14 (2 ^ 18)) : Int) fun i30 =>
      letK ((Go.bits .and .i64 i30 15) : Int) fun i31 =>
      letK ((Int.fdiv i14 (2 ^ 14)) : Int) fun i33 =>
      letK ((Go.bits .and .i64 i33 15) : Int) fun i34 =>
      letK ((Go.bits .and .i64 i14 255) : Int) fun i36 =>
      letK ((IntKind.wrap .i8 i36) : Int) fun i37 =>
      letK ((IntKind.wrap .i64 i37) : Int) fun i38 =>
      letK ((Go.bits .and .i64 i14 67108864) : Int) fun i41 =>
      letK ((!decide ((i41 : Int) = 0)) : Bool) fun b42 =>
      if b42 = true then
        (
        letK ((Go.bits .and .i64 i14 255) : Int) fun i44 =>
        letK ((!decide ((i44 : Int) = 0)) : Bool) fun b45 =>
        if b45 = true then
          (
          some (.tup [(.agg [(.int .i64 0), (.int .i64 0), (.int .i64 0), (.int .i64 0), (.int .i64 0)]), (.int .i64 0), (.int .i64 3)], r16.2)
          )
        else
          (
          letK ((decide ((((n0 : Nat) : Int) : Int) < 2)) : Bool) fun b49 =>
          if b49 = true then
            (
            some (.tup [(.agg [(.int .i64 0), (.int .i64 0), (.int .i64 0), (.int .i64 0), (.int .i64 0)]), (.int .i64 0), (.int .i64 12)], r16.2)
            )
          else
            (
            chk (true = true → (0 : Int) ≤ 1 ∧ (1 : Int) < ((n0 : Nat) : Int)) <|
            atP (adP s0) true fun a52 =>
            gI .i64 (ld1 r16.2 (Ad.add a52 (Int.toNat 1 * 1))) true fun i53 =>
            (E 41 [(.int .i64 i53), (.int .i64 0), (.int .i64 4294967295)] r16.2).bind fun r54 =>
            gB (some r54.1) true fun b54 =>
            if (!b54) = true then
              (
              some (.tup [(.agg [(.int .i64 0), (.int .i64 0), (.int .i64 0), (.int .i64 0), (.int .i64 0)]), (.int .i64 0), (.int .i64 3)], r54.2)
              )
            else
              (
              chk (true = true → (0 : Int) ≤ 1 ∧ (1 : Int) < ((n0 : Nat) : Int)) <|
              atP (adP s0) true fun a58 =>
              gI .i64 (ld1 r54.2 (Ad.add a58 (Int.toNat 1 * 1))) true fun i59 =>
              letK ((IntKind.wrap .i32 i59) : Int) fun i60 =>
              letK ((IntKind.wrap .i64 i60) : Int) fun i61 =>
              J27x32 mk0 E 0 0 0 0 0 i25 i28 i31 i34 i61 2 r54.2
              )
            )
          )
        )
      else
        (
        J27x32 mk0 E 0 0 0 0 0 i25 i28 i31 i34 i38 1 r16.2
        )
      )
    )
  ) := (EV_eq (P := Try.prog) (T := T0) rfl cf27 [(.sl s0 n0)] h).trans (r27 mk0 E s0 n0 h)
theorem J27x32xaux (i2x0 : Int) (i2x1 : Int) (i2x2 : Int) (i2x3 : Int) (i2x4 : Int) (i6x0 : Int) (i6x1 : Int) (i6x2 : Int) (i6x3 : Int) (i6x4 : Int) (i7 : Int) (h : Heap) : (forceK tk (.any :: .any :: (.box [(.int .i64 i2x0), (.int .i64 i2x1), (.int .i64 i2x2), (.int .i64 i2x3), (.int .i64 i2x4)] :: (rep 3 (.box [(.int .i64 i6x0), (.int .i64 i6x1), (.int .i64 i6x2), (.int .i64 i6x3), (.int .i64 i6x4)] :: (.g [] true (.int .i64 i7) :: (rep 61 [])))))) fun e => (seqQ (evalE M C k27x14) (endQ [.cell 2 (.agg [(.int .i64), (.int .i64), (.int .i64), (.int .i64), (.int .i64)]), .tmp 3, .tmp 4])) .normal ⟨e, h⟩) = (
  (C 39 [(.agg [(.int .i64 i6x0), (.int .i64 i6x1), (.int .i64 i6x2), (.int .i64 i6x3), (.int .i64 i6x4)])] h).bind fun r64 =>
  gI .i64 (some r64.1) true fun i64 =>
  letK ((!decide ((i64 : Int) = 0)) : Bool) fun b65 =>
  if b65 = true then
    (
    some (.tup [(.agg [(.int .i64 0), (.int .i64 0), (.int .i64 0), (.int .i64 0), (.int .i64 0)]), (.int .i64 0), (.int .i64 3)], r64.2)
    )
  else
    (
    some (.tup [(.agg [(.int .i64 i6x0), (.int .i64 i6x1), (.int .i64 i6x2), (.int .i64 i6x3), (.int .i64 i6x4)]), (.int .i64 i7), (.int .i64 0)], r64.2)
    )
  ) := by kernel_rfl
theorem J27x32xeq (i2x0 : Int) (i2x1 : Int) (i2x2 : Int) (i2x3 : Int) (i2x4 : Int) (i6x0 : Int) (i6x1 : Int) (i6x2 : Int) (i6x3 : Int) (i6x4 : Int) (i7 : Int) (h : Heap) : J27x32 mk0 C i2x0 i2x1 i2x2 i2x3 i2x4 i6x0 i6x1 i6x2 i6x3 i6x4 i7 h = (
  (C 39 [(.agg [(.int .i64 i6x0), (.int .i64 i6x1), (.int .i64 i6x2), (.int .i64 i6x3), (.int .i64 i6x4)])] h).bind fun r64 =>
  gI .i64 (some r64.1) true fun i64 =>
  letK ((!decide ((i64 : Int) = 0)) : Bool) fun b65 =>
  if b65 = true then
    (
    some (.tup [(.agg [(.int .i64 0), (.int .i64 0), (.int .i64 0), (.int .i64 0), (.int .i64 0)]), (.int .i64 0), (.int .i64 3)], r64.2)
    )
  else
    (
    some (.tup [(.agg [(.int .i64 i6x0), (.int .i64 i6x1), (.int .i64 i6x2), (.int .i64 i6x3), (.int .i64 i6x4)]), (.int .i64 i7), (.int .i64 0)], r64.2)
    )
  ) := join_eqn (seqQ (evalE mk0 C k27x14) (endQ [.cell 2 (.agg [(.int .i64), (.int .i64), (.int .i64), (.int .i64), (.int .i64)]), .tmp 3, .tmp 4])) (.any :: .any :: (.box [(.int .i64 i2x0), (.int .i64 i2x1), (.int .i64 i2x2), (.int .i64 i2x3), (.int .i64 i2x4)] :: (rep 3 (.box [(.int .i64 i6x0), (.int .i64 i6x1), (.int .i64 i6x2), (.int .i64 i6x3), (.int .i64 i6x4)] :: (.g [] true (.int .i64 i7) :: (rep 61 [])))))) h (J27x32xaux mk0 C i2x0 i2x1 i2x2 i2x3 i2x4 i6x0 i6x1 i6x2 i6x3 i6x4 i7 h)
def k24x3 : AC := .ret
def k24x2 : AC := .seq (.mask 1) k24x3
def k24x1 : AC := .seq (.ops true [
    ⟨(some 8), .move (.tmp 2), none, []⟩,
    ⟨(some 9), .bin .other .eql (.tmp 8) (.c (.int .i64 0)), none, []⟩,
    ⟨(some 10), .move (.tmp 9), none, []⟩,
    ⟨(some 11), .move (.tmp 1), (some (10, true)), []⟩,
    ⟨(some 12), .lenSl (.tmp 11), (some (10, true)), []⟩,
    ⟨(some 13), .bin .other .eql (.tmp 12) (.c (.int .i64 1)), (some (10, true)), []⟩,
    ⟨(some 14), .pick (.tmp 10) (.tmp 13) (.c (.bool false)), none, []⟩,
    ⟨(some 15), .move (.tmp 14), none, []⟩,
    ⟨(some 16), .move (.tmp 1), (some (15, true)), []⟩,
    ⟨(some 17), .indexAddr 1 (.tmp 16) (.c (.int .i64 0)), (some (15, true)), []⟩,
    ⟨(some 18), .load (.cell (.int .i64)) (.tmp 17), (some (15, true)), []⟩,
    ⟨(some 19), .bin .other .eql (.tmp 18) (.c (.int .i64 1484783871)), (some (15, true)), []⟩,
    ⟨(some 20), .pick (.tmp 15) (.tmp 19) (.c (.bool false)), none, []⟩,
    ⟨(some 0), .move (.tmp 20), none, []⟩]) k24x2
def k24x0 : AC := .seq (.ops false [
    ⟨(some 4), .build [(.int .i64 0), (.int .i64 0), (.int .i64 0), (.int .i64 0), (.int .i64 0)] [(0, 1, (.c (.int .i64 11))), (1, 1, (.c (.int .i64 2))), (4, 1, (.c (.int .i64 (-1))))], none, []⟩,
    ⟨(some 5), .call 22 [(.tmp 4)] [(.cell .sl), (.cell (.int .i64))] .opq, none, []⟩,
    ⟨(some 3), .move (.tmp 5), none, []⟩,
    ⟨(some 6), .extract (.tmp 3) 0, none, []⟩,
    ⟨(some 7), .extract (.tmp 3) 1, none, []⟩,
    ⟨(some 1), .move (.tmp 6), none, []⟩,
    ⟨(some 2), .move (.tmp 7), none, []⟩]) k24x1
/-- provenance/provenancekeep4.insnFact -/
def c24 : AFn := ⟨21, [.tmp 0],
  .seq (.ops false [
    ⟨(some 0), .move (.c (.bool false)), none, []⟩]) k24x0⟩
theorem r24 (h : Heap) : runE M C c24 [] h = (
  (C 22 [(.agg [(.int .i64 11), (.int .i64 2), (.int .i64 0), (.int .i64 0), (.int .i64 (-1))])] h).bind fun r5 =>
  gT 2 r5.1 true fun u5 =>
  gL (some (List.getD u5 0 .opq)) true fun s5x0 n5x0 =>
  gI .i64 (some (List.getD u5 1 .opq)) true fun i5x1 =>
  letK ((decide ((i5x1 : Int) = 0)) : Bool) fun b9 =>
  letK ((decide ((((n5x0 : Nat) : Int) : Int) = 1)) : Bool) fun b13 =>
  letK ((if b9 = true then b13 else false) : Bool) fun b14 =>
  chk (b14 = true → (0 : Int) ≤ 0 ∧ (0 : Int) < ((n5x0 : Nat) : Int)) <|
  atP (adP s5x0) b14 fun a17 =>
  atP (some (Ad.add a17 (Int.toNat 0 * 1))) b14 fun a18 =>
  gI .i64 (ld1 r5.2 a18) b14 fun i18 =>
  letK ((decide ((i18 : Int) = 1484783871)) : Bool) fun b19 =>
  letK ((if b14 = true then b19 else false) : Bool) fun b20 =>
  some ((.bool b20), r5.2)
  ) := by kernel_rfl
theorem cf24 : cFn Try.prog 24 = some c24 := by kernel_rfl
theorem e24 (h : Heap) : E 24 [] h = (
  (E 22 [(.agg [(.int .i64 11), (.int .i64 2), (.int .i64 0), (.int .i64 0), (.int .i64 (-1))])] h).bind fun r5 =>
  gT 2 r5.1 true fun u5 =>
  gL (some (List.getD u5 0 .opq)) true fun s5x0 n5x0 =>
  gI .i64 (some (List.getD u5 1 .opq)) true fun i5x1 =>
  letK ((decide ((i5x1 : Int) = 0)) : Bool) fun b9 =>
  letK ((decide ((((n5x0 : Nat) : Int) : Int) = 1)) : Bool) fun b13 =>
  letK ((if b9 = true then b13 else false) : Bool) fun b14 =>
  chk (b14 = true → (0 : Int) ≤ 0 ∧ (0 : Int) < ((n5x0 : Nat) : Int)) <|
  atP (adP s5x0) b14 fun a17 =>
  atP (some (Ad.add a17 (Int.toNat 0 * 1))) b14 fun a18 =>
  gI .i64 (ld1 r5.2 a18) b14 fun i18 =>
  letK ((decide ((i18 : Int) = 1484783871)) : Bool) fun b19 =>
  letK ((if b14 = true then b19 else false) : Bool) fun b20 =>
  some ((.bool b20), r5.2)
  ) := (EV_eq (P := Try.prog) (T := T0) rfl cf24 [] h).trans (r24 mk0 E h)
def k26x5 : AC := .ret
def k26x4 : AC := .seq (.mask 16) k26x5
def k26x3 : AC := .mask 3
def k26x2 : AC := .seq (.cond (.tmp 10)
   (.seq (.ops false [
      ⟨(some 4), .move (.c (.bool false)), none, []⟩]) k26x4)
   (.skip)) k26x3
def k26x13 : AC := .exit 0
def k26x12 : AC := .mask 12291
def k26x20 : AC := .ret
def k26x19 : AC := .seq (.mask 16) k26x20
def k26x18 : AC := .mask 12291
def k26x17 : AC := .seq (.cond (.tmp 24)
   (.seq (.ops false [
      ⟨(some 4), .move (.c (.bool false)), none, []⟩]) k26x19)
   (.skip)) k26x18
def k26x16 : AC := .seq (.ops false [
    ⟨(some 16), .move (.tmp 0), none, []⟩,
    ⟨(some 17), .move (.tmp 5), none, []⟩,
    ⟨(some 18), .indexAddr 1 (.tmp 16) (.tmp 17), none, []⟩,
    ⟨(some 19), .load (.cell (.int .i64)) (.tmp 18), none, []⟩,
    ⟨(some 20), .move (.tmp 1), none, []⟩,
    ⟨(some 21), .move (.tmp 5), none, []⟩,
    ⟨(some 22), .indexAddr 1 (.tmp 20) (.tmp 21), none, []⟩,
    ⟨(some 23), .load (.cell (.int .i64)) (.tmp 22), none, []⟩,
    ⟨(some 24), .bin .other .neq (.tmp 19) (.tmp 23), none, []⟩]) k26x17
def k26x15 : AC := .mask 12291
def k26x14 : AC := .ops false [
    ⟨(some 25), .bin .other .add (.tmp 13) (.c (.int .i64 1)), none, []⟩,
    ⟨(some 13), .move (.tmp 25), none, []⟩]
def k26x11 : AC := .seq (.seq (.block 1 (.seq (.ops false [
     ⟨(some 15), .move (.tmp 13), none, []⟩,
     ⟨(some 5), .move (.tmp 15), none, []⟩]) k26x16)) k26x15) k26x14
def k26x10 : AC := .seq (.seq (.cond (.tmp 14)
   (.skip)
   (.seq (.mask 0) k26x13)) k26x12) k26x11
def k26x9 : AC := .seq (.ops false [
    ⟨(some 14), .bin .other .lss (.tmp 13) (.tmp 12), none, []⟩]) k26x10
def k26x8 : AC := .mask 0
def k26x7 : AC := .seq (.block 0 (.loop 12291 0 k26x9)) k26x8
def k26x22 : AC := .ret
def k26x21 : AC := .seq (.mask 16) k26x22
def k26x6 : AC := .seq (.ops false [
    ⟨(some 4), .move (.c (.bool true)), none, []⟩]) k26x21
def k26x1 : AC := .seq (.seq (.ops false [
    ⟨(some 11), .move (.tmp 0), none, []⟩,
    ⟨(some 12), .lenSl (.tmp 11), none, []⟩,
    ⟨(some 13), .move (.c (.int .i64 0)), none, []⟩]) k26x7) k26x6
def k26x0 : AC := .seq (.seq (.ops false [
    ⟨(some 6), .move (.tmp 0), none, []⟩,
    ⟨(some 7), .lenSl (.tmp 6), none, []⟩,
    ⟨(some 8), .move (.tmp 1), none, []⟩,
    ⟨(some 9), .lenSl (.tmp 8), none, []⟩,
    ⟨(some 10), .bin .other .neq (.tmp 7) (.tmp 9), none, []⟩]) k26x2) k26x1
/-- slices.Equal[[]int,int] -/
def c26 : AFn := ⟨26, [.tmp 4],
  .seq (.ops false [
    ⟨(some 4), .move (.c (.bool false)), none, []⟩]) k26x0⟩
def S26xr (b4 : Bool) (h : Heap) : St := ⟨(rep 4 (.g [] true (.bool b4) :: (rep 21 []))), h⟩
def S26xe0 (h : Heap) : St := ⟨(rep 26 []), h⟩
noncomputable def Q26x9 : Kont (AV × Heap) := (blockQ 0 (seqQ (evalE M C k26x8) (seqQ (evalE M C k26x6) (endQ [.tmp 4]))))
noncomputable def L26x9 (s0 : SA) (n0 : Nat) (s1 : SA) (n1 : Nat) (i12 : Int) (i13 : Int) (h : Heap) (Q : Kont R) : Option R := loopE (evalE M C k26x9) 12291 0 ⟨(.g [] true (.sl s0 n0) :: (.g [] true (.sl s1 n1) :: (rep 10 (.g [] true (.int .i64 i12) :: (.g [] true (.int .i64 i13) :: (rep 12 [])))))), h⟩ Q
theorem r26 (s0 : SA) (n0 : Nat) (s1 : SA) (n1 : Nat) (h : Heap) : runE M C c26 [(.sl s0 n0), (.sl s1 n1)] h = (
  letK ((!decide ((((n0 : Nat) : Int) : Int) = ((n1 : Nat) : Int))) : Bool) fun b10 =>
  if b10 = true then
    (
    some ((.bool false), h)
    )
  else
    (
    L26x9 M C s0 n0 s1 n1 ((n0 : Nat) : Int) 0 h (Q26x9 M C)
    )
  ) := by kernel_rfl
theorem cf26 : cFn Try.prog 26 = some c26 := by kernel_rfl
theorem e26 (s0 : SA) (n0 : Nat) (s1 : SA) (n1 : Nat) (h : Heap) : E 26 [(.sl s0 n0), (.sl s1 n1)] h = (
  letK ((!decide ((((n0 : Nat) : Int) : Int) = ((n1 : Nat) : Int))) : Bool) fun b10 =>
  if b10 = true then
    (
    some ((.bool false), h)
    )
  else
    (
    L26x9 mk0 E s0 n0 s1 n1 ((n0 : Nat) : Int) 0 h (Q26x9 mk0 E)
    )
  ) := (EV_eq (P := Try.prog) (T := T0) rfl cf26 [(.sl s0 n0), (.sl s1 n1)] h).trans (r26 mk0 E s0 n0 s1 n1 h)
theorem L26x9xaux (s0 : SA) (n0 : Nat) (s1 : SA) (n1 : Nat) (i12 : Int) (i13 : Int) (h : Heap) (Q : Kont R) : (restrF 12291 ⟨(.g [] true (.sl s0 n0) :: (.g [] true (.sl s1 n1) :: (rep 10 (.g [] true (.int .i64 i12) :: (.g [] true (.int .i64 i13) :: (rep 12 [])))))), h⟩ fun σ => evalE M C k26x9 σ (roundQ M C k26x9 12291 0 Q)) = (
  letK ((decide ((i13 : Int) < i12)) : Bool) fun b14 =>
  if b14 = true then
    (
    chk (true = true → (0 : Int) ≤ i13 ∧ (i13 : Int) < ((n0 : Nat) : Int)) <|
    atP (adP s0) true fun a18 =>
    gI .i64 (ld1 h (Ad.add a18 (Int.toNat i13 * 1))) true fun i19 =>
    chk (true = true → (0 : Int) ≤ i13 ∧ (i13 : Int) < ((n1 : Nat) : Int)) <|
    atP (adP s1) true fun a22 =>
    gI .i64 (ld1 h (Ad.add a22 (Int.toNat i13 * 1))) true fun i23 =>
    letK ((!decide ((i19 : Int) = i23)) : Bool) fun b24 =>
    if b24 = true then
      (
      Q .ret (S26xr false h)
      )
    else
      (
      letK ((IntKind.wrap .i64 (i13 + 1)) : Int) fun i25 =>
      L26x9 M C s0 n0 s1 n1 i12 i25 h Q
      )
    )
  else
    (
    Q (.exit 0) (S26xe0 h)
    )
  ) := by kernel_rfl
theorem L26x9xeq (s0 : SA) (n0 : Nat) (s1 : SA) (n1 : Nat) (i12 : Int) (i13 : Int) (h : Heap) (Q : Kont R) : L26x9 mk0 C s0 n0 s1 n1 i12 i13 h Q = (
  letK ((decide ((i13 : Int) < i12)) : Bool) fun b14 =>
  if b14 = true then
    (
    chk (true = true → (0 : Int) ≤ i13 ∧ (i13 : Int) < ((n0 : Nat) : Int)) <|
    atP (adP s0) true fun a18 =>
    gI .i64 (ld1 h (Ad.add a18 (Int.toNat i13 * 1))) true fun i19 =>
    chk (true = true → (0 : Int) ≤ i13 ∧ (i13 : Int) < ((n1 : Nat) : Int)) <|
    atP (adP s1) true fun a22 =>
    gI .i64 (ld1 h (Ad.add a22 (Int.toNat i13 * 1))) true fun i23 =>
    letK ((!decide ((i19 : Int) = i23)) : Bool) fun b24 =>
    if b24 = true then
      (
      Q .ret (S26xr false h)
      )
    else
      (
      letK ((IntKind.wrap .i64 (i13 + 1)) : Int) fun i25 =>
      L26x9 mk0 C s0 n0 s1 n1 i12 i25 h Q
      )
    )
  else
    (
    Q (.exit 0) (S26xe0 h)
    )
  ) := loop_eqn C k26x9 12291 0 (.g [] true (.sl s0 n0) :: (.g [] true (.sl s1 n1) :: (rep 10 (.g [] true (.int .i64 i12) :: (.g [] true (.int .i64 i13) :: (rep 12 [])))))) h Q (by kernel_rfl) (L26x9xaux mk0 C s0 n0 s1 n1 i12 i13 h Q)
theorem X26x9xr (b4 : Bool) (h : Heap) : Q26x9 M C .ret (S26xr b4 h) = (
  some ((.bool b4), h)
  ) := by kernel_rfl
theorem X26x9xe0 (h : Heap) : Q26x9 M C (.exit 0) (S26xe0 h) = (
  some ((.bool true), h)
  ) := by kernel_rfl
def k6x7 : AC := .ret
def k6x6 : AC := .seq (.mask 4) k6x7
def k6x5 : AC := .mask 106
def k6x4 : AC := .seq (.cond (.tmp 18)
   (.seq (.ops true [
      ⟨(some 19), .call 24 [] [(.cell .bool)] (.bool false), none, []⟩,
      ⟨(some 20), .move (.tmp 19), none, []⟩,
      ⟨(some 21), .move (.tmp 6), (some (20, true)), []⟩,
      ⟨(some 22), .move (.tmp 4), (some (20, true)), []⟩,
      ⟨(some 23), .bin .other .eql (.tmp 21) (.tmp 22), (some (20, true)), []⟩,
      ⟨(some 24), .pick (.tmp 20) (.tmp 23) (.c (.bool false)), none, []⟩,
      ⟨(some 25), .move (.tmp 24), none, []⟩,
      ⟨(some 26), .move (.tmp 3), (some (25, true)), []⟩,
      ⟨(some 27), .lenSl (.tmp 26), (some (25, true)), []⟩,
      ⟨(some 28), .move (.tmp 5), (some (25, true)), []⟩,
      ⟨(some 29), .lenSl (.tmp 28), (some (25, true)), []⟩,
      ⟨(some 30), .bin .other .add (.tmp 27) (.tmp 29), (some (25, true)), []⟩,
      ⟨(some 31), .bin .other .eql (.tmp 30) (.c (.int .i64 0)), (some (25, true)), []⟩,
      ⟨(some 32), .pick (.tmp 25) (.tmp 31) (.c (.bool false)), none, []⟩,
      ⟨(some 2), .move (.tmp 32), none, []⟩]) k6x6)
   (.skip)) k6x5
def k6x9 : AC := .ret
def k6x8 : AC := .seq (.mask 4) k6x9
def k6x3 : AC := .seq (.ops true [
    ⟨(some 33), .call 24 [] [(.cell .bool)] (.bool false), none, []⟩,
    ⟨(some 34), .move (.tmp 33), none, []⟩,
    ⟨(some 35), .move (.tmp 6), (some (34, true)), []⟩,
    ⟨(some 36), .bin .other .eql (.tmp 35) (.c (.int .i64 0)), (some (34, true)), []⟩,
    ⟨(some 37), .pick (.tmp 34) (.tmp 36) (.c (.bool false)), none, []⟩,
    ⟨(some 38), .move (.tmp 37), none, []⟩,
    ⟨(some 39), .move (.tmp 3), (some (38, true)), []⟩,
    ⟨(some 40), .lenSl (.tmp 39), (some (38, true)), []⟩,
    ⟨(some 41), .load (.agg [(.int .i64), (.int .i64), (.int .i64), (.int .i64), (.int .i64)]) (.tmp 1), (some (38, true)), []⟩,
    ⟨(some 42), .call 25 [(.tmp 41)] [(.cell (.int .i64))] (.int .i64 0), (some (38, true)), []⟩,
    ⟨(some 43), .bin .other .eql (.tmp 40) (.tmp 42), (some (38, true)), []⟩,
    ⟨(some 44), .pick (.tmp 38) (.tmp 43) (.c (.bool false)), none, []⟩,
    ⟨(some 45), .move (.tmp 44), none, []⟩,
    ⟨(some 46), .move (.tmp 5), (some (45, true)), []⟩,
    ⟨(some 47), .lenSl (.tmp 46), (some (45, true)), []⟩,
    ⟨(some 48), .bin .other .eql (.tmp 47) (.c (.int .i64 2)), (some (45, true)), []⟩,
    ⟨(some 49), .pick (.tmp 45) (.tmp 48) (.c (.bool false)), none, []⟩,
    ⟨(some 2), .move (.tmp 49), none, []⟩]) k6x8
def k6x2 : AC := .seq (.seq (.ops false [
    ⟨(some 17), .move (.tmp 4), none, []⟩,
    ⟨(some 18), .bin .other .neq (.tmp 17) (.c (.int .i64 0)), none, []⟩]) k6x4) k6x3
def k6x1 : AC := .seq (.ops false [
    ⟨(some 13), .load (.agg [(.int .i64), (.int .i64), (.int .i64), (.int .i64), (.int .i64)]) (.tmp 1), none, []⟩,
    ⟨(some 14), .call 23 [(.tmp 13)] [(.cell .sl), (.cell (.int .i64))] .opq, none, []⟩,
    ⟨(some 12), .move (.tmp 14), none, []⟩,
    ⟨(some 15), .extract (.tmp 12) 0, none, []⟩,
    ⟨(some 16), .extract (.tmp 12) 1, none, []⟩,
    ⟨(some 5), .move (.tmp 15), none, []⟩,
    ⟨(some 6), .move (.tmp 16), none, []⟩]) k6x2
def k6x0 : AC := .seq (.ops false [
    ⟨(some 8), .load (.agg [(.int .i64), (.int .i64), (.int .i64), (.int .i64), (.int .i64)]) (.tmp 1), none, []⟩,
    ⟨(some 9), .call 22 [(.tmp 8)] [(.cell .sl), (.cell (.int .i64))] .opq, none, []⟩,
    ⟨(some 7), .move (.tmp 9), none, []⟩,
    ⟨(some 10), .extract (.tmp 7) 0, none, []⟩,
    ⟨(some 11), .extract (.tmp 7) 1, none, []⟩,
    ⟨(some 3), .move (.tmp 10), none, []⟩,
    ⟨(some 4), .move (.tmp 11), none, []⟩]) k6x1
/-- provenance/provenancekeep4.InsnSizes -/
def c6 : AFn := ⟨50, [.tmp 2],
  .seq (.ops false [
    ⟨(some 1), .boxL (.tmp 0), none, []⟩,
    ⟨(some 2), .move (.c (.bool false)), none, []⟩]) k6x0⟩
theorem r6 (i0x0 : Int) (i0x1 : Int) (i0x2 : Int) (i0x3 : Int) (i0x4 : Int) (h : Heap) : runE M C c6 [(.agg [(.int .i64 i0x0), (.int .i64 i0x1), (.int .i64 i0x2), (.int .i64 i0x3), (.int .i64 i0x4)])] h = (
  (C 22 [(.agg [(.int .i64 i0x0), (.int .i64 i0x1), (.int .i64 i0x2), (.int .i64 i0x3), (.int .i64 i0x4)])] h).bind fun r9 =>
  gT 2 r9.1 true fun u9 =>
  gL (some (List.getD u9 0 .opq)) true fun s9x0 n9x0 =>
  gI .i64 (some (List.getD u9 1 .opq)) true fun i9x1 =>
  (C 23 [(.agg [(.int .i64 i0x0), (.int .i64 i0x1), (.int .i64 i0x2), (.int .i64 i0x3), (.int .i64 i0x4)])] r9.2).bind fun r14 =>
  gT 2 r14.1 true fun u14 =>
  gL (some (List.getD u14 0 .opq)) true fun s14x0 n14x0 =>
  gI .i64 (some (List.getD u14 1 .opq)) true fun i14x1 =>
  letK ((!decide ((i9x1 : Int) = 0)) : Bool) fun b18 =>
  if b18 = true then
    (
    (C 24 [] r14.2).bind fun r19 =>
    gB (some r19.1) true fun b19 =>
    letK ((decide ((i14x1 : Int) = i9x1)) : Bool) fun b23 =>
    letK ((if b19 = true then b23 else false) : Bool) fun b24 =>
    letK ((IntKind.wrap .i64 (((n9x0 : Nat) : Int) + ((n14x0 : Nat) : Int))) : Int) fun i30 =>
    letK ((decide ((i30 : Int) = 0)) : Bool) fun b31 =>
    letK ((if b24 = true then b31 else false) : Bool) fun b32 =>
    some ((.bool b32), r19.2)
    )
  else
    (
    (C 24 [] r14.2).bind fun r33 =>
    gB (some r33.1) true fun b33 =>
    letK ((decide ((i14x1 : Int) = 0)) : Bool) fun b36 =>
    letK ((if b33 = true then b36 else false) : Bool) fun b37 =>
    chk (b37 = true → 0 + 5 ≤ 5) <|
    gI .i64 (some (.int .i64 i0x0)) b37 fun i41x0 =>
    gI .i64 (some (.int .i64 i0x1)) b37 fun i41x1 =>
    gI .i64 (some (.int .i64 i0x2)) b37 fun i41x2 =>
    gI .i64 (some (.int .i64 i0x3)) b37 fun i41x3 =>
    gI .i64 (some (.int .i64 i0x4)) b37 fun i41x4 =>
    (callO b37 (C 25 [(.agg [(.int .i64 i41x0), (.int .i64 i41x1), (.int .i64 i41x2), (.int .i64 i41x3), (.int .i64 i41x4)])] r33.2) (.int .i64 0) r33.2).bind fun r42 =>
    gI .i64 (some r42.1) b37 fun i42 =>
    letK ((decide ((((n9x0 : Nat) : Int) : Int) = i42)) : Bool) fun b43 =>
    letK ((if b37 = true then b43 else false) : Bool) fun b44 =>
    letK ((decide ((((n14x0 : Nat) : Int) : Int) = 2)) : Bool) fun b48 =>
    letK ((if b44 = true then b48 else false) : Bool) fun b49 =>
    some ((.bool b49), r42.2)
    )
  ) := by kernel_rfl
theorem cf6 : cFn Try.prog 6 = some c6 := by kernel_rfl
theorem e6 (i0x0 : Int) (i0x1 : Int) (i0x2 : Int) (i0x3 : Int) (i0x4 : Int) (h : Heap) : E 6 [(.agg [(.int .i64 i0x0), (.int .i64 i0x1), (.int .i64 i0x2), (.int .i64 i0x3), (.int .i64 i0x4)])] h = (
  (E 22 [(.agg [(.int .i64 i0x0), (.int .i64 i0x1), (.int .i64 i0x2), (.int .i64 i0x3), (.int .i64 i0x4)])] h).bind fun r9 =>
  gT 2 r9.1 true fun u9 =>
  gL (some (List.getD u9 0 .opq)) true fun s9x0 n9x0 =>
  gI .i64 (some (List.getD u9 1 .opq)) true fun i9x1 =>
  (E 23 [(.agg [(.int .i64 i0x0), (.int .i64 i0x1), (.int .i64 i0x2), (.int .i64 i0x3), (.int .i64 i0x4)])] r9.2).bind fun r14 =>
  gT 2 r14.1 true fun u14 =>
  gL (some (List.getD u14 0 .opq)) true fun s14x0 n14x0 =>
  gI .i64 (some (List.getD u14 1 .opq)) true fun i14x1 =>
  letK ((!decide ((i9x1 : Int) = 0)) : Bool) fun b18 =>
  if b18 = true then
    (
    (E 24 [] r14.2).bind fun r19 =>
    gB (some r19.1) true fun b19 =>
    letK ((decide ((i14x1 : Int) = i9x1)) : Bool) fun b23 =>
    letK ((if b19 = true then b23 else false) : Bool) fun b24 =>
    letK ((IntKind.wrap .i64 (((n9x0 : Nat) : Int) + ((n14x0 : Nat) : Int))) : Int) fun i30 =>
    letK ((decide ((i30 : Int) = 0)) : Bool) fun b31 =>
    letK ((if b24 = true then b31 else false) : Bool) fun b32 =>
    some ((.bool b32), r19.2)
    )
  else
    (
    (E 24 [] r14.2).bind fun r33 =>
    gB (some r33.1) true fun b33 =>
    letK ((decide ((i14x1 : Int) = 0)) : Bool) fun b36 =>
    letK ((if b33 = true then b36 else false) : Bool) fun b37 =>
    chk (b37 = true → 0 + 5 ≤ 5) <|
    gI .i64 (some (.int .i64 i0x0)) b37 fun i41x0 =>
    gI .i64 (some (.int .i64 i0x1)) b37 fun i41x1 =>
    gI .i64 (some (.int .i64 i0x2)) b37 fun i41x2 =>
    gI .i64 (some (.int .i64 i0x3)) b37 fun i41x3 =>
    gI .i64 (some (.int .i64 i0x4)) b37 fun i41x4 =>
    (callO b37 (E 25 [(.agg [(.int .i64 i41x0), (.int .i64 i41x1), (.int .i64 i41x2), (.int .i64 i41x3), (.int .i64 i41x4)])] r33.2) (.int .i64 0) r33.2).bind fun r42 =>
    gI .i64 (some r42.1) b37 fun i42 =>
    letK ((decide ((((n9x0 : Nat) : Int) : Int) = i42)) : Bool) fun b43 =>
    letK ((if b37 = true then b43 else false) : Bool) fun b44 =>
    letK ((decide ((((n14x0 : Nat) : Int) : Int) = 2)) : Bool) fun b48 =>
    letK ((if b44 = true then b48 else false) : Bool) fun b49 =>
    some ((.bool b49), r42.2)
    )
  ) := (EV_eq (P := Try.prog) (T := T0) rfl cf6 [(.agg [(.int .i64 i0x0), (.int .i64 i0x1), (.int .i64 i0x2), (.int .i64 i0x3), (.int .i64 i0x4)])] h).trans (r6 mk0 E i0x0 i0x1 i0x2 i0x3 i0x4 h)
def k7x4 : AC := .ret
def k7x3 : AC := .seq (.mask 16) k7x4
def k7x2 : AC := .seq (.ops true [
    ⟨(some 19), .call 24 [] [(.cell .bool)] (.bool false), none, []⟩,
    ⟨(some 20), .move (.tmp 19), none, []⟩,
    ⟨(some 21), .move (.tmp 6), (some (20, true)), []⟩,
    ⟨(some 22), .bin .other .neq (.tmp 21) (.c (.int .i64 0)), (some (20, true)), []⟩,
    ⟨(some 23), .move (.tmp 22), (some (20, true)), []⟩,
    ⟨(some 24), .move (.tmp 8), (some (23, false)), []⟩,
    ⟨(some 25), .bin .other .neq (.tmp 24) (.c (.int .i64 0)), (some (23, false)), []⟩,
    ⟨(some 26), .pick (.tmp 23) (.c (.bool true)) (.tmp 25), (some (20, true)), []⟩,
    ⟨(some 27), .move (.tmp 26), (some (20, true)), []⟩,
    ⟨(some 28), .move (.tmp 5), (some (27, false)), []⟩,
    ⟨(some 29), .move (.tmp 7), (some (27, false)), []⟩,
    ⟨(some 31), .load (.agg [(.int .i64), (.int .i64), (.int .i64), (.int .i64), (.int .i64)]) (.tmp 2), (some (27, false)), []⟩,
    ⟨(some 32), .load (.agg [(.int .i64), (.int .i64), (.int .i64), (.int .i64), (.int .i64)]) (.tmp 3), (some (27, false)), []⟩,
    ⟨(some 33), .bin (.agg [false, false, false, false, false]) .eql (.tmp 31) (.tmp 32), (some (27, false)), []⟩,
    ⟨(some 30), .call 26 [(.tmp 28), (.tmp 29)] [(.cell .bool)] (.bool false), (some (27, false)), [.load 5 2 (some 31), .load 5 3 (some 32)]⟩,
    ⟨(some 34), .bin .bool .eql (.tmp 30) (.tmp 33), (some (27, false)), []⟩,
    ⟨(some 35), .pick (.tmp 27) (.c (.bool true)) (.tmp 34), (some (20, true)), []⟩,
    ⟨(some 36), .pick (.tmp 20) (.tmp 35) (.c (.bool false)), none, []⟩,
    ⟨(some 4), .move (.tmp 36), none, []⟩]) k7x3
def k7x1 : AC := .seq (.ops false [
    ⟨(some 15), .load (.agg [(.int .i64), (.int .i64), (.int .i64), (.int .i64), (.int .i64)]) (.tmp 3), none, []⟩,
    ⟨(some 16), .call 22 [(.tmp 15)] [(.cell .sl), (.cell (.int .i64))] .opq, none, []⟩,
    ⟨(some 14), .move (.tmp 16), none, []⟩,
    ⟨(some 17), .extract (.tmp 14) 0, none, []⟩,
    ⟨(some 18), .extract (.tmp 14) 1, none, []⟩,
    ⟨(some 7), .move (.tmp 17), none, []⟩,
    ⟨(some 8), .move (.tmp 18), none, []⟩]) k7x2
def k7x0 : AC := .seq (.ops false [
    ⟨(some 10), .load (.agg [(.int .i64), (.int .i64), (.int .i64), (.int .i64), (.int .i64)]) (.tmp 2), none, []⟩,
    ⟨(some 11), .call 22 [(.tmp 10)] [(.cell .sl), (.cell (.int .i64))] .opq, none, []⟩,
    ⟨(some 9), .move (.tmp 11), none, []⟩,
    ⟨(some 12), .extract (.tmp 9) 0, none, []⟩,
    ⟨(some 13), .extract (.tmp 9) 1, none, []⟩,
    ⟨(some 5), .move (.tmp 12), none, []⟩,
    ⟨(some 6), .move (.tmp 13), none, []⟩]) k7x1
/-- provenance/provenancekeep4.InsnUnique -/
def c7 : AFn := ⟨37, [.tmp 4],
  .seq (.ops false [
    ⟨(some 2), .boxL (.tmp 0), none, []⟩,
    ⟨(some 3), .boxL (.tmp 1), none, []⟩,
    ⟨(some 4), .move (.c (.bool false)), none, []⟩]) k7x0⟩
theorem r7 (i0x0 : Int) (i0x1 : Int) (i0x2 : Int) (i0x3 : Int) (i0x4 : Int) (i1x0 : Int) (i1x1 : Int) (i1x2 : Int) (i1x3 : Int) (i1x4 : Int) (h : Heap) : runE M C c7 [(.agg [(.int .i64 i0x0), (.int .i64 i0x1), (.int .i64 i0x2), (.int .i64 i0x3), (.int .i64 i0x4)]), (.agg [(.int .i64 i1x0), (.int .i64 i1x1), (.int .i64 i1x2), (.int .i64 i1x3), (.int .i64 i1x4)])] h = (
  (C 22 [(.agg [(.int .i64 i0x0), (.int .i64 i0x1), (.int .i64 i0x2), (.int .i64 i0x3), (.int .i64 i0x4)])] h).bind fun r11 =>
  gT 2 r11.1 true fun u11 =>
  gL (some (List.getD u11 0 .opq)) true fun s11x0 n11x0 =>
  gI .i64 (some (List.getD u11 1 .opq)) true fun i11x1 =>
  (C 22 [(.agg [(.int .i64 i1x0), (.int .i64 i1x1), (.int .i64 i1x2), (.int .i64 i1x3), (.int .i64 i1x4)])] r11.2).bind fun r16 =>
  gT 2 r16.1 true fun u16 =>
  gL (some (List.getD u16 0 .opq)) true fun s16x0 n16x0 =>
  gI .i64 (some (List.getD u16 1 .opq)) true fun i16x1 =>
  (C 24 [] r16.2).bind fun r19 =>
  gB (some r19.1) true fun b19 =>
  letK ((!decide ((i11x1 : Int) = 0)) : Bool) fun b22 =>
  letK ((!decide ((i16x1 : Int) = 0)) : Bool) fun b25 =>
  letK ((if b22 = true then true else b25) : Bool) fun b26 =>
  chk ((andB b19 (!b26)) = true → 0 + 5 ≤ 5) <|
  gI .i64 (some (.int .i64 i0x0)) (andB b19 (!b26)) fun i31x0 =>
  gI .i64 (some (.int .i64 i0x1)) (andB b19 (!b26)) fun i31x1 =>
  gI .i64 (some (.int .i64 i0x2)) (andB b19 (!b26)) fun i31x2 =>
  gI .i64 (some (.int .i64 i0x3)) (andB b19 (!b26)) fun i31x3 =>
  gI .i64 (some (.int .i64 i0x4)) (andB b19 (!b26)) fun i31x4 =>
  chk ((andB b19 (!b26)) = true → 0 + 5 ≤ 5) <|
  gI .i64 (some (.int .i64 i1x0)) (andB b19 (!b26)) fun i32x0 =>
  gI .i64 (some (.int .i64 i1x1)) (andB b19 (!b26)) fun i32x1 =>
  gI .i64 (some (.int .i64 i1x2)) (andB b19 (!b26)) fun i32x2 =>
  gI .i64 (some (.int .i64 i1x3)) (andB b19 (!b26)) fun i32x3 =>
  gI .i64 (some (.int .i64 i1x4)) (andB b19 (!b26)) fun i32x4 =>
  gb (andB b19 (!b26)) (eqCells [false, false, false, false, false] [(.int .i64 i31x0), (.int .i64 i31x1), (.int .i64 i31x2), (.int .i64 i31x3), (.int .i64 i31x4)] [(.int .i64 i32x0), (.int .i64 i32x1), (.int .i64 i32x2), (.int .i64 i32x3), (.int .i64 i32x4)]) false fun b33 =>
  (callO (andB b19 (!b26)) (C 26 [(.sl s11x0 n11x0), (.sl s16x0 n16x0)] r19.2) (.bool false) r19.2).bind fun r30 =>
  gB (some r30.1) (andB b19 (!b26)) fun b30 =>
  letK ((if b26 = true then true else (b30 == b33)) : Bool) fun b35 =>
  letK ((if b19 = true then b35 else false) : Bool) fun b36 =>
  some ((.bool b36), r30.2)
  ) := by kernel_rfl
theorem cf7 : cFn Try.prog 7 = some c7 := by kernel_rfl
theorem e7 (i0x0 : Int) (i0x1 : Int) (i0x2 : Int) (i0x3 : Int) (i0x4 : Int) (i1x0 : Int) (i1x1 : Int) (i1x2 : Int) (i1x3 : Int) (i1x4 : Int) (h : Heap) : E 7 [(.agg [(.int .i64 i0x0), (.int .i64 i0x1), (.int .i64 i0x2), (.int .i64 i0x3), (.int .i64 i0x4)]), (.agg [(.int .i64 i1x0), (.int .i64 i1x1), (.int .i64 i1x2), (.int .i64 i1x3), (.int .i64 i1x4)])] h = (
  (E 22 [(.agg [(.int .i64 i0x0), (.int .i64 i0x1), (.int .i64 i0x2), (.int .i64 i0x3), (.int .i64 i0x4)])] h).bind fun r11 =>
  gT 2 r11.1 true fun u11 =>
  gL (some (List.getD u11 0 .opq)) true fun s11x0 n11x0 =>
  gI .i64 (some (List.getD u11 1 .opq)) true fun i11x1 =>
  (E 22 [(.agg [(.int .i64 i1x0), (.int .i64 i1x1), (.int .i64 i1x2), (.int .i64 i1x3), (.int .i64 i1x4)])] r11.2).bind fun r16 =>
  gT 2 r16.1 true fun u16 =>
  gL (some (List.getD u16 0 .opq)) true fun s16x0 n16x0 =>
  gI .i64 (some (List.getD u16 1 .opq)) true fun i16x1 =>
  (E 24 [] r16.2).bind fun r19 =>
  gB (some r19.1) true fun b19 =>
  letK ((!decide ((i11x1 : Int) = 0)) : Bool) fun b22 =>
  letK ((!decide ((i16x1 : Int) = 0)) : Bool) fun b25 =>
  letK ((if b22 = true then true else b25) : Bool) fun b26 =>
  chk ((andB b19 (!b26)) = true → 0 + 5 ≤ 5) <|
  gI .i64 (some (.int .i64 i0x0)) (andB b19 (!b26)) fun i31x0 =>
  gI .i64 (some (.int .i64 i0x1)) (andB b19 (!b26)) fun i31x1 =>
  gI .i64 (some (.int .i64 i0x2)) (andB b19 (!b26)) fun i31x2 =>
  gI .i64 (some (.int .i64 i0x3)) (andB b19 (!b26)) fun i31x3 =>
  gI .i64 (some (.int .i64 i0x4)) (andB b19 (!b26)) fun i31x4 =>
  chk ((andB b19 (!b26)) = true → 0 + 5 ≤ 5) <|
  gI .i64 (some (.int .i64 i1x0)) (andB b19 (!b26)) fun i32x0 =>
  gI .i64 (some (.int .i64 i1x1)) (andB b19 (!b26)) fun i32x1 =>
  gI .i64 (some (.int .i64 i1x2)) (andB b19 (!b26)) fun i32x2 =>
  gI .i64 (some (.int .i64 i1x3)) (andB b19 (!b26)) fun i32x3 =>
  gI .i64 (some (.int .i64 i1x4)) (andB b19 (!b26)) fun i32x4 =>
  gb (andB b19 (!b26)) (eqCells [false, false, false, false, false] [(.int .i64 i31x0), (.int .i64 i31x1), (.int .i64 i31x2), (.int .i64 i31x3), (.int .i64 i31x4)] [(.int .i64 i32x0), (.int .i64 i32x1), (.int .i64 i32x2), (.int .i64 i32x3), (.int .i64 i32x4)]) false fun b33 =>
  (callO (andB b19 (!b26)) (E 26 [(.sl s11x0 n11x0), (.sl s16x0 n16x0)] r19.2) (.bool false) r19.2).bind fun r30 =>
  gB (some r30.1) (andB b19 (!b26)) fun b30 =>
  letK ((if b26 = true then true else (b30 == b33)) : Bool) fun b35 =>
  letK ((if b19 = true then b35 else false) : Bool) fun b36 =>
  some ((.bool b36), r30.2)
  ) := (EV_eq (P := Try.prog) (T := T0) rfl cf7 [(.agg [(.int .i64 i0x0), (.int .i64 i0x1), (.int .i64 i0x2), (.int .i64 i0x3), (.int .i64 i0x4)]), (.agg [(.int .i64 i1x0), (.int .i64 i1x1), (.int .i64 i1x2), (.int .i64 i1x3), (.int .i64 i1x4)])] h).trans (r7 mk0 E i0x0 i0x1 i0x2 i0x3 i0x4 i1x0 i1x1 i1x2 i1x3 i1x4 h)
def k9x6 : AC := .ret
def k9x5 : AC := .seq (.mask 4) k9x6
def k9x4 : AC := .mask 25
def k9x3 : AC := .seq (.cond (.tmp 17)
   (.seq (.ops true [
      ⟨(some 18), .call 24 [] [(.cell .bool)] (.bool false), none, []⟩,
      ⟨(some 19), .move (.tmp 18), none, []⟩,
      ⟨(some 20), .move (.tmp 4), (some (19, true)), []⟩,
      ⟨(some 21), .bin .other .eql (.tmp 20) (.c (.int .i64 0)), (some (19, true)), []⟩,
      ⟨(some 22), .pick (.tmp 19) (.tmp 21) (.c (.bool false)), none, []⟩,
      ⟨(some 2), .move (.tmp 22), none, []⟩]) k9x5)
   (.skip)) k9x4
def k9x10 : AC := .ret
def k9x9 : AC := .seq (.mask 4) k9x10
def k9x8 : AC := .seq (.ops true [
    ⟨(some 33), .call 24 [] [(.cell .bool)] (.bool false), none, []⟩,
    ⟨(some 34), .move (.tmp 33), none, []⟩,
    ⟨(some 35), .move (.tmp 7), (some (34, true)), []⟩,
    ⟨(some 36), .bin .other .eql (.tmp 35) (.c (.int .i64 0)), (some (34, true)), []⟩,
    ⟨(some 37), .pick (.tmp 34) (.tmp 36) (.c (.bool false)), none, []⟩,
    ⟨(some 38), .move (.tmp 37), none, []⟩,
    ⟨(some 39), .move (.tmp 9), (some (38, true)), []⟩,
    ⟨(some 40), .bin .other .eql (.tmp 39) (.c (.int .i64 0)), (some (38, true)), []⟩,
    ⟨(some 41), .pick (.tmp 38) (.tmp 40) (.c (.bool false)), none, []⟩,
    ⟨(some 42), .move (.tmp 41), none, []⟩,
    ⟨(some 43), .move (.tmp 4), (some (42, true)), []⟩,
    ⟨(some 44), .move (.tmp 0), (some (42, true)), []⟩,
    ⟨(some 45), .lenSl (.tmp 44), (some (42, true)), []⟩,
    ⟨(some 46), .bin .other .leq (.tmp 43) (.tmp 45), (some (42, true)), []⟩,
    ⟨(some 47), .pick (.tmp 42) (.tmp 46) (.c (.bool false)), none, []⟩,
    ⟨(some 48), .move (.tmp 47), none, []⟩,
    ⟨(some 49), .move (.tmp 0), (some (48, true)), []⟩,
    ⟨(some 50), .move (.tmp 4), (some (48, true)), []⟩,
    ⟨(some 51), .slice 1 (.tmp 49) none (some (.tmp 50)), (some (48, true)), []⟩,
    ⟨(some 52), .move (.tmp 6), (some (48, true)), []⟩,
    ⟨(some 53), .call 26 [(.tmp 51), (.tmp 52)] [(.cell .bool)] (.bool false), (some (48, true)), []⟩,
    ⟨(some 54), .move (.tmp 53), (some (48, true)), []⟩,
    ⟨(some 55), .move (.tmp 0), (some (54, false)), []⟩,
    ⟨(some 56), .move (.tmp 4), (some (54, false)), []⟩,
    ⟨(some 57), .slice 1 (.tmp 55) none (some (.tmp 56)), (some (54, false)), []⟩,
    ⟨(some 58), .move (.tmp 8), (some (54, false)), []⟩,
    ⟨(some 59), .call 26 [(.tmp 57), (.tmp 58)] [(.cell .bool)] (.bool false), (some (54, false)), []⟩,
    ⟨(some 60), .pick (.tmp 54) (.c (.bool true)) (.tmp 59), (some (48, true)), []⟩,
    ⟨(some 61), .pick (.tmp 48) (.tmp 60) (.c (.bool false)), none, []⟩,
    ⟨(some 2), .move (.tmp 61), none, []⟩]) k9x9
def k9x7 : AC := .seq (.ops false [
    ⟨(some 29), .load (.agg [(.int .i64), (.int .i64), (.int .i64), (.int .i64), (.int .i64)]) (.tmp 3), none, []⟩,
    ⟨(some 30), .call 23 [(.tmp 29)] [(.cell .sl), (.cell (.int .i64))] .opq, none, []⟩,
    ⟨(some 28), .move (.tmp 30), none, []⟩,
    ⟨(some 31), .extract (.tmp 28) 0, none, []⟩,
    ⟨(some 32), .extract (.tmp 28) 1, none, []⟩,
    ⟨(some 8), .move (.tmp 31), none, []⟩,
    ⟨(some 9), .move (.tmp 32), none, []⟩]) k9x8
def k9x2 : AC := .seq (.ops false [
    ⟨(some 24), .load (.agg [(.int .i64), (.int .i64), (.int .i64), (.int .i64), (.int .i64)]) (.tmp 3), none, []⟩,
    ⟨(some 25), .call 22 [(.tmp 24)] [(.cell .sl), (.cell (.int .i64))] .opq, none, []⟩,
    ⟨(some 23), .move (.tmp 25), none, []⟩,
    ⟨(some 26), .extract (.tmp 23) 0, none, []⟩,
    ⟨(some 27), .extract (.tmp 23) 1, none, []⟩,
    ⟨(some 6), .move (.tmp 26), none, []⟩,
    ⟨(some 7), .move (.tmp 27), none, []⟩]) k9x7
def k9x1 : AC := .seq (.seq (.ops false [
    ⟨(some 16), .move (.tmp 5), none, []⟩,
    ⟨(some 17), .bin .other .neq (.tmp 16) (.c (.int .i64 0)), none, []⟩]) k9x3) k9x2
def k9x0 : AC := .seq (.ops false [
    ⟨(some 11), .move (.tmp 0), none, []⟩,
    ⟨(some 12), .call 27 [(.tmp 11)] [(.agg [(.int .i64), (.int .i64), (.int .i64), (.int .i64), (.int .i64)]), (.cell (.int .i64)), (.cell (.int .i64))] .opq, none, []⟩,
    ⟨(some 10), .move (.tmp 12), none, []⟩,
    ⟨(some 13), .extract (.tmp 10) 0, none, []⟩,
    ⟨(some 14), .extract (.tmp 10) 1, none, []⟩,
    ⟨(some 15), .extract (.tmp 10) 2, none, []⟩,
    ⟨(some 3), .allocL [(.int .i64 0), (.int .i64 0), (.int .i64 0), (.int .i64 0), (.int .i64 0)], none, []⟩,
    ⟨none, .store 5 (.tmp 3) (.tmp 13), none, []⟩,
    ⟨(some 4), .move (.tmp 14), none, []⟩,
    ⟨(some 5), .move (.tmp 15), none, []⟩]) k9x1
/-- provenance/provenancekeep4.InsnBack -/
def c9 : AFn := ⟨62, [.tmp 2],
  .seq (.ops false [
    ⟨(some 2), .move (.c (.bool false)), none, []⟩]) k9x0⟩
theorem r9 (s0 : SA) (n0 : Nat) (h : Heap) : runE M C c9 [(.sl s0 n0)] h = (
  (C 27 [(.sl s0 n0)] h).bind fun r12 =>
  gT 3 r12.1 true fun u12 =>
  gA (List.getD u12 0 .opq) true fun l12x0 =>
  chk (true = true → l12x0.length = 5) <|
  gI .i64 (l12x0[0]?) true fun i12x0x0 =>
  gI .i64 (l12x0[1]?) true fun i12x0x1 =>
  gI .i64 (l12x0[2]?) true fun i12x0x2 =>
  gI .i64 (l12x0[3]?) true fun i12x0x3 =>
  gI .i64 (l12x0[4]?) true fun i12x0x4 =>
  gI .i64 (some (List.getD u12 1 .opq)) true fun i12x1 =>
  gI .i64 (some (List.getD u12 2 .opq)) true fun i12x2 =>
  letK ((!decide ((i12x2 : Int) = 0)) : Bool) fun b17 =>
  if b17 = true then
    (
    (C 24 [] r12.2).bind fun r18 =>
    gB (some r18.1) true fun b18 =>
    letK ((decide ((i12x1 : Int) = 0)) : Bool) fun b21 =>
    letK ((if b18 = true then b21 else false) : Bool) fun b22 =>
    some ((.bool b22), r18.2)
    )
  else
    (
    (C 22 [(.agg [(.int .i64 i12x0x0), (.int .i64 i12x0x1), (.int .i64 i12x0x2), (.int .i64 i12x0x3), (.int .i64 i12x0x4)])] r12.2).bind fun r25 =>
    gT 2 r25.1 true fun u25 =>
    gL (some (List.getD u25 0 .opq)) true fun s25x0 n25x0 =>
    gI .i64 (some (List.getD u25 1 .opq)) true fun i25x1 =>
    (C 23 [(.agg [(.int .i64 i12x0x0), (.int .i64 i12x0x1), (.int .i64 i12x0x2), (.int .i64 i12x0x3), (.int .i64 i12x0x4)])] r25.2).bind fun r30 =>
    gT 2 r30.1 true fun u30 =>
    gL (some (List.getD u30 0 .opq)) true fun s30x0 n30x0 =>
    gI .i64 (some (List.getD u30 1 .opq)) true fun i30x1 =>
    (C 24 [] r30.2).bind fun r33 =>
    gB (some r33.1) true fun b33 =>
    letK ((decide ((i25x1 : Int) = 0)) : Bool) fun b36 =>
    letK ((if b33 = true then b36 else false) : Bool) fun b37 =>
    letK ((decide ((i30x1 : Int) = 0)) : Bool) fun b40 =>
    letK ((if b37 = true then b40 else false) : Bool) fun b41 =>
    letK ((decide ((i12x1 : Int) ≤ ((n0 : Nat) : Int))) : Bool) fun b46 =>
    letK ((if b41 = true then b46 else false) : Bool) fun b47 =>
    chkC (b47 = true → (0 : Int) ≤ i12x1 ∧ hiOk r33.2 s0 n0 1 i12x1) <|
    letK ((Int.toNat i12x1) : Nat) fun n51 =>
    (callO b47 (C 26 [(.sl s0 n51), (.sl s25x0 n25x0)] r33.2) (.bool false) r33.2).bind fun r53 =>
    gB (some r53.1) b47 fun b53 =>
    chkC ((andB b47 (!b53)) = true → (0 : Int) ≤ i12x1 ∧ hiOk r53.2 s0 n0 1 i12x1) <|
    letK ((Int.toNat i12x1) : Nat) fun n57 =>
    (callO (andB b47 (!b53)) (C 26 [(.sl s0 n57), (.sl s30x0 n30x0)] r53.2) (.bool false) r53.2).bind fun r59 =>
    gB (some r59.1) (andB b47 (!b53)) fun b59 =>
    letK ((if b53 = true then true else b59) : Bool) fun b60 =>
    letK ((if b47 = true then b60 else false) : Bool) fun b61 =>
    some ((.bool b61), r59.2)
    )
  ) := by kernel_rfl
theorem cf9 : cFn Try.prog 9 = some c9 := by kernel_rfl
theorem e9 (s0 : SA) (n0 : Nat) (h : Heap) : E 9 [(.sl s0 n0)] h = (
  (E 27 [(.sl s0 n0)] h).bind fun r12 =>
  gT 3 r12.1 true fun u12 =>
  gA (List.getD u12 0 .opq) true fun l12x0 =>
  chk (true = true → l12x0.length = 5) <|
  gI .i64 (l12x0[0]?) true fun i12x0x0 =>
  gI .i64 (l12x0[1]?) true fun i12x0x1 =>
  gI .i64 (l12x0[2]?) true fun i12x0x2 =>
  gI .i64 (l12x0[3]?) true fun i12x0x3 =>
  gI .i64 (l12x0[4]?) true fun i12x0x4 =>
  gI .i64 (some (List.getD u12 1 .opq)) true fun i12x1 =>
  gI .i64 (some (List.getD u12 2 .opq)) true fun i12x2 =>
  letK ((!decide ((i12x2 : Int) = 0)) : Bool) fun b17 =>
  if b17 = true then
    (
    (E 24 [] r12.2).bind fun r18 =>
    gB (some r18.1) true fun b18 =>
    letK ((decide ((i12x1 : Int) = 0)) : Bool) fun b21 =>
    letK ((if b18 = true then b21 else false) : Bool) fun b22 =>
    some ((.bool b22), r18.2)
    )
  else
    (
    (E 22 [(.agg [(.int .i64 i12x0x0), (.int .i64 i12x0x1), (.int .i64 i12x0x2), (.int .i64 i12x0x3), (.int .i64 i12x0x4)])] r12.2).bind fun r25 =>
    gT 2 r25.1 true fun u25 =>
    gL (some (List.getD u25 0 .opq)) true fun s25x0 n25x0 =>
    gI .i64 (some (List.getD u25 1 .opq)) true fun i25x1 =>
    (E 23 [(.agg [(.int .i64 i12x0x0), (.int .i64 i12x0x1), (.int .i64 i12x0x2), (.int .i64 i12x0x3), (.int .i64 i12x0x4)])] r25.2).bind fun r30 =>
    gT 2 r30.1 true fun u30 =>
    gL (some (List.getD u30 0 .opq)) true fun s30x0 n30x0 =>
    gI .i64 (some (List.getD u30 1 .opq)) true fun i30x1 =>
    (E 24 [] r30.2).bind fun r33 =>
    gB (some r33.1) true fun b33 =>
    letK ((decide ((i25x1 : Int) = 0)) : Bool) fun b36 =>
    letK ((if b33 = true then b36 else false) : Bool) fun b37 =>
    letK ((decide ((i30x1 : Int) = 0)) : Bool) fun b40 =>
    letK ((if b37 = true then b40 else false) : Bool) fun b41 =>
    letK ((decide ((i12x1 : Int) ≤ ((n0 : Nat) : Int))) : Bool) fun b46 =>
    letK ((if b41 = true then b46 else false) : Bool) fun b47 =>
    chkC (b47 = true → (0 : Int) ≤ i12x1 ∧ hiOk r33.2 s0 n0 1 i12x1) <|
    letK ((Int.toNat i12x1) : Nat) fun n51 =>
    (callO b47 (E 26 [(.sl s0 n51), (.sl s25x0 n25x0)] r33.2) (.bool false) r33.2).bind fun r53 =>
    gB (some r53.1) b47 fun b53 =>
    chkC ((andB b47 (!b53)) = true → (0 : Int) ≤ i12x1 ∧ hiOk r53.2 s0 n0 1 i12x1) <|
    letK ((Int.toNat i12x1) : Nat) fun n57 =>
    (callO (andB b47 (!b53)) (E 26 [(.sl s0 n57), (.sl s30x0 n30x0)] r53.2) (.bool false) r53.2).bind fun r59 =>
    gB (some r59.1) (andB b47 (!b53)) fun b59 =>
    letK ((if b53 = true then true else b59) : Bool) fun b60 =>
    letK ((if b47 = true then b60 else false) : Bool) fun b61 =>
    some ((.bool b61), r59.2)
    )
  ) := (EV_eq (P := Try.prog) (T := T0) rfl cf9 [(.sl s0 n0)] h).trans (r9 mk0 E s0 n0 h)
def k8x5 : AC := .ret
def k8x4 : AC := .seq (.mask 16) k8x5
def k8x3 : AC := .mask 3
def k8x2 : AC := .seq (.cond (.tmp 19)
   (.seq (.ops false [
      ⟨(some 4), .move (.c (.bool false)), none, []⟩]) k8x4)
   (.skip)) k8x3
def k8x16 : AC := .exit 0
def k8x15 : AC := .mask 117440738
def k8x23 : AC := .join 117442274
def k8x22 : AC := .seq (.cond (.tmp 40)
   (.ops false [
      ⟨(some 10), .move (.c (.fn 23 [] [])), none, []⟩])
   (.skip)) k8x23
def k8x27 : AC := .join 117440738
def k8x26 : AC := .seq (.cond (.tmp 48)
   (.ops false [
      ⟨(some 49), .move (.tmp 5), none, []⟩,
      ⟨(some 50), .move (.tmp 11), none, []⟩,
      ⟨(some 52), .move (.tmp 6), none, []⟩,
      ⟨(some 53), .load (.agg [(.int .i64), (.int .i64), (.int .i64), (.int .i64), (.int .i64)]) (.tmp 9), none, []⟩,
      ⟨(some 54), .buildSl [(.int .i64 0), (.int .i64 0), (.int .i64 0), (.int .i64 0), (.int .i64 0)] 5 [(0, (.tmp 53))], none, []⟩,
      ⟨(some 56), .move (.tmp 7), none, []⟩,
      ⟨(some 57), .move (.tmp 11), none, []⟩,
      ⟨(some 58), .lenSl (.tmp 57), none, []⟩,
      ⟨(some 59), .buildSl [(.int .i64 0)] 1 [(0, (.tmp 58))], none, []⟩,
      ⟨(some 51), .append [(.int .i64 0)] 1 8 (.tmp 49) (.tmp 50), none, [.load 5 9 none, .blk 54, .blk 59]⟩,
      ⟨(some 55), .append [(.int .i64 0), (.int .i64 0), (.int .i64 0), (.int .i64 0), (.int .i64 0)] 5 40 (.tmp 52) (.tmp 54), none, [.blk 59]⟩,
      ⟨(some 60), .append [(.int .i64 0)] 1 8 (.tmp 56) (.tmp 59), none, []⟩,
      ⟨(some 5), .move (.tmp 51), none, []⟩,
      ⟨(some 6), .move (.tmp 55), none, []⟩,
      ⟨(some 7), .move (.tmp 60), none, []⟩])
   (.skip)) k8x27
def k8x25 : AC := .seq (.ops false [
    ⟨(some 47), .move (.tmp 12), none, []⟩,
    ⟨(some 48), .bin .other .eql (.tmp 47) (.c (.int .i64 0)), none, []⟩]) k8x26
def k8x21 : AC := .seq (.ops false [
    ⟨(some 42), .move (.tmp 10), none, []⟩,
    ⟨(some 43), .load (.agg [(.int .i64), (.int .i64), (.int .i64), (.int .i64), (.int .i64)]) (.tmp 9), none, []⟩,
    ⟨(some 44), .callV (.tmp 42) [(.tmp 43)] [(.cell .sl), (.cell (.int .i64))] .opq, none, []⟩,
    ⟨(some 41), .move (.tmp 44), none, []⟩,
    ⟨(some 45), .extract (.tmp 41) 0, none, []⟩,
    ⟨(some 46), .extract (.tmp 41) 1, none, []⟩,
    ⟨(some 11), .move (.tmp 45), none, []⟩,
    ⟨(some 12), .move (.tmp 46), none, []⟩]) k8x25
def k8x20 : AC := .seq (.seq (.ops true [
    ⟨(some 31), .move (.tmp 8), none, []⟩,
    ⟨(some 32), .move (.tmp 1), none, []⟩,
    ⟨(some 33), .lenSl (.tmp 32), none, []⟩,
    ⟨(some 34), .bin .other .lss (.tmp 31) (.tmp 33), none, []⟩,
    ⟨(some 35), .move (.tmp 34), none, []⟩,
    ⟨(some 36), .move (.tmp 1), (some (35, true)), []⟩,
    ⟨(some 37), .move (.tmp 8), (some (35, true)), []⟩,
    ⟨(some 38), .indexAddr 1 (.tmp 36) (.tmp 37), (some (35, true)), []⟩,
    ⟨(some 39), .load (.cell .bool) (.tmp 38), (some (35, true)), []⟩,
    ⟨(some 40), .pick (.tmp 35) (.tmp 39) (.c (.bool false)), none, []⟩]) k8x22) k8x21
def k8x19 : AC := .seq (.ops false [
    ⟨(some 10), .move (.c (.fn 22 [] [])), none, []⟩]) k8x20
def k8x18 : AC := .mask 117440738
def k8x17 : AC := .ops false [
    ⟨(some 61), .bin .other .add (.tmp 26) (.c (.int .i64 1)), none, []⟩,
    ⟨(some 26), .move (.tmp 61), none, []⟩]
def k8x14 : AC := .seq (.seq (.block 1 (.seq (.ops false [
     ⟨(some 28), .move (.tmp 26), none, []⟩,
     ⟨(some 29), .indexAddr 5 (.tmp 24) (.tmp 26), none, []⟩,
     ⟨(some 30), .load (.agg [(.int .i64), (.int .i64), (.int .i64), (.int .i64), (.int .i64)]) (.tmp 29), none, []⟩,
     ⟨(some 9), .allocL [(.int .i64 0), (.int .i64 0), (.int .i64 0), (.int .i64 0), (.int .i64 0)], none, []⟩,
     ⟨(some 8), .move (.tmp 28), none, []⟩,
     ⟨none, .store 5 (.tmp 9) (.tmp 30), none, []⟩]) k8x19)) k8x18) k8x17
def k8x13 : AC := .seq (.seq (.cond (.tmp 27)
   (.skip)
   (.seq (.mask 224) k8x16)) k8x15) k8x14
def k8x12 : AC := .seq (.ops false [
    ⟨(some 27), .bin .other .lss (.tmp 26) (.tmp 25), none, []⟩]) k8x13
def k8x11 : AC := .mask 224
def k8x10 : AC := .seq (.block 0 (.loop 117440738 224 k8x12)) k8x11
def k8x36 : AC := .exit 2
def k8x35 : AC := .mask 32281802128991715488
def k8x45 : AC := .ret
def k8x44 : AC := .seq (.mask 16) k8x45
def k8x43 : AC := .mask 32281802128991781024
def k8x42 : AC := .seq (.cond (.tmp 89)
   (.seq (.ops false [
      ⟨(some 4), .move (.c (.bool false)), none, []⟩]) k8x44)
   (.skip)) k8x43
def k8x41 : AC := .ops false [
    ⟨(some 90), .move (.tmp 5), none, []⟩,
    ⟨(some 91), .move (.tmp 16), none, []⟩,
    ⟨(some 92), .slice 1 (.tmp 90) (some (.tmp 91)) none, none, []⟩,
    ⟨(some 5), .move (.tmp 92), none, []⟩]
def k8x40 : AC := .seq (.seq (.ops true [
    ⟨(some 75), .move (.tmp 17), none, []⟩,
    ⟨(some 76), .bin .other .neq (.tmp 75) (.c (.int .i64 0)), none, []⟩,
    ⟨(some 77), .move (.tmp 76), none, []⟩,
    ⟨(some 78), .load (.agg [(.int .i64), (.int .i64), (.int .i64), (.int .i64), (.int .i64)]) (.tmp 15), (some (77, false)), []⟩,
    ⟨(some 79), .load (.agg [(.int .i64), (.int .i64), (.int .i64), (.int .i64), (.int .i64)]) (.tmp 14), (some (77, false)), []⟩,
    ⟨(some 80), .bin (.agg [false, false, false, false, false]) .neq (.tmp 78) (.tmp 79), (some (77, false)), []⟩,
    ⟨(some 81), .pick (.tmp 77) (.c (.bool true)) (.tmp 80), none, []⟩,
    ⟨(some 82), .move (.tmp 81), none, []⟩,
    ⟨(some 83), .move (.tmp 16), (some (82, false)), []⟩,
    ⟨(some 84), .move (.tmp 7), (some (82, false)), []⟩,
    ⟨(some 85), .move (.tmp 13), (some (82, false)), []⟩,
    ⟨(some 86), .indexAddr 1 (.tmp 84) (.tmp 85), (some (82, false)), []⟩,
    ⟨(some 87), .load (.cell (.int .i64)) (.tmp 86), (some (82, false)), []⟩,
    ⟨(some 88), .bin .other .neq (.tmp 83) (.tmp 87), (some (82, false)), []⟩,
    ⟨(some 89), .pick (.tmp 82) (.c (.bool true)) (.tmp 88), none, []⟩]) k8x42) k8x41
def k8x39 : AC := .seq (.ops false [
    ⟨(some 70), .move (.tmp 5), none, []⟩,
    ⟨(some 71), .call 27 [(.tmp 70)] [(.agg [(.int .i64), (.int .i64), (.int .i64), (.int .i64), (.int .i64)]), (.cell (.int .i64)), (.cell (.int .i64))] .opq, none, []⟩,
    ⟨(some 69), .move (.tmp 71), none, []⟩,
    ⟨(some 72), .extract (.tmp 69) 0, none, []⟩,
    ⟨(some 73), .extract (.tmp 69) 1, none, []⟩,
    ⟨(some 74), .extract (.tmp 69) 2, none, []⟩,
    ⟨(some 15), .allocL [(.int .i64 0), (.int .i64 0), (.int .i64 0), (.int .i64 0), (.int .i64 0)], none, []⟩,
    ⟨none, .store 5 (.tmp 15) (.tmp 72), none, []⟩,
    ⟨(some 16), .move (.tmp 73), none, []⟩,
    ⟨(some 17), .move (.tmp 74), none, []⟩]) k8x40
def k8x38 : AC := .mask 32281802128991715488
def k8x37 : AC := .ops false [
    ⟨(some 93), .bin .other .add (.tmp 64) (.c (.int .i64 1)), none, []⟩,
    ⟨(some 64), .move (.tmp 93), none, []⟩]
def k8x34 : AC := .seq (.seq (.block 3 (.seq (.ops false [
     ⟨(some 66), .move (.tmp 64), none, []⟩,
     ⟨(some 67), .indexAddr 5 (.tmp 62) (.tmp 64), none, []⟩,
     ⟨(some 68), .load (.agg [(.int .i64), (.int .i64), (.int .i64), (.int .i64), (.int .i64)]) (.tmp 67), none, []⟩,
     ⟨(some 14), .allocL [(.int .i64 0), (.int .i64 0), (.int .i64 0), (.int .i64 0), (.int .i64 0)], none, []⟩,
     ⟨(some 13), .move (.tmp 66), none, []⟩,
     ⟨none, .store 5 (.tmp 14) (.tmp 68), none, []⟩]) k8x39)) k8x38) k8x37
def k8x33 : AC := .seq (.seq (.cond (.tmp 65)
   (.skip)
   (.seq (.mask 32) k8x36)) k8x35) k8x34
def k8x32 : AC := .seq (.ops false [
    ⟨(some 65), .bin .other .lss (.tmp 64) (.tmp 63), none, []⟩]) k8x33
def k8x31 : AC := .mask 32
def k8x30 : AC := .seq (.block 2 (.loop 32281802128991715488 32 k8x32)) k8x31
def k8x47 : AC := .ret
def k8x46 : AC := .seq (.mask 16) k8x47
def k8x29 : AC := .seq (.ops false [
    ⟨(some 94), .move (.tmp 5), none, []⟩,
    ⟨(some 95), .lenSl (.tmp 94), none, []⟩,
    ⟨(some 96), .bin .other .eql (.tmp 95) (.c (.int .i64 0)), none, []⟩,
    ⟨(some 4), .move (.tmp 96), none, []⟩]) k8x46
def k8x9 : AC := .seq (.seq (.ops false [
    ⟨(some 62), .move (.tmp 6), none, []⟩,
    ⟨(some 63), .lenSl (.tmp 62), none, []⟩,
    ⟨(some 64), .move (.c (.int .i64 0)), none, []⟩]) k8x30) k8x29
def k8x8 : AC := .seq (.seq (.ops false [
    ⟨(some 20), .move (.tmp 0), none, []⟩,
    ⟨(some 21), .move (.tmp 0), none, []⟩,
    ⟨(some 22), .lenSl (.tmp 21), none, []⟩,
    ⟨(some 23), .mm false [(.tmp 22), (.c (.int .i64 40))], none, []⟩,
    ⟨(some 24), .slice 5 (.tmp 20) none (some (.tmp 23)), none, []⟩,
    ⟨(some 25), .lenSl (.tmp 24), none, []⟩,
    ⟨(some 26), .move (.c (.int .i64 0)), none, []⟩]) k8x10) k8x9
def k8x7 : AC := .seq (.ops false [
    ⟨(some 7), .move (.c (.sl .nil 0)), none, []⟩]) k8x8
def k8x6 : AC := .seq (.ops false [
    ⟨(some 6), .move (.c (.sl .nil 0)), none, []⟩]) k8x7
def k8x1 : AC := .seq (.ops false [
    ⟨(some 5), .move (.c (.sl .nil 0)), none, []⟩]) k8x6
def k8x0 : AC := .seq (.seq (.ops false [
    ⟨(some 18), .call 24 [] [(.cell .bool)] (.bool false), none, []⟩,
    ⟨(some 19), .un .not (.tmp 18), none, []⟩]) k8x2) k8x1
/-- provenance/provenancekeep4.InsnStream -/
def c8 : AFn := ⟨97, [.tmp 4],
  .seq (.ops false [
    ⟨(some 4), .move (.c (.bool false)), none, []⟩]) k8x0⟩
def S8xe0 (s5 : SA) (n5 : Nat) (s6 : SA) (n6 : Nat) (s7 : SA) (n7 : Nat) (h : Heap) : St := ⟨(rep 5 (.g [] true (.sl s5 n5) :: (.g [] true (.sl s6 n6) :: (.g [] true (.sl s7 n7) :: (rep 89 []))))), h⟩
def S8xr (b4 : Bool) (h : Heap) : St := ⟨(rep 4 (.g [] true (.bool b4) :: (rep 92 []))), h⟩
def S8xe2 (s5 : SA) (n5 : Nat) (h : Heap) : St := ⟨(rep 5 (.g [] true (.sl s5 n5) :: (rep 91 []))), h⟩
noncomputable def Q8x12 : Kont (AV × Heap) := (blockQ 0 (seqQ (evalE M C k8x11) (seqQ (evalE M C k8x9) (endQ [.tmp 4]))))
noncomputable def L8x12 (s1 : SA) (n1 : Nat) (s5 : SA) (n5 : Nat) (s6 : SA) (n6 : Nat) (s7 : SA) (n7 : Nat) (s24 : SA) (n24 : Nat) (i25 : Int) (i26 : Int) (h : Heap) (Q : Kont R) : Option R := loopE (evalE M C k8x12) 117440738 224 ⟨(.any :: (.g [] true (.sl s1 n1) :: (rep 3 (.g [] true (.sl s5 n5) :: (.g [] true (.sl s6 n6) :: (.g [] true (.sl s7 n7) :: (rep 16 (.g [] true (.sl s24 n24) :: (.g [] true (.int .i64 i25) :: (.g [] true (.int .i64 i26) :: (rep 70 []))))))))))), h⟩ Q
noncomputable def J8x24 (s1 : SA) (n1 : Nat) (s5 : SA) (n5 : Nat) (s6 : SA) (n6 : Nat) (s7 : SA) (n7 : Nat) (i9x0 : Int) (i9x1 : Int) (i9x2 : Int) (i9x3 : Int) (i9x4 : Int) (v10 : AV) (s24 : SA) (n24 : Nat) (i25 : Int) (i26 : Int) (h : Heap) (Q : Kont R) : Option R := M R (seqQ (evalE M C k8x21) (blockQ 1 (seqQ (evalE M C k8x18) (seqQ (evalE M C k8x17) (roundQ M C k8x12 117440738 224 Q))))) (.any :: (.g [] true (.sl s1 n1) :: (rep 3 (.g [] true (.sl s5 n5) :: (.g [] true (.sl s6 n6) :: (.g [] true (.sl s7 n7) :: (.any :: (.box [(.int .i64 i9x0), (.int .i64 i9x1), (.int .i64 i9x2), (.int .i64 i9x3), (.int .i64 i9x4)] :: (.g [] true v10 :: (rep 13 (.g [] true (.sl s24 n24) :: (.g [] true (.int .i64 i25) :: (.g [] true (.int .i64 i26) :: (rep 70 [])))))))))))))) h
noncomputable def J8x28 (s1 : SA) (n1 : Nat) (s5 : SA) (n5 : Nat) (s6 : SA) (n6 : Nat) (s7 : SA) (n7 : Nat) (s24 : SA) (n24 : Nat) (i25 : Int) (i26 : Int) (h : Heap) (Q : Kont R) : Option R := M R (blockQ 1 (seqQ (evalE M C k8x18) (seqQ (evalE M C k8x17) (roundQ M C k8x12 117440738 224 Q)))) (.any :: (.g [] true (.sl s1 n1) :: (rep 3 (.g [] true (.sl s5 n5) :: (.g [] true (.sl s6 n6) :: (.g [] true (.sl s7 n7) :: (rep 16 (.g [] true (.sl s24 n24) :: (.g [] true (.int .i64 i25) :: (.g [] true (.int .i64 i26) :: (rep 70 []))))))))))) h
noncomputable def Q8x32 : Kont (AV × Heap) := (blockQ 2 (seqQ (evalE M C k8x31) (seqQ (evalE M C k8x29) (endQ [.tmp 4]))))
noncomputable def L8x32 (s5 : SA) (n5 : Nat) (s7 : SA) (n7 : Nat) (s62 : SA) (n62 : Nat) (i63 : Int) (i64 : Int) (h : Heap) (Q : Kont R) : Option R := loopE (evalE M C k8x32) 32281802128991715488 32 ⟨(rep 5 (.g [] true (.sl s5 n5) :: (.any :: (.g [] true (.sl s7 n7) :: (rep 54 (.g [] true (.sl s62 n62) :: (.g [] true (.int .i64 i63) :: (.g [] true (.int .i64 i64) :: (rep 32 []))))))))), h⟩ Q
theorem r8 (s0 : SA) (n0 : Nat) (s1 : SA) (n1 : Nat) (h : Heap) : runE M C c8 [(.sl s0 n0), (.sl s1 n1)] h = (
  (C 24 [] h).bind fun r18 =>
  gB (some r18.1) true fun b18 =>
  if (!b18) = true then
    (
    some ((.bool false), r18.2)
    )
  else
    (
    letK ((foldMM false ((n0 : Nat) : Int) [40]) : Int) fun i23 =>
    chkC (true = true → (0 : Int) ≤ i23 ∧ hiOk r18.2 s0 n0 5 i23) <|
    letK ((Int.toNat i23) : Nat) fun n24 =>
    L8x12 M C s1 n1 .nil 0 .nil 0 .nil 0 s0 n24 ((n24 : Nat) : Int) 0 r18.2 (Q8x12 M C)
    )
  ) := by kernel_rfl
theorem cf8 : cFn Try.prog 8 = some c8 := by kernel_rfl
theorem e8 (s0 : SA) (n0 : Nat) (s1 : SA) (n1 : Nat) (h : Heap) : E 8 [(.sl s0 n0), (.sl s1 n1)] h = (
  (E 24 [] h).bind fun r18 =>
  gB (some r18.1) true fun b18 =>
  if (!b18) = true then
    (
    some ((.bool false), r18.2)
    )
  else
    (
    letK ((foldMM false ((n0 : Nat) : Int) [40]) : Int) fun i23 =>
    chkC (true = true → (0 : Int) ≤ i23 ∧ hiOk r18.2 s0 n0 5 i23) <|
    letK ((Int.toNat i23) : Nat) fun n24 =>
    L8x12 mk0 E s1 n1 .nil 0 .nil 0 .nil 0 s0 n24 ((n24 : Nat) : Int) 0 r18.2 (Q8x12 mk0 E)
    )
  ) := (EV_eq (P := Try.prog) (T := T0) rfl cf8 [(.sl s0 n0), (.sl s1 n1)] h).trans (r8 mk0 E s0 n0 s1 n1 h)
theorem L8x12xaux (s1 : SA) (n1 : Nat) (s5 : SA) (n5 : Nat) (s6 : SA) (n6 : Nat) (s7 : SA) (n7 : Nat) (s24 : SA) (n24 : Nat) (i25 : Int) (i26 : Int) (h : Heap) (Q : Kont R) : (restrF 117440738 ⟨(.any :: (.g [] true (.sl s1 n1) :: (rep 3 (.g [] true (.sl s5 n5) :: (.g [] true (.sl s6 n6) :: (.g [] true (.sl s7 n7) :: (rep 16 (.g [] true (.sl s24 n24) :: (.g [] true (.int .i64 i25) :: (.g [] true (.int .i64 i26) :: (rep 70 []))))))))))), h⟩ fun σ => evalE M C k8x12 σ (roundQ M C k8x12 117440738 224 Q)) = (
  letK ((decide ((i26 : Int) < i25)) : Bool) fun b27 =>
  if b27 = true then
    (
    chk (true = true → (0 : Int) ≤ i26 ∧ (i26 : Int) < ((n24 : Nat) : Int)) <|
    atP (adP s24) true fun a29 =>
    gCells (ldN h (Ad.add a29 (Int.toNat i26 * 5)) 5) true fun l30 =>
    gI .i64 (l30[0]?) true fun i30x0 =>
    gI .i64 (l30[1]?) true fun i30x1 =>
    gI .i64 (l30[2]?) true fun i30x2 =>
    gI .i64 (l30[3]?) true fun i30x3 =>
    gI .i64 (l30[4]?) true fun i30x4 =>
    letK ((decide ((i26 : Int) < ((n1 : Nat) : Int))) : Bool) fun b34 =>
    chk (b34 = true → (0 : Int) ≤ i26 ∧ (i26 : Int) < ((n1 : Nat) : Int)) <|
    atP (adP s1) b34 fun a38 =>
    atP (some (Ad.add a38 (Int.toNat i26 * 1))) b34 fun a39 =>
    gB (ld1 h a39) b34 fun b39 =>
    letK ((if b34 = true then b39 else false) : Bool) fun b40 =>
    if b40 = true then
      (
      J8x24 M C s1 n1 s5 n5 s6 n6 s7 n7 i30x0 i30x1 i30x2 i30x3 i30x4 (.fn 23 [] []) s24 n24 i25 i26 h Q
      )
    else
      (
      J8x24 M C s1 n1 s5 n5 s6 n6 s7 n7 i30x0 i30x1 i30x2 i30x3 i30x4 (.fn 22 [] []) s24 n24 i25 i26 h Q
      )
    )
  else
    (
    Q (.exit 0) (S8xe0 s5 n5 s6 n6 s7 n7 h)
    )
  ) := by kernel_rfl
theorem L8x12xeq (s1 : SA) (n1 : Nat) (s5 : SA) (n5 : Nat) (s6 : SA) (n6 : Nat) (s7 : SA) (n7 : Nat) (s24 : SA) (n24 : Nat) (i25 : Int) (i26 : Int) (h : Heap) (Q : Kont R) : L8x12 mk0 C s1 n1 s5 n5 s6 n6 s7 n7 s24 n24 i25 i26 h Q = (
  letK ((decide ((i26 : Int) < i25)) : Bool) fun b27 =>
  if b27 = true then
    (
    chk (true = true → (0 : Int) ≤ i26 ∧ (i26 : Int) < ((n24 : Nat) : Int)) <|
    atP (adP s24) true fun a29 =>
    gCells (ldN h (Ad.add a29 (Int.toNat i26 * 5)) 5) true fun l30 =>
    gI .i64 (l30[0]?) true fun i30x0 =>
    gI .i64 (l30[1]?) true fun i30x1 =>
    gI .i64 (l30[2]?) true fun i30x2 =>
    gI .i64 (l30[3]?) true fun i30x3 =>
    gI .i64 (l30[4]?) true fun i30x4 =>
    letK ((decide ((i26 : Int) < ((n1 : Nat) : Int))) : Bool) fun b34 =>
    chk (b34 = true → (0 : Int) ≤ i26 ∧ (i26 : Int) < ((n1 : Nat) : Int)) <|
    atP (adP s1) b34 fun a38 =>
    atP (some (Ad.add a38 (Int.toNat i26 * 1))) b34 fun a39 =>
    gB (ld1 h a39) b34 fun b39 =>
    letK ((if b34 = true then b39 else false) : Bool) fun b40 =>
    if b40 = true then
      (
      J8x24 mk0 C s1 n1 s5 n5 s6 n6 s7 n7 i30x0 i30x1 i30x2 i30x3 i30x4 (.fn 23 [] []) s24 n24 i25 i26 h Q
      )
    else
      (
      J8x24 mk0 C s1 n1 s5 n5 s6 n6 s7 n7 i30x0 i30x1 i30x2 i30x3 i30x4 (.fn 22 [] []) s24 n24 i25 i26 h Q
      )
    )
  else
    (
    Q (.exit 0) (S8xe0 s5 n5 s6 n6 s7 n7 h)
    )
  ) := loop_eqn C k8x12 117440738 224 (.any :: (.g [] true (.sl s1 n1) :: (rep 3 (.g [] true (.sl s5 n5) :: (.g [] true (.sl s6 n6) :: (.g [] true (.sl s7 n7) :: (rep 16 (.g [] true (.sl s24 n24) :: (.g [] true (.int .i64 i25) :: (.g [] true (.int .i64 i26) :: (rep 70 []))))))))))) h Q (by kernel_rfl) (L8x12xaux mk0 C s1 n1 s5 n5 s6 n6 s7 n7 s24 n24 i25 i26 h Q)
theorem J8x24xaux (s1 : SA) (n1 : Nat) (s5 : SA) (n5 : Nat) (s6 : SA) (n6 : Nat) (s7 : SA) (n7 : Nat) (i9x0 : Int) (i9x1 : Int) (i9x2 : Int) (i9x3 : Int) (i9x4 : Int) (v10 : AV) (s24 : SA) (n24 : Nat) (i25 : Int) (i26 : Int) (h : Heap) (Q : Kont R) : (forceK tk (.any :: (.g [] true (.sl s1 n1) :: (rep 3 (.g [] true (.sl s5 n5) :: (.g [] true (.sl s6 n6) :: (.g [] true (.sl s7 n7) :: (.any :: (.box [(.int .i64 i9x0), (.int .i64 i9x1), (.int .i64 i9x2), (.int .i64 i9x3), (.int .i64 i9x4)] :: (.g [] true v10 :: (rep 13 (.g [] true (.sl s24 n24) :: (.g [] true (.int .i64 i25) :: (.g [] true (.int .i64 i26) :: (rep 70 [])))))))))))))) fun e => (seqQ (evalE M C k8x21) (blockQ 1 (seqQ (evalE M C k8x18) (seqQ (evalE M C k8x17) (roundQ M C k8x12 117440738 224 Q))))) .normal ⟨e, h⟩) = (
  fnK v10 fun f44 a44 c44 =>
  (C f44 (a44 ++ [(.agg [(.int .i64 i9x0), (.int .i64 i9x1), (.int .i64 i9x2), (.int .i64 i9x3), (.int .i64 i9x4)])] ++ c44) h).bind fun r44 =>
  gT 2 r44.1 true fun u44 =>
  gL (some (List.getD u44 0 .opq)) true fun s44x0 n44x0 =>
  gI .i64 (some (List.getD u44 1 .opq)) true fun i44x1 =>
  letK ((decide ((i44x1 : Int) = 0)) : Bool) fun b48 =>
  if b48 = true then
    (
    newK r44.2 (.cells [(.int .i64 i9x0), (.int .i64 i9x1), (.int .i64 i9x2), (.int .i64 i9x3), (.int .i64 i9x4)] (.grow 5) 0) fun h_2 =>
    newK h_2 (.cells [(.int .i64 ((n44x0 : Nat) : Int))] (.grow 1) 0) fun h_3 =>
    (ldSl h_3 s44x0 (n44x0 * 1)).bind fun y51 =>
    (apnd h_3 (.sl s5 n5) 1 8 y51 n44x0).bind fun r51 =>
    gL (some r51.1) true fun s51 n51 =>
    chkC (r51.2[Ad.b ⟨List.length r44.2, 0, 0⟩]? = h_3[Ad.b ⟨List.length r44.2, 0, 0⟩]?) <|
    chkC (r51.2[Ad.b ⟨List.length h_2, 0, 0⟩]? = h_3[Ad.b ⟨List.length h_2, 0, 0⟩]?) <|
    (ldSl r51.2 (.pos ⟨List.length r44.2, 0, 0⟩) (1 * 5)).bind fun y55 =>
    (apnd r51.2 (.sl s6 n6) 5 40 y55 1).bind fun r55 =>
    gL (some r55.1) true fun s55 n55 =>
    chkC (r55.2[Ad.b ⟨List.length h_2, 0, 0⟩]? = r51.2[Ad.b ⟨List.length h_2, 0, 0⟩]?) <|
    (ldSl r55.2 (.pos ⟨List.length h_2, 0, 0⟩) (1 * 1)).bind fun y60 =>
    (apnd r55.2 (.sl s7 n7) 1 8 y60 1).bind fun r60 =>
    gL (some r60.1) true fun s60 n60 =>
    J8x28 M C s1 n1 s51 n51 s55 n55 s60 n60 s24 n24 i25 i26 r60.2 Q
    )
  else
    (
    J8x28 M C s1 n1 s5 n5 s6 n6 s7 n7 s24 n24 i25 i26 r44.2 Q
    )
  ) := by kernel_rfl
theorem J8x24xeq (s1 : SA) (n1 : Nat) (s5 : SA) (n5 : Nat) (s6 : SA) (n6 : Nat) (s7 : SA) (n7 : Nat) (i9x0 : Int) (i9x1 : Int) (i9x2 : Int) (i9x3 : Int) (i9x4 : Int) (v10 : AV) (s24 : SA) (n24 : Nat) (i25 : Int) (i26 : Int) (h : Heap) (Q : Kont R) : J8x24 mk0 C s1 n1 s5 n5 s6 n6 s7 n7 i9x0 i9x1 i9x2 i9x3 i9x4 v10 s24 n24 i25 i26 h Q = (
  fnK v10 fun f44 a44 c44 =>
  (C f44 (a44 ++ [(.agg [(.int .i64 i9x0), (.int .i64 i9x1), (.int .i64 i9x2), (.int .i64 i9x3), (.int .i64 i9x4)])] ++ c44) h).bind fun r44 =>
  gT 2 r44.1 true fun u44 =>
  gL (some (List.getD u44 0 .opq)) true fun s44x0 n44x0 =>
  gI .i64 (some (List.getD u44 1 .opq)) true fun i44x1 =>
  letK ((decide ((i44x1 : Int) = 0)) : Bool) fun b48 =>
  if b48 = true then
    (
    newK r44.2 (.cells [(.int .i64 i9x0), (.int .i64 i9x1), (.int .i64 i9x2), (.int .i64 i9x3), (.int .i64 i9x4)] (.grow 5) 0) fun h_2 =>
    newK h_2 (.cells [(.int .i64 ((n44x0 : Nat) : Int))] (.grow 1) 0) fun h_3 =>
    (ldSl h_3 s44x0 (n44x0 * 1)).bind fun y51 =>
    (apnd h_3 (.sl s5 n5) 1 8 y51 n44x0).bind fun r51 =>
    gL (some r51.1) true fun s51 n51 =>
    chkC (r51.2[Ad.b ⟨List.length r44.2, 0, 0⟩]? = h_3[Ad.b ⟨List.length r44.2, 0, 0⟩]?) <|
    chkC (r51.2[Ad.b ⟨List.length h_2, 0, 0⟩]? = h_3[Ad.b ⟨List.length h_2, 0, 0⟩]?) <|
    (ldSl r51.2 (.pos ⟨List.length r44.2, 0, 0⟩) (1 * 5)).bind fun y55 =>
    (apnd r51.2 (.sl s6 n6) 5 40 y55 1).bind fun r55 =>
    gL (some r55.1) true fun s55 n55 =>
    chkC (r55.2[Ad.b ⟨List.length h_2, 0, 0⟩]? = r51.2[Ad.b ⟨List.length h_2, 0, 0⟩]?) <|
    (ldSl r55.2 (.pos ⟨List.length h_2, 0, 0⟩) (1 * 1)).bind fun y60 =>
    (apnd r55.2 (.sl s7 n7) 1 8 y60 1).bind fun r60 =>
    gL (some r60.1) true fun s60 n60 =>
    J8x28 mk0 C s1 n1 s51 n51 s55 n55 s60 n60 s24 n24 i25 i26 r60.2 Q
    )
  else
    (
    J8x28 mk0 C s1 n1 s5 n5 s6 n6 s7 n7 s24 n24 i25 i26 r44.2 Q
    )
  ) := join_eqn (seqQ (evalE mk0 C k8x21) (blockQ 1 (seqQ (evalE mk0 C k8x18) (seqQ (evalE mk0 C k8x17) (roundQ mk0 C k8x12 117440738 224 Q))))) (.any :: (.g [] true (.sl s1 n1) :: (rep 3 (.g [] true (.sl s5 n5) :: (.g [] true (.sl s6 n6) :: (.g [] true (.sl s7 n7) :: (.any :: (.box [(.int .i64 i9x0), (.int .i64 i9x1), (.int .i64 i9x2), (.int .i64 i9x3), (.int .i64 i9x4)] :: (.g [] true v10 :: (rep 13 (.g [] true (.sl s24 n24) :: (.g [] true (.int .i64 i25) :: (.g [] true (.int .i64 i26) :: (rep 70 [])))))))))))))) h (J8x24xaux mk0 C s1 n1 s5 n5 s6 n6 s7 n7 i9x0 i9x1 i9x2 i9x3 i9x4 v10 s24 n24 i25 i26 h Q)
theorem J8x28xaux (s1 : SA) (n1 : Nat) (s5 : SA) (n5 : Nat) (s6 : SA) (n6 : Nat) (s7 : SA) (n7 : Nat) (s24 : SA) (n24 : Nat) (i25 : Int) (i26 : Int) (h : Heap) (Q : Kont R) : (forceK tk (.any :: (.g [] true (.sl s1 n1) :: (rep 3 (.g [] true (.sl s5 n5) :: (.g [] true (.sl s6 n6) :: (.g [] true (.sl s7 n7) :: (rep 16 (.g [] true (.sl s24 n24) :: (.g [] true (.int .i64 i25) :: (.g [] true (.int .i64 i26) :: (rep 70 []))))))))))) fun e => (blockQ 1 (seqQ (evalE M C k8x18) (seqQ (evalE M C k8x17) (roundQ M C k8x12 117440738 224 Q)))) .normal ⟨e, h⟩) = (
  letK ((IntKind.wrap .i64 (i26 + 1)) : Int) fun i61 =>
  L8x12 M C s1 n1 s5 n5 s6 n6 s7 n7 s24 n24 i25 i61 h Q
  ) := by kernel_rfl
theorem J8x28xeq (s1 : SA) (n1 : Nat) (s5 : SA) (n5 : Nat) (s6 : SA) (n6 : Nat) (s7 : SA) (n7 : Nat) (s24 : SA) (n24 : Nat) (i25 : Int) (i26 : Int) (h : Heap) (Q : Kont R) : J8x28 mk0 C s1 n1 s5 n5 s6 n6 s7 n7 s24 n24 i25 i26 h Q = (
  letK ((IntKind.wrap .i64 (i26 + 1)) : Int) fun i61 =>
  L8x12 mk0 C s1 n1 s5 n5 s6 n6 s7 n7 s24 n24 i25 i61 h Q
  ) := join_eqn (blockQ 1 (seqQ (evalE mk0 C k8x18) (seqQ (evalE mk0 C k8x17) (roundQ mk0 C k8x12 117440738 224 Q)))) (.any :: (.g [] true (.sl s1 n1) :: (rep 3 (.g [] true (.sl s5 n5) :: (.g [] true (.sl s6 n6) :: (.g [] true (.sl s7 n7) :: (rep 16 (.g [] true (.sl s24 n24) :: (.g [] true (.int .i64 i25) :: (.g [] true (.int .i64 i26) :: (rep 70 []))))))))))) h (J8x28xaux mk0 C s1 n1 s5 n5 s6 n6 s7 n7 s24 n24 i25 i26 h Q)
theorem X8x12xe0 (s5 : SA) (n5 : Nat) (s6 : SA) (n6 : Nat) (s7 : SA) (n7 : Nat) (h : Heap) : Q8x12 M C (.exit 0) (S8xe0 s5 n5 s6 n6 s7 n7 h) = (
  L8x32 M C s5 n5 s7 n7 s6 n6 ((n6 : Nat) : Int) 0 h (Q8x32 M C)
  ) := by kernel_rfl
theorem L8x32xaux (s5 : SA) (n5 : Nat) (s7 : SA) (n7 : Nat) (s62 : SA) (n62 : Nat) (i63 : Int) (i64 : Int) (h : Heap) (Q : Kont R) : (restrF 32281802128991715488 ⟨(rep 5 (.g [] true (.sl s5 n5) :: (.any :: (.g [] true (.sl s7 n7) :: (rep 54 (.g [] true (.sl s62 n62) :: (.g [] true (.int .i64 i63) :: (.g [] true (.int .i64 i64) :: (rep 32 []))))))))), h⟩ fun σ => evalE M C k8x32 σ (roundQ M C k8x32 32281802128991715488 32 Q)) = (
  letK ((decide ((i64 : Int) < i63)) : Bool) fun b65 =>
  if b65 = true then
    (
    chk (true = true → (0 : Int) ≤ i64 ∧ (i64 : Int) < ((n62 : Nat) : Int)) <|
    atP (adP s62) true fun a67 =>
    gCells (ldN h (Ad.add a67 (Int.toNat i64 * 5)) 5) true fun l68 =>
    gI .i64 (l68[0]?) true fun i68x0 =>
    gI .i64 (l68[1]?) true fun i68x1 =>
    gI .i64 (l68[2]?) true fun i68x2 =>
    gI .i64 (l68[3]?) true fun i68x3 =>
    gI .i64 (l68[4]?) true fun i68x4 =>
    (C 27 [(.sl s5 n5)] h).bind fun r71 =>
    gT 3 r71.1 true fun u71 =>
    gA (List.getD u71 0 .opq) true fun l71x0 =>
    chk (true = true → l71x0.length = 5) <|
    gI .i64 (l71x0[0]?) true fun i71x0x0 =>
    gI .i64 (l71x0[1]?) true fun i71x0x1 =>
    gI .i64 (l71x0[2]?) true fun i71x0x2 =>
    gI .i64 (l71x0[3]?) true fun i71x0x3 =>
    gI .i64 (l71x0[4]?) true fun i71x0x4 =>
    gI .i64 (some (List.getD u71 1 .opq)) true fun i71x1 =>
    gI .i64 (some (List.getD u71 2 .opq)) true fun i71x2 =>
    letK ((!decide ((i71x2 : Int) = 0)) : Bool) fun b76 =>
    chk ((!b76) = true → 0 + 5 ≤ 5) <|
    gI .i64 (some (.int .i64 i71x0x0)) (!b76) fun i78x0 =>
    gI .i64 (some (.int .i64 i71x0x1)) (!b76) fun i78x1 =>
    gI .i64 (some (.int .i64 i71x0x2)) (!b76) fun i78x2 =>
    gI .i64 (some (.int .i64 i71x0x3)) (!b76) fun i78x3 =>
    gI .i64 (some (.int .i64 i71x0x4)) (!b76) fun i78x4 =>
    chk ((!b76) = true → 0 + 5 ≤ 5) <|
    gI .i64 (some (.int .i64 i68x0)) (!b76) fun i79x0 =>
    gI .i64 (some (.int .i64 i68x1)) (!b76) fun i79x1 =>
    gI .i64 (some (.int .i64 i68x2)) (!b76) fun i79x2 =>
    gI .i64 (some (.int .i64 i68x3)) (!b76) fun i79x3 =>
    gI .i64 (some (.int .i64 i68x4)) (!b76) fun i79x4 =>
    gb (!b76) (eqCells [false, false, false, false, false] [(.int .i64 i78x0), (.int .i64 i78x1), (.int .i64 i78x2), (.int .i64 i78x3), (.int .i64 i78x4)] [(.int .i64 i79x0), (.int .i64 i79x1), (.int .i64 i79x2), (.int .i64 i79x3), (.int .i64 i79x4)]) false fun b80 =>
    letK ((if b76 = true then true else (!b80)) : Bool) fun b81 =>
    chk ((!b81) = true → (0 : Int) ≤ i64 ∧ (i64 : Int) < ((n7 : Nat) : Int)) <|
    atP (adP s7) (!b81) fun a86 =>
    atP (some (Ad.add a86 (Int.toNat i64 * 1))) (!b81) fun a87 =>
    gI .i64 (ld1 r71.2 a87) (!b81) fun i87 =>
    letK ((!decide ((i71x1 : Int) = i87)) : Bool) fun b88 =>
    letK ((if b81 = true then true else b88) : Bool) fun b89 =>
    if b89 = true then
      (
      Q .ret (S8xr false r71.2)
      )
    else
      (
      chkC (true = true → (0 : Int) ≤ i71x1 ∧ (i71x1 : Int) ≤ ((n5 : Nat) : Int) ∧ esOk r71.2 s5 1) <|
      letK ((n5 - Int.toNat i71x1) : Nat) fun n92 =>
      letK ((adS s5 (Int.toNat i71x1 * 1) n92) : SA) fun s92 =>
      letK ((IntKind.wrap .i64 (i64 + 1)) : Int) fun i93 =>
      L8x32 M C s92 n92 s7 n7 s62 n62 i63 i93 r71.2 Q
      )
    )
  else
    (
    Q (.exit 2) (S8xe2 s5 n5 h)
    )
  ) := by kernel_rfl
theorem L8x32xeq (s5 : SA) (n5 : Nat) (s7 : SA) (n7 : Nat) (s62 : SA) (n62 : Nat) (i63 : Int) (i64 : Int) (h : Heap) (Q : Kont R) : L8x32 mk0 C s5 n5 s7 n7 s62 n62 i63 i64 h Q = (
  letK ((decide ((i64 : Int) < i63)) : Bool) fun b65 =>
  if b65 = true then
    (
    chk (true = true → (0 : Int) ≤ i64 ∧ (i64 : Int) < ((n62 : Nat) : Int)) <|
    atP (adP s62) true fun a67 =>
    gCells (ldN h (Ad.add a67 (Int.toNat i64 * 5)) 5) true fun l68 =>
    gI .i64 (l68[0]?) true fun i68x0 =>
    gI .i64 (l68[1]?) true fun i68x1 =>
    gI .i64 (l68[2]?) true fun i68x2 =>
    gI .i64 (l68[3]?) true fun i68x3 =>
    gI .i64 (l68[4]?) true fun i68x4 =>
    (C 27 [(.sl s5 n5)] h).bind fun r71 =>
    gT 3 r71.1 true fun u71 =>
    gA (List.getD u71 0 .opq) true fun l71x0 =>
    chk (true = true → l71x0.length = 5) <|
    gI .i64 (l71x0[0]?) true fun i71x0x0 =>
    gI .i64 (l71x0[1]?) true fun i71x0x1 =>
    gI .i64 (l71x0[2]?) true fun i71x0x2 =>
    gI .i64 (l71x0[3]?) true fun i71x0x3 =>
    gI .i64 (l71x0[4]?) true fun i71x0x4 =>
    gI .i64 (some (List.getD u71 1 .opq)) true fun i71x1 =>
    gI .i64 (some (List.getD u71 2 .opq)) true fun i71x2 =>
    letK ((!decide ((i71x2 : Int) = 0)) : Bool) fun b76 =>
    chk ((!b76) = true → 0 + 5 ≤ 5) <|
    gI .i64 (some (.int .i64 i71x0x0)) (!b76) fun i78x0 =>
    gI .i64 (some (.int .i64 i71x0x1)) (!b76) fun i78x1 =>
    gI .i64 (some (.int .i64 i71x0x2)) (!b76) fun i78x2 =>
    gI .i64 (some (.int .i64 i71x0x3)) (!b76) fun i78x3 =>
    gI .i64 (some (.int .i64 i71x0x4)) (!b76) fun i78x4 =>
    chk ((!b76) = true → 0 + 5 ≤ 5) <|
    gI .i64 (some (.int .i64 i68x0)) (!b76) fun i79x0 =>
    gI .i64 (some (.int .i64 i68x1)) (!b76) fun i79x1 =>
    gI .i64 (some (.int .i64 i68x2)) (!b76) fun i79x2 =>
    gI .i64 (some (.int .i64 i68x3)) (!b76) fun i79x3 =>
    gI .i64 (some (.int .i64 i68x4)) (!b76) fun i79x4 =>
    gb (!b76) (eqCells [false, false, false, false, false] [(.int .i64 i78x0), (.int .i64 i78x1), (.int .i64 i78x2), (.int .i64 i78x3), (.int .i64 i78x4)] [(.int .i64 i79x0), (.int .i64 i79x1), (.int .i64 i79x2), (.int .i64 i79x3), (.int .i64 i79x4)]) false fun b80 =>
    letK ((if b76 = true then true else (!b80)) : Bool) fun b81 =>
    chk ((!b81) = true → (0 : Int) ≤ i64 ∧ (i64 : Int) < ((n7 : Nat) : Int)) <|
    atP (adP s7) (!b81) fun a86 =>
    atP (some (Ad.add a86 (Int.toNat i64 * 1))) (!b81) fun a87 =>
    gI .i64 (ld1 r71.2 a87) (!b81) fun i87 =>
    letK ((!decide ((i71x1 : Int) = i87)) : Bool) fun b88 =>
    letK ((if b81 = true then true else b88) : Bool) fun b89 =>
    if b89 = true then
      (
      Q .ret (S8xr false r71.2)
      )
    else
      (
      chkC (true = true → (0 : Int) ≤ i71x1 ∧ (i71x1 : Int) ≤ ((n5 : Nat) : Int) ∧ esOk r71.2 s5 1) <|
      letK ((n5 - Int.toNat i71x1) : Nat) fun n92 =>
      letK ((adS s5 (Int.toNat i71x1 * 1) n92) : SA) fun s92 =>
      letK ((IntKind.wrap .i64 (i64 + 1)) : Int) fun i93 =>
      L8x32 mk0 C s92 n92 s7 n7 s62 n62 i63 i93 r71.2 Q
      )
    )
  else
    (
    Q (.exit 2) (S8xe2 s5 n5 h)
    )
  ) := loop_eqn C k8x32 32281802128991715488 32 (rep 5 (.g [] true (.sl s5 n5) :: (.any :: (.g [] true (.sl s7 n7) :: (rep 54 (.g [] true (.sl s62 n62) :: (.g [] true (.int .i64 i63) :: (.g [] true (.int .i64 i64) :: (rep 32 []))))))))) h Q (by kernel_rfl) (L8x32xaux mk0 C s5 n5 s7 n7 s62 n62 i63 i64 h Q)
theorem X8x32xr (b4 : Bool) (h : Heap) : Q8x32 M C .ret (S8xr b4 h) = (
  some ((.bool b4), h)
  ) := by kernel_rfl
theorem X8x32xe2 (s5 : SA) (n5 : Nat) (h : Heap) : Q8x32 M C (.exit 2) (S8xe2 s5 n5 h) = (
  letK ((decide ((((n5 : Nat) : Int) : Int) = 0)) : Bool) fun b96 =>
  some ((.bool b96), h)
  ) := by kernel_rfl
end
end Go.Proofs.Ytmfmnbldngfelaa.I
