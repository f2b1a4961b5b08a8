/- Parts of the proof, printed. -/
import Derived.Test.YtmfmnbldngfelaaLGen
import Derived.KernelRfl
set_option linter.unusedVariables false
set_option maxRecDepth 100000
namespace Go.Proofs.Ytmfmnbldngfelaa.I
open Go Go.Proofs.Ytmfmnbldngfelaa.Abs Go.Proofs
section
variable {R : Type} (M : Mk) (C : Cal)
def k49x6 : AC := .ret
def k49x5 : AC := .seq (.mask 1792) k49x6
def k49x4 : AC := .mask 6407
def k49x3 : AC := .seq (.cond (.tmp 32)
   (.seq (.ops false [
      ⟨(some 33), .build [(.sl .nil 0), (.int .i64 0), (.sl .nil 0), (.sl .nil 0), (.sl .nil 0)] [], none, []⟩,
      ⟨(some 34), .move (.tmp 13), none, []⟩,
      ⟨none, .store 5 (.tmp 8) (.tmp 33), none, []⟩,
      ⟨(some 9), .move (.c (.sl .nil 0)), none, []⟩,
      ⟨(some 10), .move (.tmp 34), none, []⟩]) k49x5)
   (.skip)) k49x4
def k49x14 : AC := .exit 0
def k49x13 : AC := .mask 1924145355015
def k49x17 : AC := .ops false [
    ⟨(some 44), .move (.tmp 11), none, []⟩,
    ⟨(some 45), .move (.tmp 12), none, []⟩,
    ⟨(some 46), .indexArr 2 1 (.tmp 15) (.c (.int .i64 0)), none, []⟩,
    ⟨(some 47), .load (.cell (.int .i64)) (.tmp 46), none, []⟩,
    ⟨(some 48), .indexAddr 1 (.tmp 45) (.tmp 47), none, []⟩,
    ⟨(some 49), .load (.cell (.int .i64)) (.tmp 48), none, []⟩,
    ⟨(some 50), .bin .other .add (.tmp 49) (.c (.int .i64 1)), none, []⟩,
    ⟨(some 51), .move (.tmp 12), none, []⟩,
    ⟨(some 52), .indexArr 2 1 (.tmp 15) (.c (.int .i64 1)), none, []⟩,
    ⟨(some 53), .load (.cell (.int .i64)) (.tmp 52), none, []⟩,
    ⟨(some 54), .indexAddr 1 (.tmp 51) (.tmp 53), none, []⟩,
    ⟨(some 55), .load (.cell (.int .i64)) (.tmp 54), none, []⟩,
    ⟨(some 56), .bin .other .mul (.c (.int .i64 2)) (.tmp 55), none, []⟩,
    ⟨(some 57), .bin .other .add (.tmp 56) (.c (.int .i64 1)), none, []⟩,
    ⟨(some 58), .indexAddr 1 (.tmp 44) (.tmp 50), none, []⟩,
    ⟨none, .store 1 (.tmp 58) (.tmp 57), none, []⟩]
def k49x16 : AC := .mask 1924145355015
def k49x15 : AC := .ops false [
    ⟨(some 59), .bin .other .add (.tmp 40) (.c (.int .i64 1)), none, []⟩,
    ⟨(some 40), .move (.tmp 59), none, []⟩]
def k49x12 : AC := .seq (.seq (.block 1 (.seq (.ops false [
     ⟨(some 42), .indexAddr 2 (.tmp 38) (.tmp 40), none, []⟩,
     ⟨(some 43), .load (.agg [(.int .i64), (.int .i64)]) (.tmp 42), none, []⟩,
     ⟨(some 15), .allocL [(.int .i64 0), (.int .i64 0)], none, []⟩,
     ⟨none, .store 2 (.tmp 15) (.tmp 43), none, []⟩]) k49x17)) k49x16) k49x15
def k49x11 : AC := .seq (.seq (.cond (.tmp 41)
   (.skip)
   (.seq (.mask 6407) k49x14)) k49x13) k49x12
def k49x10 : AC := .seq (.ops false [
    ⟨(some 41), .bin .other .lss (.tmp 40) (.tmp 39), none, []⟩]) k49x11
def k49x9 : AC := .mask 6407
def k49x8 : AC := .seq (.block 0 (.loop 1924145355015 6407 k49x10)) k49x9
def k49x27 : AC := .exit 2
def k49x26 : AC := .mask 258254417031933923589
def k49x35 : AC := .ops false [
    ⟨(some 110), .fieldAddr 3 (.tmp 16), none, []⟩,
    ⟨(some 111), .load (.cell .sl) (.tmp 110), none, []⟩,
    ⟨(some 112), .load (.agg [(.int .i64), .sl, .sl, .sl, (.int .i64)]) (.tmp 19), none, []⟩,
    ⟨(some 113), .move (.tmp 12), none, []⟩,
    ⟨(some 114), .move (.tmp 20), none, []⟩,
    ⟨(some 115), .move (.tmp 20), none, []⟩,
    ⟨(some 116), .fieldAddr 1 (.tmp 19), none, []⟩,
    ⟨(some 117), .load (.cell .sl) (.tmp 116), none, []⟩,
    ⟨(some 118), .lenSl (.tmp 117), none, []⟩,
    ⟨(some 119), .bin .other .add (.tmp 115) (.tmp 118), none, []⟩,
    ⟨(some 120), .slice 1 (.tmp 113) (some (.tmp 114)) (some (.tmp 119)), none, []⟩,
    ⟨(some 121), .call 58 [(.tmp 112), (.tmp 120)] [(.cell .sl)] (.sl .nil 0), none, [.load 1 110 none]⟩,
    ⟨(some 122), .append [(.int .i64 0), (.int .i64 0), (.sl .nil 0), (.int .i64 0)] 4 48 (.tmp 111) (.tmp 121), none, []⟩,
    ⟨(some 123), .fieldAddr 3 (.tmp 16), none, []⟩,
    ⟨none, .store 1 (.tmp 123) (.tmp 122), none, []⟩]
def k49x34 : AC := .seq (.ops false [
    ⟨(some 101), .fieldAddr 2 (.tmp 16), none, []⟩,
    ⟨(some 102), .load (.cell .sl) (.tmp 101), none, []⟩,
    ⟨(some 103), .move (.tmp 12), none, []⟩,
    ⟨(some 104), .move (.tmp 20), none, []⟩,
    ⟨(some 105), .indexAddr 1 (.tmp 103) (.tmp 104), none, []⟩,
    ⟨(some 106), .load (.cell (.int .i64)) (.tmp 105), none, []⟩,
    ⟨(some 107), .buildSl [(.int .i64 0)] 1 [(0, (.tmp 106))], none, []⟩,
    ⟨(some 108), .append [(.int .i64 0)] 1 8 (.tmp 102) (.tmp 107), none, []⟩,
    ⟨(some 109), .fieldAddr 2 (.tmp 16), none, []⟩,
    ⟨none, .store 1 (.tmp 109) (.tmp 108), none, []⟩]) k49x35
def k49x33 : AC := .join 258254417031933923589
def k49x32 : AC := .seq (.cond (.tmp 93)
   (.seq (.ops false [
      ⟨(some 94), .move (.tmp 0), none, []⟩,
      ⟨(some 95), .nilCheck (.tmp 94), none, []⟩,
      ⟨(some 96), .fieldAddr 1 (.tmp 95), none, []⟩,
      ⟨(some 97), .load (.cell .sl) (.tmp 96), none, []⟩,
      ⟨(some 98), .move (.tmp 18), none, []⟩,
      ⟨(some 99), .indexAddr 1 (.tmp 97) (.tmp 98), none, []⟩,
      ⟨(some 100), .load (.cell (.int .i64)) (.tmp 99), none, []⟩,
      ⟨(some 20), .move (.tmp 100), none, []⟩]) k49x34)
   (.skip)) k49x33
def k49x31 : AC := .seq (.ops false [
    ⟨(some 88), .move (.tmp 2), none, []⟩,
    ⟨(some 89), .move (.tmp 18), none, []⟩,
    ⟨(some 90), .indexAddr 1 (.tmp 88) (.tmp 89), none, []⟩,
    ⟨(some 91), .load (.cell (.int .i64)) (.tmp 90), none, []⟩,
    ⟨(some 92), .move (.tmp 18), none, []⟩,
    ⟨(some 93), .bin .other .eql (.tmp 91) (.tmp 92), none, []⟩]) k49x32
def k49x30 : AC := .seq (.ops false [
    ⟨(some 72), .move (.tmp 17), none, []⟩,
    ⟨(some 73), .move (.tmp 18), none, []⟩,
    ⟨(some 74), .move (.tmp 12), none, []⟩,
    ⟨(some 75), .move (.tmp 0), none, []⟩,
    ⟨(some 76), .nilCheck (.tmp 75), none, []⟩,
    ⟨(some 77), .fieldAddr 1 (.tmp 76), none, []⟩,
    ⟨(some 78), .load (.cell .sl) (.tmp 77), none, []⟩,
    ⟨(some 79), .move (.tmp 2), none, []⟩,
    ⟨(some 80), .move (.tmp 18), none, []⟩,
    ⟨(some 81), .indexAddr 1 (.tmp 79) (.tmp 80), none, []⟩,
    ⟨(some 82), .load (.cell (.int .i64)) (.tmp 81), none, []⟩,
    ⟨(some 83), .indexAddr 1 (.tmp 78) (.tmp 82), none, []⟩,
    ⟨(some 84), .load (.cell (.int .i64)) (.tmp 83), none, []⟩,
    ⟨(some 85), .indexAddr 1 (.tmp 74) (.tmp 84), none, []⟩,
    ⟨(some 86), .load (.cell (.int .i64)) (.tmp 85), none, []⟩,
    ⟨(some 87), .indexAddr 1 (.tmp 72) (.tmp 73), none, []⟩,
    ⟨none, .store 1 (.tmp 87) (.tmp 86), none, []⟩]) k49x31
def k49x29 : AC := .mask 258254417031933923589
def k49x28 : AC := .ops false [
    ⟨(some 124), .bin .other .add (.tmp 67) (.c (.int .i64 1)), none, []⟩,
    ⟨(some 67), .move (.tmp 124), none, []⟩]
def k49x25 : AC := .seq (.seq (.block 3 (.seq (.ops false [
     ⟨(some 69), .move (.tmp 67), none, []⟩,
     ⟨(some 70), .indexAddr 5 (.tmp 65) (.tmp 67), none, []⟩,
     ⟨(some 71), .load (.agg [(.int .i64), .sl, .sl, .sl, (.int .i64)]) (.tmp 70), none, []⟩,
     ⟨(some 19), .allocL [(.int .i64 0), (.sl .nil 0), (.sl .nil 0), (.sl .nil 0), (.int .i64 0)], none, []⟩,
     ⟨(some 18), .move (.tmp 69), none, []⟩,
     ⟨none, .store 5 (.tmp 19) (.tmp 71), none, []⟩]) k49x30)) k49x29) k49x28
def k49x24 : AC := .seq (.seq (.cond (.tmp 68)
   (.skip)
   (.seq (.mask 196864) k49x27)) k49x26) k49x25
def k49x23 : AC := .seq (.ops false [
    ⟨(some 68), .bin .other .lss (.tmp 67) (.tmp 66), none, []⟩]) k49x24
def k49x22 : AC := .mask 196864
def k49x21 : AC := .seq (.block 2 (.loop 258254417031933923589 196864 k49x23)) k49x22
def k49x38 : AC := .ret
def k49x37 : AC := .seq (.mask 1792) k49x38
def k49x20 : AC := .seq (.ops false [
    ⟨(some 125), .load (.agg [.sl, (.int .i64), .sl, .sl, .sl]) (.tmp 16), none, []⟩,
    ⟨(some 126), .move (.tmp 17), none, []⟩,
    ⟨none, .store 5 (.tmp 8) (.tmp 125), none, []⟩,
    ⟨(some 9), .move (.tmp 126), none, []⟩,
    ⟨(some 10), .move (.c (.int .i64 0)), none, []⟩]) k49x37
def k49x19 : AC := .seq (.seq (.ops false [
    ⟨(some 65), .move (.tmp 1), none, []⟩,
    ⟨(some 66), .lenSl (.tmp 65), none, []⟩,
    ⟨(some 67), .move (.c (.int .i64 0)), none, []⟩]) k49x21) k49x20
def k49x18 : AC := .seq (.ops false [
    ⟨(some 62), .move (.tmp 1), none, []⟩,
    ⟨(some 63), .lenSl (.tmp 62), none, []⟩,
    ⟨(some 64), .makeSl [(.int .i64 0)] 8 (.tmp 63) (.tmp 63), none, []⟩,
    ⟨(some 17), .move (.tmp 64), none, []⟩]) k49x19
def k49x7 : AC := .seq (.ops false [
    ⟨(some 60), .move (.tmp 11), none, []⟩,
    ⟨(some 61), .build [(.sl .nil 0), (.int .i64 0), (.sl .nil 0), (.sl .nil 0), (.sl .nil 0)] [(0, 1, (.tmp 60))], none, []⟩,
    ⟨(some 16), .allocL [(.sl .nil 0), (.int .i64 0), (.sl .nil 0), (.sl .nil 0), (.sl .nil 0)], none, []⟩,
    ⟨none, .store 5 (.tmp 16) (.tmp 61), none, []⟩]) k49x18
def k49x2 : AC := .seq (.seq (.ops false [
    ⟨(some 35), .move (.tmp 0), none, []⟩,
    ⟨(some 36), .nilCheck (.tmp 35), none, []⟩,
    ⟨(some 37), .fieldAddr 2 (.tmp 36), none, []⟩,
    ⟨(some 38), .load (.cell .sl) (.tmp 37), none, []⟩,
    ⟨(some 39), .lenSl (.tmp 38), none, []⟩,
    ⟨(some 40), .move (.c (.int .i64 0)), none, []⟩]) k49x8) k49x7
def k49x1 : AC := .seq (.seq (.ops false [
    ⟨(some 31), .move (.tmp 13), none, []⟩,
    ⟨(some 32), .bin .other .neq (.tmp 31) (.c (.int .i64 0)), none, []⟩]) k49x3) k49x2
def k49x0 : AC := .seq (.ops false [
    ⟨(some 22), .move (.tmp 0), none, []⟩,
    ⟨(some 23), .nilCheck (.tmp 22), none, []⟩,
    ⟨(some 24), .fieldAddr 0 (.tmp 23), none, []⟩,
    ⟨(some 25), .load (.cell .sl) (.tmp 24), none, []⟩,
    ⟨(some 26), .move (.tmp 3), none, []⟩,
    ⟨(some 27), .call 30 [(.tmp 25), (.tmp 26)] [(.cell .sl), (.cell .sl), (.cell (.int .i64))] .opq, none, []⟩,
    ⟨(some 21), .move (.tmp 27), none, []⟩,
    ⟨(some 28), .extract (.tmp 21) 0, none, []⟩,
    ⟨(some 29), .extract (.tmp 21) 1, none, []⟩,
    ⟨(some 30), .extract (.tmp 21) 2, none, []⟩,
    ⟨(some 11), .move (.tmp 28), none, []⟩,
    ⟨(some 12), .move (.tmp 29), none, []⟩,
    ⟨(some 13), .move (.tmp 30), none, []⟩]) k49x1
/-- (*provenance/link.linker).image -/
def c49 : AFn := ⟨127, [.cell 8 (.agg [.sl, (.int .i64), .sl, .sl, .sl]), .tmp 9, .tmp 10],
  .seq (.ops false [
    ⟨(some 8), .allocL [(.sl .nil 0), (.int .i64 0), (.sl .nil 0), (.sl .nil 0), (.sl .nil 0)], none, []⟩,
    ⟨(some 9), .move (.c (.sl .nil 0)), none, []⟩,
    ⟨(some 10), .move (.c (.int .i64 0)), none, []⟩]) k49x0⟩
def S49xe0 (p0 : Option Ad) (s1 : SA) (n1 : Nat) (s2 : SA) (n2 : Nat) (s8x0 : SA) (n8x0 : Nat) (i8x1 : Int) (s8x2 : SA) (n8x2 : Nat) (s8x3 : SA) (n8x3 : Nat) (s8x4 : SA) (n8x4 : Nat) (s11 : SA) (n11 : Nat) (s12 : SA) (n12 : Nat) (h : Heap) : St := ⟨(.g [] true (.ptr p0) :: (.g [] true (.sl s1 n1) :: (.g [] true (.sl s2 n2) :: (rep 5 (.box [(.sl s8x0 n8x0), (.int .i64 i8x1), (.sl s8x2 n8x2), (.sl s8x3 n8x3), (.sl s8x4 n8x4)] :: (.any :: .any :: (.g [] true (.sl s11 n11) :: (.g [] true (.sl s12 n12) :: (rep 114 []))))))))), h⟩
def S49xe2 (s8x0 : SA) (n8x0 : Nat) (i8x1 : Int) (s8x2 : SA) (n8x2 : Nat) (s8x3 : SA) (n8x3 : Nat) (s8x4 : SA) (n8x4 : Nat) (s16x0 : SA) (n16x0 : Nat) (i16x1 : Int) (s16x2 : SA) (n16x2 : Nat) (s16x3 : SA) (n16x3 : Nat) (s16x4 : SA) (n16x4 : Nat) (s17 : SA) (n17 : Nat) (h : Heap) : St := ⟨(rep 8 (.box [(.sl s8x0 n8x0), (.int .i64 i8x1), (.sl s8x2 n8x2), (.sl s8x3 n8x3), (.sl s8x4 n8x4)] :: (rep 7 (.box [(.sl s16x0 n16x0), (.int .i64 i16x1), (.sl s16x2 n16x2), (.sl s16x3 n16x3), (.sl s16x4 n16x4)] :: (.g [] true (.sl s17 n17) :: (rep 109 [])))))), h⟩
noncomputable def Q49x10 (M : Mk) (C : Cal) : Kont (AV × Heap) := (blockQ 0 (seqQ (evalE M C k49x9) (seqQ (evalE M C k49x7) (endQ [.cell 8 (.agg [.sl, (.int .i64), .sl, .sl, .sl]), .tmp 9, .tmp 10]))))
noncomputable def L49x10 (p0 : Option Ad) (s1 : SA) (n1 : Nat) (s2 : SA) (n2 : Nat) (s8x0 : SA) (n8x0 : Nat) (i8x1 : Int) (s8x2 : SA) (n8x2 : Nat) (s8x3 : SA) (n8x3 : Nat) (s8x4 : SA) (n8x4 : Nat) (s11 : SA) (n11 : Nat) (s12 : SA) (n12 : Nat) (s38 : SA) (n38 : Nat) (i39 : Int) (i40 : Int) (h : Heap) (Q : Kont R) : Option R := loopE (evalE M C k49x10) 1924145355015 6407 ⟨(.g [] true (.ptr p0) :: (.g [] true (.sl s1 n1) :: (.g [] true (.sl s2 n2) :: (rep 5 (.box [(.sl s8x0 n8x0), (.int .i64 i8x1), (.sl s8x2 n8x2), (.sl s8x3 n8x3), (.sl s8x4 n8x4)] :: (.any :: .any :: (.g [] true (.sl s11 n11) :: (.g [] true (.sl s12 n12) :: (rep 25 (.g [] true (.sl s38 n38) :: (.g [] true (.int .i64 i39) :: (.g [] true (.int .i64 i40) :: (rep 86 []))))))))))))), h⟩ Q
noncomputable def Q49x23 (M : Mk) (C : Cal) : Kont (AV × Heap) := (blockQ 2 (seqQ (evalE M C k49x22) (seqQ (evalE M C k49x20) (endQ [.cell 8 (.agg [.sl, (.int .i64), .sl, .sl, .sl]), .tmp 9, .tmp 10]))))
noncomputable def L49x23 (p0 : Option Ad) (s2 : SA) (n2 : Nat) (s8x0 : SA) (n8x0 : Nat) (i8x1 : Int) (s8x2 : SA) (n8x2 : Nat) (s8x3 : SA) (n8x3 : Nat) (s8x4 : SA) (n8x4 : Nat) (s12 : SA) (n12 : Nat) (s16x0 : SA) (n16x0 : Nat) (i16x1 : Int) (s16x2 : SA) (n16x2 : Nat) (s16x3 : SA) (n16x3 : Nat) (s16x4 : SA) (n16x4 : Nat) (s17 : SA) (n17 : Nat) (s65 : SA) (n65 : Nat) (i66 : Int) (i67 : Int) (h : Heap) (Q : Kont R) : Option R := loopE (evalE M C k49x23) 258254417031933923589 196864 ⟨(.g [] true (.ptr p0) :: (.any :: (.g [] true (.sl s2 n2) :: (rep 5 (.box [(.sl s8x0 n8x0), (.int .i64 i8x1), (.sl s8x2 n8x2), (.sl s8x3 n8x3), (.sl s8x4 n8x4)] :: (rep 3 (.g [] true (.sl s12 n12) :: (rep 3 (.box [(.sl s16x0 n16x0), (.int .i64 i16x1), (.sl s16x2 n16x2), (.sl s16x3 n16x3), (.sl s16x4 n16x4)] :: (.g [] true (.sl s17 n17) :: (rep 47 (.g [] true (.sl s65 n65) :: (.g [] true (.int .i64 i66) :: (.g [] true (.int .i64 i67) :: (rep 59 []))))))))))))))), h⟩ Q
noncomputable def J49x36 (M : Mk) (C : Cal) (p0 : Option Ad) (s2 : SA) (n2 : Nat) (s8x0 : SA) (n8x0 : Nat) (i8x1 : Int) (s8x2 : SA) (n8x2 : Nat) (s8x3 : SA) (n8x3 : Nat) (s8x4 : SA) (n8x4 : Nat) (s12 : SA) (n12 : Nat) (s16x0 : SA) (n16x0 : Nat) (i16x1 : Int) (s16x2 : SA) (n16x2 : Nat) (s16x3 : SA) (n16x3 : Nat) (s16x4 : SA) (n16x4 : Nat) (s17 : SA) (n17 : Nat) (s65 : SA) (n65 : Nat) (i66 : Int) (i67 : Int) (h : Heap) (Q : Kont R) : Option R := M R (blockQ 3 (seqQ (evalE M C k49x29) (seqQ (evalE M C k49x28) (roundQ M C k49x23 258254417031933923589 196864 Q)))) (.g [] true (.ptr p0) :: (.any :: (.g [] true (.sl s2 n2) :: (rep 5 (.box [(.sl s8x0 n8x0), (.int .i64 i8x1), (.sl s8x2 n8x2), (.sl s8x3 n8x3), (.sl s8x4 n8x4)] :: (rep 3 (.g [] true (.sl s12 n12) :: (rep 3 (.box [(.sl s16x0 n16x0), (.int .i64 i16x1), (.sl s16x2 n16x2), (.sl s16x3 n16x3), (.sl s16x4 n16x4)] :: (.g [] true (.sl s17 n17) :: (rep 47 (.g [] true (.sl s65 n65) :: (.g [] true (.int .i64 i66) :: (.g [] true (.int .i64 i67) :: (rep 59 []))))))))))))))) h
theorem r49 (p0 : Option Ad) (s1 : SA) (n1 : Nat) (s2 : SA) (n2 : Nat) (b3 : Bool) (h : Heap) : runE M C c49 [(.ptr p0), (.sl s1 n1), (.sl s2 n2), (.bool b3)] h = (
  atP p0 true fun a23 =>
  gL (ld1 h (Ad.add a23 0)) true fun s25 n25 =>
  (C 30 [(.sl s25 n25), (.bool b3)] h).bind fun r27 =>
  gT 3 r27.1 true fun u27 =>
  gL (some (List.getD u27 0 .opq)) true fun s27x0 n27x0 =>
  gL (some (List.getD u27 1 .opq)) true fun s27x1 n27x1 =>
  gI .i64 (some (List.getD u27 2 .opq)) true fun i27x2 =>
  letK ((!decide ((i27x2 : Int) = 0)) : Bool) fun b32 =>
  if b32 = true then
    (
    some (.tup [(.agg [(.sl .nil 0), (.int .i64 0), (.sl .nil 0), (.sl .nil 0), (.sl .nil 0)]), (.sl .nil 0), (.int .i64 i27x2)], r27.2)
    )
  else
    (
    atP p0 true fun a36 =>
    gL (ld1 r27.2 (Ad.add a36 2)) true fun s38 n38 =>
    L49x10 M C p0 s1 n1 s2 n2 .nil 0 0 .nil 0 .nil 0 .nil 0 s27x0 n27x0 s27x1 n27x1 s38 n38 ((n38 : Nat) : Int) 0 r27.2 (Q49x10 M C)
    )
  ) := by kernel_rfl
theorem cf49 : cFn Try.prog 49 = some c49 := by kernel_rfl
theorem e49 (p0 : Option Ad) (s1 : SA) (n1 : Nat) (s2 : SA) (n2 : Nat) (b3 : Bool) (h : Heap) : E 49 [(.ptr p0), (.sl s1 n1), (.sl s2 n2), (.bool b3)] h = (
  atP p0 true fun a23 =>
  gL (ld1 h (Ad.add a23 0)) true fun s25 n25 =>
  (E 30 [(.sl s25 n25), (.bool b3)] h).bind fun r27 =>
  gT 3 r27.1 true fun u27 =>
  gL (some (List.getD u27 0 .opq)) true fun s27x0 n27x0 =>
  gL (some (List.getD u27 1 .opq)) true fun s27x1 n27x1 =>
  gI .i64 (some (List.getD u27 2 .opq)) true fun i27x2 =>
  letK ((!decide ((i27x2 : Int) = 0)) : Bool) fun b32 =>
  if b32 = true then
    (
    some (.tup [(.agg [(.sl .nil 0), (.int .i64 0), (.sl .nil 0), (.sl .nil 0), (.sl .nil 0)]), (.sl .nil 0), (.int .i64 i27x2)], r27.2)
    )
  else
    (
    atP p0 true fun a36 =>
    gL (ld1 r27.2 (Ad.add a36 2)) true fun s38 n38 =>
    L49x10 mk0 E p0 s1 n1 s2 n2 .nil 0 0 .nil 0 .nil 0 .nil 0 s27x0 n27x0 s27x1 n27x1 s38 n38 ((n38 : Nat) : Int) 0 r27.2 (Q49x10 mk0 E)
    )
  ) := (EV_eq (P := Try.prog) (T := T0) rfl cf49 [(.ptr p0), (.sl s1 n1), (.sl s2 n2), (.bool b3)] h).trans (r49 mk0 E p0 s1 n1 s2 n2 b3 h)
theorem L49x10xaux (p0 : Option Ad) (s1 : SA) (n1 : Nat) (s2 : SA) (n2 : Nat) (s8x0 : SA) (n8x0 : Nat) (i8x1 : Int) (s8x2 : SA) (n8x2 : Nat) (s8x3 : SA) (n8x3 : Nat) (s8x4 : SA) (n8x4 : Nat) (s11 : SA) (n11 : Nat) (s12 : SA) (n12 : Nat) (s38 : SA) (n38 : Nat) (i39 : Int) (i40 : Int) (h : Heap) (Q : Kont R) : (restrF 1924145355015 ⟨(.g [] true (.ptr p0) :: (.g [] true (.sl s1 n1) :: (.g [] true (.sl s2 n2) :: (rep 5 (.box [(.sl s8x0 n8x0), (.int .i64 i8x1), (.sl s8x2 n8x2), (.sl s8x3 n8x3), (.sl s8x4 n8x4)] :: (.any :: .any :: (.g [] true (.sl s11 n11) :: (.g [] true (.sl s12 n12) :: (rep 25 (.g [] true (.sl s38 n38) :: (.g [] true (.int .i64 i39) :: (.g [] true (.int .i64 i40) :: (rep 86 []))))))))))))), h⟩ fun σ => evalE M C k49x10 σ (roundQ M C k49x10 1924145355015 6407 Q)) = (
  letK ((decide ((i40 : Int) < i39)) : Bool) fun b41 =>
  if b41 = true then
    (
    chk (true = true → (0 : Int) ≤ i40 ∧ (i40 : Int) < ((n38 : Nat) : Int)) <|
    atP (adP s38) true fun a42 =>
    gCells (ldN h (Ad.add a42 (Int.toNat i40 * 2)) 2) true fun l43 =>
    gI .i64 (l43[0]?) true fun i43x0 =>
    gI .i64 (l43[1]?) true fun i43x1 =>
    chk (true = true → (0 : Int) ≤ 0 ∧ (0 : Int) < ((2 : Nat) : Int)) <|
    gI .i64 ([(.int .i64 i43x0), (.int .i64 i43x1)][(0 + Int.toNat 0 * 1)]?) true fun i47 =>
    chk (true = true → (0 : Int) ≤ i47 ∧ (i47 : Int) < ((n12 : Nat) : Int)) <|
    atP (adP s12) true fun a48 =>
    gI .i64 (ld1 h (Ad.add a48 (Int.toNat i47 * 1))) true fun i49 =>
    letK ((IntKind.wrap .i64 (i49 + 1)) : Int) fun i50 =>
    chk (true = true → (0 : Int) ≤ 1 ∧ (1 : Int) < ((2 : Nat) : Int)) <|
    gI .i64 ([(.int .i64 i43x0), (.int .i64 i43x1)][(0 + Int.toNat 1 * 1)]?) true fun i53 =>
    chk (true = true → (0 : Int) ≤ i53 ∧ (i53 : Int) < ((n12 : Nat) : Int)) <|
    atP (adP s12) true fun a54 =>
    gI .i64 (ld1 h (Ad.add a54 (Int.toNat i53 * 1))) true fun i55 =>
    letK ((IntKind.wrap .i64 (2 * i55)) : Int) fun i56 =>
    letK ((IntKind.wrap .i64 (i56 + 1)) : Int) fun i57 =>
    chk (true = true → (0 : Int) ≤ i50 ∧ (i50 : Int) < ((n11 : Nat) : Int)) <|
    atP (adP s11) true fun a58 =>
    (st1 h (Ad.add a58 (Int.toNat i50 * 1)) (.int .i64 i57)).bind fun h_2 =>
    letK ((IntKind.wrap .i64 (i40 + 1)) : Int) fun i59 =>
    L49x10 M C p0 s1 n1 s2 n2 s8x0 n8x0 i8x1 s8x2 n8x2 s8x3 n8x3 s8x4 n8x4 s11 n11 s12 n12 s38 n38 i39 i59 h_2 Q
    )
  else
    (
    Q (.exit 0) (S49xe0 p0 s1 n1 s2 n2 s8x0 n8x0 i8x1 s8x2 n8x2 s8x3 n8x3 s8x4 n8x4 s11 n11 s12 n12 h)
    )
  ) := by kernel_rfl
theorem L49x10xeq (p0 : Option Ad) (s1 : SA) (n1 : Nat) (s2 : SA) (n2 : Nat) (s8x0 : SA) (n8x0 : Nat) (i8x1 : Int) (s8x2 : SA) (n8x2 : Nat) (s8x3 : SA) (n8x3 : Nat) (s8x4 : SA) (n8x4 : Nat) (s11 : SA) (n11 : Nat) (s12 : SA) (n12 : Nat) (s38 : SA) (n38 : Nat) (i39 : Int) (i40 : Int) (h : Heap) (Q : Kont R) : L49x10 mk0 C p0 s1 n1 s2 n2 s8x0 n8x0 i8x1 s8x2 n8x2 s8x3 n8x3 s8x4 n8x4 s11 n11 s12 n12 s38 n38 i39 i40 h Q = (
  letK ((decide ((i40 : Int) < i39)) : Bool) fun b41 =>
  if b41 = true then
    (
    chk (true = true → (0 : Int) ≤ i40 ∧ (i40 : Int) < ((n38 : Nat) : Int)) <|
    atP (adP s38) true fun a42 =>
    gCells (ldN h (Ad.add a42 (Int.toNat i40 * 2)) 2) true fun l43 =>
    gI .i64 (l43[0]?) true fun i43x0 =>
    gI .i64 (l43[1]?) true fun i43x1 =>
    chk (true = true → (0 : Int) ≤ 0 ∧ (0 : Int) < ((2 : Nat) : Int)) <|
    gI .i64 ([(.int .i64 i43x0), (.int .i64 i43x1)][(0 + Int.toNat 0 * 1)]?) true fun i47 =>
    chk (true = true → (0 : Int) ≤ i47 ∧ (i47 : Int) < ((n12 : Nat) : Int)) <|
    atP (adP s12) true fun a48 =>
    gI .i64 (ld1 h (Ad.add a48 (Int.toNat i47 * 1))) true fun i49 =>
    letK ((IntKind.wrap .i64 (i49 + 1)) : Int) fun i50 =>
    chk (true = true → (0 : Int) ≤ 1 ∧ (1 : Int) < ((2 : Nat) : Int)) <|
    gI .i64 ([(.int .i64 i43x0), (.int .i64 i43x1)][(0 + Int.toNat 1 * 1)]?) true fun i53 =>
    chk (true = true → (0 : Int) ≤ i53 ∧ (i53 : Int) < ((n12 : Nat) : Int)) <|
    atP (adP s12) true fun a54 =>
    gI .i64 (ld1 h (Ad.add a54 (Int.toNat i53 * 1))) true fun i55 =>
    letK ((IntKind.wrap .i64 (2 * i55)) : Int) fun i56 =>
    letK ((IntKind.wrap .i64 (i56 + 1)) : Int) fun i57 =>
    chk (true = true → (0 : Int) ≤ i50 ∧ (i50 : Int) < ((n11 : Nat) : Int)) <|
    atP (adP s11) true fun a58 =>
    (st1 h (Ad.add a58 (Int.toNat i50 * 1)) (.int .i64 i57)).bind fun h_2 =>
    letK ((IntKind.wrap .i64 (i40 + 1)) : Int) fun i59 =>
    L49x10 mk0 C p0 s1 n1 s2 n2 s8x0 n8x0 i8x1 s8x2 n8x2 s8x3 n8x3 s8x4 n8x4 s11 n11 s12 n12 s38 n38 i39 i59 h_2 Q
    )
  else
    (
    Q (.exit 0) (S49xe0 p0 s1 n1 s2 n2 s8x0 n8x0 i8x1 s8x2 n8x2 s8x3 n8x3 s8x4 n8x4 s11 n11 s12 n12 h)
    )
  ) := loop_eqn C k49x10 1924145355015 6407 (.g [] true (.ptr p0) :: (.g [] true (.sl s1 n1) :: (.g [] true (.sl s2 n2) :: (rep 5 (.box [(.sl s8x0 n8x0), (.int .i64 i8x1), (.sl s8x2 n8x2), (.sl s8x3 n8x3), (.sl s8x4 n8x4)] :: (.any :: .any :: (.g [] true (.sl s11 n11) :: (.g [] true (.sl s12 n12) :: (rep 25 (.g [] true (.sl s38 n38) :: (.g [] true (.int .i64 i39) :: (.g [] true (.int .i64 i40) :: (rep 86 []))))))))))))) h Q (by kernel_rfl) (L49x10xaux mk0 C p0 s1 n1 s2 n2 s8x0 n8x0 i8x1 s8x2 n8x2 s8x3 n8x3 s8x4 n8x4 s11 n11 s12 n12 s38 n38 i39 i40 h Q)
theorem X49x10xe0 (M : Mk) (C : Cal) (p0 : Option Ad) (s1 : SA) (n1 : Nat) (s2 : SA) (n2 : Nat) (s8x0 : SA) (n8x0 : Nat) (i8x1 : Int) (s8x2 : SA) (n8x2 : Nat) (s8x3 : SA) (n8x3 : Nat) (s8x4 : SA) (n8x4 : Nat) (s11 : SA) (n11 : Nat) (s12 : SA) (n12 : Nat) (h : Heap) : Q49x10 M C (.exit 0) (S49xe0 p0 s1 n1 s2 n2 s8x0 n8x0 i8x1 s8x2 n8x2 s8x3 n8x3 s8x4 n8x4 s11 n11 s12 n12 h) = (
  chk ((0 : Int) ≤ ((n1 : Nat) : Int) ∧ (((n1 : Nat) : Int) : Int) ≤ ((n1 : Nat) : Int) ∧ ((n1 : Nat) : Int) * ((8 : Nat) : Int) ≤ 70368744177664) <|
  newK h (.cells (repl (Int.toNat ((n1 : Nat) : Int)) [(.int .i64 0)]) (.grow 1) 0) fun h_2 =>
  letK ((Int.toNat ((n1 : Nat) : Int)) : Nat) fun n64 =>
  L49x23 M C p0 s2 n2 s8x0 n8x0 i8x1 s8x2 n8x2 s8x3 n8x3 s8x4 n8x4 s12 n12 s11 n11 0 .nil 0 .nil 0 .nil 0 (.pos ⟨List.length h, 0, 0⟩) n64 s1 n1 ((n1 : Nat) : Int) 0 h_2 (Q49x23 M C)
  ) := by kernel_rfl
theorem L49x23xaux (p0 : Option Ad) (s2 : SA) (n2 : Nat) (s8x0 : SA) (n8x0 : Nat) (i8x1 : Int) (s8x2 : SA) (n8x2 : Nat) (s8x3 : SA) (n8x3 : Nat) (s8x4 : SA) (n8x4 : Nat) (s12 : SA) (n12 : Nat) (s16x0 : SA) (n16x0 : Nat) (i16x1 : Int) (s16x2 : SA) (n16x2 : Nat) (s16x3 : SA) (n16x3 : Nat) (s16x4 : SA) (n16x4 : Nat) (s17 : SA) (n17 : Nat) (s65 : SA) (n65 : Nat) (i66 : Int) (i67 : Int) (h : Heap) (Q : Kont R) : (restrF 258254417031933923589 ⟨(.g [] true (.ptr p0) :: (.any :: (.g [] true (.sl s2 n2) :: (rep 5 (.box [(.sl s8x0 n8x0), (.int .i64 i8x1), (.sl s8x2 n8x2), (.sl s8x3 n8x3), (.sl s8x4 n8x4)] :: (rep 3 (.g [] true (.sl s12 n12) :: (rep 3 (.box [(.sl s16x0 n16x0), (.int .i64 i16x1), (.sl s16x2 n16x2), (.sl s16x3 n16x3), (.sl s16x4 n16x4)] :: (.g [] true (.sl s17 n17) :: (rep 47 (.g [] true (.sl s65 n65) :: (.g [] true (.int .i64 i66) :: (.g [] true (.int .i64 i67) :: (rep 59 []))))))))))))))), h⟩ fun σ => evalE M C k49x23 σ (roundQ M C k49x23 258254417031933923589 196864 Q)) = (
  letK ((decide ((i67 : Int) < i66)) : Bool) fun b68 =>
  if b68 = true then
    (
    chk (true = true → (0 : Int) ≤ i67 ∧ (i67 : Int) < ((n65 : Nat) : Int)) <|
    atP (adP s65) true fun a70 =>
    gCells (ldN h (Ad.add a70 (Int.toNat i67 * 5)) 5) true fun l71 =>
    gI .i64 (l71[0]?) true fun i71x0 =>
    gL (l71[1]?) true fun s71x1 n71x1 =>
    gL (l71[2]?) true fun s71x2 n71x2 =>
    gL (l71[3]?) true fun s71x3 n71x3 =>
    gI .i64 (l71[4]?) true fun i71x4 =>
    atP p0 true fun a76 =>
    gL (ld1 h (Ad.add a76 1)) true fun s78 n78 =>
    chk (true = true → (0 : Int) ≤ i67 ∧ (i67 : Int) < ((n2 : Nat) : Int)) <|
    atP (adP s2) true fun a81 =>
    gI .i64 (ld1 h (Ad.add a81 (Int.toNat i67 * 1))) true fun i82 =>
    chk (true = true → (0 : Int) ≤ i82 ∧ (i82 : Int) < ((n78 : Nat) : Int)) <|
    atP (adP s78) true fun a83 =>
    gI .i64 (ld1 h (Ad.add a83 (Int.toNat i82 * 1))) true fun i84 =>
    chk (true = true → (0 : Int) ≤ i84 ∧ (i84 : Int) < ((n12 : Nat) : Int)) <|
    atP (adP s12) true fun a85 =>
    gI .i64 (ld1 h (Ad.add a85 (Int.toNat i84 * 1))) true fun i86 =>
    chk (true = true → (0 : Int) ≤ i67 ∧ (i67 : Int) < ((n17 : Nat) : Int)) <|
    atP (adP s17) true fun a87 =>
    (st1 h (Ad.add a87 (Int.toNat i67 * 1)) (.int .i64 i86)).bind fun h_2 =>
    chk (true = true → (0 : Int) ≤ i67 ∧ (i67 : Int) < ((n2 : Nat) : Int)) <|
    atP (adP s2) true fun a90 =>
    gI .i64 (ld1 h_2 (Ad.add a90 (Int.toNat i67 * 1))) true fun i91 =>
    letK ((decide ((i91 : Int) = i67)) : Bool) fun b93 =>
    if b93 = true then
      (
      atP p0 true fun a95 =>
      gL (ld1 h_2 (Ad.add a95 1)) true fun s97 n97 =>
      chk (true = true → (0 : Int) ≤ i67 ∧ (i67 : Int) < ((n97 : Nat) : Int)) <|
      atP (adP s97) true fun a99 =>
      gI .i64 (ld1 h_2 (Ad.add a99 (Int.toNat i67 * 1))) true fun i100 =>
      chk (true = true → (0 : Int) ≤ i100 ∧ (i100 : Int) < ((n12 : Nat) : Int)) <|
      atP (adP s12) true fun a105 =>
      gI .i64 (ld1 h_2 (Ad.add a105 (Int.toNat i100 * 1))) true fun i106 =>
      newK h_2 (.cells [(.int .i64 i106)] (.grow 1) 0) fun h_3 =>
      (ldSl h_3 (.pos ⟨List.length h_2, 0, 0⟩) (1 * 1)).bind fun y108 =>
      (apnd h_3 (.sl s16x2 n16x2) 1 8 y108 1).bind fun r108 =>
      gL (some r108.1) true fun s108 n108 =>
      letK ((IntKind.wrap .i64 (i100 + ((n71x1 : Nat) : Int))) : Int) fun i119 =>
      chkC (true = true → (0 : Int) ≤ i100 ∧ (i100 : Int) ≤ i119 ∧ hiOk r108.2 s12 n12 1 i119 ∧ esOk r108.2 s12 1) <|
      letK ((Int.toNat i119 - Int.toNat i100) : Nat) fun n120 =>
      letK ((adS s12 (Int.toNat i100 * 1) n120) : SA) fun s120 =>
      (C 58 [(.agg [(.int .i64 i71x0), (.sl s71x1 n71x1), (.sl s71x2 n71x2), (.sl s71x3 n71x3), (.int .i64 i71x4)]), (.sl s120 n120)] r108.2).bind fun r121 =>
      gL (some r121.1) true fun s121 n121 =>
      (ldSl r121.2 s121 (n121 * 4)).bind fun y122 =>
      (apnd r121.2 (.sl s16x3 n16x3) 4 48 y122 n121).bind fun r122 =>
      gL (some r122.1) true fun s122 n122 =>
      J49x36 M C p0 s2 n2 s8x0 n8x0 i8x1 s8x2 n8x2 s8x3 n8x3 s8x4 n8x4 s12 n12 s16x0 n16x0 i16x1 s108 n108 s122 n122 s16x4 n16x4 s17 n17 s65 n65 i66 i67 r122.2 Q
      )
    else
      (
      J49x36 M C p0 s2 n2 s8x0 n8x0 i8x1 s8x2 n8x2 s8x3 n8x3 s8x4 n8x4 s12 n12 s16x0 n16x0 i16x1 s16x2 n16x2 s16x3 n16x3 s16x4 n16x4 s17 n17 s65 n65 i66 i67 h_2 Q
      )
    )
  else
    (
    Q (.exit 2) (S49xe2 s8x0 n8x0 i8x1 s8x2 n8x2 s8x3 n8x3 s8x4 n8x4 s16x0 n16x0 i16x1 s16x2 n16x2 s16x3 n16x3 s16x4 n16x4 s17 n17 h)
    )
  ) := by kernel_rfl
theorem L49x23xeq (p0 : Option Ad) (s2 : SA) (n2 : Nat) (s8x0 : SA) (n8x0 : Nat) (i8x1 : Int) (s8x2 : SA) (n8x2 : Nat) (s8x3 : SA) (n8x3 : Nat) (s8x4 : SA) (n8x4 : Nat) (s12 : SA) (n12 : Nat) (s16x0 : SA) (n16x0 : Nat) (i16x1 : Int) (s16x2 : SA) (n16x2 : Nat) (s16x3 : SA) (n16x3 : Nat) (s16x4 : SA) (n16x4 : Nat) (s17 : SA) (n17 : Nat) (s65 : SA) (n65 : Nat) (i66 : Int) (i67 : Int) (h : Heap) (Q : Kont R) : L49x23 mk0 C p0 s2 n2 s8x0 n8x0 i8x1 s8x2 n8x2 s8x3 n8x3 s8x4 n8x4 s12 n12 s16x0 n16x0 i16x1 s16x2 n16x2 s16x3 n16x3 s16x4 n16x4 s17 n17 s65 n65 i66 i67 h Q = (
  letK ((decide ((i67 : Int) < i66)) : Bool) fun b68 =>
  if b68 = true then
    (
    chk (true = true → (0 : Int) ≤ i67 ∧ (i67 : Int) < ((n65 : Nat) : Int)) <|
    atP (adP s65) true fun a70 =>
    gCells (ldN h (Ad.add a70 (Int.toNat i67 * 5)) 5) true fun l71 =>
    gI .i64 (l71[0]?) true fun i71x0 =>
    gL (l71[1]?) true fun s71x1 n71x1 =>
    gL (l71[2]?) true fun s71x2 n71x2 =>
    gL (l71[3]?) true fun s71x3 n71x3 =>
    gI .i64 (l71[4]?) true fun i71x4 =>
    atP p0 true fun a76 =>
    gL (ld1 h (Ad.add a76 1)) true fun s78 n78 =>
    chk (true = true → (0 : Int) ≤ i67 ∧ (i67 : Int) < ((n2 : Nat) : Int)) <|
    atP (adP s2) true fun a81 =>
    gI .i64 (ld1 h (Ad.add a81 (Int.toNat i67 * 1))) true fun i82 =>
    chk (true = true → (0 : Int) ≤ i82 ∧ (i82 : Int) < ((n78 : Nat) : Int)) <|
    atP (adP s78) true fun a83 =>
    gI .i64 (ld1 h (Ad.add a83 (Int.toNat i82 * 1))) true fun i84 =>
    chk (true = true → (0 : Int) ≤ i84 ∧ (i84 : Int) < ((n12 : Nat) : Int)) <|
    atP (adP s12) true fun a85 =>
    gI .i64 (ld1 h (Ad.add a85 (Int.toNat i84 * 1))) true fun i86 =>
    chk (true = true → (0 : Int) ≤ i67 ∧ (i67 : Int) < ((n17 : Nat) : Int)) <|
    atP (adP s17) true fun a87 =>
    (st1 h (Ad.add a87 (Int.toNat i67 * 1)) (.int .i64 i86)).bind fun h_2 =>
    chk (true = true → (0 : Int) ≤ i67 ∧ (i67 : Int) < ((n2 : Nat) : Int)) <|
    atP (adP s2) true fun a90 =>
    gI .i64 (ld1 h_2 (Ad.add a90 (Int.toNat i67 * 1))) true fun i91 =>
    letK ((decide ((i91 : Int) = i67)) : Bool) fun b93 =>
    if b93 = true then
      (
      atP p0 true fun a95 =>
      gL (ld1 h_2 (Ad.add a95 1)) true fun s97 n97 =>
      chk (true = true → (0 : Int) ≤ i67 ∧ (i67 : Int) < ((n97 : Nat) : Int)) <|
      atP (adP s97) true fun a99 =>
      gI .i64 (ld1 h_2 (Ad.add a99 (Int.toNat i67 * 1))) true fun i100 =>
      chk (true = true → (0 : Int) ≤ i100 ∧ (i100 : Int) < ((n12 : Nat) : Int)) <|
      atP (adP s12) true fun a105 =>
      gI .i64 (ld1 h_2 (Ad.add a105 (Int.toNat i100 * 1))) true fun i106 =>
      newK h_2 (.cells [(.int .i64 i106)] (.grow 1) 0) fun h_3 =>
      (ldSl h_3 (.pos ⟨List.length h_2, 0, 0⟩) (1 * 1)).bind fun y108 =>
      (apnd h_3 (.sl s16x2 n16x2) 1 8 y108 1).bind fun r108 =>
      gL (some r108.1) true fun s108 n108 =>
      letK ((IntKind.wrap .i64 (i100 + ((n71x1 : Nat) : Int))) : Int) fun i119 =>
      chkC (true = true → (0 : Int) ≤ i100 ∧ (i100 : Int) ≤ i119 ∧ hiOk r108.2 s12 n12 1 i119 ∧ esOk r108.2 s12 1) <|
      letK ((Int.toNat i119 - Int.toNat i100) : Nat) fun n120 =>
      letK ((adS s12 (Int.toNat i100 * 1) n120) : SA) fun s120 =>
      (C 58 [(.agg [(.int .i64 i71x0), (.sl s71x1 n71x1), (.sl s71x2 n71x2), (.sl s71x3 n71x3), (.int .i64 i71x4)]), (.sl s120 n120)] r108.2).bind fun r121 =>
      gL (some r121.1) true fun s121 n121 =>
      (ldSl r121.2 s121 (n121 * 4)).bind fun y122 =>
      (apnd r121.2 (.sl s16x3 n16x3) 4 48 y122 n121).bind fun r122 =>
      gL (some r122.1) true fun s122 n122 =>
      J49x36 mk0 C p0 s2 n2 s8x0 n8x0 i8x1 s8x2 n8x2 s8x3 n8x3 s8x4 n8x4 s12 n12 s16x0 n16x0 i16x1 s108 n108 s122 n122 s16x4 n16x4 s17 n17 s65 n65 i66 i67 r122.2 Q
      )
    else
      (
      J49x36 mk0 C p0 s2 n2 s8x0 n8x0 i8x1 s8x2 n8x2 s8x3 n8x3 s8x4 n8x4 s12 n12 s16x0 n16x0 i16x1 s16x2 n16x2 s16x3 n16x3 s16x4 n16x4 s17 n17 s65 n65 i66 i67 h_2 Q
      )
    )
  else
    (
    Q (.exit 2) (S49xe2 s8x0 n8x0 i8x1 s8x2 n8x2 s8x3 n8x3 s8x4 n8x4 s16x0 n16x0 i16x1 s16x2 n16x2 s16x3 n16x3 s16x4 n16x4 s17 n17 h)
    )
  ) := loop_eqn C k49x23 258254417031933923589 196864 (.g [] true (.ptr p0) :: (.any :: (.g [] true (.sl s2 n2) :: (rep 5 (.box [(.sl s8x0 n8x0), (.int .i64 i8x1), (.sl s8x2 n8x2), (.sl s8x3 n8x3), (.sl s8x4 n8x4)] :: (rep 3 (.g [] true (.sl s12 n12) :: (rep 3 (.box [(.sl s16x0 n16x0), (.int .i64 i16x1), (.sl s16x2 n16x2), (.sl s16x3 n16x3), (.sl s16x4 n16x4)] :: (.g [] true (.sl s17 n17) :: (rep 47 (.g [] true (.sl s65 n65) :: (.g [] true (.int .i64 i66) :: (.g [] true (.int .i64 i67) :: (rep 59 []))))))))))))))) h Q (by kernel_rfl) (L49x23xaux mk0 C p0 s2 n2 s8x0 n8x0 i8x1 s8x2 n8x2 s8x3 n8x3 s8x4 n8x4 s12 n12 s16x0 n16x0 i16x1 s16x2 n16x2 s16x3 n16x3 s16x4 n16x4 s17 n17 s65 n65 i66 i67 h Q)
theorem J49x36xaux (M : Mk) (C : Cal) (p0 : Option Ad) (s2 : SA) (n2 : Nat) (s8x0 : SA) (n8x0 : Nat) (i8x1 : Int) (s8x2 : SA) (n8x2 : Nat) (s8x3 : SA) (n8x3 : Nat) (s8x4 : SA) (n8x4 : Nat) (s12 : SA) (n12 : Nat) (s16x0 : SA) (n16x0 : Nat) (i16x1 : Int) (s16x2 : SA) (n16x2 : Nat) (s16x3 : SA) (n16x3 : Nat) (s16x4 : SA) (n16x4 : Nat) (s17 : SA) (n17 : Nat) (s65 : SA) (n65 : Nat) (i66 : Int) (i67 : Int) (h : Heap) (Q : Kont R) : (forceK tk (.g [] true (.ptr p0) :: (.any :: (.g [] true (.sl s2 n2) :: (rep 5 (.box [(.sl s8x0 n8x0), (.int .i64 i8x1), (.sl s8x2 n8x2), (.sl s8x3 n8x3), (.sl s8x4 n8x4)] :: (rep 3 (.g [] true (.sl s12 n12) :: (rep 3 (.box [(.sl s16x0 n16x0), (.int .i64 i16x1), (.sl s16x2 n16x2), (.sl s16x3 n16x3), (.sl s16x4 n16x4)] :: (.g [] true (.sl s17 n17) :: (rep 47 (.g [] true (.sl s65 n65) :: (.g [] true (.int .i64 i66) :: (.g [] true (.int .i64 i67) :: (rep 59 []))))))))))))))) fun e => (blockQ 3 (seqQ (evalE M C k49x29) (seqQ (evalE M C k49x28) (roundQ M C k49x23 258254417031933923589 196864 Q)))) .normal ⟨e, h⟩) = (
  letK ((IntKind.wrap .i64 (i67 + 1)) : Int) fun i124 =>
  L49x23 M C p0 s2 n2 s8x0 n8x0 i8x1 s8x2 n8x2 s8x3 n8x3 s8x4 n8x4 s12 n12 s16x0 n16x0 i16x1 s16x2 n16x2 s16x3 n16x3 s16x4 n16x4 s17 n17 s65 n65 i66 i124 h Q
  ) := by kernel_rfl
theorem J49x36xeq (C : Cal) (p0 : Option Ad) (s2 : SA) (n2 : Nat) (s8x0 : SA) (n8x0 : Nat) (i8x1 : Int) (s8x2 : SA) (n8x2 : Nat) (s8x3 : SA) (n8x3 : Nat) (s8x4 : SA) (n8x4 : Nat) (s12 : SA) (n12 : Nat) (s16x0 : SA) (n16x0 : Nat) (i16x1 : Int) (s16x2 : SA) (n16x2 : Nat) (s16x3 : SA) (n16x3 : Nat) (s16x4 : SA) (n16x4 : Nat) (s17 : SA) (n17 : Nat) (s65 : SA) (n65 : Nat) (i66 : Int) (i67 : Int) (h : Heap) (Q : Kont R) : J49x36 mk0 C p0 s2 n2 s8x0 n8x0 i8x1 s8x2 n8x2 s8x3 n8x3 s8x4 n8x4 s12 n12 s16x0 n16x0 i16x1 s16x2 n16x2 s16x3 n16x3 s16x4 n16x4 s17 n17 s65 n65 i66 i67 h Q = (
  letK ((IntKind.wrap .i64 (i67 + 1)) : Int) fun i124 =>
  L49x23 mk0 C p0 s2 n2 s8x0 n8x0 i8x1 s8x2 n8x2 s8x3 n8x3 s8x4 n8x4 s12 n12 s16x0 n16x0 i16x1 s16x2 n16x2 s16x3 n16x3 s16x4 n16x4 s17 n17 s65 n65 i66 i124 h Q
  ) := join_eqn (blockQ 3 (seqQ (evalE mk0 C k49x29) (seqQ (evalE mk0 C k49x28) (roundQ mk0 C k49x23 258254417031933923589 196864 Q)))) (.g [] true (.ptr p0) :: (.any :: (.g [] true (.sl s2 n2) :: (rep 5 (.box [(.sl s8x0 n8x0), (.int .i64 i8x1), (.sl s8x2 n8x2), (.sl s8x3 n8x3), (.sl s8x4 n8x4)] :: (rep 3 (.g [] true (.sl s12 n12) :: (rep 3 (.box [(.sl s16x0 n16x0), (.int .i64 i16x1), (.sl s16x2 n16x2), (.sl s16x3 n16x3), (.sl s16x4 n16x4)] :: (.g [] true (.sl s17 n17) :: (rep 47 (.g [] true (.sl s65 n65) :: (.g [] true (.int .i64 i66) :: (.g [] true (.int .i64 i67) :: (rep 59 []))))))))))))))) h (J49x36xaux mk0 C p0 s2 n2 s8x0 n8x0 i8x1 s8x2 n8x2 s8x3 n8x3 s8x4 n8x4 s12 n12 s16x0 n16x0 i16x1 s16x2 n16x2 s16x3 n16x3 s16x4 n16x4 s17 n17 s65 n65 i66 i67 h Q)
theorem X49x23xe2 (M : Mk) (C : Cal) (s8x0 : SA) (n8x0 : Nat) (i8x1 : Int) (s8x2 : SA) (n8x2 : Nat) (s8x3 : SA) (n8x3 : Nat) (s8x4 : SA) (n8x4 : Nat) (s16x0 : SA) (n16x0 : Nat) (i16x1 : Int) (s16x2 : SA) (n16x2 : Nat) (s16x3 : SA) (n16x3 : Nat) (s16x4 : SA) (n16x4 : Nat) (s17 : SA) (n17 : Nat) (h : Heap) : Q49x23 M C (.exit 2) (S49xe2 s8x0 n8x0 i8x1 s8x2 n8x2 s8x3 n8x3 s8x4 n8x4 s16x0 n16x0 i16x1 s16x2 n16x2 s16x3 n16x3 s16x4 n16x4 s17 n17 h) = (
  some (.tup [(.agg [(.sl s16x0 n16x0), (.int .i64 i16x1), (.sl s16x2 n16x2), (.sl s16x3 n16x3), (.sl s16x4 n16x4)]), (.sl s17 n17), (.int .i64 0)], h)
  ) := by kernel_rfl
def k35x6 : AC := .ret
def k35x5 : AC := .seq (.mask 1792) k35x6
def k35x4 : AC := .mask 271
def k35x3 : AC := .seq (.cond (.tmp 22)
   (.seq (.ops false [
      ⟨(some 23), .build [(.sl .nil 0), (.int .i64 0), (.sl .nil 0), (.sl .nil 0), (.sl .nil 0)] [], none, []⟩,
      ⟨(some 24), .move (.tmp 11), none, []⟩,
      ⟨none, .store 5 (.tmp 8) (.tmp 23), none, []⟩,
      ⟨(some 9), .move (.c (.sl .nil 0)), none, []⟩,
      ⟨(some 10), .move (.tmp 24), none, []⟩]) k35x5)
   (.skip)) k35x4
def k35x2 : AC := .seq (.ops false [
    ⟨(some 21), .move (.tmp 11), none, []⟩,
    ⟨(some 22), .bin .other .neq (.tmp 21) (.c (.int .i64 0)), none, []⟩]) k35x3
def k35x11 : AC := .ret
def k35x10 : AC := .seq (.mask 1792) k35x11
def k35x9 : AC := .mask 271
def k35x8 : AC := .seq (.cond (.tmp 29)
   (.seq (.ops false [
      ⟨(some 30), .build [(.sl .nil 0), (.int .i64 0), (.sl .nil 0), (.sl .nil 0), (.sl .nil 0)] [], none, []⟩,
      ⟨none, .store 5 (.tmp 8) (.tmp 30), none, []⟩,
      ⟨(some 9), .move (.c (.sl .nil 0)), none, []⟩,
      ⟨(some 10), .move (.c (.int .i64 3)), none, []⟩]) k35x10)
   (.skip)) k35x9
def k35x19 : AC := .exit 0
def k35x18 : AC := .mask 15032385807
def k35x26 : AC := .ret
def k35x25 : AC := .seq (.mask 1792) k35x26
def k35x24 : AC := .mask 15032385807
def k35x23 : AC := .seq (.cond (.tmp 52)
   (.seq (.ops false [
      ⟨(some 53), .build [(.sl .nil 0), (.int .i64 0), (.sl .nil 0), (.sl .nil 0), (.sl .nil 0)] [], none, []⟩,
      ⟨none, .store 5 (.tmp 8) (.tmp 53), none, []⟩,
      ⟨(some 9), .move (.c (.sl .nil 0)), none, []⟩,
      ⟨(some 10), .move (.c (.int .i64 3)), none, []⟩]) k35x25)
   (.skip)) k35x24
def k35x22 : AC := .seq (.ops true [
    ⟨(some 38), .move (.tmp 13), none, []⟩,
    ⟨(some 39), .bin .other .lss (.tmp 38) (.c (.int .i64 0)), none, []⟩,
    ⟨(some 40), .move (.tmp 39), none, []⟩,
    ⟨(some 41), .move (.tmp 13), (some (40, false)), []⟩,
    ⟨(some 42), .move (.tmp 12), (some (40, false)), []⟩,
    ⟨(some 43), .bin .other .gtr (.tmp 41) (.tmp 42), (some (40, false)), []⟩,
    ⟨(some 44), .pick (.tmp 40) (.c (.bool true)) (.tmp 43), none, []⟩,
    ⟨(some 45), .move (.tmp 44), none, []⟩,
    ⟨(some 46), .move (.tmp 1), (some (45, false)), []⟩,
    ⟨(some 47), .move (.tmp 13), (some (45, false)), []⟩,
    ⟨(some 48), .indexAddr 1 (.tmp 46) (.tmp 47), (some (45, false)), []⟩,
    ⟨(some 49), .load (.cell (.int .i64)) (.tmp 48), (some (45, false)), []⟩,
    ⟨(some 50), .move (.tmp 13), (some (45, false)), []⟩,
    ⟨(some 51), .bin .other .neq (.tmp 49) (.tmp 50), (some (45, false)), []⟩,
    ⟨(some 52), .pick (.tmp 45) (.c (.bool true)) (.tmp 51), none, []⟩]) k35x23
def k35x21 : AC := .mask 15032385807
def k35x20 : AC := .ops false [
    ⟨(some 54), .bin .other .add (.tmp 33) (.c (.int .i64 1)), none, []⟩,
    ⟨(some 33), .move (.tmp 54), none, []⟩]
def k35x17 : AC := .seq (.seq (.block 1 (.seq (.ops false [
     ⟨(some 35), .move (.tmp 33), none, []⟩,
     ⟨(some 36), .indexAddr 1 (.tmp 31) (.tmp 33), none, []⟩,
     ⟨(some 37), .load (.cell (.int .i64)) (.tmp 36), none, []⟩,
     ⟨(some 12), .move (.tmp 35), none, []⟩,
     ⟨(some 13), .move (.tmp 37), none, []⟩]) k35x22)) k35x21) k35x20
def k35x16 : AC := .seq (.seq (.cond (.tmp 34)
   (.skip)
   (.seq (.mask 271) k35x19)) k35x18) k35x17
def k35x15 : AC := .seq (.ops false [
    ⟨(some 34), .bin .other .lss (.tmp 33) (.tmp 32), none, []⟩]) k35x16
def k35x14 : AC := .mask 271
def k35x13 : AC := .seq (.block 0 (.loop 15032385807 271 k35x15)) k35x14
def k35x31 : AC := .ret
def k35x30 : AC := .seq (.mask 1792) k35x31
def k35x29 : AC := .mask 271
def k35x28 : AC := .seq (.cond (.tmp 62)
   (.seq (.ops false [
      ⟨(some 63), .build [(.sl .nil 0), (.int .i64 0), (.sl .nil 0), (.sl .nil 0), (.sl .nil 0)] [], none, []⟩,
      ⟨none, .store 5 (.tmp 8) (.tmp 63), none, []⟩,
      ⟨(some 9), .move (.c (.sl .nil 0)), none, []⟩,
      ⟨(some 10), .move (.c (.int .i64 12)), none, []⟩]) k35x30)
   (.skip)) k35x29
def k35x40 : AC := .exit 2
def k35x39 : AC := .mask 16528282690043758264591
def k35x47 : AC := .ops false [
    ⟨(some 104), .move (.tmp 14), none, []⟩,
    ⟨(some 105), .load (.agg [(.int .i64), .sl, .sl, .sl, (.int .i64)]) (.tmp 16), none, []⟩,
    ⟨(some 106), .call 47 [(.tmp 104), (.tmp 105)] [] .opq, none, []⟩]
def k35x46 : AC := .join 16528282690043758264591
def k35x45 : AC := .seq (.cond (.tmp 92)
   (.seq (.ops false [
      ⟨(some 93), .move (.tmp 14), none, []⟩,
      ⟨(some 94), .nilCheck (.tmp 93), none, []⟩,
      ⟨(some 95), .fieldAddr 1 (.tmp 94), none, []⟩,
      ⟨(some 96), .load (.cell .sl) (.tmp 95), none, []⟩,
      ⟨(some 97), .move (.tmp 15), none, []⟩,
      ⟨(some 98), .move (.tmp 14), none, []⟩,
      ⟨(some 99), .nilCheck (.tmp 98), none, []⟩,
      ⟨(some 100), .fieldAddr 0 (.tmp 99), none, []⟩,
      ⟨(some 101), .load (.cell .sl) (.tmp 100), none, []⟩,
      ⟨(some 102), .lenSl (.tmp 101), none, []⟩,
      ⟨(some 103), .indexAddr 1 (.tmp 96) (.tmp 97), none, []⟩,
      ⟨none, .store 1 (.tmp 103) (.tmp 102), none, []⟩]) k35x47)
   (.skip)) k35x46
def k35x44 : AC := .seq (.ops false [
    ⟨(some 87), .move (.tmp 1), none, []⟩,
    ⟨(some 88), .move (.tmp 15), none, []⟩,
    ⟨(some 89), .indexAddr 1 (.tmp 87) (.tmp 88), none, []⟩,
    ⟨(some 90), .load (.cell (.int .i64)) (.tmp 89), none, []⟩,
    ⟨(some 91), .move (.tmp 15), none, []⟩,
    ⟨(some 92), .bin .other .eql (.tmp 90) (.tmp 91), none, []⟩]) k35x45
def k35x43 : AC := .seq (.ops false [
    ⟨(some 78), .move (.tmp 14), none, []⟩,
    ⟨(some 79), .move (.tmp 14), none, []⟩,
    ⟨(some 80), .nilCheck (.tmp 79), none, []⟩,
    ⟨(some 81), .fieldAddr 1 (.tmp 80), none, []⟩,
    ⟨(some 82), .load (.cell .sl) (.tmp 81), none, []⟩,
    ⟨(some 83), .buildSl [(.int .i64 0)] 1 [(0, (.c (.int .i64 (-1))))], none, []⟩,
    ⟨(some 84), .append [(.int .i64 0)] 1 8 (.tmp 82) (.tmp 83), none, []⟩,
    ⟨(some 85), .nilCheck (.tmp 78), none, []⟩,
    ⟨(some 86), .fieldAddr 1 (.tmp 85), none, []⟩,
    ⟨none, .store 1 (.tmp 86) (.tmp 84), none, []⟩]) k35x44
def k35x42 : AC := .mask 16528282690043758264591
def k35x41 : AC := .ops false [
    ⟨(some 107), .bin .other .add (.tmp 73) (.c (.int .i64 1)), none, []⟩,
    ⟨(some 73), .move (.tmp 107), none, []⟩]
def k35x38 : AC := .seq (.seq (.block 3 (.seq (.ops false [
     ⟨(some 75), .move (.tmp 73), none, []⟩,
     ⟨(some 76), .indexAddr 5 (.tmp 71) (.tmp 73), none, []⟩,
     ⟨(some 77), .load (.agg [(.int .i64), .sl, .sl, .sl, (.int .i64)]) (.tmp 76), none, []⟩,
     ⟨(some 16), .allocL [(.int .i64 0), (.sl .nil 0), (.sl .nil 0), (.sl .nil 0), (.int .i64 0)], none, []⟩,
     ⟨(some 15), .move (.tmp 75), none, []⟩,
     ⟨none, .store 5 (.tmp 16) (.tmp 77), none, []⟩]) k35x43)) k35x42) k35x41
def k35x37 : AC := .seq (.seq (.cond (.tmp 74)
   (.skip)
   (.seq (.mask 16655) k35x40)) k35x39) k35x38
def k35x36 : AC := .seq (.ops false [
    ⟨(some 74), .bin .other .lss (.tmp 73) (.tmp 72), none, []⟩]) k35x37
def k35x35 : AC := .mask 16655
def k35x34 : AC := .seq (.block 2 (.loop 16528282690043758264591 16655 k35x36)) k35x35
def k35x57 : AC := .exit 4
def k35x56 : AC := .mask 148873535527910577765226390751398609163
def k35x62 : AC := .join 148873535527910577765226390751398609163
def k35x61 : AC := .seq (.cond (.tmp 136)
   (.ops false [
      ⟨(some 137), .move (.tmp 14), none, []⟩,
      ⟨(some 138), .load (.agg [(.int .i64), .sl, .sl, .sl, (.int .i64)]) (.tmp 18), none, []⟩,
      ⟨(some 139), .move (.tmp 14), none, []⟩,
      ⟨(some 140), .nilCheck (.tmp 139), none, []⟩,
      ⟨(some 141), .fieldAddr 1 (.tmp 140), none, []⟩,
      ⟨(some 142), .load (.cell .sl) (.tmp 141), none, []⟩,
      ⟨(some 143), .move (.tmp 17), none, []⟩,
      ⟨(some 144), .indexAddr 1 (.tmp 142) (.tmp 143), none, []⟩,
      ⟨(some 145), .load (.cell (.int .i64)) (.tmp 144), none, []⟩,
      ⟨(some 146), .move (.tmp 1), none, []⟩,
      ⟨(some 147), .call 48 [(.tmp 137), (.tmp 138), (.tmp 145), (.tmp 146)] [] .opq, none, []⟩])
   (.skip)) k35x62
def k35x60 : AC := .seq (.ops false [
    ⟨(some 131), .move (.tmp 1), none, []⟩,
    ⟨(some 132), .move (.tmp 17), none, []⟩,
    ⟨(some 133), .indexAddr 1 (.tmp 131) (.tmp 132), none, []⟩,
    ⟨(some 134), .load (.cell (.int .i64)) (.tmp 133), none, []⟩,
    ⟨(some 135), .move (.tmp 17), none, []⟩,
    ⟨(some 136), .bin .other .eql (.tmp 134) (.tmp 135), none, []⟩]) k35x61
def k35x59 : AC := .mask 148873535527910577765226390751398609163
def k35x58 : AC := .ops false [
    ⟨(some 148), .bin .other .add (.tmp 126) (.c (.int .i64 1)), none, []⟩,
    ⟨(some 126), .move (.tmp 148), none, []⟩]
def k35x55 : AC := .seq (.seq (.block 5 (.seq (.ops false [
     ⟨(some 128), .move (.tmp 126), none, []⟩,
     ⟨(some 129), .indexAddr 5 (.tmp 124) (.tmp 126), none, []⟩,
     ⟨(some 130), .load (.agg [(.int .i64), .sl, .sl, .sl, (.int .i64)]) (.tmp 129), none, []⟩,
     ⟨(some 18), .allocL [(.int .i64 0), (.sl .nil 0), (.sl .nil 0), (.sl .nil 0), (.int .i64 0)], none, []⟩,
     ⟨(some 17), .move (.tmp 128), none, []⟩,
     ⟨none, .store 5 (.tmp 18) (.tmp 130), none, []⟩]) k35x60)) k35x59) k35x58
def k35x54 : AC := .seq (.seq (.cond (.tmp 127)
   (.skip)
   (.seq (.mask 16651) k35x57)) k35x56) k35x55
def k35x53 : AC := .seq (.ops false [
    ⟨(some 127), .bin .other .lss (.tmp 126) (.tmp 125), none, []⟩]) k35x54
def k35x52 : AC := .mask 16651
def k35x51 : AC := .seq (.block 4 (.loop 148873535527910577765226390751398609163 16651 k35x53)) k35x52
def k35x65 : AC := .ret
def k35x64 : AC := .seq (.mask 1792) k35x65
def k35x50 : AC := .seq (.ops false [
    ⟨(some 149), .move (.tmp 14), none, []⟩,
    ⟨(some 150), .move (.tmp 0), none, []⟩,
    ⟨(some 151), .move (.tmp 1), none, []⟩,
    ⟨(some 152), .move (.tmp 3), none, []⟩,
    ⟨(some 153), .call 49 [(.tmp 149), (.tmp 150), (.tmp 151), (.tmp 152)] [(.agg [.sl, (.int .i64), .sl, .sl, .sl]), (.cell .sl), (.cell (.int .i64))] .opq, none, []⟩,
    ⟨(some 154), .extract (.tmp 153) 0, none, []⟩,
    ⟨(some 155), .extract (.tmp 153) 1, none, []⟩,
    ⟨(some 156), .extract (.tmp 153) 2, none, []⟩,
    ⟨none, .store 5 (.tmp 8) (.tmp 154), none, []⟩,
    ⟨(some 9), .move (.tmp 155), none, []⟩,
    ⟨(some 10), .move (.tmp 156), none, []⟩]) k35x64
def k35x49 : AC := .seq (.seq (.ops false [
    ⟨(some 124), .move (.tmp 0), none, []⟩,
    ⟨(some 125), .lenSl (.tmp 124), none, []⟩,
    ⟨(some 126), .move (.c (.int .i64 0)), none, []⟩]) k35x51) k35x50
def k35x33 : AC := .seq (.ops false [
    ⟨(some 108), .move (.tmp 14), none, []⟩,
    ⟨(some 109), .nilCheck (.tmp 108), none, []⟩,
    ⟨(some 110), .fieldAddr 0 (.tmp 109), none, []⟩,
    ⟨(some 111), .load (.cell .sl) (.tmp 110), none, []⟩,
    ⟨(some 112), .move (.tmp 14), none, []⟩,
    ⟨(some 113), .nilCheck (.tmp 112), none, []⟩,
    ⟨(some 114), .fieldAddr 1 (.tmp 113), none, []⟩,
    ⟨(some 115), .load (.cell .sl) (.tmp 114), none, []⟩,
    ⟨(some 116), .move (.tmp 1), none, []⟩,
    ⟨(some 117), .move (.tmp 2), none, []⟩,
    ⟨(some 118), .indexAddr 1 (.tmp 116) (.tmp 117), none, []⟩,
    ⟨(some 119), .load (.cell (.int .i64)) (.tmp 118), none, []⟩,
    ⟨(some 120), .indexAddr 1 (.tmp 115) (.tmp 119), none, []⟩,
    ⟨(some 121), .load (.cell (.int .i64)) (.tmp 120), none, []⟩,
    ⟨(some 122), .indexAddr 6 (.tmp 111) (.c (.int .i64 0)), none, []⟩,
    ⟨(some 123), .fieldAddr 5 (.tmp 122), none, []⟩,
    ⟨none, .store 1 (.tmp 123) (.tmp 121), none, []⟩]) k35x49
def k35x32 : AC := .seq (.seq (.ops false [
    ⟨(some 71), .move (.tmp 0), none, []⟩,
    ⟨(some 72), .lenSl (.tmp 71), none, []⟩,
    ⟨(some 73), .move (.c (.int .i64 0)), none, []⟩]) k35x34) k35x33
def k35x27 : AC := .seq (.ops false [
    ⟨(some 64), .build [(.int .i64 0), (.int .i64 0), (.int .i64 0), (.int .i64 0), (.int .i64 0)] [(0, 1, (.c (.int .i64 20)))], none, []⟩,
    ⟨(some 65), .build (List.replicate 6 (.int .i64 0)) [(0, 5, (.tmp 64)), (5, 1, (.c (.int .i64 0)))], none, []⟩,
    ⟨(some 66), .build [(.int .i64 0), (.int .i64 0), (.int .i64 0), (.int .i64 0), (.int .i64 0)] [(0, 1, (.c (.int .i64 0)))], none, []⟩,
    ⟨(some 67), .build (List.replicate 6 (.int .i64 0)) [(0, 5, (.tmp 66)), (5, 1, (.c (.int .i64 (-1))))], none, []⟩,
    ⟨(some 68), .buildSl (List.replicate 12 (.int .i64 0)) 6 [(0, (.tmp 65)), (6, (.tmp 67))], none, []⟩,
    ⟨(some 69), .build [(.sl .nil 0), (.sl .nil 0), (.sl .nil 0)] [(0, 1, (.tmp 68))], none, []⟩,
    ⟨(some 70), .boxH (.tmp 69), none, []⟩,
    ⟨(some 14), .move (.tmp 70), none, []⟩]) k35x32
def k35x12 : AC := .seq (.seq (.ops true [
    ⟨(some 55), .move (.tmp 2), none, []⟩,
    ⟨(some 56), .bin .other .lss (.tmp 55) (.c (.int .i64 0)), none, []⟩,
    ⟨(some 57), .move (.tmp 56), none, []⟩,
    ⟨(some 58), .move (.tmp 2), (some (57, false)), []⟩,
    ⟨(some 59), .move (.tmp 0), (some (57, false)), []⟩,
    ⟨(some 60), .lenSl (.tmp 59), (some (57, false)), []⟩,
    ⟨(some 61), .bin .other .geq (.tmp 58) (.tmp 60), (some (57, false)), []⟩,
    ⟨(some 62), .pick (.tmp 57) (.c (.bool true)) (.tmp 61), none, []⟩]) k35x28) k35x27
def k35x7 : AC := .seq (.seq (.ops false [
    ⟨(some 31), .move (.tmp 1), none, []⟩,
    ⟨(some 32), .lenSl (.tmp 31), none, []⟩,
    ⟨(some 33), .move (.c (.int .i64 0)), none, []⟩]) k35x13) k35x12
def k35x1 : AC := .seq (.seq (.ops false [
    ⟨(some 25), .move (.tmp 1), none, []⟩,
    ⟨(some 26), .lenSl (.tmp 25), none, []⟩,
    ⟨(some 27), .move (.tmp 0), none, []⟩,
    ⟨(some 28), .lenSl (.tmp 27), none, []⟩,
    ⟨(some 29), .bin .other .neq (.tmp 26) (.tmp 28), none, []⟩]) k35x8) k35x7
def k35x0 : AC := .seq (.seq (.ops false [
    ⟨(some 19), .move (.tmp 0), none, []⟩,
    ⟨(some 20), .call 45 [(.tmp 19)] [(.cell (.int .i64))] (.int .i64 0), none, []⟩,
    ⟨(some 11), .move (.tmp 20), none, []⟩]) k35x2) k35x1
/-- provenance/link.Link -/
def c35 : AFn := ⟨157, [.cell 8 (.agg [.sl, (.int .i64), .sl, .sl, .sl]), .tmp 9, .tmp 10],
  .seq (.ops false [
    ⟨(some 8), .allocL [(.sl .nil 0), (.int .i64 0), (.sl .nil 0), (.sl .nil 0), (.sl .nil 0)], none, []⟩,
    ⟨(some 9), .move (.c (.sl .nil 0)), none, []⟩,
    ⟨(some 10), .move (.c (.int .i64 0)), none, []⟩]) k35x0⟩
def S35xr (s8x0 : SA) (n8x0 : Nat) (i8x1 : Int) (s8x2 : SA) (n8x2 : Nat) (s8x3 : SA) (n8x3 : Nat) (s8x4 : SA) (n8x4 : Nat) (s9 : SA) (n9 : Nat) (i10 : Int) (h : Heap) : St := ⟨(rep 8 (.box [(.sl s8x0 n8x0), (.int .i64 i8x1), (.sl s8x2 n8x2), (.sl s8x3 n8x3), (.sl s8x4 n8x4)] :: (.g [] true (.sl s9 n9) :: (.g [] true (.int .i64 i10) :: (rep 146 []))))), h⟩
def S35xe0 (s0 : SA) (n0 : Nat) (s1 : SA) (n1 : Nat) (i2 : Int) (b3 : Bool) (s8x0 : SA) (n8x0 : Nat) (i8x1 : Int) (s8x2 : SA) (n8x2 : Nat) (s8x3 : SA) (n8x3 : Nat) (s8x4 : SA) (n8x4 : Nat) (h : Heap) : St := ⟨(.g [] true (.sl s0 n0) :: (.g [] true (.sl s1 n1) :: (.g [] true (.int .i64 i2) :: (.g [] true (.bool b3) :: (rep 4 (.box [(.sl s8x0 n8x0), (.int .i64 i8x1), (.sl s8x2 n8x2), (.sl s8x3 n8x3), (.sl s8x4 n8x4)] :: (rep 148 []))))))), h⟩
def S35xe2 (s0 : SA) (n0 : Nat) (s1 : SA) (n1 : Nat) (i2 : Int) (b3 : Bool) (s8x0 : SA) (n8x0 : Nat) (i8x1 : Int) (s8x2 : SA) (n8x2 : Nat) (s8x3 : SA) (n8x3 : Nat) (s8x4 : SA) (n8x4 : Nat) (p14 : Option Ad) (h : Heap) : St := ⟨(.g [] true (.sl s0 n0) :: (.g [] true (.sl s1 n1) :: (.g [] true (.int .i64 i2) :: (.g [] true (.bool b3) :: (rep 4 (.box [(.sl s8x0 n8x0), (.int .i64 i8x1), (.sl s8x2 n8x2), (.sl s8x3 n8x3), (.sl s8x4 n8x4)] :: (rep 5 (.g [] true (.ptr p14) :: (rep 142 []))))))))), h⟩
def S35xe4 (s0 : SA) (n0 : Nat) (s1 : SA) (n1 : Nat) (b3 : Bool) (s8x0 : SA) (n8x0 : Nat) (i8x1 : Int) (s8x2 : SA) (n8x2 : Nat) (s8x3 : SA) (n8x3 : Nat) (s8x4 : SA) (n8x4 : Nat) (p14 : Option Ad) (h : Heap) : St := ⟨(.g [] true (.sl s0 n0) :: (.g [] true (.sl s1 n1) :: (.any :: (.g [] true (.bool b3) :: (rep 4 (.box [(.sl s8x0 n8x0), (.int .i64 i8x1), (.sl s8x2 n8x2), (.sl s8x3 n8x3), (.sl s8x4 n8x4)] :: (rep 5 (.g [] true (.ptr p14) :: (rep 142 []))))))))), h⟩
noncomputable def Q35x15 (M : Mk) (C : Cal) : Kont (AV × Heap) := (blockQ 0 (seqQ (evalE M C k35x14) (seqQ (evalE M C k35x12) (endQ [.cell 8 (.agg [.sl, (.int .i64), .sl, .sl, .sl]), .tmp 9, .tmp 10]))))
noncomputable def L35x15 (s0 : SA) (n0 : Nat) (s1 : SA) (n1 : Nat) (i2 : Int) (b3 : Bool) (s8x0 : SA) (n8x0 : Nat) (i8x1 : Int) (s8x2 : SA) (n8x2 : Nat) (s8x3 : SA) (n8x3 : Nat) (s8x4 : SA) (n8x4 : Nat) (s31 : SA) (n31 : Nat) (i32 : Int) (i33 : Int) (h : Heap) (Q : Kont R) : Option R := loopE (evalE M C k35x15) 15032385807 271 ⟨(.g [] true (.sl s0 n0) :: (.g [] true (.sl s1 n1) :: (.g [] true (.int .i64 i2) :: (.g [] true (.bool b3) :: (rep 4 (.box [(.sl s8x0 n8x0), (.int .i64 i8x1), (.sl s8x2 n8x2), (.sl s8x3 n8x3), (.sl s8x4 n8x4)] :: (rep 22 (.g [] true (.sl s31 n31) :: (.g [] true (.int .i64 i32) :: (.g [] true (.int .i64 i33) :: (rep 123 []))))))))))), h⟩ Q
noncomputable def Q35x36 (M : Mk) (C : Cal) : Kont (AV × Heap) := (blockQ 2 (seqQ (evalE M C k35x35) (seqQ (evalE M C k35x33) (endQ [.cell 8 (.agg [.sl, (.int .i64), .sl, .sl, .sl]), .tmp 9, .tmp 10]))))
noncomputable def L35x36 (s0 : SA) (n0 : Nat) (s1 : SA) (n1 : Nat) (i2 : Int) (b3 : Bool) (s8x0 : SA) (n8x0 : Nat) (i8x1 : Int) (s8x2 : SA) (n8x2 : Nat) (s8x3 : SA) (n8x3 : Nat) (s8x4 : SA) (n8x4 : Nat) (p14 : Option Ad) (s71 : SA) (n71 : Nat) (i72 : Int) (i73 : Int) (h : Heap) (Q : Kont R) : Option R := loopE (evalE M C k35x36) 16528282690043758264591 16655 ⟨(.g [] true (.sl s0 n0) :: (.g [] true (.sl s1 n1) :: (.g [] true (.int .i64 i2) :: (.g [] true (.bool b3) :: (rep 4 (.box [(.sl s8x0 n8x0), (.int .i64 i8x1), (.sl s8x2 n8x2), (.sl s8x3 n8x3), (.sl s8x4 n8x4)] :: (rep 5 (.g [] true (.ptr p14) :: (rep 56 (.g [] true (.sl s71 n71) :: (.g [] true (.int .i64 i72) :: (.g [] true (.int .i64 i73) :: (rep 83 []))))))))))))), h⟩ Q
noncomputable def J35x48 (M : Mk) (C : Cal) (s0 : SA) (n0 : Nat) (s1 : SA) (n1 : Nat) (i2 : Int) (b3 : Bool) (s8x0 : SA) (n8x0 : Nat) (i8x1 : Int) (s8x2 : SA) (n8x2 : Nat) (s8x3 : SA) (n8x3 : Nat) (s8x4 : SA) (n8x4 : Nat) (p14 : Option Ad) (s71 : SA) (n71 : Nat) (i72 : Int) (i73 : Int) (h : Heap) (Q : Kont R) : Option R := M R (blockQ 3 (seqQ (evalE M C k35x42) (seqQ (evalE M C k35x41) (roundQ M C k35x36 16528282690043758264591 16655 Q)))) (.g [] true (.sl s0 n0) :: (.g [] true (.sl s1 n1) :: (.g [] true (.int .i64 i2) :: (.g [] true (.bool b3) :: (rep 4 (.box [(.sl s8x0 n8x0), (.int .i64 i8x1), (.sl s8x2 n8x2), (.sl s8x3 n8x3), (.sl s8x4 n8x4)] :: (rep 5 (.g [] true (.ptr p14) :: (rep 56 (.g [] true (.sl s71 n71) :: (.g [] true (.int .i64 i72) :: (.g [] true (.int .i64 i73) :: (rep 83 []))))))))))))) h
noncomputable def Q35x53 (M : Mk) (C : Cal) : Kont (AV × Heap) := (blockQ 4 (seqQ (evalE M C k35x52) (seqQ (evalE M C k35x50) (endQ [.cell 8 (.agg [.sl, (.int .i64), .sl, .sl, .sl]), .tmp 9, .tmp 10]))))
noncomputable def L35x53 (s0 : SA) (n0 : Nat) (s1 : SA) (n1 : Nat) (b3 : Bool) (s8x0 : SA) (n8x0 : Nat) (i8x1 : Int) (s8x2 : SA) (n8x2 : Nat) (s8x3 : SA) (n8x3 : Nat) (s8x4 : SA) (n8x4 : Nat) (p14 : Option Ad) (s124 : SA) (n124 : Nat) (i125 : Int) (i126 : Int) (h : Heap) (Q : Kont R) : Option R := loopE (evalE M C k35x53) 148873535527910577765226390751398609163 16651 ⟨(.g [] true (.sl s0 n0) :: (.g [] true (.sl s1 n1) :: (.any :: (.g [] true (.bool b3) :: (rep 4 (.box [(.sl s8x0 n8x0), (.int .i64 i8x1), (.sl s8x2 n8x2), (.sl s8x3 n8x3), (.sl s8x4 n8x4)] :: (rep 5 (.g [] true (.ptr p14) :: (rep 109 (.g [] true (.sl s124 n124) :: (.g [] true (.int .i64 i125) :: (.g [] true (.int .i64 i126) :: (rep 30 []))))))))))))), h⟩ Q
noncomputable def J35x63 (M : Mk) (C : Cal) (s0 : SA) (n0 : Nat) (s1 : SA) (n1 : Nat) (b3 : Bool) (s8x0 : SA) (n8x0 : Nat) (i8x1 : Int) (s8x2 : SA) (n8x2 : Nat) (s8x3 : SA) (n8x3 : Nat) (s8x4 : SA) (n8x4 : Nat) (p14 : Option Ad) (s124 : SA) (n124 : Nat) (i125 : Int) (i126 : Int) (h : Heap) (Q : Kont R) : Option R := M R (blockQ 5 (seqQ (evalE M C k35x59) (seqQ (evalE M C k35x58) (roundQ M C k35x53 148873535527910577765226390751398609163 16651 Q)))) (.g [] true (.sl s0 n0) :: (.g [] true (.sl s1 n1) :: (.any :: (.g [] true (.bool b3) :: (rep 4 (.box [(.sl s8x0 n8x0), (.int .i64 i8x1), (.sl s8x2 n8x2), (.sl s8x3 n8x3), (.sl s8x4 n8x4)] :: (rep 5 (.g [] true (.ptr p14) :: (rep 109 (.g [] true (.sl s124 n124) :: (.g [] true (.int .i64 i125) :: (.g [] true (.int .i64 i126) :: (rep 30 []))))))))))))) h
theorem r35 (s0 : SA) (n0 : Nat) (s1 : SA) (n1 : Nat) (i2 : Int) (b3 : Bool) (h : Heap) : runE M C c35 [(.sl s0 n0), (.sl s1 n1), (.int .i64 i2), (.bool b3)] h = (
  (C 45 [(.sl s0 n0)] h).bind fun r20 =>
  gI .i64 (some r20.1) true fun i20 =>
  letK ((!decide ((i20 : Int) = 0)) : Bool) fun b22 =>
  if b22 = true then
    (
    some (.tup [(.agg [(.sl .nil 0), (.int .i64 0), (.sl .nil 0), (.sl .nil 0), (.sl .nil 0)]), (.sl .nil 0), (.int .i64 i20)], r20.2)
    )
  else
    (
    letK ((!decide ((((n1 : Nat) : Int) : Int) = ((n0 : Nat) : Int))) : Bool) fun b29 =>
    if b29 = true then
      (
      some (.tup [(.agg [(.sl .nil 0), (.int .i64 0), (.sl .nil 0), (.sl .nil 0), (.sl .nil 0)]), (.sl .nil 0), (.int .i64 3)], r20.2)
      )
    else
      (
      L35x15 M C s0 n0 s1 n1 i2 b3 .nil 0 0 .nil 0 .nil 0 .nil 0 s1 n1 ((n1 : Nat) : Int) 0 r20.2 (Q35x15 M C)
      )
    )
  ) := by kernel_rfl
theorem cf35 : cFn Try.prog 35 = some c35 := by kernel_rfl
theorem e35 (s0 : SA) (n0 : Nat) (s1 : SA) (n1 : Nat) (i2 : Int) (b3 : Bool) (h : Heap) : E 35 [(.sl s0 n0), (.sl s1 n1), (.int .i64 i2), (.bool b3)] h = (
  (E 45 [(.sl s0 n0)] h).bind fun r20 =>
  gI .i64 (some r20.1) true fun i20 =>
  letK ((!decide ((i20 : Int) = 0)) : Bool) fun b22 =>
  if b22 = true then
    (
    some (.tup [(.agg [(.sl .nil 0), (.int .i64 0), (.sl .nil 0), (.sl .nil 0), (.sl .nil 0)]), (.sl .nil 0), (.int .i64 i20)], r20.2)
    )
  else
    (
    letK ((!decide ((((n1 : Nat) : Int) : Int) = ((n0 : Nat) : Int))) : Bool) fun b29 =>
    if b29 = true then
      (
      some (.tup [(.agg [(.sl .nil 0), (.int .i64 0), (.sl .nil 0), (.sl .nil 0), (.sl .nil 0)]), (.sl .nil 0), (.int .i64 3)], r20.2)
      )
    else
      (
      L35x15 mk0 E s0 n0 s1 n1 i2 b3 .nil 0 0 .nil 0 .nil 0 .nil 0 s1 n1 ((n1 : Nat) : Int) 0 r20.2 (Q35x15 mk0 E)
      )
    )
  ) := (EV_eq (P := Try.prog) (T := T0) rfl cf35 [(.sl s0 n0), (.sl s1 n1), (.int .i64 i2), (.bool b3)] h).trans (r35 mk0 E s0 n0 s1 n1 i2 b3 h)
theorem L35x15xaux (s0 : SA) (n0 : Nat) (s1 : SA) (n1 : Nat) (i2 : Int) (b3 : Bool) (s8x0 : SA) (n8x0 : Nat) (i8x1 : Int) (s8x2 : SA) (n8x2 : Nat) (s8x3 : SA) (n8x3 : Nat) (s8x4 : SA) (n8x4 : Nat) (s31 : SA) (n31 : Nat) (i32 : Int) (i33 : Int) (h : Heap) (Q : Kont R) : (restrF 15032385807 ⟨(.g [] true (.sl s0 n0) :: (.g [] true (.sl s1 n1) :: (.g [] true (.int .i64 i2) :: (.g [] true (.bool b3) :: (rep 4 (.box [(.sl s8x0 n8x0), (.int .i64 i8x1), (.sl s8x2 n8x2), (.sl s8x3 n8x3), (.sl s8x4 n8x4)] :: (rep 22 (.g [] true (.sl s31 n31) :: (.g [] true (.int .i64 i32) :: (.g [] true (.int .i64 i33) :: (rep 123 []))))))))))), h⟩ fun σ => evalE M C k35x15 σ (roundQ M C k35x15 15032385807 271 Q)) = (
  letK ((decide ((i33 : Int) < i32)) : Bool) fun b34 =>
  if b34 = true then
    (
    chk (true = true → (0 : Int) ≤ i33 ∧ (i33 : Int) < ((n31 : Nat) : Int)) <|
    atP (adP s31) true fun a36 =>
    gI .i64 (ld1 h (Ad.add a36 (Int.toNat i33 * 1))) true fun i37 =>
    letK ((decide ((i37 : Int) < 0)) : Bool) fun b39 =>
    letK ((decide ((i33 : Int) < i37)) : Bool) fun b43 =>
    letK ((if b39 = true then true else b43) : Bool) fun b44 =>
    chk ((!b44) = true → (0 : Int) ≤ i37 ∧ (i37 : Int) < ((n1 : Nat) : Int)) <|
    atP (adP s1) (!b44) fun a48 =>
    atP (some (Ad.add a48 (Int.toNat i37 * 1))) (!b44) fun a49 =>
    gI .i64 (ld1 h a49) (!b44) fun i49 =>
    letK ((!decide ((i49 : Int) = i37)) : Bool) fun b51 =>
    letK ((if b44 = true then true else b51) : Bool) fun b52 =>
    if b52 = true then
      (
      Q .ret (S35xr .nil 0 0 .nil 0 .nil 0 .nil 0 .nil 0 3 h)
      )
    else
      (
      letK ((IntKind.wrap .i64 (i33 + 1)) : Int) fun i54 =>
      L35x15 M C s0 n0 s1 n1 i2 b3 s8x0 n8x0 i8x1 s8x2 n8x2 s8x3 n8x3 s8x4 n8x4 s31 n31 i32 i54 h Q
      )
    )
  else
    (
    Q (.exit 0) (S35xe0 s0 n0 s1 n1 i2 b3 s8x0 n8x0 i8x1 s8x2 n8x2 s8x3 n8x3 s8x4 n8x4 h)
    )
  ) := by kernel_rfl
theorem L35x15xeq (s0 : SA) (n0 : Nat) (s1 : SA) (n1 : Nat) (i2 : Int) (b3 : Bool) (s8x0 : SA) (n8x0 : Nat) (i8x1 : Int) (s8x2 : SA) (n8x2 : Nat) (s8x3 : SA) (n8x3 : Nat) (s8x4 : SA) (n8x4 : Nat) (s31 : SA) (n31 : Nat) (i32 : Int) (i33 : Int) (h : Heap) (Q : Kont R) : L35x15 mk0 C s0 n0 s1 n1 i2 b3 s8x0 n8x0 i8x1 s8x2 n8x2 s8x3 n8x3 s8x4 n8x4 s31 n31 i32 i33 h Q = (
  letK ((decide ((i33 : Int) < i32)) : Bool) fun b34 =>
  if b34 = true then
    (
    chk (true = true → (0 : Int) ≤ i33 ∧ (i33 : Int) < ((n31 : Nat) : Int)) <|
    atP (adP s31) true fun a36 =>
    gI .i64 (ld1 h (Ad.add a36 (Int.toNat i33 * 1))) true fun i37 =>
    letK ((decide ((i37 : Int) < 0)) : Bool) fun b39 =>
    letK ((decide ((i33 : Int) < i37)) : Bool) fun b43 =>
    letK ((if b39 = true then true else b43) : Bool) fun b44 =>
    chk ((!b44) = true → (0 : Int) ≤ i37 ∧ (i37 : Int) < ((n1 : Nat) : Int)) <|
    atP (adP s1) (!b44) fun a48 =>
    atP (some (Ad.add a48 (Int.toNat i37 * 1))) (!b44) fun a49 =>
    gI .i64 (ld1 h a49) (!b44) fun i49 =>
    letK ((!decide ((i49 : Int) = i37)) : Bool) fun b51 =>
    letK ((if b44 = true then true else b51) : Bool) fun b52 =>
    if b52 = true then
      (
      Q .ret (S35xr .nil 0 0 .nil 0 .nil 0 .nil 0 .nil 0 3 h)
      )
    else
      (
      letK ((IntKind.wrap .i64 (i33 + 1)) : Int) fun i54 =>
      L35x15 mk0 C s0 n0 s1 n1 i2 b3 s8x0 n8x0 i8x1 s8x2 n8x2 s8x3 n8x3 s8x4 n8x4 s31 n31 i32 i54 h Q
      )
    )
  else
    (
    Q (.exit 0) (S35xe0 s0 n0 s1 n1 i2 b3 s8x0 n8x0 i8x1 s8x2 n8x2 s8x3 n8x3 s8x4 n8x4 h)
    )
  ) := loop_eqn C k35x15 15032385807 271 (.g [] true (.sl s0 n0) :: (.g [] true (.sl s1 n1) :: (.g [] true (.int .i64 i2) :: (.g [] true (.bool b3) :: (rep 4 (.box [(.sl s8x0 n8x0), (.int .i64 i8x1), (.sl s8x2 n8x2), (.sl s8x3 n8x3), (.sl s8x4 n8x4)] :: (rep 22 (.g [] true (.sl s31 n31) :: (.g [] true (.int .i64 i32) :: (.g [] true (.int .i64 i33) :: (rep 123 []))))))))))) h Q (by kernel_rfl) (L35x15xaux mk0 C s0 n0 s1 n1 i2 b3 s8x0 n8x0 i8x1 s8x2 n8x2 s8x3 n8x3 s8x4 n8x4 s31 n31 i32 i33 h Q)
theorem X35x15xr (M : Mk) (C : Cal) (s8x0 : SA) (n8x0 : Nat) (i8x1 : Int) (s8x2 : SA) (n8x2 : Nat) (s8x3 : SA) (n8x3 : Nat) (s8x4 : SA) (n8x4 : Nat) (s9 : SA) (n9 : Nat) (i10 : Int) (h : Heap) : Q35x15 M C .ret (S35xr s8x0 n8x0 i8x1 s8x2 n8x2 s8x3 n8x3 s8x4 n8x4 s9 n9 i10 h) = (
  some (.tup [(.agg [(.sl s8x0 n8x0), (.int .i64 i8x1), (.sl s8x2 n8x2), (.sl s8x3 n8x3), (.sl s8x4 n8x4)]), (.sl s9 n9), (.int .i64 i10)], h)
  ) := by kernel_rfl
theorem X35x15xe0 (M : Mk) (C : Cal) (s0 : SA) (n0 : Nat) (s1 : SA) (n1 : Nat) (i2 : Int) (b3 : Bool) (s8x0 : SA) (n8x0 : Nat) (i8x1 : Int) (s8x2 : SA) (n8x2 : Nat) (s8x3 : SA) (n8x3 : Nat) (s8x4 : SA) (n8x4 : Nat) (h : Heap) : Q35x15 M C (.exit 0) (S35xe0 s0 n0 s1 n1 i2 b3 s8x0 n8x0 i8x1 s8x2 n8x2 s8x3 n8x3 s8x4 n8x4 h) = (
  letK ((decide ((i2 : Int) < 0)) : Bool) fun b56 =>
  letK ((decide ((((n0 : Nat) : Int) : Int) ≤ i2)) : Bool) fun b61 =>
  letK ((if b56 = true then true else b61) : Bool) fun b62 =>
  if b62 = true then
    (
    some (.tup [(.agg [(.sl .nil 0), (.int .i64 0), (.sl .nil 0), (.sl .nil 0), (.sl .nil 0)]), (.sl .nil 0), (.int .i64 12)], h)
    )
  else
    (
    newK h (.cells [(.int .i64 20), (.int .i64 0), (.int .i64 0), (.int .i64 0), (.int .i64 0), (.int .i64 0), (.int .i64 0), (.int .i64 0), (.int .i64 0), (.int .i64 0), (.int .i64 0), (.int .i64 (-1))] (.grow 6) 0) fun h_2 =>
    newK h_2 (.cells [(.sl (.pos ⟨List.length h, 0, 0⟩) 2), (.sl .nil 0), (.sl .nil 0)] .fix 0) fun h_3 =>
    L35x36 M C s0 n0 s1 n1 i2 b3 s8x0 n8x0 i8x1 s8x2 n8x2 s8x3 n8x3 s8x4 n8x4 (some ⟨List.length h_2, 0, 0⟩) s0 n0 ((n0 : Nat) : Int) 0 h_3 (Q35x36 M C)
    )
  ) := by kernel_rfl
theorem L35x36xaux (s0 : SA) (n0 : Nat) (s1 : SA) (n1 : Nat) (i2 : Int) (b3 : Bool) (s8x0 : SA) (n8x0 : Nat) (i8x1 : Int) (s8x2 : SA) (n8x2 : Nat) (s8x3 : SA) (n8x3 : Nat) (s8x4 : SA) (n8x4 : Nat) (p14 : Option Ad) (s71 : SA) (n71 : Nat) (i72 : Int) (i73 : Int) (h : Heap) (Q : Kont R) : (restrF 16528282690043758264591 ⟨(.g [] true (.sl s0 n0) :: (.g [] true (.sl s1 n1) :: (.g [] true (.int .i64 i2) :: (.g [] true (.bool b3) :: (rep 4 (.box [(.sl s8x0 n8x0), (.int .i64 i8x1), (.sl s8x2 n8x2), (.sl s8x3 n8x3), (.sl s8x4 n8x4)] :: (rep 5 (.g [] true (.ptr p14) :: (rep 56 (.g [] true (.sl s71 n71) :: (.g [] true (.int .i64 i72) :: (.g [] true (.int .i64 i73) :: (rep 83 []))))))))))))), h⟩ fun σ => evalE M C k35x36 σ (roundQ M C k35x36 16528282690043758264591 16655 Q)) = (
  letK ((decide ((i73 : Int) < i72)) : Bool) fun b74 =>
  if b74 = true then
    (
    chk (true = true → (0 : Int) ≤ i73 ∧ (i73 : Int) < ((n71 : Nat) : Int)) <|
    atP (adP s71) true fun a76 =>
    gCells (ldN h (Ad.add a76 (Int.toNat i73 * 5)) 5) true fun l77 =>
    gI .i64 (l77[0]?) true fun i77x0 =>
    gL (l77[1]?) true fun s77x1 n77x1 =>
    gL (l77[2]?) true fun s77x2 n77x2 =>
    gL (l77[3]?) true fun s77x3 n77x3 =>
    gI .i64 (l77[4]?) true fun i77x4 =>
    atP p14 true fun a80 =>
    gL (ld1 h (Ad.add a80 1)) true fun s82 n82 =>
    newK h (.cells [(.int .i64 (-1))] (.grow 1) 0) fun h_2 =>
    (ldSl h_2 (.pos ⟨List.length h, 0, 0⟩) (1 * 1)).bind fun y84 =>
    (apnd h_2 (.sl s82 n82) 1 8 y84 1).bind fun r84 =>
    gL (some r84.1) true fun s84 n84 =>
    atP p14 true fun a85 =>
    (st1 r84.2 (Ad.add a85 1) (.sl s84 n84)).bind fun h_3 =>
    chk (true = true → (0 : Int) ≤ i73 ∧ (i73 : Int) < ((n1 : Nat) : Int)) <|
    atP (adP s1) true fun a89 =>
    gI .i64 (ld1 h_3 (Ad.add a89 (Int.toNat i73 * 1))) true fun i90 =>
    letK ((decide ((i90 : Int) = i73)) : Bool) fun b92 =>
    if b92 = true then
      (
      atP p14 true fun a94 =>
      gL (ld1 h_3 (Ad.add a94 1)) true fun s96 n96 =>
      atP p14 true fun a99 =>
      gL (ld1 h_3 (Ad.add a99 0)) true fun s101 n101 =>
      chk (true = true → (0 : Int) ≤ i73 ∧ (i73 : Int) < ((n96 : Nat) : Int)) <|
      atP (adP s96) true fun a103 =>
      (st1 h_3 (Ad.add a103 (Int.toNat i73 * 1)) (.int .i64 ((n101 : Nat) : Int))).bind fun h_4 =>
      (C 47 [(.ptr p14), (.agg [(.int .i64 i77x0), (.sl s77x1 n77x1), (.sl s77x2 n77x2), (.sl s77x3 n77x3), (.int .i64 i77x4)])] h_4).bind fun r106 =>
      gT 0 r106.1 true fun u106 =>
      J35x48 M C s0 n0 s1 n1 i2 b3 s8x0 n8x0 i8x1 s8x2 n8x2 s8x3 n8x3 s8x4 n8x4 p14 s71 n71 i72 i73 r106.2 Q
      )
    else
      (
      J35x48 M C s0 n0 s1 n1 i2 b3 s8x0 n8x0 i8x1 s8x2 n8x2 s8x3 n8x3 s8x4 n8x4 p14 s71 n71 i72 i73 h_3 Q
      )
    )
  else
    (
    Q (.exit 2) (S35xe2 s0 n0 s1 n1 i2 b3 s8x0 n8x0 i8x1 s8x2 n8x2 s8x3 n8x3 s8x4 n8x4 p14 h)
    )
  ) := by kernel_rfl
theorem L35x36xeq (s0 : SA) (n0 : Nat) (s1 : SA) (n1 : Nat) (i2 : Int) (b3 : Bool) (s8x0 : SA) (n8x0 : Nat) (i8x1 : Int) (s8x2 : SA) (n8x2 : Nat) (s8x3 : SA) (n8x3 : Nat) (s8x4 : SA) (n8x4 : Nat) (p14 : Option Ad) (s71 : SA) (n71 : Nat) (i72 : Int) (i73 : Int) (h : Heap) (Q : Kont R) : L35x36 mk0 C s0 n0 s1 n1 i2 b3 s8x0 n8x0 i8x1 s8x2 n8x2 s8x3 n8x3 s8x4 n8x4 p14 s71 n71 i72 i73 h Q = (
  letK ((decide ((i73 : Int) < i72)) : Bool) fun b74 =>
  if b74 = true then
    (
    chk (true = true → (0 : Int) ≤ i73 ∧ (i73 : Int) < ((n71 : Nat) : Int)) <|
    atP (adP s71) true fun a76 =>
    gCells (ldN h (Ad.add a76 (Int.toNat i73 * 5)) 5) true fun l77 =>
    gI .i64 (l77[0]?) true fun i77x0 =>
    gL (l77[1]?) true fun s77x1 n77x1 =>
    gL (l77[2]?) true fun s77x2 n77x2 =>
    gL (l77[3]?) true fun s77x3 n77x3 =>
    gI .i64 (l77[4]?) true fun i77x4 =>
    atP p14 true fun a80 =>
    gL (ld1 h (Ad.add a80 1)) true fun s82 n82 =>
    newK h (.cells [(.int .i64 (-1))] (.grow 1) 0) fun h_2 =>
    (ldSl h_2 (.pos ⟨List.length h, 0, 0⟩) (1 * 1)).bind fun y84 =>
    (apnd h_2 (.sl s82 n82) 1 8 y84 1).bind fun r84 =>
    gL (some r84.1) true fun s84 n84 =>
    atP p14 true fun a85 =>
    (st1 r84.2 (Ad.add a85 1) (.sl s84 n84)).bind fun h_3 =>
    chk (true = true → (0 : Int) ≤ i73 ∧ (i73 : Int) < ((n1 : Nat) : Int)) <|
    atP (adP s1) true fun a89 =>
    gI .i64 (ld1 h_3 (Ad.add a89 (Int.toNat i73 * 1))) true fun i90 =>
    letK ((decide ((i90 : Int) = i73)) : Bool) fun b92 =>
    if b92 = true then
      (
      atP p14 true fun a94 =>
      gL (ld1 h_3 (Ad.add a94 1)) true fun s96 n96 =>
      atP p14 true fun a99 =>
      gL (ld1 h_3 (Ad.add a99 0)) true fun s101 n101 =>
      chk (true = true → (0 : Int) ≤ i73 ∧ (i73 : Int) < ((n96 : Nat) : Int)) <|
      atP (adP s96) true fun a103 =>
      (st1 h_3 (Ad.add a103 (Int.toNat i73 * 1)) (.int .i64 ((n101 : Nat) : Int))).bind fun h_4 =>
      (C 47 [(.ptr p14), (.agg [(.int .i64 i77x0), (.sl s77x1 n77x1), (.sl s77x2 n77x2), (.sl s77x3 n77x3), (.int .i64 i77x4)])] h_4).bind fun r106 =>
      gT 0 r106.1 true fun u106 =>
      J35x48 mk0 C s0 n0 s1 n1 i2 b3 s8x0 n8x0 i8x1 s8x2 n8x2 s8x3 n8x3 s8x4 n8x4 p14 s71 n71 i72 i73 r106.2 Q
      )
    else
      (
      J35x48 mk0 C s0 n0 s1 n1 i2 b3 s8x0 n8x0 i8x1 s8x2 n8x2 s8x3 n8x3 s8x4 n8x4 p14 s71 n71 i72 i73 h_3 Q
      )
    )
  else
    (
    Q (.exit 2) (S35xe2 s0 n0 s1 n1 i2 b3 s8x0 n8x0 i8x1 s8x2 n8x2 s8x3 n8x3 s8x4 n8x4 p14 h)
    )
  ) := loop_eqn C k35x36 16528282690043758264591 16655 (.g [] true (.sl s0 n0) :: (.g [] true (.sl s1 n1) :: (.g [] true (.int .i64 i2) :: (.g [] true (.bool b3) :: (rep 4 (.box [(.sl s8x0 n8x0), (.int .i64 i8x1), (.sl s8x2 n8x2), (.sl s8x3 n8x3), (.sl s8x4 n8x4)] :: (rep 5 (.g [] true (.ptr p14) :: (rep 56 (.g [] true (.sl s71 n71) :: (.g [] true (.int .i64 i72) :: (.g [] true (.int .i64 i73) :: (rep 83 []))))))))))))) h Q (by kernel_rfl) (L35x36xaux mk0 C s0 n0 s1 n1 i2 b3 s8x0 n8x0 i8x1 s8x2 n8x2 s8x3 n8x3 s8x4 n8x4 p14 s71 n71 i72 i73 h Q)
theorem J35x48xaux (M : Mk) (C : Cal) (s0 : SA) (n0 : Nat) (s1 : SA) (n1 : Nat) (i2 : Int) (b3 : Bool) (s8x0 : SA) (n8x0 : Nat) (i8x1 : Int) (s8x2 : SA) (n8x2 : Nat) (s8x3 : SA) (n8x3 : Nat) (s8x4 : SA) (n8x4 : Nat) (p14 : Option Ad) (s71 : SA) (n71 : Nat) (i72 : Int) (i73 : Int) (h : Heap) (Q : Kont R) : (forceK tk (.g [] true (.sl s0 n0) :: (.g [] true (.sl s1 n1) :: (.g [] true (.int .i64 i2) :: (.g [] true (.bool b3) :: (rep 4 (.box [(.sl s8x0 n8x0), (.int .i64 i8x1), (.sl s8x2 n8x2), (.sl s8x3 n8x3), (.sl s8x4 n8x4)] :: (rep 5 (.g [] true (.ptr p14) :: (rep 56 (.g [] true (.sl s71 n71) :: (.g [] true (.int .i64 i72) :: (.g [] true (.int .i64 i73) :: (rep 83 []))))))))))))) fun e => (blockQ 3 (seqQ (evalE M C k35x42) (seqQ (evalE M C k35x41) (roundQ M C k35x36 16528282690043758264591 16655 Q)))) .normal ⟨e, h⟩) = (
  letK ((IntKind.wrap .i64 (i73 + 1)) : Int) fun i107 =>
  L35x36 M C s0 n0 s1 n1 i2 b3 s8x0 n8x0 i8x1 s8x2 n8x2 s8x3 n8x3 s8x4 n8x4 p14 s71 n71 i72 i107 h Q
  ) := by kernel_rfl
theorem J35x48xeq (C : Cal) (s0 : SA) (n0 : Nat) (s1 : SA) (n1 : Nat) (i2 : Int) (b3 : Bool) (s8x0 : SA) (n8x0 : Nat) (i8x1 : Int) (s8x2 : SA) (n8x2 : Nat) (s8x3 : SA) (n8x3 : Nat) (s8x4 : SA) (n8x4 : Nat) (p14 : Option Ad) (s71 : SA) (n71 : Nat) (i72 : Int) (i73 : Int) (h : Heap) (Q : Kont R) : J35x48 mk0 C s0 n0 s1 n1 i2 b3 s8x0 n8x0 i8x1 s8x2 n8x2 s8x3 n8x3 s8x4 n8x4 p14 s71 n71 i72 i73 h Q = (
  letK ((IntKind.wrap .i64 (i73 + 1)) : Int) fun i107 =>
  L35x36 mk0 C s0 n0 s1 n1 i2 b3 s8x0 n8x0 i8x1 s8x2 n8x2 s8x3 n8x3 s8x4 n8x4 p14 s71 n71 i72 i107 h Q
  ) := join_eqn (blockQ 3 (seqQ (evalE mk0 C k35x42) (seqQ (evalE mk0 C k35x41) (roundQ mk0 C k35x36 16528282690043758264591 16655 Q)))) (.g [] true (.sl s0 n0) :: (.g [] true (.sl s1 n1) :: (.g [] true (.int .i64 i2) :: (.g [] true (.bool b3) :: (rep 4 (.box [(.sl s8x0 n8x0), (.int .i64 i8x1), (.sl s8x2 n8x2), (.sl s8x3 n8x3), (.sl s8x4 n8x4)] :: (rep 5 (.g [] true (.ptr p14) :: (rep 56 (.g [] true (.sl s71 n71) :: (.g [] true (.int .i64 i72) :: (.g [] true (.int .i64 i73) :: (rep 83 []))))))))))))) h (J35x48xaux mk0 C s0 n0 s1 n1 i2 b3 s8x0 n8x0 i8x1 s8x2 n8x2 s8x3 n8x3 s8x4 n8x4 p14 s71 n71 i72 i73 h Q)
theorem X35x36xe2 (M : Mk) (C : Cal) (s0 : SA) (n0 : Nat) (s1 : SA) (n1 : Nat) (i2 : Int) (b3 : Bool) (s8x0 : SA) (n8x0 : Nat) (i8x1 : Int) (s8x2 : SA) (n8x2 : Nat) (s8x3 : SA) (n8x3 : Nat) (s8x4 : SA) (n8x4 : Nat) (p14 : Option Ad) (h : Heap) : Q35x36 M C (.exit 2) (S35xe2 s0 n0 s1 n1 i2 b3 s8x0 n8x0 i8x1 s8x2 n8x2 s8x3 n8x3 s8x4 n8x4 p14 h) = (
  atP p14 true fun a109 =>
  gL (ld1 h (Ad.add a109 0)) true fun s111 n111 =>
  atP p14 true fun a113 =>
  gL (ld1 h (Ad.add a113 1)) true fun s115 n115 =>
  chk (true = true → (0 : Int) ≤ i2 ∧ (i2 : Int) < ((n1 : Nat) : Int)) <|
  atP (adP s1) true fun a118 =>
  gI .i64 (ld1 h (Ad.add a118 (Int.toNat i2 * 1))) true fun i119 =>
  chk (true = true → (0 : Int) ≤ i119 ∧ (i119 : Int) < ((n115 : Nat) : Int)) <|
  atP (adP s115) true fun a120 =>
  gI .i64 (ld1 h (Ad.add a120 (Int.toNat i119 * 1))) true fun i121 =>
  chk (true = true → (0 : Int) ≤ 0 ∧ (0 : Int) < ((n111 : Nat) : Int)) <|
  atP (adP s111) true fun a122 =>
  (st1 h (Ad.add (Ad.add a122 (Int.toNat 0 * 6)) 5) (.int .i64 i121)).bind fun h_2 =>
  L35x53 M C s0 n0 s1 n1 b3 s8x0 n8x0 i8x1 s8x2 n8x2 s8x3 n8x3 s8x4 n8x4 p14 s0 n0 ((n0 : Nat) : Int) 0 h_2 (Q35x53 M C)
  ) := by kernel_rfl
theorem L35x53xaux (s0 : SA) (n0 : Nat) (s1 : SA) (n1 : Nat) (b3 : Bool) (s8x0 : SA) (n8x0 : Nat) (i8x1 : Int) (s8x2 : SA) (n8x2 : Nat) (s8x3 : SA) (n8x3 : Nat) (s8x4 : SA) (n8x4 : Nat) (p14 : Option Ad) (s124 : SA) (n124 : Nat) (i125 : Int) (i126 : Int) (h : Heap) (Q : Kont R) : (restrF 148873535527910577765226390751398609163 ⟨(.g [] true (.sl s0 n0) :: (.g [] true (.sl s1 n1) :: (.any :: (.g [] true (.bool b3) :: (rep 4 (.box [(.sl s8x0 n8x0), (.int .i64 i8x1), (.sl s8x2 n8x2), (.sl s8x3 n8x3), (.sl s8x4 n8x4)] :: (rep 5 (.g [] true (.ptr p14) :: (rep 109 (.g [] true (.sl s124 n124) :: (.g [] true (.int .i64 i125) :: (.g [] true (.int .i64 i126) :: (rep 30 []))))))))))))), h⟩ fun σ => evalE M C k35x53 σ (roundQ M C k35x53 148873535527910577765226390751398609163 16651 Q)) = (
  letK ((decide ((i126 : Int) < i125)) : Bool) fun b127 =>
  if b127 = true then
    (
    chk (true = true → (0 : Int) ≤ i126 ∧ (i126 : Int) < ((n124 : Nat) : Int)) <|
    atP (adP s124) true fun a129 =>
    gCells (ldN h (Ad.add a129 (Int.toNat i126 * 5)) 5) true fun l130 =>
    gI .i64 (l130[0]?) true fun i130x0 =>
    gL (l130[1]?) true fun s130x1 n130x1 =>
    gL (l130[2]?) true fun s130x2 n130x2 =>
    gL (l130[3]?) true fun s130x3 n130x3 =>
    gI .i64 (l130[4]?) true fun i130x4 =>
    chk (true = true → (0 : Int) ≤ i126 ∧ (i126 : Int) < ((n1 : Nat) : Int)) <|
    atP (adP s1) true fun a133 =>
    gI .i64 (ld1 h (Ad.add a133 (Int.toNat i126 * 1))) true fun i134 =>
    letK ((decide ((i134 : Int) = i126)) : Bool) fun b136 =>
    if b136 = true then
      (
      atP p14 true fun a140 =>
      gL (ld1 h (Ad.add a140 1)) true fun s142 n142 =>
      chk (true = true → (0 : Int) ≤ i126 ∧ (i126 : Int) < ((n142 : Nat) : Int)) <|
      atP (adP s142) true fun a144 =>
      gI .i64 (ld1 h (Ad.add a144 (Int.toNat i126 * 1))) true fun i145 =>
      (C 48 [(.ptr p14), (.agg [(.int .i64 i130x0), (.sl s130x1 n130x1), (.sl s130x2 n130x2), (.sl s130x3 n130x3), (.int .i64 i130x4)]), (.int .i64 i145), (.sl s1 n1)] h).bind fun r147 =>
      gT 0 r147.1 true fun u147 =>
      J35x63 M C s0 n0 s1 n1 b3 s8x0 n8x0 i8x1 s8x2 n8x2 s8x3 n8x3 s8x4 n8x4 p14 s124 n124 i125 i126 r147.2 Q
      )
    else
      (
      J35x63 M C s0 n0 s1 n1 b3 s8x0 n8x0 i8x1 s8x2 n8x2 s8x3 n8x3 s8x4 n8x4 p14 s124 n124 i125 i126 h Q
      )
    )
  else
    (
    Q (.exit 4) (S35xe4 s0 n0 s1 n1 b3 s8x0 n8x0 i8x1 s8x2 n8x2 s8x3 n8x3 s8x4 n8x4 p14 h)
    )
  ) := by kernel_rfl
theorem L35x53xeq (s0 : SA) (n0 : Nat) (s1 : SA) (n1 : Nat) (b3 : Bool) (s8x0 : SA) (n8x0 : Nat) (i8x1 : Int) (s8x2 : SA) (n8x2 : Nat) (s8x3 : SA) (n8x3 : Nat) (s8x4 : SA) (n8x4 : Nat) (p14 : Option Ad) (s124 : SA) (n124 : Nat) (i125 : Int) (i126 : Int) (h : Heap) (Q : Kont R) : L35x53 mk0 C s0 n0 s1 n1 b3 s8x0 n8x0 i8x1 s8x2 n8x2 s8x3 n8x3 s8x4 n8x4 p14 s124 n124 i125 i126 h Q = (
  letK ((decide ((i126 : Int) < i125)) : Bool) fun b127 =>
  if b127 = true then
    (
    chk (true = true → (0 : Int) ≤ i126 ∧ (i126 : Int) < ((n124 : Nat) : Int)) <|
    atP (adP s124) true fun a129 =>
    gCells (ldN h (Ad.add a129 (Int.toNat i126 * 5)) 5) true fun l130 =>
    gI .i64 (l130[0]?) true fun i130x0 =>
    gL (l130[1]?) true fun s130x1 n130x1 =>
    gL (l130[2]?) true fun s130x2 n130x2 =>
    gL (l130[3]?) true fun s130x3 n130x3 =>
    gI .i64 (l130[4]?) true fun i130x4 =>
    chk (true = true → (0 : Int) ≤ i126 ∧ (i126 : Int) < ((n1 : Nat) : Int)) <|
    atP (adP s1) true fun a133 =>
    gI .i64 (ld1 h (Ad.add a133 (Int.toNat i126 * 1))) true fun i134 =>
    letK ((decide ((i134 : Int) = i126)) : Bool) fun b136 =>
    if b136 = true then
      (
      atP p14 true fun a140 =>
      gL (ld1 h (Ad.add a140 1)) true fun s142 n142 =>
      chk (true = true → (0 : Int) ≤ i126 ∧ (i126 : Int) < ((n142 : Nat) : Int)) <|
      atP (adP s142) true fun a144 =>
      gI .i64 (ld1 h (Ad.add a144 (Int.toNat i126 * 1))) true fun i145 =>
      (C 48 [(.ptr p14), (.agg [(.int .i64 i130x0), (.sl s130x1 n130x1), (.sl s130x2 n130x2), (.sl s130x3 n130x3), (.int .i64 i130x4)]), (.int .i64 i145), (.sl s1 n1)] h).bind fun r147 =>
      gT 0 r147.1 true fun u147 =>
      J35x63 mk0 C s0 n0 s1 n1 b3 s8x0 n8x0 i8x1 s8x2 n8x2 s8x3 n8x3 s8x4 n8x4 p14 s124 n124 i125 i126 r147.2 Q
      )
    else
      (
      J35x63 mk0 C s0 n0 s1 n1 b3 s8x0 n8x0 i8x1 s8x2 n8x2 s8x3 n8x3 s8x4 n8x4 p14 s124 n124 i125 i126 h Q
      )
    )
  else
    (
    Q (.exit 4) (S35xe4 s0 n0 s1 n1 b3 s8x0 n8x0 i8x1 s8x2 n8x2 s8x3 n8x3 s8x4 n8x4 p14 h)
    )
  ) := loop_eqn C k35x53 148873535527910577765226390751398609163 16651 (.g [] true (.sl s0 n0) :: (.g [] true (.sl s1 n1) :: (.any :: (.g [] true (.bool b3) :: (rep 4 (.box [(.sl s8x0 n8x0), (.int .i64 i8x1), (.sl s8x2 n8x2), (.sl s8x3 n8x3), (.sl s8x4 n8x4)] :: (rep 5 (.g [] true (.ptr p14) :: (rep 109 (.g [] true (.sl s124 n124) :: (.g [] true (.int .i64 i125) :: (.g [] true (.int .i64 i126) :: (rep 30 []))))))))))))) h Q (by kernel_rfl) (L35x53xaux mk0 C s0 n0 s1 n1 b3 s8x0 n8x0 i8x1 s8x2 n8x2 s8x3 n8x3 s8x4 n8x4 p14 s124 n124 i125 i126 h Q)
theorem J35x63xaux (M : Mk) (C : Cal) (s0 : SA) (n0 : Nat) (s1 : SA) (n1 : Nat) (b3 : Bool) (s8x0 : SA) (n8x0 : Nat) (i8x1 : Int) (s8x2 : SA) (n8x2 : Nat) (s8x3 : SA) (n8x3 : Nat) (s8x4 : SA) (n8x4 : Nat) (p14 : Option Ad) (s124 : SA) (n124 : Nat) (i125 : Int) (i126 : Int) (h : Heap) (Q : Kont R) : (forceK tk (.g [] true (.sl s0 n0) :: (.g [] true (.sl s1 n1) :: (.any :: (.g [] true (.bool b3) :: (rep 4 (.box [(.sl s8x0 n8x0), (.int .i64 i8x1), (.sl s8x2 n8x2), (.sl s8x3 n8x3), (.sl s8x4 n8x4)] :: (rep 5 (.g [] true (.ptr p14) :: (rep 109 (.g [] true (.sl s124 n124) :: (.g [] true (.int .i64 i125) :: (.g [] true (.int .i64 i126) :: (rep 30 []))))))))))))) fun e => (blockQ 5 (seqQ (evalE M C k35x59) (seqQ (evalE M C k35x58) (roundQ M C k35x53 148873535527910577765226390751398609163 16651 Q)))) .normal ⟨e, h⟩) = (
  letK ((IntKind.wrap .i64 (i126 + 1)) : Int) fun i148 =>
  L35x53 M C s0 n0 s1 n1 b3 s8x0 n8x0 i8x1 s8x2 n8x2 s8x3 n8x3 s8x4 n8x4 p14 s124 n124 i125 i148 h Q
  ) := by kernel_rfl
theorem J35x63xeq (C : Cal) (s0 : SA) (n0 : Nat) (s1 : SA) (n1 : Nat) (b3 : Bool) (s8x0 : SA) (n8x0 : Nat) (i8x1 : Int) (s8x2 : SA) (n8x2 : Nat) (s8x3 : SA) (n8x3 : Nat) (s8x4 : SA) (n8x4 : Nat) (p14 : Option Ad) (s124 : SA) (n124 : Nat) (i125 : Int) (i126 : Int) (h : Heap) (Q : Kont R) : J35x63 mk0 C s0 n0 s1 n1 b3 s8x0 n8x0 i8x1 s8x2 n8x2 s8x3 n8x3 s8x4 n8x4 p14 s124 n124 i125 i126 h Q = (
  letK ((IntKind.wrap .i64 (i126 + 1)) : Int) fun i148 =>
  L35x53 mk0 C s0 n0 s1 n1 b3 s8x0 n8x0 i8x1 s8x2 n8x2 s8x3 n8x3 s8x4 n8x4 p14 s124 n124 i125 i148 h Q
  ) := join_eqn (blockQ 5 (seqQ (evalE mk0 C k35x59) (seqQ (evalE mk0 C k35x58) (roundQ mk0 C k35x53 148873535527910577765226390751398609163 16651 Q)))) (.g [] true (.sl s0 n0) :: (.g [] true (.sl s1 n1) :: (.any :: (.g [] true (.bool b3) :: (rep 4 (.box [(.sl s8x0 n8x0), (.int .i64 i8x1), (.sl s8x2 n8x2), (.sl s8x3 n8x3), (.sl s8x4 n8x4)] :: (rep 5 (.g [] true (.ptr p14) :: (rep 109 (.g [] true (.sl s124 n124) :: (.g [] true (.int .i64 i125) :: (.g [] true (.int .i64 i126) :: (rep 30 []))))))))))))) h (J35x63xaux mk0 C s0 n0 s1 n1 b3 s8x0 n8x0 i8x1 s8x2 n8x2 s8x3 n8x3 s8x4 n8x4 p14 s124 n124 i125 i126 h Q)
theorem X35x53xe4 (M : Mk) (C : Cal) (s0 : SA) (n0 : Nat) (s1 : SA) (n1 : Nat) (b3 : Bool) (s8x0 : SA) (n8x0 : Nat) (i8x1 : Int) (s8x2 : SA) (n8x2 : Nat) (s8x3 : SA) (n8x3 : Nat) (s8x4 : SA) (n8x4 : Nat) (p14 : Option Ad) (h : Heap) : Q35x53 M C (.exit 4) (S35xe4 s0 n0 s1 n1 b3 s8x0 n8x0 i8x1 s8x2 n8x2 s8x3 n8x3 s8x4 n8x4 p14 h) = (
  (C 49 [(.ptr p14), (.sl s0 n0), (.sl s1 n1), (.bool b3)] h).bind fun r153 =>
  gT 3 r153.1 true fun u153 =>
  gA (List.getD u153 0 .opq) true fun l153x0 =>
  chk (true = true → l153x0.length = 5) <|
  gL (l153x0[0]?) true fun s153x0x0 n153x0x0 =>
  gI .i64 (l153x0[1]?) true fun i153x0x1 =>
  gL (l153x0[2]?) true fun s153x0x2 n153x0x2 =>
  gL (l153x0[3]?) true fun s153x0x3 n153x0x3 =>
  gL (l153x0[4]?) true fun s153x0x4 n153x0x4 =>
  gL (some (List.getD u153 1 .opq)) true fun s153x1 n153x1 =>
  gI .i64 (some (List.getD u153 2 .opq)) true fun i153x2 =>
  some (.tup [(.agg [(.sl s153x0x0 n153x0x0), (.int .i64 i153x0x1), (.sl s153x0x2 n153x0x2), (.sl s153x0x3 n153x0x3), (.sl s153x0x4 n153x0x4)]), (.sl s153x1 n153x1), (.int .i64 i153x2)], r153.2)
  ) := by kernel_rfl
def k32x4 : AC := .ret
def k32x3 : AC := .seq (.mask 1) k32x4
def k32x2 : AC := .seq (.ops true [
    ⟨(some 17), .move (.tmp 4), none, []⟩,
    ⟨(some 18), .bin .other .eql (.tmp 17) (.c (.int .i64 0)), none, []⟩,
    ⟨(some 19), .move (.tmp 18), none, []⟩,
    ⟨(some 20), .move (.tmp 3), (some (19, true)), []⟩,
    ⟨(some 21), .lenSl (.tmp 20), (some (19, true)), []⟩,
    ⟨(some 22), .bin .other .eql (.tmp 21) (.c (.int .i64 1)), (some (19, true)), []⟩,
    ⟨(some 23), .pick (.tmp 19) (.tmp 22) (.c (.bool false)), none, []⟩,
    ⟨(some 24), .move (.tmp 23), none, []⟩,
    ⟨(some 25), .move (.tmp 3), (some (24, true)), []⟩,
    ⟨(some 26), .indexAddr 1 (.tmp 25) (.c (.int .i64 0)), (some (24, true)), []⟩,
    ⟨(some 27), .load (.cell (.int .i64)) (.tmp 26), (some (24, true)), []⟩,
    ⟨(some 28), .bin .other .eql (.tmp 27) (.c (.int .i64 2)), (some (24, true)), []⟩,
    ⟨(some 29), .pick (.tmp 24) (.tmp 28) (.c (.bool false)), none, []⟩,
    ⟨(some 30), .move (.tmp 29), none, []⟩,
    ⟨(some 31), .fieldAddr 0 (.tmp 2), (some (30, true)), []⟩,
    ⟨(some 32), .load (.cell .sl) (.tmp 31), (some (30, true)), []⟩,
    ⟨(some 33), .lenSl (.tmp 32), (some (30, true)), []⟩,
    ⟨(some 34), .bin .other .eql (.tmp 33) (.c (.int .i64 3)), (some (30, true)), []⟩,
    ⟨(some 35), .pick (.tmp 30) (.tmp 34) (.c (.bool false)), none, []⟩,
    ⟨(some 0), .move (.tmp 35), none, []⟩]) k32x3
def k32x1 : AC := .seq (.ops false [
    ⟨(some 10), .load (.agg [(.int .i64), .sl, .sl, .sl, (.int .i64)]) (.tmp 1), none, []⟩,
    ⟨(some 11), .buildSl [(.int .i64 0), (.sl .nil 0), (.sl .nil 0), (.sl .nil 0), (.int .i64 0)] 5 [(0, (.tmp 10))], none, []⟩,
    ⟨(some 12), .buildSl [(.int .i64 0)] 1 [(0, (.c (.int .i64 0)))], none, []⟩,
    ⟨(some 13), .call 35 [(.tmp 11), (.tmp 12), (.c (.int .i64 0)), (.c (.bool false))] [(.agg [.sl, (.int .i64), .sl, .sl, .sl]), (.cell .sl), (.cell (.int .i64))] .opq, none, []⟩,
    ⟨(some 9), .move (.tmp 13), none, []⟩,
    ⟨(some 14), .extract (.tmp 9) 0, none, []⟩,
    ⟨(some 15), .extract (.tmp 9) 1, none, []⟩,
    ⟨(some 16), .extract (.tmp 9) 2, none, []⟩,
    ⟨(some 2), .allocL [(.sl .nil 0), (.int .i64 0), (.sl .nil 0), (.sl .nil 0), (.sl .nil 0)], none, []⟩,
    ⟨none, .store 5 (.tmp 2) (.tmp 14), none, []⟩,
    ⟨(some 3), .move (.tmp 15), none, []⟩,
    ⟨(some 4), .move (.tmp 16), none, []⟩]) k32x2
def k32x0 : AC := .seq (.ops false [
    ⟨(some 5), .build [(.int .i64 0), (.int .i64 0), (.int .i64 0), (.int .i64 0), (.int .i64 0)] [(0, 1, (.c (.int .i64 22)))], none, []⟩,
    ⟨(some 6), .build (List.replicate 6 (.int .i64 0)) [(0, 5, (.tmp 5)), (5, 1, (.c (.int .i64 (-1))))], none, []⟩,
    ⟨(some 7), .buildSl (List.replicate 6 (.int .i64 0)) 6 [(0, (.tmp 6))], none, []⟩,
    ⟨(some 8), .build [(.int .i64 0), (.sl .nil 0), (.sl .nil 0), (.sl .nil 0), (.int .i64 0)] [(1, 1, (.tmp 7)), (4, 1, (.c (.int .i64 1)))], none, []⟩,
    ⟨(some 1), .allocL [(.int .i64 0), (.sl .nil 0), (.sl .nil 0), (.sl .nil 0), (.int .i64 0)], none, []⟩,
    ⟨none, .store 5 (.tmp 1) (.tmp 8), none, []⟩]) k32x1
/-- provenance/provenancekeep4.linkFact -/
def c32 : AFn := ⟨36, [.tmp 0],
  .seq (.ops false [
    ⟨(some 0), .move (.c (.bool false)), none, []⟩]) k32x0⟩
theorem r32 (h : Heap) : runE M C c32 [] h = (
  newK h (.cells [(.int .i64 22), (.int .i64 0), (.int .i64 0), (.int .i64 0), (.int .i64 0), (.int .i64 (-1))] (.grow 6) 0) fun h_2 =>
  newK h_2 (.cells [(.int .i64 0), (.sl (.pos ⟨List.length h, 0, 0⟩) 1), (.sl .nil 0), (.sl .nil 0), (.int .i64 1)] (.grow 5) 0) fun h_3 =>
  newK h_3 (.cells [(.int .i64 0)] (.grow 1) 0) fun h_4 =>
  (C 35 [(.sl (.pos ⟨List.length h_2, 0, 0⟩) 1), (.sl (.pos ⟨List.length h_3, 0, 0⟩) 1), (.int .i64 0), (.bool false)] h_4).bind fun r13 =>
  gT 3 r13.1 true fun u13 =>
  gA (List.getD u13 0 .opq) true fun l13x0 =>
  chk (true = true → l13x0.length = 5) <|
  gL (l13x0[0]?) true fun s13x0x0 n13x0x0 =>
  gI .i64 (l13x0[1]?) true fun i13x0x1 =>
  gL (l13x0[2]?) true fun s13x0x2 n13x0x2 =>
  gL (l13x0[3]?) true fun s13x0x3 n13x0x3 =>
  gL (l13x0[4]?) true fun s13x0x4 n13x0x4 =>
  gL (some (List.getD u13 1 .opq)) true fun s13x1 n13x1 =>
  gI .i64 (some (List.getD u13 2 .opq)) true fun i13x2 =>
  letK ((decide ((i13x2 : Int) = 0)) : Bool) fun b18 =>
  letK ((decide ((((n13x1 : Nat) : Int) : Int) = 1)) : Bool) fun b22 =>
  letK ((if b18 = true then b22 else false) : Bool) fun b23 =>
  chk (b23 = true → (0 : Int) ≤ 0 ∧ (0 : Int) < ((n13x1 : Nat) : Int)) <|
  atP (adP s13x1) b23 fun a26 =>
  atP (some (Ad.add a26 (Int.toNat 0 * 1))) b23 fun a27 =>
  gI .i64 (ld1 r13.2 a27) b23 fun i27 =>
  letK ((decide ((i27 : Int) = 2)) : Bool) fun b28 =>
  letK ((if b23 = true then b28 else false) : Bool) fun b29 =>
  gL (some (.sl s13x0x0 n13x0x0)) b29 fun s32 n32 =>
  letK ((decide ((((n32 : Nat) : Int) : Int) = 3)) : Bool) fun b34 =>
  letK ((if b29 = true then b34 else false) : Bool) fun b35 =>
  some ((.bool b35), r13.2)
  ) := by kernel_rfl
theorem cf32 : cFn Try.prog 32 = some c32 := by kernel_rfl
theorem e32 (h : Heap) : E 32 [] h = (
  newK h (.cells [(.int .i64 22), (.int .i64 0), (.int .i64 0), (.int .i64 0), (.int .i64 0), (.int .i64 (-1))] (.grow 6) 0) fun h_2 =>
  newK h_2 (.cells [(.int .i64 0), (.sl (.pos ⟨List.length h, 0, 0⟩) 1), (.sl .nil 0), (.sl .nil 0), (.int .i64 1)] (.grow 5) 0) fun h_3 =>
  newK h_3 (.cells [(.int .i64 0)] (.grow 1) 0) fun h_4 =>
  (E 35 [(.sl (.pos ⟨List.length h_2, 0, 0⟩) 1), (.sl (.pos ⟨List.length h_3, 0, 0⟩) 1), (.int .i64 0), (.bool false)] h_4).bind fun r13 =>
  gT 3 r13.1 true fun u13 =>
  gA (List.getD u13 0 .opq) true fun l13x0 =>
  chk (true = true → l13x0.length = 5) <|
  gL (l13x0[0]?) true fun s13x0x0 n13x0x0 =>
  gI .i64 (l13x0[1]?) true fun i13x0x1 =>
  gL (l13x0[2]?) true fun s13x0x2 n13x0x2 =>
  gL (l13x0[3]?) true fun s13x0x3 n13x0x3 =>
  gL (l13x0[4]?) true fun s13x0x4 n13x0x4 =>
  gL (some (List.getD u13 1 .opq)) true fun s13x1 n13x1 =>
  gI .i64 (some (List.getD u13 2 .opq)) true fun i13x2 =>
  letK ((decide ((i13x2 : Int) = 0)) : Bool) fun b18 =>
  letK ((decide ((((n13x1 : Nat) : Int) : Int) = 1)) : Bool) fun b22 =>
  letK ((if b18 = true then b22 else false) : Bool) fun b23 =>
  chk (b23 = true → (0 : Int) ≤ 0 ∧ (0 : Int) < ((n13x1 : Nat) : Int)) <|
  atP (adP s13x1) b23 fun a26 =>
  atP (some (Ad.add a26 (Int.toNat 0 * 1))) b23 fun a27 =>
  gI .i64 (ld1 r13.2 a27) b23 fun i27 =>
  letK ((decide ((i27 : Int) = 2)) : Bool) fun b28 =>
  letK ((if b23 = true then b28 else false) : Bool) fun b29 =>
  gL (some (.sl s13x0x0 n13x0x0)) b29 fun s32 n32 =>
  letK ((decide ((((n32 : Nat) : Int) : Int) = 3)) : Bool) fun b34 =>
  letK ((if b29 = true then b34 else false) : Bool) fun b35 =>
  some ((.bool b35), r13.2)
  ) := (EV_eq (P := Try.prog) (T := T0) rfl cf32 [] h).trans (r32 mk0 E h)
end
end Go.Proofs.Ytmfmnbldngfelaa.I
