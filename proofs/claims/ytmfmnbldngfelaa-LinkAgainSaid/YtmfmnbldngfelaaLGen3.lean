/- Parts of the proof, printed. -/
import Derived.Test.YtmfmnbldngfelaaLGen2
import Derived.KernelRfl
set_option linter.unusedVariables false
set_option maxRecDepth 100000
namespace Go.Proofs.Ytmfmnbldngfelaa.I
open Go Go.Proofs.Ytmfmnbldngfelaa.Abs Go.Proofs
section
variable {R : Type} (M : Mk) (C : Cal)
def k12x5 : AC := .ret
def k12x4 : AC := .seq (.mask 4) k12x5
def k12x3 : AC := .mask 1
def k12x2 : AC := .seq (.cond (.tmp 15)
   (.seq (.ops false [
      ⟨(some 2), .move (.c (.bool false)), none, []⟩]) k12x4)
   (.skip)) k12x3
def k12x12 : AC := .ret
def k12x11 : AC := .seq (.mask 4) k12x12
def k12x10 : AC := .mask 9
def k12x9 : AC := .seq (.cond (.tmp 27)
   (.seq (.ops false [
      ⟨(some 28), .move (.tmp 3), none, []⟩,
      ⟨(some 29), .lenSl (.tmp 28), none, []⟩,
      ⟨(some 30), .bin .other .eql (.tmp 29) (.c (.int .i64 0)), none, []⟩,
      ⟨(some 2), .move (.tmp 30), none, []⟩]) k12x11)
   (.skip)) k12x10
def k12x17 : AC := .ret
def k12x16 : AC := .seq (.mask 4) k12x17
def k12x15 : AC := .mask 9
def k12x14 : AC := .seq (.cond (.tmp 35)
   (.seq (.ops false [
      ⟨(some 2), .move (.c (.bool false)), none, []⟩]) k12x16)
   (.skip)) k12x15
def k12x27 : AC := .exit 0
def k12x26 : AC := .mask 3298534883433
def k12x35 : AC := .ret
def k12x34 : AC := .seq (.mask 4) k12x35
def k12x33 : AC := .mask 3298534883561
def k12x32 : AC := .seq (.cond (.tmp 56)
   (.seq (.ops false [
      ⟨(some 2), .move (.c (.bool false)), none, []⟩]) k12x34)
   (.skip)) k12x33
def k12x38 : AC := .ops false [
    ⟨(some 68), .move (.tmp 6), none, []⟩,
    ⟨(some 69), .move (.tmp 0), none, []⟩,
    ⟨(some 70), .move (.tmp 7), none, []⟩,
    ⟨(some 71), .indexAddr 5 (.tmp 69) (.tmp 70), none, []⟩,
    ⟨(some 72), .load (.agg [(.int .i64), .sl, .sl, .sl, (.int .i64)]) (.tmp 71), none, []⟩,
    ⟨(some 73), .buildSl [(.int .i64 0), (.sl .nil 0), (.sl .nil 0), (.sl .nil 0), (.int .i64 0)] 5 [(0, (.tmp 72))], none, []⟩,
    ⟨(some 74), .append [(.int .i64 0), (.sl .nil 0), (.sl .nil 0), (.sl .nil 0), (.int .i64 0)] 5 88 (.tmp 68) (.tmp 73), none, []⟩,
    ⟨(some 6), .move (.tmp 74), none, []⟩]
def k12x37 : AC := .join 3298534883433
def k12x36 : AC := .seq (.cond (.tmp 62)
   (.seq (.ops false [
      ⟨(some 63), .move (.tmp 5), none, []⟩,
      ⟨(some 64), .move (.tmp 7), none, []⟩,
      ⟨(some 65), .move (.tmp 6), none, []⟩,
      ⟨(some 66), .lenSl (.tmp 65), none, []⟩,
      ⟨(some 67), .indexAddr 1 (.tmp 63) (.tmp 64), none, []⟩,
      ⟨none, .store 1 (.tmp 67) (.tmp 66), none, []⟩]) k12x38)
   (.skip)) k12x37
def k12x31 : AC := .seq (.ops false [
    ⟨(some 57), .move (.tmp 3), none, []⟩,
    ⟨(some 58), .move (.tmp 7), none, []⟩,
    ⟨(some 59), .indexAddr 1 (.tmp 57) (.tmp 58), none, []⟩,
    ⟨(some 60), .load (.cell (.int .i64)) (.tmp 59), none, []⟩,
    ⟨(some 61), .move (.tmp 7), none, []⟩,
    ⟨(some 62), .bin .other .eql (.tmp 60) (.tmp 61), none, []⟩]) k12x36
def k12x30 : AC := .seq (.seq (.ops true [
    ⟨(some 44), .move (.tmp 3), none, []⟩,
    ⟨(some 45), .move (.tmp 7), none, []⟩,
    ⟨(some 46), .indexAddr 1 (.tmp 44) (.tmp 45), none, []⟩,
    ⟨(some 47), .load (.cell (.int .i64)) (.tmp 46), none, []⟩,
    ⟨(some 48), .bin .other .lss (.tmp 47) (.c (.int .i64 0)), none, []⟩,
    ⟨(some 49), .move (.tmp 48), none, []⟩,
    ⟨(some 50), .move (.tmp 3), (some (49, false)), []⟩,
    ⟨(some 51), .move (.tmp 7), (some (49, false)), []⟩,
    ⟨(some 52), .indexAddr 1 (.tmp 50) (.tmp 51), (some (49, false)), []⟩,
    ⟨(some 53), .load (.cell (.int .i64)) (.tmp 52), (some (49, false)), []⟩,
    ⟨(some 54), .move (.tmp 7), (some (49, false)), []⟩,
    ⟨(some 55), .bin .other .gtr (.tmp 53) (.tmp 54), (some (49, false)), []⟩,
    ⟨(some 56), .pick (.tmp 49) (.c (.bool true)) (.tmp 55), none, []⟩]) k12x32) k12x31
def k12x29 : AC := .mask 3298534883433
def k12x28 : AC := .ops false [
    ⟨(some 75), .bin .other .add (.tmp 41) (.c (.int .i64 1)), none, []⟩,
    ⟨(some 41), .move (.tmp 75), none, []⟩]
def k12x25 : AC := .seq (.seq (.block 1 (.seq (.ops false [
     ⟨(some 43), .move (.tmp 41), none, []⟩,
     ⟨(some 7), .move (.tmp 43), none, []⟩]) k12x30)) k12x29) k12x28
def k12x24 : AC := .seq (.seq (.cond (.tmp 42)
   (.skip)
   (.seq (.mask 104) k12x27)) k12x26) k12x25
def k12x23 : AC := .seq (.ops false [
    ⟨(some 42), .bin .other .lss (.tmp 41) (.tmp 40), none, []⟩]) k12x24
def k12x22 : AC := .mask 104
def k12x21 : AC := .seq (.block 0 (.loop 3298534883433 104 k12x23)) k12x22
def k12x47 : AC := .exit 2
def k12x46 : AC := .mask 453347182355485940514920
def k12x59 : AC := .exit 4
def k12x58 : AC := .mask 928908376646390692114858856
def k12x62 : AC := .ops false [
    ⟨(some 92), .move (.tmp 9), none, []⟩,
    ⟨(some 93), .move (.tmp 10), none, []⟩,
    ⟨(some 94), .move (.tmp 5), none, []⟩,
    ⟨(some 95), .move (.tmp 3), none, []⟩,
    ⟨(some 96), .move (.tmp 9), none, []⟩,
    ⟨(some 97), .move (.tmp 10), none, []⟩,
    ⟨(some 98), .indexAddr 2 (.tmp 96) (.tmp 97), none, []⟩,
    ⟨(some 99), .fieldAddr 1 (.tmp 98), none, []⟩,
    ⟨(some 100), .load (.cell (.int .i64)) (.tmp 99), none, []⟩,
    ⟨(some 101), .indexAddr 1 (.tmp 95) (.tmp 100), none, []⟩,
    ⟨(some 102), .load (.cell (.int .i64)) (.tmp 101), none, []⟩,
    ⟨(some 103), .indexAddr 1 (.tmp 94) (.tmp 102), none, []⟩,
    ⟨(some 104), .load (.cell (.int .i64)) (.tmp 103), none, []⟩,
    ⟨(some 105), .indexAddr 2 (.tmp 92) (.tmp 93), none, []⟩,
    ⟨(some 106), .fieldAddr 1 (.tmp 105), none, []⟩,
    ⟨none, .store 1 (.tmp 106) (.tmp 104), none, []⟩]
def k12x61 : AC := .mask 928908376646390692114858856
def k12x60 : AC := .ops false [
    ⟨(some 107), .bin .other .add (.tmp 89) (.c (.int .i64 1)), none, []⟩,
    ⟨(some 89), .move (.tmp 107), none, []⟩]
def k12x57 : AC := .seq (.seq (.block 5 (.seq (.ops false [
     ⟨(some 91), .move (.tmp 89), none, []⟩,
     ⟨(some 10), .move (.tmp 91), none, []⟩]) k12x62)) k12x61) k12x60
def k12x56 : AC := .seq (.seq (.cond (.tmp 90)
   (.skip)
   (.seq (.mask 453347182355485940515688) k12x59)) k12x58) k12x57
def k12x55 : AC := .seq (.ops false [
    ⟨(some 90), .bin .other .lss (.tmp 89) (.tmp 88), none, []⟩]) k12x56
def k12x54 : AC := .mask 453347182355485940515688
def k12x53 : AC := .seq (.block 4 (.loop 928908376646390692114858856 453347182355485940515688 k12x55)) k12x54
def k12x52 : AC := .ops false [
    ⟨(some 108), .move (.tmp 6), none, []⟩,
    ⟨(some 109), .move (.tmp 8), none, []⟩,
    ⟨(some 110), .move (.tmp 9), none, []⟩,
    ⟨(some 111), .indexAddr 5 (.tmp 108) (.tmp 109), none, []⟩,
    ⟨(some 112), .fieldAddr 2 (.tmp 111), none, []⟩,
    ⟨none, .store 1 (.tmp 112) (.tmp 110), none, []⟩]
def k12x51 : AC := .seq (.seq (.ops false [
    ⟨(some 87), .move (.tmp 9), none, []⟩,
    ⟨(some 88), .lenSl (.tmp 87), none, []⟩,
    ⟨(some 89), .move (.c (.int .i64 0)), none, []⟩]) k12x53) k12x52
def k12x50 : AC := .seq (.ops false [
    ⟨(some 81), .move (.tmp 6), none, []⟩,
    ⟨(some 82), .move (.tmp 8), none, []⟩,
    ⟨(some 83), .indexAddr 5 (.tmp 81) (.tmp 82), none, []⟩,
    ⟨(some 84), .fieldAddr 2 (.tmp 83), none, []⟩,
    ⟨(some 85), .load (.cell .sl) (.tmp 84), none, []⟩,
    ⟨(some 86), .call 34 [(.tmp 85)] [(.cell .sl)] (.sl .nil 0), none, []⟩,
    ⟨(some 9), .move (.tmp 86), none, []⟩]) k12x51
def k12x49 : AC := .mask 453347182355485940514920
def k12x48 : AC := .ops false [
    ⟨(some 113), .bin .other .add (.tmp 78) (.c (.int .i64 1)), none, []⟩,
    ⟨(some 78), .move (.tmp 113), none, []⟩]
def k12x45 : AC := .seq (.seq (.block 3 (.seq (.ops false [
     ⟨(some 80), .move (.tmp 78), none, []⟩,
     ⟨(some 8), .move (.tmp 80), none, []⟩]) k12x50)) k12x49) k12x48
def k12x44 : AC := .seq (.seq (.cond (.tmp 79)
   (.skip)
   (.seq (.mask 64) k12x47)) k12x46) k12x45
def k12x43 : AC := .seq (.ops false [
    ⟨(some 79), .bin .other .lss (.tmp 78) (.tmp 77), none, []⟩]) k12x44
def k12x42 : AC := .mask 64
def k12x41 : AC := .seq (.block 2 (.loop 453347182355485940514920 64 k12x43)) k12x42
def k12x71 : AC := .exit 6
def k12x70 : AC := .mask 4652297985247205555163324710981208144
def k12x78 : AC := .ret
def k12x77 : AC := .seq (.mask 4) k12x78
def k12x76 : AC := .mask 4652297985247205555163324710981208144
def k12x75 : AC := .seq (.cond (.tmp 128)
   (.seq (.ops false [
      ⟨(some 2), .move (.c (.bool false)), none, []⟩]) k12x77)
   (.skip)) k12x76
def k12x74 : AC := .seq (.ops false [
    ⟨(some 126), .move (.tmp 13), none, []⟩,
    ⟨(some 127), .move (.tmp 12), none, []⟩,
    ⟨(some 128), .bin .other .neq (.tmp 126) (.tmp 127), none, []⟩]) k12x75
def k12x73 : AC := .mask 4652297985247205555163324710981208144
def k12x72 : AC := .ops false [
    ⟨(some 129), .bin .other .add (.tmp 121) (.c (.int .i64 1)), none, []⟩,
    ⟨(some 121), .move (.tmp 129), none, []⟩]
def k12x69 : AC := .seq (.seq (.block 7 (.seq (.ops false [
     ⟨(some 123), .move (.tmp 121), none, []⟩,
     ⟨(some 124), .indexAddr 1 (.tmp 119) (.tmp 121), none, []⟩,
     ⟨(some 125), .load (.cell (.int .i64)) (.tmp 124), none, []⟩,
     ⟨(some 12), .move (.tmp 123), none, []⟩,
     ⟨(some 13), .move (.tmp 125), none, []⟩]) k12x74)) k12x73) k12x72
def k12x68 : AC := .seq (.seq (.cond (.tmp 122)
   (.skip)
   (.seq (.mask 2128) k12x71)) k12x70) k12x69
def k12x67 : AC := .seq (.ops false [
    ⟨(some 122), .bin .other .lss (.tmp 121) (.tmp 120), none, []⟩]) k12x68
def k12x66 : AC := .mask 2128
def k12x65 : AC := .seq (.block 6 (.loop 4652297985247205555163324710981208144 2128 k12x67)) k12x66
def k12x80 : AC := .ret
def k12x79 : AC := .seq (.mask 4) k12x80
def k12x64 : AC := .seq (.ops true [
    ⟨(some 130), .move (.tmp 4), none, []⟩,
    ⟨(some 131), .bin .other .eql (.tmp 130) (.c (.int .i64 0)), none, []⟩,
    ⟨(some 132), .move (.tmp 131), none, []⟩,
    ⟨(some 133), .move (.tmp 11), (some (132, true)), []⟩,
    ⟨(some 134), .lenSl (.tmp 133), (some (132, true)), []⟩,
    ⟨(some 135), .move (.tmp 6), (some (132, true)), []⟩,
    ⟨(some 136), .lenSl (.tmp 135), (some (132, true)), []⟩,
    ⟨(some 137), .bin .other .eql (.tmp 134) (.tmp 136), (some (132, true)), []⟩,
    ⟨(some 138), .pick (.tmp 132) (.tmp 137) (.c (.bool false)), none, []⟩,
    ⟨(some 2), .move (.tmp 138), none, []⟩]) k12x79
def k12x63 : AC := .seq (.seq (.ops false [
    ⟨(some 119), .move (.tmp 11), none, []⟩,
    ⟨(some 120), .lenSl (.tmp 119), none, []⟩,
    ⟨(some 121), .move (.c (.int .i64 0)), none, []⟩]) k12x65) k12x64
def k12x40 : AC := .seq (.ops false [
    ⟨(some 115), .move (.tmp 6), none, []⟩,
    ⟨(some 116), .call 33 [(.tmp 115)] [(.cell .sl), (.cell (.int .i64))] .opq, none, []⟩,
    ⟨(some 114), .move (.tmp 116), none, []⟩,
    ⟨(some 117), .extract (.tmp 114) 0, none, []⟩,
    ⟨(some 118), .extract (.tmp 114) 1, none, []⟩,
    ⟨(some 11), .move (.tmp 117), none, []⟩,
    ⟨(some 4), .move (.tmp 118), none, []⟩]) k12x63
def k12x20 : AC := .seq (.seq (.ops false [
    ⟨(some 76), .move (.tmp 6), none, []⟩,
    ⟨(some 77), .lenSl (.tmp 76), none, []⟩,
    ⟨(some 78), .move (.c (.int .i64 0)), none, []⟩]) k12x41) k12x40
def k12x19 : AC := .seq (.seq (.ops false [
    ⟨(some 39), .move (.tmp 0), none, []⟩,
    ⟨(some 40), .lenSl (.tmp 39), none, []⟩,
    ⟨(some 41), .move (.c (.int .i64 0)), none, []⟩]) k12x21) k12x20
def k12x18 : AC := .seq (.ops false [
    ⟨(some 6), .move (.c (.sl .nil 0)), none, []⟩]) k12x19
def k12x13 : AC := .seq (.ops false [
    ⟨(some 36), .move (.tmp 0), none, []⟩,
    ⟨(some 37), .lenSl (.tmp 36), none, []⟩,
    ⟨(some 38), .makeSl [(.int .i64 0)] 8 (.tmp 37) (.tmp 37), none, []⟩,
    ⟨(some 5), .move (.tmp 38), none, []⟩]) k12x18
def k12x8 : AC := .seq (.seq (.ops false [
    ⟨(some 31), .move (.tmp 3), none, []⟩,
    ⟨(some 32), .lenSl (.tmp 31), none, []⟩,
    ⟨(some 33), .move (.tmp 0), none, []⟩,
    ⟨(some 34), .lenSl (.tmp 33), none, []⟩,
    ⟨(some 35), .bin .other .neq (.tmp 32) (.tmp 34), none, []⟩]) k12x14) k12x13
def k12x7 : AC := .seq (.seq (.ops false [
    ⟨(some 26), .move (.tmp 4), none, []⟩,
    ⟨(some 27), .bin .other .neq (.tmp 26) (.c (.int .i64 0)), none, []⟩]) k12x9) k12x8
def k12x6 : AC := .seq (.ops false [
    ⟨(some 22), .move (.tmp 0), none, []⟩,
    ⟨(some 23), .call 33 [(.tmp 22)] [(.cell .sl), (.cell (.int .i64))] .opq, none, []⟩,
    ⟨(some 21), .move (.tmp 23), none, []⟩,
    ⟨(some 24), .extract (.tmp 21) 0, none, []⟩,
    ⟨(some 25), .extract (.tmp 21) 1, none, []⟩,
    ⟨(some 3), .move (.tmp 24), none, []⟩,
    ⟨(some 4), .move (.tmp 25), none, []⟩]) k12x7
def k12x1 : AC := .seq (.ops false [
    ⟨(some 16), .move (.tmp 0), none, []⟩,
    ⟨(some 17), .move (.tmp 0), none, []⟩,
    ⟨(some 18), .lenSl (.tmp 17), none, []⟩,
    ⟨(some 19), .mm false [(.tmp 18), (.c (.int .i64 12))], none, []⟩,
    ⟨(some 20), .slice 5 (.tmp 16) none (some (.tmp 19)), none, []⟩,
    ⟨(some 0), .move (.tmp 20), none, []⟩]) k12x6
def k12x0 : AC := .seq (.seq (.ops false [
    ⟨(some 14), .call 32 [] [(.cell .bool)] (.bool false), none, []⟩,
    ⟨(some 15), .un .not (.tmp 14), none, []⟩]) k12x2) k12x1
/-- provenance/provenancekeep4.LinkAgain -/
def c12 : AFn := ⟨139, [.tmp 2],
  .seq (.ops false [
    ⟨(some 2), .move (.c (.bool false)), none, []⟩]) k12x0⟩
def S12xr (b2 : Bool) (h : Heap) : St := ⟨(.any :: .any :: (.g [] true (.bool b2) :: (rep 136 []))), h⟩
def S12xe0 (s3 : SA) (n3 : Nat) (s5 : SA) (n5 : Nat) (s6 : SA) (n6 : Nat) (h : Heap) : St := ⟨(rep 3 (.g [] true (.sl s3 n3) :: (.any :: (.g [] true (.sl s5 n5) :: (.g [] true (.sl s6 n6) :: (rep 132 [])))))), h⟩
def S12xe2 (s6 : SA) (n6 : Nat) (h : Heap) : St := ⟨(rep 6 (.g [] true (.sl s6 n6) :: (rep 132 []))), h⟩
def S12xe4 (s3 : SA) (n3 : Nat) (s5 : SA) (n5 : Nat) (s6 : SA) (n6 : Nat) (i8 : Int) (s9 : SA) (n9 : Nat) (i77 : Int) (i78 : Int) (h : Heap) : St := ⟨(rep 3 (.g [] true (.sl s3 n3) :: (.any :: (.g [] true (.sl s5 n5) :: (.g [] true (.sl s6 n6) :: (.any :: (.g [] true (.int .i64 i8) :: (.g [] true (.sl s9 n9) :: (rep 67 (.g [] true (.int .i64 i77) :: (.g [] true (.int .i64 i78) :: (rep 60 [])))))))))))), h⟩
def S12xe6 (i4 : Int) (s6 : SA) (n6 : Nat) (s11 : SA) (n11 : Nat) (h : Heap) : St := ⟨(rep 4 (.g [] true (.int .i64 i4) :: (.any :: (.g [] true (.sl s6 n6) :: (rep 4 (.g [] true (.sl s11 n11) :: (rep 127 []))))))), h⟩
noncomputable def Q12x23 (M : Mk) (C : Cal) : Kont (AV × Heap) := (blockQ 0 (seqQ (evalE M C k12x22) (seqQ (evalE M C k12x20) (endQ [.tmp 2]))))
noncomputable def L12x23 (s0 : SA) (n0 : Nat) (s3 : SA) (n3 : Nat) (s5 : SA) (n5 : Nat) (s6 : SA) (n6 : Nat) (i40 : Int) (i41 : Int) (h : Heap) (Q : Kont R) : Option R := loopE (evalE M C k12x23) 3298534883433 104 ⟨(.g [] true (.sl s0 n0) :: (.any :: .any :: (.g [] true (.sl s3 n3) :: (.any :: (.g [] true (.sl s5 n5) :: (.g [] true (.sl s6 n6) :: (rep 33 (.g [] true (.int .i64 i40) :: (.g [] true (.int .i64 i41) :: (rep 97 [])))))))))), h⟩ Q
noncomputable def J12x39 (M : Mk) (C : Cal) (s0 : SA) (n0 : Nat) (s3 : SA) (n3 : Nat) (s5 : SA) (n5 : Nat) (s6 : SA) (n6 : Nat) (i40 : Int) (i41 : Int) (h : Heap) (Q : Kont R) : Option R := M R (blockQ 1 (seqQ (evalE M C k12x29) (seqQ (evalE M C k12x28) (roundQ M C k12x23 3298534883433 104 Q)))) (.g [] true (.sl s0 n0) :: (.any :: .any :: (.g [] true (.sl s3 n3) :: (.any :: (.g [] true (.sl s5 n5) :: (.g [] true (.sl s6 n6) :: (rep 33 (.g [] true (.int .i64 i40) :: (.g [] true (.int .i64 i41) :: (rep 97 [])))))))))) h
noncomputable def Q12x43 (M : Mk) (C : Cal) : Kont (AV × Heap) := (blockQ 2 (seqQ (evalE M C k12x42) (seqQ (evalE M C k12x40) (endQ [.tmp 2]))))
noncomputable def L12x43 (s3 : SA) (n3 : Nat) (s5 : SA) (n5 : Nat) (s6 : SA) (n6 : Nat) (i77 : Int) (i78 : Int) (h : Heap) (Q : Kont R) : Option R := loopE (evalE M C k12x43) 453347182355485940514920 64 ⟨(rep 3 (.g [] true (.sl s3 n3) :: (.any :: (.g [] true (.sl s5 n5) :: (.g [] true (.sl s6 n6) :: (rep 70 (.g [] true (.int .i64 i77) :: (.g [] true (.int .i64 i78) :: (rep 60 []))))))))), h⟩ Q
noncomputable def Q12x55 (M : Mk) (C : Cal) (Q : Kont R) : Kont R := (blockQ 4 (seqQ (evalE M C k12x54) (seqQ (evalE M C k12x52) (blockQ 3 (seqQ (evalE M C k12x49) (seqQ (evalE M C k12x48) (roundQ M C k12x43 453347182355485940514920 64 Q)))))))
noncomputable def L12x55 (s3 : SA) (n3 : Nat) (s5 : SA) (n5 : Nat) (s6 : SA) (n6 : Nat) (i8 : Int) (s9 : SA) (n9 : Nat) (i77 : Int) (i78 : Int) (i88 : Int) (i89 : Int) (h : Heap) (Q : Kont R) : Option R := loopE (evalE M C k12x55) 928908376646390692114858856 453347182355485940515688 ⟨(rep 3 (.g [] true (.sl s3 n3) :: (.any :: (.g [] true (.sl s5 n5) :: (.g [] true (.sl s6 n6) :: (.any :: (.g [] true (.int .i64 i8) :: (.g [] true (.sl s9 n9) :: (rep 67 (.g [] true (.int .i64 i77) :: (.g [] true (.int .i64 i78) :: (rep 9 (.g [] true (.int .i64 i88) :: (.g [] true (.int .i64 i89) :: (rep 49 []))))))))))))))), h⟩ Q
noncomputable def Q12x67 (M : Mk) (C : Cal) : Kont (AV × Heap) := (blockQ 6 (seqQ (evalE M C k12x66) (seqQ (evalE M C k12x64) (endQ [.tmp 2]))))
noncomputable def L12x67 (i4 : Int) (s6 : SA) (n6 : Nat) (s11 : SA) (n11 : Nat) (s119 : SA) (n119 : Nat) (i120 : Int) (i121 : Int) (h : Heap) (Q : Kont R) : Option R := loopE (evalE M C k12x67) 4652297985247205555163324710981208144 2128 ⟨(rep 4 (.g [] true (.int .i64 i4) :: (.any :: (.g [] true (.sl s6 n6) :: (rep 4 (.g [] true (.sl s11 n11) :: (rep 107 (.g [] true (.sl s119 n119) :: (.g [] true (.int .i64 i120) :: (.g [] true (.int .i64 i121) :: (rep 17 []))))))))))), h⟩ Q
theorem r12 (s0 : SA) (n0 : Nat) (h : Heap) : runE M C c12 [(.sl s0 n0)] h = (
  (C 32 [] h).bind fun r14 =>
  gB (some r14.1) true fun b14 =>
  if (!b14) = true then
    (
    some ((.bool false), r14.2)
    )
  else
    (
    letK ((foldMM false ((n0 : Nat) : Int) [12]) : Int) fun i19 =>
    chkC (true = true → (0 : Int) ≤ i19 ∧ hiOk r14.2 s0 n0 5 i19) <|
    letK ((Int.toNat i19) : Nat) fun n20 =>
    (C 33 [(.sl s0 n20)] r14.2).bind fun r23 =>
    gT 2 r23.1 true fun u23 =>
    gL (some (List.getD u23 0 .opq)) true fun s23x0 n23x0 =>
    gI .i64 (some (List.getD u23 1 .opq)) true fun i23x1 =>
    letK ((!decide ((i23x1 : Int) = 0)) : Bool) fun b27 =>
    if b27 = true then
      (
      letK ((decide ((((n23x0 : Nat) : Int) : Int) = 0)) : Bool) fun b30 =>
      some ((.bool b30), r23.2)
      )
    else
      (
      letK ((!decide ((((n23x0 : Nat) : Int) : Int) = ((n20 : Nat) : Int))) : Bool) fun b35 =>
      if b35 = true then
        (
        some ((.bool false), r23.2)
        )
      else
        (
        chk ((0 : Int) ≤ ((n20 : Nat) : Int) ∧ (((n20 : Nat) : Int) : Int) ≤ ((n20 : Nat) : Int) ∧ ((n20 : Nat) : Int) * ((8 : Nat) : Int) ≤ 70368744177664) <|
        newK r23.2 (.cells (repl (Int.toNat ((n20 : Nat) : Int)) [(.int .i64 0)]) (.grow 1) 0) fun h_2 =>
        letK ((Int.toNat ((n20 : Nat) : Int)) : Nat) fun n38 =>
        L12x23 M C s0 n20 s23x0 n23x0 (.pos ⟨List.length r23.2, 0, 0⟩) n38 .nil 0 ((n20 : Nat) : Int) 0 h_2 (Q12x23 M C)
        )
      )
    )
  ) := by kernel_rfl
theorem cf12 : cFn Try.prog 12 = some c12 := by kernel_rfl
theorem e12 (s0 : SA) (n0 : Nat) (h : Heap) : E 12 [(.sl s0 n0)] h = (
  (E 32 [] h).bind fun r14 =>
  gB (some r14.1) true fun b14 =>
  if (!b14) = true then
    (
    some ((.bool false), r14.2)
    )
  else
    (
    letK ((foldMM false ((n0 : Nat) : Int) [12]) : Int) fun i19 =>
    chkC (true = true → (0 : Int) ≤ i19 ∧ hiOk r14.2 s0 n0 5 i19) <|
    letK ((Int.toNat i19) : Nat) fun n20 =>
    (E 33 [(.sl s0 n20)] r14.2).bind fun r23 =>
    gT 2 r23.1 true fun u23 =>
    gL (some (List.getD u23 0 .opq)) true fun s23x0 n23x0 =>
    gI .i64 (some (List.getD u23 1 .opq)) true fun i23x1 =>
    letK ((!decide ((i23x1 : Int) = 0)) : Bool) fun b27 =>
    if b27 = true then
      (
      letK ((decide ((((n23x0 : Nat) : Int) : Int) = 0)) : Bool) fun b30 =>
      some ((.bool b30), r23.2)
      )
    else
      (
      letK ((!decide ((((n23x0 : Nat) : Int) : Int) = ((n20 : Nat) : Int))) : Bool) fun b35 =>
      if b35 = true then
        (
        some ((.bool false), r23.2)
        )
      else
        (
        chk ((0 : Int) ≤ ((n20 : Nat) : Int) ∧ (((n20 : Nat) : Int) : Int) ≤ ((n20 : Nat) : Int) ∧ ((n20 : Nat) : Int) * ((8 : Nat) : Int) ≤ 70368744177664) <|
        newK r23.2 (.cells (repl (Int.toNat ((n20 : Nat) : Int)) [(.int .i64 0)]) (.grow 1) 0) fun h_2 =>
        letK ((Int.toNat ((n20 : Nat) : Int)) : Nat) fun n38 =>
        L12x23 mk0 E s0 n20 s23x0 n23x0 (.pos ⟨List.length r23.2, 0, 0⟩) n38 .nil 0 ((n20 : Nat) : Int) 0 h_2 (Q12x23 mk0 E)
        )
      )
    )
  ) := (EV_eq (P := Try.prog) (T := T0) rfl cf12 [(.sl s0 n0)] h).trans (r12 mk0 E s0 n0 h)
theorem L12x23xaux (s0 : SA) (n0 : Nat) (s3 : SA) (n3 : Nat) (s5 : SA) (n5 : Nat) (s6 : SA) (n6 : Nat) (i40 : Int) (i41 : Int) (h : Heap) (Q : Kont R) : (restrF 3298534883433 ⟨(.g [] true (.sl s0 n0) :: (.any :: .any :: (.g [] true (.sl s3 n3) :: (.any :: (.g [] true (.sl s5 n5) :: (.g [] true (.sl s6 n6) :: (rep 33 (.g [] true (.int .i64 i40) :: (.g [] true (.int .i64 i41) :: (rep 97 [])))))))))), h⟩ fun σ => evalE M C k12x23 σ (roundQ M C k12x23 3298534883433 104 Q)) = (
  letK ((decide ((i41 : Int) < i40)) : Bool) fun b42 =>
  if b42 = true then
    (
    chk (true = true → (0 : Int) ≤ i41 ∧ (i41 : Int) < ((n3 : Nat) : Int)) <|
    atP (adP s3) true fun a46 =>
    gI .i64 (ld1 h (Ad.add a46 (Int.toNat i41 * 1))) true fun i47 =>
    letK ((decide ((i47 : Int) < 0)) : Bool) fun b48 =>
    chk ((!b48) = true → (0 : Int) ≤ i41 ∧ (i41 : Int) < ((n3 : Nat) : Int)) <|
    atP (adP s3) (!b48) fun a52 =>
    atP (some (Ad.add a52 (Int.toNat i41 * 1))) (!b48) fun a53 =>
    gI .i64 (ld1 h a53) (!b48) fun i53 =>
    letK ((decide ((i41 : Int) < i53)) : Bool) fun b55 =>
    letK ((if b48 = true then true else b55) : Bool) fun b56 =>
    if b56 = true then
      (
      Q .ret (S12xr false h)
      )
    else
      (
      chk (true = true → (0 : Int) ≤ i41 ∧ (i41 : Int) < ((n3 : Nat) : Int)) <|
      atP (adP s3) true fun a59 =>
      gI .i64 (ld1 h (Ad.add a59 (Int.toNat i41 * 1))) true fun i60 =>
      letK ((decide ((i60 : Int) = i41)) : Bool) fun b62 =>
      if b62 = true then
        (
        chk (true = true → (0 : Int) ≤ i41 ∧ (i41 : Int) < ((n5 : Nat) : Int)) <|
        atP (adP s5) true fun a67 =>
        (st1 h (Ad.add a67 (Int.toNat i41 * 1)) (.int .i64 ((n6 : Nat) : Int))).bind fun h_2 =>
        chk (true = true → (0 : Int) ≤ i41 ∧ (i41 : Int) < ((n0 : Nat) : Int)) <|
        atP (adP s0) true fun a71 =>
        gCells (ldN h_2 (Ad.add a71 (Int.toNat i41 * 5)) 5) true fun l72 =>
        gI .i64 (l72[0]?) true fun i72x0 =>
        gL (l72[1]?) true fun s72x1 n72x1 =>
        gL (l72[2]?) true fun s72x2 n72x2 =>
        gL (l72[3]?) true fun s72x3 n72x3 =>
        gI .i64 (l72[4]?) true fun i72x4 =>
        newK h_2 (.cells [(.int .i64 i72x0), (.sl s72x1 n72x1), (.sl s72x2 n72x2), (.sl s72x3 n72x3), (.int .i64 i72x4)] (.grow 5) 0) fun h_3 =>
        (ldSl h_3 (.pos ⟨List.length h_2, 0, 0⟩) (1 * 5)).bind fun y74 =>
        (apnd h_3 (.sl s6 n6) 5 88 y74 1).bind fun r74 =>
        gL (some r74.1) true fun s74 n74 =>
        J12x39 M C s0 n0 s3 n3 s5 n5 s74 n74 i40 i41 r74.2 Q
        )
      else
        (
        J12x39 M C s0 n0 s3 n3 s5 n5 s6 n6 i40 i41 h Q
        )
      )
    )
  else
    (
    Q (.exit 0) (S12xe0 s3 n3 s5 n5 s6 n6 h)
    )
  ) := by kernel_rfl
theorem L12x23xeq (s0 : SA) (n0 : Nat) (s3 : SA) (n3 : Nat) (s5 : SA) (n5 : Nat) (s6 : SA) (n6 : Nat) (i40 : Int) (i41 : Int) (h : Heap) (Q : Kont R) : L12x23 mk0 C s0 n0 s3 n3 s5 n5 s6 n6 i40 i41 h Q = (
  letK ((decide ((i41 : Int) < i40)) : Bool) fun b42 =>
  if b42 = true then
    (
    chk (true = true → (0 : Int) ≤ i41 ∧ (i41 : Int) < ((n3 : Nat) : Int)) <|
    atP (adP s3) true fun a46 =>
    gI .i64 (ld1 h (Ad.add a46 (Int.toNat i41 * 1))) true fun i47 =>
    letK ((decide ((i47 : Int) < 0)) : Bool) fun b48 =>
    chk ((!b48) = true → (0 : Int) ≤ i41 ∧ (i41 : Int) < ((n3 : Nat) : Int)) <|
    atP (adP s3) (!b48) fun a52 =>
    atP (some (Ad.add a52 (Int.toNat i41 * 1))) (!b48) fun a53 =>
    gI .i64 (ld1 h a53) (!b48) fun i53 =>
    letK ((decide ((i41 : Int) < i53)) : Bool) fun b55 =>
    letK ((if b48 = true then true else b55) : Bool) fun b56 =>
    if b56 = true then
      (
      Q .ret (S12xr false h)
      )
    else
      (
      chk (true = true → (0 : Int) ≤ i41 ∧ (i41 : Int) < ((n3 : Nat) : Int)) <|
      atP (adP s3) true fun a59 =>
      gI .i64 (ld1 h (Ad.add a59 (Int.toNat i41 * 1))) true fun i60 =>
      letK ((decide ((i60 : Int) = i41)) : Bool) fun b62 =>
      if b62 = true then
        (
        chk (true = true → (0 : Int) ≤ i41 ∧ (i41 : Int) < ((n5 : Nat) : Int)) <|
        atP (adP s5) true fun a67 =>
        (st1 h (Ad.add a67 (Int.toNat i41 * 1)) (.int .i64 ((n6 : Nat) : Int))).bind fun h_2 =>
        chk (true = true → (0 : Int) ≤ i41 ∧ (i41 : Int) < ((n0 : Nat) : Int)) <|
        atP (adP s0) true fun a71 =>
        gCells (ldN h_2 (Ad.add a71 (Int.toNat i41 * 5)) 5) true fun l72 =>
        gI .i64 (l72[0]?) true fun i72x0 =>
        gL (l72[1]?) true fun s72x1 n72x1 =>
        gL (l72[2]?) true fun s72x2 n72x2 =>
        gL (l72[3]?) true fun s72x3 n72x3 =>
        gI .i64 (l72[4]?) true fun i72x4 =>
        newK h_2 (.cells [(.int .i64 i72x0), (.sl s72x1 n72x1), (.sl s72x2 n72x2), (.sl s72x3 n72x3), (.int .i64 i72x4)] (.grow 5) 0) fun h_3 =>
        (ldSl h_3 (.pos ⟨List.length h_2, 0, 0⟩) (1 * 5)).bind fun y74 =>
        (apnd h_3 (.sl s6 n6) 5 88 y74 1).bind fun r74 =>
        gL (some r74.1) true fun s74 n74 =>
        J12x39 mk0 C s0 n0 s3 n3 s5 n5 s74 n74 i40 i41 r74.2 Q
        )
      else
        (
        J12x39 mk0 C s0 n0 s3 n3 s5 n5 s6 n6 i40 i41 h Q
        )
      )
    )
  else
    (
    Q (.exit 0) (S12xe0 s3 n3 s5 n5 s6 n6 h)
    )
  ) := loop_eqn C k12x23 3298534883433 104 (.g [] true (.sl s0 n0) :: (.any :: .any :: (.g [] true (.sl s3 n3) :: (.any :: (.g [] true (.sl s5 n5) :: (.g [] true (.sl s6 n6) :: (rep 33 (.g [] true (.int .i64 i40) :: (.g [] true (.int .i64 i41) :: (rep 97 [])))))))))) h Q (by kernel_rfl) (L12x23xaux mk0 C s0 n0 s3 n3 s5 n5 s6 n6 i40 i41 h Q)
theorem J12x39xaux (M : Mk) (C : Cal) (s0 : SA) (n0 : Nat) (s3 : SA) (n3 : Nat) (s5 : SA) (n5 : Nat) (s6 : SA) (n6 : Nat) (i40 : Int) (i41 : Int) (h : Heap) (Q : Kont R) : (forceK tk (.g [] true (.sl s0 n0) :: (.any :: .any :: (.g [] true (.sl s3 n3) :: (.any :: (.g [] true (.sl s5 n5) :: (.g [] true (.sl s6 n6) :: (rep 33 (.g [] true (.int .i64 i40) :: (.g [] true (.int .i64 i41) :: (rep 97 [])))))))))) fun e => (blockQ 1 (seqQ (evalE M C k12x29) (seqQ (evalE M C k12x28) (roundQ M C k12x23 3298534883433 104 Q)))) .normal ⟨e, h⟩) = (
  letK ((IntKind.wrap .i64 (i41 + 1)) : Int) fun i75 =>
  L12x23 M C s0 n0 s3 n3 s5 n5 s6 n6 i40 i75 h Q
  ) := by kernel_rfl
theorem J12x39xeq (C : Cal) (s0 : SA) (n0 : Nat) (s3 : SA) (n3 : Nat) (s5 : SA) (n5 : Nat) (s6 : SA) (n6 : Nat) (i40 : Int) (i41 : Int) (h : Heap) (Q : Kont R) : J12x39 mk0 C s0 n0 s3 n3 s5 n5 s6 n6 i40 i41 h Q = (
  letK ((IntKind.wrap .i64 (i41 + 1)) : Int) fun i75 =>
  L12x23 mk0 C s0 n0 s3 n3 s5 n5 s6 n6 i40 i75 h Q
  ) := join_eqn (blockQ 1 (seqQ (evalE mk0 C k12x29) (seqQ (evalE mk0 C k12x28) (roundQ mk0 C k12x23 3298534883433 104 Q)))) (.g [] true (.sl s0 n0) :: (.any :: .any :: (.g [] true (.sl s3 n3) :: (.any :: (.g [] true (.sl s5 n5) :: (.g [] true (.sl s6 n6) :: (rep 33 (.g [] true (.int .i64 i40) :: (.g [] true (.int .i64 i41) :: (rep 97 [])))))))))) h (J12x39xaux mk0 C s0 n0 s3 n3 s5 n5 s6 n6 i40 i41 h Q)
theorem X12x23xr (M : Mk) (C : Cal) (b2 : Bool) (h : Heap) : Q12x23 M C .ret (S12xr b2 h) = (
  some ((.bool b2), h)
  ) := by kernel_rfl
theorem X12x23xe0 (M : Mk) (C : Cal) (s3 : SA) (n3 : Nat) (s5 : SA) (n5 : Nat) (s6 : SA) (n6 : Nat) (h : Heap) : Q12x23 M C (.exit 0) (S12xe0 s3 n3 s5 n5 s6 n6 h) = (
  L12x43 M C s3 n3 s5 n5 s6 n6 ((n6 : Nat) : Int) 0 h (Q12x43 M C)
  ) := by kernel_rfl
theorem L12x43xaux (s3 : SA) (n3 : Nat) (s5 : SA) (n5 : Nat) (s6 : SA) (n6 : Nat) (i77 : Int) (i78 : Int) (h : Heap) (Q : Kont R) : (restrF 453347182355485940514920 ⟨(rep 3 (.g [] true (.sl s3 n3) :: (.any :: (.g [] true (.sl s5 n5) :: (.g [] true (.sl s6 n6) :: (rep 70 (.g [] true (.int .i64 i77) :: (.g [] true (.int .i64 i78) :: (rep 60 []))))))))), h⟩ fun σ => evalE M C k12x43 σ (roundQ M C k12x43 453347182355485940514920 64 Q)) = (
  letK ((decide ((i78 : Int) < i77)) : Bool) fun b79 =>
  if b79 = true then
    (
    chk (true = true → (0 : Int) ≤ i78 ∧ (i78 : Int) < ((n6 : Nat) : Int)) <|
    atP (adP s6) true fun a83 =>
    gL (ld1 h (Ad.add (Ad.add a83 (Int.toNat i78 * 5)) 2)) true fun s85 n85 =>
    (C 34 [(.sl s85 n85)] h).bind fun r86 =>
    gL (some r86.1) true fun s86 n86 =>
    L12x55 M C s3 n3 s5 n5 s6 n6 i78 s86 n86 i77 i78 ((n86 : Nat) : Int) 0 r86.2 (Q12x55 M C Q)
    )
  else
    (
    Q (.exit 2) (S12xe2 s6 n6 h)
    )
  ) := by kernel_rfl
theorem L12x43xeq (s3 : SA) (n3 : Nat) (s5 : SA) (n5 : Nat) (s6 : SA) (n6 : Nat) (i77 : Int) (i78 : Int) (h : Heap) (Q : Kont R) : L12x43 mk0 C s3 n3 s5 n5 s6 n6 i77 i78 h Q = (
  letK ((decide ((i78 : Int) < i77)) : Bool) fun b79 =>
  if b79 = true then
    (
    chk (true = true → (0 : Int) ≤ i78 ∧ (i78 : Int) < ((n6 : Nat) : Int)) <|
    atP (adP s6) true fun a83 =>
    gL (ld1 h (Ad.add (Ad.add a83 (Int.toNat i78 * 5)) 2)) true fun s85 n85 =>
    (C 34 [(.sl s85 n85)] h).bind fun r86 =>
    gL (some r86.1) true fun s86 n86 =>
    L12x55 mk0 C s3 n3 s5 n5 s6 n6 i78 s86 n86 i77 i78 ((n86 : Nat) : Int) 0 r86.2 (Q12x55 mk0 C Q)
    )
  else
    (
    Q (.exit 2) (S12xe2 s6 n6 h)
    )
  ) := loop_eqn C k12x43 453347182355485940514920 64 (rep 3 (.g [] true (.sl s3 n3) :: (.any :: (.g [] true (.sl s5 n5) :: (.g [] true (.sl s6 n6) :: (rep 70 (.g [] true (.int .i64 i77) :: (.g [] true (.int .i64 i78) :: (rep 60 []))))))))) h Q (by kernel_rfl) (L12x43xaux mk0 C s3 n3 s5 n5 s6 n6 i77 i78 h Q)
theorem L12x55xaux (s3 : SA) (n3 : Nat) (s5 : SA) (n5 : Nat) (s6 : SA) (n6 : Nat) (i8 : Int) (s9 : SA) (n9 : Nat) (i77 : Int) (i78 : Int) (i88 : Int) (i89 : Int) (h : Heap) (Q : Kont R) : (restrF 928908376646390692114858856 ⟨(rep 3 (.g [] true (.sl s3 n3) :: (.any :: (.g [] true (.sl s5 n5) :: (.g [] true (.sl s6 n6) :: (.any :: (.g [] true (.int .i64 i8) :: (.g [] true (.sl s9 n9) :: (rep 67 (.g [] true (.int .i64 i77) :: (.g [] true (.int .i64 i78) :: (rep 9 (.g [] true (.int .i64 i88) :: (.g [] true (.int .i64 i89) :: (rep 49 []))))))))))))))), h⟩ fun σ => evalE M C k12x55 σ (roundQ M C k12x55 928908376646390692114858856 453347182355485940515688 Q)) = (
  letK ((decide ((i89 : Int) < i88)) : Bool) fun b90 =>
  if b90 = true then
    (
    chk (true = true → (0 : Int) ≤ i89 ∧ (i89 : Int) < ((n9 : Nat) : Int)) <|
    atP (adP s9) true fun a98 =>
    gI .i64 (ld1 h (Ad.add (Ad.add a98 (Int.toNat i89 * 2)) 1)) true fun i100 =>
    chk (true = true → (0 : Int) ≤ i100 ∧ (i100 : Int) < ((n3 : Nat) : Int)) <|
    atP (adP s3) true fun a101 =>
    gI .i64 (ld1 h (Ad.add a101 (Int.toNat i100 * 1))) true fun i102 =>
    chk (true = true → (0 : Int) ≤ i102 ∧ (i102 : Int) < ((n5 : Nat) : Int)) <|
    atP (adP s5) true fun a103 =>
    gI .i64 (ld1 h (Ad.add a103 (Int.toNat i102 * 1))) true fun i104 =>
    chk (true = true → (0 : Int) ≤ i89 ∧ (i89 : Int) < ((n9 : Nat) : Int)) <|
    atP (adP s9) true fun a105 =>
    (st1 h (Ad.add (Ad.add a105 (Int.toNat i89 * 2)) 1) (.int .i64 i104)).bind fun h_2 =>
    letK ((IntKind.wrap .i64 (i89 + 1)) : Int) fun i107 =>
    L12x55 M C s3 n3 s5 n5 s6 n6 i8 s9 n9 i77 i78 i88 i107 h_2 Q
    )
  else
    (
    Q (.exit 4) (S12xe4 s3 n3 s5 n5 s6 n6 i8 s9 n9 i77 i78 h)
    )
  ) := by kernel_rfl
theorem L12x55xeq (s3 : SA) (n3 : Nat) (s5 : SA) (n5 : Nat) (s6 : SA) (n6 : Nat) (i8 : Int) (s9 : SA) (n9 : Nat) (i77 : Int) (i78 : Int) (i88 : Int) (i89 : Int) (h : Heap) (Q : Kont R) : L12x55 mk0 C s3 n3 s5 n5 s6 n6 i8 s9 n9 i77 i78 i88 i89 h Q = (
  letK ((decide ((i89 : Int) < i88)) : Bool) fun b90 =>
  if b90 = true then
    (
    chk (true = true → (0 : Int) ≤ i89 ∧ (i89 : Int) < ((n9 : Nat) : Int)) <|
    atP (adP s9) true fun a98 =>
    gI .i64 (ld1 h (Ad.add (Ad.add a98 (Int.toNat i89 * 2)) 1)) true fun i100 =>
    chk (true = true → (0 : Int) ≤ i100 ∧ (i100 : Int) < ((n3 : Nat) : Int)) <|
    atP (adP s3) true fun a101 =>
    gI .i64 (ld1 h (Ad.add a101 (Int.toNat i100 * 1))) true fun i102 =>
    chk (true = true → (0 : Int) ≤ i102 ∧ (i102 : Int) < ((n5 : Nat) : Int)) <|
    atP (adP s5) true fun a103 =>
    gI .i64 (ld1 h (Ad.add a103 (Int.toNat i102 * 1))) true fun i104 =>
    chk (true = true → (0 : Int) ≤ i89 ∧ (i89 : Int) < ((n9 : Nat) : Int)) <|
    atP (adP s9) true fun a105 =>
    (st1 h (Ad.add (Ad.add a105 (Int.toNat i89 * 2)) 1) (.int .i64 i104)).bind fun h_2 =>
    letK ((IntKind.wrap .i64 (i89 + 1)) : Int) fun i107 =>
    L12x55 mk0 C s3 n3 s5 n5 s6 n6 i8 s9 n9 i77 i78 i88 i107 h_2 Q
    )
  else
    (
    Q (.exit 4) (S12xe4 s3 n3 s5 n5 s6 n6 i8 s9 n9 i77 i78 h)
    )
  ) := loop_eqn C k12x55 928908376646390692114858856 453347182355485940515688 (rep 3 (.g [] true (.sl s3 n3) :: (.any :: (.g [] true (.sl s5 n5) :: (.g [] true (.sl s6 n6) :: (.any :: (.g [] true (.int .i64 i8) :: (.g [] true (.sl s9 n9) :: (rep 67 (.g [] true (.int .i64 i77) :: (.g [] true (.int .i64 i78) :: (rep 9 (.g [] true (.int .i64 i88) :: (.g [] true (.int .i64 i89) :: (rep 49 []))))))))))))))) h Q (by kernel_rfl) (L12x55xaux mk0 C s3 n3 s5 n5 s6 n6 i8 s9 n9 i77 i78 i88 i89 h Q)
theorem X12x43xe2 (M : Mk) (C : Cal) (s6 : SA) (n6 : Nat) (h : Heap) : Q12x43 M C (.exit 2) (S12xe2 s6 n6 h) = (
  (C 33 [(.sl s6 n6)] h).bind fun r116 =>
  gT 2 r116.1 true fun u116 =>
  gL (some (List.getD u116 0 .opq)) true fun s116x0 n116x0 =>
  gI .i64 (some (List.getD u116 1 .opq)) true fun i116x1 =>
  L12x67 M C i116x1 s6 n6 s116x0 n116x0 s116x0 n116x0 ((n116x0 : Nat) : Int) 0 r116.2 (Q12x67 M C)
  ) := by kernel_rfl
theorem L12x67xaux (i4 : Int) (s6 : SA) (n6 : Nat) (s11 : SA) (n11 : Nat) (s119 : SA) (n119 : Nat) (i120 : Int) (i121 : Int) (h : Heap) (Q : Kont R) : (restrF 4652297985247205555163324710981208144 ⟨(rep 4 (.g [] true (.int .i64 i4) :: (.any :: (.g [] true (.sl s6 n6) :: (rep 4 (.g [] true (.sl s11 n11) :: (rep 107 (.g [] true (.sl s119 n119) :: (.g [] true (.int .i64 i120) :: (.g [] true (.int .i64 i121) :: (rep 17 []))))))))))), h⟩ fun σ => evalE M C k12x67 σ (roundQ M C k12x67 4652297985247205555163324710981208144 2128 Q)) = (
  letK ((decide ((i121 : Int) < i120)) : Bool) fun b122 =>
  if b122 = true then
    (
    chk (true = true → (0 : Int) ≤ i121 ∧ (i121 : Int) < ((n119 : Nat) : Int)) <|
    atP (adP s119) true fun a124 =>
    gI .i64 (ld1 h (Ad.add a124 (Int.toNat i121 * 1))) true fun i125 =>
    letK ((!decide ((i125 : Int) = i121)) : Bool) fun b128 =>
    if b128 = true then
      (
      Q .ret (S12xr false h)
      )
    else
      (
      letK ((IntKind.wrap .i64 (i121 + 1)) : Int) fun i129 =>
      L12x67 M C i4 s6 n6 s11 n11 s119 n119 i120 i129 h Q
      )
    )
  else
    (
    Q (.exit 6) (S12xe6 i4 s6 n6 s11 n11 h)
    )
  ) := by kernel_rfl
theorem L12x67xeq (i4 : Int) (s6 : SA) (n6 : Nat) (s11 : SA) (n11 : Nat) (s119 : SA) (n119 : Nat) (i120 : Int) (i121 : Int) (h : Heap) (Q : Kont R) : L12x67 mk0 C i4 s6 n6 s11 n11 s119 n119 i120 i121 h Q = (
  letK ((decide ((i121 : Int) < i120)) : Bool) fun b122 =>
  if b122 = true then
    (
    chk (true = true → (0 : Int) ≤ i121 ∧ (i121 : Int) < ((n119 : Nat) : Int)) <|
    atP (adP s119) true fun a124 =>
    gI .i64 (ld1 h (Ad.add a124 (Int.toNat i121 * 1))) true fun i125 =>
    letK ((!decide ((i125 : Int) = i121)) : Bool) fun b128 =>
    if b128 = true then
      (
      Q .ret (S12xr false h)
      )
    else
      (
      letK ((IntKind.wrap .i64 (i121 + 1)) : Int) fun i129 =>
      L12x67 mk0 C i4 s6 n6 s11 n11 s119 n119 i120 i129 h Q
      )
    )
  else
    (
    Q (.exit 6) (S12xe6 i4 s6 n6 s11 n11 h)
    )
  ) := loop_eqn C k12x67 4652297985247205555163324710981208144 2128 (rep 4 (.g [] true (.int .i64 i4) :: (.any :: (.g [] true (.sl s6 n6) :: (rep 4 (.g [] true (.sl s11 n11) :: (rep 107 (.g [] true (.sl s119 n119) :: (.g [] true (.int .i64 i120) :: (.g [] true (.int .i64 i121) :: (rep 17 []))))))))))) h Q (by kernel_rfl) (L12x67xaux mk0 C i4 s6 n6 s11 n11 s119 n119 i120 i121 h Q)
theorem X12x55xe4 (M : Mk) (C : Cal) (s3 : SA) (n3 : Nat) (s5 : SA) (n5 : Nat) (s6 : SA) (n6 : Nat) (i8 : Int) (s9 : SA) (n9 : Nat) (i77 : Int) (i78 : Int) (h : Heap) (Q : Kont R) : Q12x55 M C Q (.exit 4) (S12xe4 s3 n3 s5 n5 s6 n6 i8 s9 n9 i77 i78 h) = (
  chk (true = true → (0 : Int) ≤ i8 ∧ (i8 : Int) < ((n6 : Nat) : Int)) <|
  atP (adP s6) true fun a111 =>
  (st1 h (Ad.add (Ad.add a111 (Int.toNat i8 * 5)) 2) (.sl s9 n9)).bind fun h_2 =>
  letK ((IntKind.wrap .i64 (i78 + 1)) : Int) fun i113 =>
  L12x43 M C s3 n3 s5 n5 s6 n6 i77 i113 h_2 Q
  ) := by kernel_rfl
theorem X12x67xr (M : Mk) (C : Cal) (b2 : Bool) (h : Heap) : Q12x67 M C .ret (S12xr b2 h) = (
  some ((.bool b2), h)
  ) := by kernel_rfl
theorem X12x67xe6 (M : Mk) (C : Cal) (i4 : Int) (s6 : SA) (n6 : Nat) (s11 : SA) (n11 : Nat) (h : Heap) : Q12x67 M C (.exit 6) (S12xe6 i4 s6 n6 s11 n11 h) = (
  letK ((decide ((i4 : Int) = 0)) : Bool) fun b131 =>
  letK ((decide ((((n11 : Nat) : Int) : Int) = ((n6 : Nat) : Int))) : Bool) fun b137 =>
  letK ((if b131 = true then b137 else false) : Bool) fun b138 =>
  some ((.bool b138), h)
  ) := by kernel_rfl
end
end Go.Proofs.Ytmfmnbldngfelaa.I
