/- The code of functions, as constants. -/
import Derived.Test.YtnmdadadjneaiaaLibE
import Derived.Test.YtnmdadadjneaiaaProg
import Derived.KernelRfl
set_option linter.unusedVariables false
set_option maxRecDepth 100000
namespace Go.Proofs.Ytnmdadadjneaiaa.D
open Go Go.Proofs.Ytnmdadadjneaiaa.Abs Go.Proofs
def k8x4 : AC := .ret
def k8x3 : AC := .seq (.mask 1) k8x4
def k8x2 : AC := .seq (.ops true [
    ⟨(some 15), .move (.tmp 2), none, []⟩,
    ⟨(some 16), .bin .other .eql (.tmp 15) (.c (.int .i64 0)), none, []⟩,
    ⟨(some 17), .move (.tmp 16), none, []⟩,
    ⟨(some 18), .move (.tmp 4), (some (17, true)), []⟩,
    ⟨(some 19), .bin .other .eql (.tmp 18) (.c (.int .i64 0)), (some (17, true)), []⟩,
    ⟨(some 20), .pick (.tmp 17) (.tmp 19) (.c (.bool false)), none, []⟩,
    ⟨(some 21), .move (.tmp 20), none, []⟩,
    ⟨(some 22), .fieldAddr 0 (.tmp 1), (some (21, true)), []⟩,
    ⟨(some 23), .load (.cell .sl) (.tmp 22), (some (21, true)), []⟩,
    ⟨(some 24), .lenSl (.tmp 23), (some (21, true)), []⟩,
    ⟨(some 25), .bin .other .eql (.tmp 24) (.c (.int .i64 2)), (some (21, true)), []⟩,
    ⟨(some 26), .pick (.tmp 21) (.tmp 25) (.c (.bool false)), none, []⟩,
    ⟨(some 27), .move (.tmp 26), none, []⟩,
    ⟨(some 28), .fieldAddr 0 (.tmp 1), (some (27, true)), []⟩,
    ⟨(some 29), .load (.cell .sl) (.tmp 28), (some (27, true)), []⟩,
    ⟨(some 30), .indexAddr 1 (.tmp 29) (.c (.int .i64 1)), (some (27, true)), []⟩,
    ⟨(some 31), .load (.cell (.int .i64)) (.tmp 30), (some (27, true)), []⟩,
    ⟨(some 32), .bin .other .eql (.tmp 31) (.c (.int .i64 1)), (some (27, true)), []⟩,
    ⟨(some 33), .pick (.tmp 27) (.tmp 32) (.c (.bool false)), none, []⟩,
    ⟨(some 34), .move (.tmp 33), none, []⟩,
    ⟨(some 35), .fieldAddr 0 (.tmp 3), (some (34, true)), []⟩,
    ⟨(some 36), .load (.cell .sl) (.tmp 35), (some (34, true)), []⟩,
    ⟨(some 37), .lenSl (.tmp 36), (some (34, true)), []⟩,
    ⟨(some 38), .bin .other .eql (.tmp 37) (.c (.int .i64 2)), (some (34, true)), []⟩,
    ⟨(some 39), .pick (.tmp 34) (.tmp 38) (.c (.bool false)), none, []⟩,
    ⟨(some 40), .move (.tmp 39), none, []⟩,
    ⟨(some 41), .fieldAddr 0 (.tmp 3), (some (40, true)), []⟩,
    ⟨(some 42), .load (.cell .sl) (.tmp 41), (some (40, true)), []⟩,
    ⟨(some 43), .indexAddr 1 (.tmp 42) (.c (.int .i64 1)), (some (40, true)), []⟩,
    ⟨(some 44), .load (.cell (.int .i64)) (.tmp 43), (some (40, true)), []⟩,
    ⟨(some 45), .bin .other .eql (.tmp 44) (.c (.int .i64 1)), (some (40, true)), []⟩,
    ⟨(some 46), .pick (.tmp 40) (.tmp 45) (.c (.bool false)), none, []⟩,
    ⟨(some 0), .move (.tmp 46), none, []⟩]) k8x3
def k8x1 : AC := .seq (.ops false [
    ⟨(some 11), .call 25 [] [(.agg [(.int .i64), .sl, (.int .i64), .sl])] (.agg [(.int .i64 0), (.sl .nil 0), (.int .i64 0), (.sl .nil 0)]), none, []⟩,
    ⟨(some 12), .call 12 [(.tmp 11), (.c (.int .i64 1))] [(.agg [.sl, .sl, (.int .i64)]), (.cell (.int .i64))] .opq, none, []⟩,
    ⟨(some 10), .move (.tmp 12), none, []⟩,
    ⟨(some 13), .extract (.tmp 10) 0, none, []⟩,
    ⟨(some 14), .extract (.tmp 10) 1, none, []⟩,
    ⟨(some 3), .allocL [(.sl .nil 0), (.sl .nil 0), (.int .i64 0)], none, []⟩,
    ⟨none, .store 3 (.tmp 3) (.tmp 13), none, []⟩,
    ⟨(some 4), .move (.tmp 14), none, []⟩]) k8x2
def k8x0 : AC := .seq (.ops false [
    ⟨(some 6), .call 25 [] [(.agg [(.int .i64), .sl, (.int .i64), .sl])] (.agg [(.int .i64 0), (.sl .nil 0), (.int .i64 0), (.sl .nil 0)]), none, []⟩,
    ⟨(some 7), .call 14 [(.tmp 6), (.c (.int .i64 1))] [(.agg [.sl, .sl, (.int .i64)]), (.cell (.int .i64))] .opq, none, []⟩,
    ⟨(some 5), .move (.tmp 7), none, []⟩,
    ⟨(some 8), .extract (.tmp 5) 0, none, []⟩,
    ⟨(some 9), .extract (.tmp 5) 1, none, []⟩,
    ⟨(some 1), .allocL [(.sl .nil 0), (.sl .nil 0), (.int .i64 0)], none, []⟩,
    ⟨none, .store 3 (.tmp 1) (.tmp 8), none, []⟩,
    ⟨(some 2), .move (.tmp 9), none, []⟩]) k8x1
/-- provenance/provenancekeep4.allocFact -/
def c8 : AFn := ⟨47, [.tmp 0],
  .seq (.ops false [
    ⟨(some 0), .move (.c (.bool false)), none, []⟩]) k8x0⟩
theorem cf8 : cFn Try.prog 8 = some c8 := by kernel_rfl
def k25x2 : AC := .ret
def k25x1 : AC := .seq (.mask 1) k25x2
def k25x0 : AC := .seq (.ops false [
    ⟨(some 1), .buildSl [(.int .i64 0)] 1 [(0, (.c (.int .i64 1)))], none, []⟩,
    ⟨(some 2), .build [(.int .i64 0), (.int .i64 0), (.int .i64 0), (.int .i64 0), (.int .i64 0), (.sl .nil 0)] [(0, 1, (.c (.int .i64 0))), (2, 1, (.c (.int .i64 1)))], none, []⟩,
    ⟨(some 3), .build [(.sl .nil 0), (.int .i64 0), (.int .i64 0), (.int .i64 0), (.int .i64 0), (.int .i64 0), (.sl .nil 0)] [(1, 6, (.tmp 2))], none, []⟩,
    ⟨(some 4), .buildSl [(.sl .nil 0), (.int .i64 0), (.int .i64 0), (.int .i64 0), (.int .i64 0), (.int .i64 0), (.sl .nil 0)] 7 [(0, (.tmp 3))], none, []⟩,
    ⟨(some 5), .build [(.int .i64 0), (.sl .nil 0), (.int .i64 0), (.sl .nil 0)] [(1, 1, (.tmp 1)), (2, 1, (.c (.int .i64 2))), (3, 1, (.tmp 4))], none, []⟩,
    ⟨none, .store 4 (.tmp 0) (.tmp 5), none, []⟩]) k25x1
/-- provenance/provenancekeep4.same1 -/
def c25 : AFn := ⟨6, [.cell 0 (.agg [(.int .i64), .sl, (.int .i64), .sl])],
  .seq (.ops false [
    ⟨(some 0), .allocL [(.int .i64 0), (.sl .nil 0), (.int .i64 0), (.sl .nil 0)], none, []⟩]) k25x0⟩
theorem cf25 : cFn Try.prog 25 = some c25 := by kernel_rfl
def k26x5 : AC := .ret
def k26x4 : AC := .seq (.mask 4) k26x5
def k26x3 : AC := .mask 2
def k26x2 : AC := .seq (.cond (.tmp 29)
   (.seq (.ops false [
      ⟨(some 2), .move (.c (.int .i64 2)), none, []⟩]) k26x4)
   (.skip)) k26x3
def k26x10 : AC := .ret
def k26x9 : AC := .seq (.mask 4) k26x10
def k26x8 : AC := .mask 2
def k26x7 : AC := .seq (.cond (.tmp 33)
   (.seq (.ops false [
      ⟨(some 2), .move (.c (.int .i64 3)), none, []⟩]) k26x9)
   (.skip)) k26x8
def k26x18 : AC := .exit 0
def k26x17 : AC := .mask 240518168578
def k26x26 : AC := .ret
def k26x25 : AC := .seq (.mask 4) k26x26
def k26x24 : AC := .mask 240518168602
def k26x23 : AC := .seq (.cond (.tmp 47)
   (.seq (.ops false [
      ⟨(some 2), .move (.c (.int .i64 6)), none, []⟩]) k26x25)
   (.skip)) k26x24
def k26x30 : AC := .ret
def k26x29 : AC := .seq (.mask 4) k26x30
def k26x28 : AC := .mask 240518168578
def k26x27 : AC := .seq (.cond (.tmp 53)
   (.seq (.ops false [
      ⟨(some 2), .move (.c (.int .i64 7)), none, []⟩]) k26x29)
   (.skip)) k26x28
def k26x22 : AC := .seq (.ops false [
    ⟨(some 48), .fieldAddr 1 (.tmp 1), none, []⟩,
    ⟨(some 49), .load (.cell .sl) (.tmp 48), none, []⟩,
    ⟨(some 50), .move (.tmp 3), none, []⟩,
    ⟨(some 51), .slice 1 (.tmp 49) none (some (.tmp 50)), none, []⟩,
    ⟨(some 52), .move (.tmp 4), none, []⟩,
    ⟨(some 53), .call 20 [(.tmp 51), (.tmp 52)] [(.cell .bool)] (.bool false), none, []⟩]) k26x27
def k26x21 : AC := .seq (.seq (.ops false [
    ⟨(some 42), .move (.tmp 4), none, []⟩,
    ⟨(some 43), .fieldAddr 2 (.tmp 1), none, []⟩,
    ⟨(some 44), .load (.cell (.int .i64)) (.tmp 43), none, []⟩,
    ⟨(some 45), .bin .other .sub (.tmp 44) (.c (.int .i64 1)), none, []⟩,
    ⟨(some 46), .call 58 [(.tmp 42), (.c (.int .i64 1)), (.tmp 45)] [(.cell .bool)] (.bool false), none, []⟩,
    ⟨(some 47), .un .not (.tmp 46), none, []⟩]) k26x23) k26x22
def k26x20 : AC := .mask 240518168578
def k26x19 : AC := .ops false [
    ⟨(some 54), .bin .other .add (.tmp 37) (.c (.int .i64 1)), none, []⟩,
    ⟨(some 37), .move (.tmp 54), none, []⟩]
def k26x16 : AC := .seq (.seq (.block 1 (.seq (.ops false [
     ⟨(some 39), .move (.tmp 37), none, []⟩,
     ⟨(some 40), .indexAddr 1 (.tmp 35) (.tmp 37), none, []⟩,
     ⟨(some 41), .load (.cell (.int .i64)) (.tmp 40), none, []⟩,
     ⟨(some 3), .move (.tmp 39), none, []⟩,
     ⟨(some 4), .move (.tmp 41), none, []⟩]) k26x21)) k26x20) k26x19
def k26x15 : AC := .seq (.seq (.cond (.tmp 38)
   (.skip)
   (.seq (.mask 2) k26x18)) k26x17) k26x16
def k26x14 : AC := .seq (.ops false [
    ⟨(some 38), .bin .other .lss (.tmp 37) (.tmp 36), none, []⟩]) k26x15
def k26x13 : AC := .mask 2
def k26x12 : AC := .seq (.block 0 (.loop 240518168578 2 k26x14)) k26x13
def k26x39 : AC := .exit 2
def k26x38 : AC := .mask 504403158265495586
def k26x48 : AC := .ret
def k26x47 : AC := .seq (.mask 4) k26x48
def k26x46 : AC := .mask 504403158265495714
def k26x45 : AC := .seq (.cond (.tmp 68)
   (.seq (.ops false [
      ⟨(some 2), .move (.c (.int .i64 2)), none, []⟩]) k26x47)
   (.skip)) k26x46
def k26x44 : AC := .seq (.ops false [
    ⟨(some 67), .move (.tmp 5), none, []⟩,
    ⟨(some 68), .bin .other .gtr (.tmp 67) (.c (.int .i64 4096)), none, []⟩]) k26x45
def k26x56 : AC := .exit 4
def k26x55 : AC := .mask 8264645748180144619682
def k26x64 : AC := .ret
def k26x63 : AC := .seq (.mask 4) k26x64
def k26x62 : AC := .mask 8264645748180144619682
def k26x61 : AC := .seq (.cond (.tmp 81)
   (.seq (.ops false [
      ⟨(some 82), .move (.tmp 10), none, []⟩,
      ⟨(some 2), .move (.tmp 82), none, []⟩]) k26x63)
   (.skip)) k26x62
def k26x60 : AC := .seq (.ops false [
    ⟨(some 80), .move (.tmp 10), none, []⟩,
    ⟨(some 81), .bin .other .neq (.tmp 80) (.c (.int .i64 0)), none, []⟩]) k26x61
def k26x59 : AC := .seq (.ops false [
    ⟨(some 76), .load (.agg [(.int .i64), (.int .i64), (.int .i64), (.int .i64), (.int .i64), .sl]) (.tmp 9), none, []⟩,
    ⟨(some 77), .fieldAddr 2 (.tmp 1), none, []⟩,
    ⟨(some 78), .load (.cell (.int .i64)) (.tmp 77), none, []⟩,
    ⟨(some 79), .call 59 [(.tmp 76), (.tmp 78)] [(.cell (.int .i64))] (.int .i64 0), none, []⟩,
    ⟨(some 10), .move (.tmp 79), none, []⟩]) k26x60
def k26x58 : AC := .mask 8264645748180144619682
def k26x57 : AC := .ops false [
    ⟨(some 83), .bin .other .add (.tmp 72) (.c (.int .i64 1)), none, []⟩,
    ⟨(some 72), .move (.tmp 83), none, []⟩]
def k26x54 : AC := .seq (.seq (.block 5 (.seq (.ops false [
     ⟨(some 74), .indexAddr 6 (.tmp 70) (.tmp 72), none, []⟩,
     ⟨(some 75), .load (.agg [(.int .i64), (.int .i64), (.int .i64), (.int .i64), (.int .i64), .sl]) (.tmp 74), none, []⟩,
     ⟨(some 9), .allocL [(.int .i64 0), (.int .i64 0), (.int .i64 0), (.int .i64 0), (.int .i64 0), (.sl .nil 0)], none, []⟩,
     ⟨none, .store 6 (.tmp 9) (.tmp 75), none, []⟩]) k26x59)) k26x58) k26x57
def k26x53 : AC := .seq (.seq (.cond (.tmp 73)
   (.skip)
   (.seq (.mask 504403158265495714) k26x56)) k26x55) k26x54
def k26x52 : AC := .seq (.ops false [
    ⟨(some 73), .bin .other .lss (.tmp 72) (.tmp 71), none, []⟩]) k26x53
def k26x51 : AC := .mask 504403158265495714
def k26x50 : AC := .seq (.block 4 (.loop 8264645748180144619682 504403158265495714 k26x52)) k26x51
def k26x69 : AC := .ret
def k26x68 : AC := .seq (.mask 4) k26x69
def k26x67 : AC := .mask 504403158265495586
def k26x66 : AC := .seq (.cond (.tmp 93)
   (.seq (.ops false [
      ⟨(some 94), .move (.tmp 11), none, []⟩,
      ⟨(some 2), .move (.tmp 94), none, []⟩]) k26x68)
   (.skip)) k26x67
def k26x65 : AC := .seq (.ops false [
    ⟨(some 92), .move (.tmp 11), none, []⟩,
    ⟨(some 93), .bin .other .neq (.tmp 92) (.c (.int .i64 0)), none, []⟩]) k26x66
def k26x49 : AC := .seq (.ops false [
    ⟨(some 84), .fieldAddr 1 (.tmp 7), none, []⟩,
    ⟨(some 85), .load (.agg [(.int .i64), (.int .i64), (.int .i64), (.int .i64), (.int .i64), .sl]) (.tmp 84), none, []⟩,
    ⟨(some 86), .fieldAddr 2 (.tmp 1), none, []⟩,
    ⟨(some 87), .load (.cell (.int .i64)) (.tmp 86), none, []⟩,
    ⟨(some 88), .fieldAddr 3 (.tmp 1), none, []⟩,
    ⟨(some 89), .load (.cell .sl) (.tmp 88), none, []⟩,
    ⟨(some 90), .lenSl (.tmp 89), none, []⟩,
    ⟨(some 91), .call 60 [(.tmp 85), (.tmp 87), (.tmp 90)] [(.cell (.int .i64))] (.int .i64 0), none, []⟩,
    ⟨(some 11), .move (.tmp 91), none, []⟩]) k26x65
def k26x43 : AC := .seq (.seq (.ops false [
    ⟨(some 69), .fieldAddr 0 (.tmp 7), none, []⟩,
    ⟨(some 70), .load (.cell .sl) (.tmp 69), none, []⟩,
    ⟨(some 71), .lenSl (.tmp 70), none, []⟩,
    ⟨(some 72), .move (.c (.int .i64 0)), none, []⟩]) k26x50) k26x49
def k26x42 : AC := .seq (.seq (.ops false [
    ⟨(some 62), .move (.tmp 5), none, []⟩,
    ⟨(some 63), .fieldAddr 0 (.tmp 7), none, []⟩,
    ⟨(some 64), .load (.cell .sl) (.tmp 63), none, []⟩,
    ⟨(some 65), .lenSl (.tmp 64), none, []⟩,
    ⟨(some 66), .bin .other .add (.tmp 62) (.tmp 65), none, []⟩,
    ⟨(some 5), .move (.tmp 66), none, []⟩]) k26x44) k26x43
def k26x41 : AC := .mask 504403158265495586
def k26x40 : AC := .ops false [
    ⟨(some 95), .bin .other .add (.tmp 58) (.c (.int .i64 1)), none, []⟩,
    ⟨(some 58), .move (.tmp 95), none, []⟩]
def k26x37 : AC := .seq (.seq (.block 3 (.seq (.ops false [
     ⟨(some 60), .indexAddr 7 (.tmp 56) (.tmp 58), none, []⟩,
     ⟨(some 61), .load (.agg [.sl, (.int .i64), (.int .i64), (.int .i64), (.int .i64), (.int .i64), .sl]) (.tmp 60), none, []⟩,
     ⟨(some 7), .allocL [(.sl .nil 0), (.int .i64 0), (.int .i64 0), (.int .i64 0), (.int .i64 0), (.int .i64 0), (.sl .nil 0)], none, []⟩,
     ⟨none, .store 7 (.tmp 7) (.tmp 61), none, []⟩]) k26x42)) k26x41) k26x40
def k26x36 : AC := .seq (.seq (.cond (.tmp 59)
   (.skip)
   (.seq (.mask 2) k26x39)) k26x38) k26x37
def k26x35 : AC := .seq (.ops false [
    ⟨(some 59), .bin .other .lss (.tmp 58) (.tmp 57), none, []⟩]) k26x36
def k26x34 : AC := .mask 2
def k26x33 : AC := .seq (.block 2 (.loop 504403158265495586 2 k26x35)) k26x34
def k26x78 : AC := .exit 6
def k26x77 : AC := .mask 12290
def k26x76 : AC := .seq (.cond (.tmp 101)
   (.skip)
   (.seq (.mask 0) k26x78)) k26x77
def k26x84 : AC := .ret
def k26x83 : AC := .seq (.mask 4) k26x84
def k26x82 : AC := .mask 12290
def k26x81 : AC := .seq (.cond (.tmp 116)
   (.seq (.ops false [
      ⟨(some 2), .move (.c (.int .i64 12)), none, []⟩]) k26x83)
   (.skip)) k26x82
def k26x80 : AC := .mask 12290
def k26x79 : AC := .ops false [
    ⟨(some 102), .move (.tmp 13), none, []⟩,
    ⟨(some 103), .bin .other .add (.tmp 102) (.c (.int .i64 1)), none, []⟩,
    ⟨(some 13), .move (.tmp 103), none, []⟩]
def k26x75 : AC := .seq (.seq (.block 7 (.seq (.ops true [
     ⟨(some 104), .move (.tmp 12), none, []⟩,
     ⟨(some 105), .indexAddr 1 (.tmp 104) (.c (.int .i64 0)), none, []⟩,
     ⟨(some 106), .load (.cell .sl) (.tmp 105), none, []⟩,
     ⟨(some 107), .move (.tmp 13), none, []⟩,
     ⟨(some 108), .indexAddr 1 (.tmp 106) (.tmp 107), none, []⟩,
     ⟨(some 109), .load (.cell .bool) (.tmp 108), none, []⟩,
     ⟨(some 110), .move (.tmp 109), none, []⟩,
     ⟨(some 111), .fieldAddr 1 (.tmp 1), (some (110, true)), []⟩,
     ⟨(some 112), .load (.cell .sl) (.tmp 111), (some (110, true)), []⟩,
     ⟨(some 113), .move (.tmp 13), (some (110, true)), []⟩,
     ⟨(some 114), .call 20 [(.tmp 112), (.tmp 113)] [(.cell .bool)] (.bool false), (some (110, true)), []⟩,
     ⟨(some 115), .un .not (.tmp 114), (some (110, true)), []⟩,
     ⟨(some 116), .pick (.tmp 110) (.tmp 115) (.c (.bool false)), none, []⟩]) k26x81)) k26x80) k26x79
def k26x74 : AC := .seq (.seq (.ops false [
    ⟨(some 98), .move (.tmp 13), none, []⟩,
    ⟨(some 99), .fieldAddr 2 (.tmp 1), none, []⟩,
    ⟨(some 100), .load (.cell (.int .i64)) (.tmp 99), none, []⟩,
    ⟨(some 101), .bin .other .lss (.tmp 98) (.tmp 100), none, []⟩]) k26x76) k26x75
def k26x73 : AC := .mask 0
def k26x72 : AC := .seq (.block 6 (.loop 12290 0 k26x74)) k26x73
def k26x86 : AC := .ret
def k26x85 : AC := .seq (.mask 4) k26x86
def k26x71 : AC := .seq (.ops false [
    ⟨(some 2), .move (.c (.int .i64 0)), none, []⟩]) k26x85
def k26x70 : AC := .seq (.seq (.ops false [
    ⟨(some 13), .move (.c (.int .i64 1)), none, []⟩]) k26x72) k26x71
def k26x32 : AC := .seq (.ops false [
    ⟨(some 96), .load (.agg [(.int .i64), .sl, (.int .i64), .sl]) (.tmp 1), none, []⟩,
    ⟨(some 97), .call 61 [(.tmp 96)] [(.cell .sl)] (.sl .nil 0), none, []⟩,
    ⟨(some 12), .move (.tmp 97), none, []⟩]) k26x70
def k26x31 : AC := .seq (.seq (.ops false [
    ⟨(some 55), .fieldAddr 3 (.tmp 1), none, []⟩,
    ⟨(some 56), .load (.cell .sl) (.tmp 55), none, []⟩,
    ⟨(some 57), .lenSl (.tmp 56), none, []⟩,
    ⟨(some 58), .move (.c (.int .i64 0)), none, []⟩]) k26x33) k26x32
def k26x11 : AC := .seq (.ops false [
    ⟨(some 5), .move (.c (.int .i64 0)), none, []⟩]) k26x31
def k26x6 : AC := .seq (.seq (.ops false [
    ⟨(some 34), .fieldAddr 1 (.tmp 1), none, []⟩,
    ⟨(some 35), .load (.cell .sl) (.tmp 34), none, []⟩,
    ⟨(some 36), .lenSl (.tmp 35), none, []⟩,
    ⟨(some 37), .move (.c (.int .i64 0)), none, []⟩]) k26x12) k26x11
def k26x1 : AC := .seq (.seq (.ops false [
    ⟨(some 30), .fieldAddr 3 (.tmp 1), none, []⟩,
    ⟨(some 31), .load (.cell .sl) (.tmp 30), none, []⟩,
    ⟨(some 32), .lenSl (.tmp 31), none, []⟩,
    ⟨(some 33), .bin .other .eql (.tmp 32) (.c (.int .i64 0)), none, []⟩]) k26x7) k26x6
def k26x0 : AC := .seq (.seq (.ops true [
    ⟨(some 14), .fieldAddr 1 (.tmp 1), none, []⟩,
    ⟨(some 15), .load (.cell .sl) (.tmp 14), none, []⟩,
    ⟨(some 16), .lenSl (.tmp 15), none, []⟩,
    ⟨(some 17), .bin .other .gtr (.tmp 16) (.c (.int .i64 6)), none, []⟩,
    ⟨(some 18), .move (.tmp 17), none, []⟩,
    ⟨(some 19), .fieldAddr 3 (.tmp 1), (some (18, false)), []⟩,
    ⟨(some 20), .load (.cell .sl) (.tmp 19), (some (18, false)), []⟩,
    ⟨(some 21), .lenSl (.tmp 20), (some (18, false)), []⟩,
    ⟨(some 22), .bin .other .gtr (.tmp 21) (.c (.int .i64 4096)), (some (18, false)), []⟩,
    ⟨(some 23), .pick (.tmp 18) (.c (.bool true)) (.tmp 22), none, []⟩,
    ⟨(some 24), .move (.tmp 23), none, []⟩,
    ⟨(some 25), .fieldAddr 2 (.tmp 1), (some (24, false)), []⟩,
    ⟨(some 26), .load (.cell (.int .i64)) (.tmp 25), (some (24, false)), []⟩,
    ⟨(some 27), .call 58 [(.tmp 26), (.c (.int .i64 1)), (.c (.int .i64 8192))] [(.cell .bool)] (.bool false), (some (24, false)), []⟩,
    ⟨(some 28), .un .not (.tmp 27), (some (24, false)), []⟩,
    ⟨(some 29), .pick (.tmp 24) (.c (.bool true)) (.tmp 28), none, []⟩]) k26x2) k26x1
/-- provenance/tile.Check -/
def c26 : AFn := ⟨117, [.tmp 2],
  .seq (.ops false [
    ⟨(some 1), .boxL (.tmp 0), none, []⟩,
    ⟨(some 2), .move (.c (.int .i64 0)), none, []⟩]) k26x0⟩
theorem cf26 : cFn Try.prog 26 = some c26 := by kernel_rfl
def k58x2 : AC := .ret
def k58x1 : AC := .seq (.mask 64) k58x2
def k58x0 : AC := .seq (.ops true [
    ⟨(some 7), .move (.tmp 0), none, []⟩,
    ⟨(some 8), .move (.tmp 1), none, []⟩,
    ⟨(some 9), .bin .other .geq (.tmp 7) (.tmp 8), none, []⟩,
    ⟨(some 10), .move (.tmp 9), none, []⟩,
    ⟨(some 11), .move (.tmp 0), (some (10, true)), []⟩,
    ⟨(some 12), .move (.tmp 2), (some (10, true)), []⟩,
    ⟨(some 13), .bin .other .leq (.tmp 11) (.tmp 12), (some (10, true)), []⟩,
    ⟨(some 14), .pick (.tmp 10) (.tmp 13) (.c (.bool false)), none, []⟩,
    ⟨(some 6), .move (.tmp 14), none, []⟩]) k58x1
/-- provenance/tile.in -/
def c58 : AFn := ⟨15, [.tmp 6],
  .seq (.ops false [
    ⟨(some 6), .move (.c (.bool false)), none, []⟩]) k58x0⟩
theorem cf58 : cFn Try.prog 58 = some c58 := by kernel_rfl
def k59x6 : AC := .ret
def k59x5 : AC := .seq (.mask 16) k59x6
def k59x4 : AC := .mask 38
def k59x3 : AC := .seq (.cond (.tmp 16)
   (.seq (.ops false [
      ⟨(some 4), .move (.c (.int .i64 1)), none, []⟩]) k59x5)
   (.skip)) k59x4
def k59x11 : AC := .ret
def k59x10 : AC := .seq (.mask 16) k59x11
def k59x9 : AC := .mask 6
def k59x8 : AC := .seq (.cond (.tmp 65)
   (.seq (.ops false [
      ⟨(some 4), .move (.c (.int .i64 3)), none, []⟩]) k59x10)
   (.skip)) k59x9
def k59x16 : AC := .ret
def k59x15 : AC := .seq (.mask 16) k59x16
def k59x14 : AC := .mask 6
def k59x13 : AC := .seq (.cond (.tmp 118)
   (.seq (.ops false [
      ⟨(some 4), .move (.c (.int .i64 4)), none, []⟩]) k59x15)
   (.skip)) k59x14
def k59x24 : AC := .exit 0
def k59x23 : AC := .mask 2381976568446569244243622252022377480194
def k59x31 : AC := .ret
def k59x30 : AC := .seq (.mask 16) k59x31
def k59x29 : AC := .mask 2381976568446569244243622252022377480194
def k59x28 : AC := .seq (.cond (.tmp 138)
   (.seq (.ops false [
      ⟨(some 4), .move (.c (.int .i64 6)), none, []⟩]) k59x30)
   (.skip)) k59x29
def k59x27 : AC := .seq (.ops false [
    ⟨(some 134), .move (.tmp 8), none, []⟩,
    ⟨(some 135), .move (.tmp 1), none, []⟩,
    ⟨(some 136), .bin .other .sub (.tmp 135) (.c (.int .i64 1)), none, []⟩,
    ⟨(some 137), .call 58 [(.tmp 134), (.c (.int .i64 0)), (.tmp 136)] [(.cell .bool)] (.bool false), none, []⟩,
    ⟨(some 138), .un .not (.tmp 137), none, []⟩]) k59x28
def k59x26 : AC := .mask 2381976568446569244243622252022377480194
def k59x25 : AC := .ops false [
    ⟨(some 139), .bin .other .add (.tmp 130) (.c (.int .i64 1)), none, []⟩,
    ⟨(some 130), .move (.tmp 139), none, []⟩]
def k59x22 : AC := .seq (.seq (.block 1 (.seq (.ops false [
     ⟨(some 132), .indexAddr 1 (.tmp 128) (.tmp 130), none, []⟩,
     ⟨(some 133), .load (.cell (.int .i64)) (.tmp 132), none, []⟩,
     ⟨(some 8), .move (.tmp 133), none, []⟩]) k59x27)) k59x26) k59x25
def k59x21 : AC := .seq (.seq (.cond (.tmp 131)
   (.skip)
   (.seq (.mask 0) k59x24)) k59x23) k59x22
def k59x20 : AC := .seq (.ops false [
    ⟨(some 131), .bin .other .lss (.tmp 130) (.tmp 129), none, []⟩]) k59x21
def k59x19 : AC := .mask 0
def k59x18 : AC := .seq (.block 0 (.loop 2381976568446569244243622252022377480194 0 k59x20)) k59x19
def k59x33 : AC := .ret
def k59x32 : AC := .seq (.mask 16) k59x33
def k59x17 : AC := .seq (.ops false [
    ⟨(some 4), .move (.c (.int .i64 0)), none, []⟩]) k59x32
def k59x12 : AC := .seq (.seq (.ops false [
    ⟨(some 119), .fieldAddr 1 (.tmp 2), none, []⟩,
    ⟨(some 120), .load (.cell (.int .i64)) (.tmp 119), none, []⟩,
    ⟨(some 121), .fieldAddr 2 (.tmp 2), none, []⟩,
    ⟨(some 122), .load (.cell (.int .i64)) (.tmp 121), none, []⟩,
    ⟨(some 123), .fieldAddr 3 (.tmp 2), none, []⟩,
    ⟨(some 124), .load (.cell (.int .i64)) (.tmp 123), none, []⟩,
    ⟨(some 125), .buildSl [(.int .i64 0), (.int .i64 0), (.int .i64 0)] 1 [(0, (.tmp 120)), (1, (.tmp 122)), (2, (.tmp 124))], none, []⟩,
    ⟨(some 126), .fieldAddr 5 (.tmp 2), none, []⟩,
    ⟨(some 127), .load (.cell .sl) (.tmp 126), none, []⟩,
    ⟨(some 128), .append [(.int .i64 0)] 1 8 (.tmp 125) (.tmp 127), none, []⟩,
    ⟨(some 129), .lenSl (.tmp 128), none, []⟩,
    ⟨(some 130), .move (.c (.int .i64 0)), none, []⟩]) k59x18) k59x17
def k59x7 : AC := .seq (.seq (.ops true [
    ⟨(some 66), .fieldAddr 5 (.tmp 2), none, []⟩,
    ⟨(some 67), .load (.cell .sl) (.tmp 66), none, []⟩,
    ⟨(some 68), .lenSl (.tmp 67), none, []⟩,
    ⟨(some 69), .bin .other .gtr (.tmp 68) (.c (.int .i64 6)), none, []⟩,
    ⟨(some 70), .move (.tmp 69), none, []⟩,
    ⟨(some 71), .fieldAddr 4 (.tmp 2), (some (70, false)), []⟩,
    ⟨(some 72), .load (.cell (.int .i64)) (.tmp 71), (some (70, false)), []⟩,
    ⟨(some 73), .call 58 [(.tmp 72), (.c (.int .i64 (-2147483648))), (.c (.int .i64 2147483647))] [(.cell .bool)] (.bool false), (some (70, false)), []⟩,
    ⟨(some 74), .un .not (.tmp 73), (some (70, false)), []⟩,
    ⟨(some 75), .pick (.tmp 70) (.c (.bool true)) (.tmp 74), none, []⟩,
    ⟨(some 76), .move (.tmp 75), none, []⟩,
    ⟨(some 77), .fieldAddr 0 (.tmp 2), (some (76, false)), []⟩,
    ⟨(some 78), .load (.cell (.int .i64)) (.tmp 77), (some (76, false)), []⟩,
    ⟨(some 79), .bin .other .eql (.tmp 78) (.c (.int .i64 101)), (some (76, false)), []⟩,
    ⟨(some 80), .move (.tmp 79), (some (76, false)), []⟩,
    ⟨(some 81), .fieldAddr 0 (.tmp 2), (some (80, false)), []⟩,
    ⟨(some 82), .load (.cell (.int .i64)) (.tmp 81), (some (80, false)), []⟩,
    ⟨(some 83), .bin .other .eql (.tmp 82) (.c (.int .i64 103)), (some (80, false)), []⟩,
    ⟨(some 84), .pick (.tmp 80) (.c (.bool true)) (.tmp 83), (some (76, false)), []⟩,
    ⟨(some 85), .move (.tmp 84), (some (76, false)), []⟩,
    ⟨(some 86), .fieldAddr 4 (.tmp 2), (some (85, true)), []⟩,
    ⟨(some 87), .load (.cell (.int .i64)) (.tmp 86), (some (85, true)), []⟩,
    ⟨(some 88), .call 58 [(.tmp 87), (.c (.int .i64 0)), (.c (.int .i64 255))] [(.cell .bool)] (.bool false), (some (85, true)), []⟩,
    ⟨(some 89), .un .not (.tmp 88), (some (85, true)), []⟩,
    ⟨(some 90), .pick (.tmp 85) (.tmp 89) (.c (.bool false)), (some (76, false)), []⟩,
    ⟨(some 91), .pick (.tmp 76) (.c (.bool true)) (.tmp 90), none, []⟩,
    ⟨(some 92), .move (.tmp 91), none, []⟩,
    ⟨(some 93), .fieldAddr 0 (.tmp 2), (some (92, false)), []⟩,
    ⟨(some 94), .load (.cell (.int .i64)) (.tmp 93), (some (92, false)), []⟩,
    ⟨(some 95), .bin .other .eql (.tmp 94) (.c (.int .i64 9)), (some (92, false)), []⟩,
    ⟨(some 96), .move (.tmp 95), (some (92, false)), []⟩,
    ⟨(some 97), .fieldAddr 0 (.tmp 2), (some (96, false)), []⟩,
    ⟨(some 98), .load (.cell (.int .i64)) (.tmp 97), (some (96, false)), []⟩,
    ⟨(some 99), .bin .other .eql (.tmp 98) (.c (.int .i64 10)), (some (96, false)), []⟩,
    ⟨(some 100), .pick (.tmp 96) (.c (.bool true)) (.tmp 99), (some (92, false)), []⟩,
    ⟨(some 101), .move (.tmp 100), (some (92, false)), []⟩,
    ⟨(some 102), .fieldAddr 4 (.tmp 2), (some (101, true)), []⟩,
    ⟨(some 103), .load (.cell (.int .i64)) (.tmp 102), (some (101, true)), []⟩,
    ⟨(some 104), .call 58 [(.tmp 103), (.c (.int .i64 0)), (.c (.int .i64 31))] [(.cell .bool)] (.bool false), (some (101, true)), []⟩,
    ⟨(some 105), .un .not (.tmp 104), (some (101, true)), []⟩,
    ⟨(some 106), .pick (.tmp 101) (.tmp 105) (.c (.bool false)), (some (92, false)), []⟩,
    ⟨(some 107), .pick (.tmp 92) (.c (.bool true)) (.tmp 106), none, []⟩,
    ⟨(some 108), .move (.tmp 107), none, []⟩,
    ⟨(some 109), .fieldAddr 0 (.tmp 2), (some (108, false)), []⟩,
    ⟨(some 110), .load (.cell (.int .i64)) (.tmp 109), (some (108, false)), []⟩,
    ⟨(some 111), .bin .other .eql (.tmp 110) (.c (.int .i64 14)), (some (108, false)), []⟩,
    ⟨(some 112), .move (.tmp 111), (some (108, false)), []⟩,
    ⟨(some 113), .fieldAddr 4 (.tmp 2), (some (112, true)), []⟩,
    ⟨(some 114), .load (.cell (.int .i64)) (.tmp 113), (some (112, true)), []⟩,
    ⟨(some 115), .call 58 [(.tmp 114), (.c (.int .i64 0)), (.c (.int .i64 4095))] [(.cell .bool)] (.bool false), (some (112, true)), []⟩,
    ⟨(some 116), .un .not (.tmp 115), (some (112, true)), []⟩,
    ⟨(some 117), .pick (.tmp 112) (.tmp 116) (.c (.bool false)), (some (108, false)), []⟩,
    ⟨(some 118), .pick (.tmp 108) (.c (.bool true)) (.tmp 117), none, []⟩]) k59x13) k59x12
def k59x2 : AC := .seq (.seq (.ops true [
    ⟨(some 17), .fieldAddr 0 (.tmp 5), none, []⟩,
    ⟨(some 18), .load (.cell .bool) (.tmp 17), none, []⟩,
    ⟨(some 19), .un .not (.tmp 18), none, []⟩,
    ⟨(some 20), .move (.tmp 19), none, []⟩,
    ⟨(some 21), .fieldAddr 1 (.tmp 2), (some (20, true)), []⟩,
    ⟨(some 22), .load (.cell (.int .i64)) (.tmp 21), (some (20, true)), []⟩,
    ⟨(some 23), .bin .other .neq (.tmp 22) (.c (.int .i64 0)), (some (20, true)), []⟩,
    ⟨(some 24), .pick (.tmp 20) (.tmp 23) (.c (.bool false)), none, []⟩,
    ⟨(some 25), .move (.tmp 24), none, []⟩,
    ⟨(some 26), .fieldAddr 1 (.tmp 5), (some (25, false)), []⟩,
    ⟨(some 27), .load (.cell .bool) (.tmp 26), (some (25, false)), []⟩,
    ⟨(some 28), .un .not (.tmp 27), (some (25, false)), []⟩,
    ⟨(some 29), .move (.tmp 28), (some (25, false)), []⟩,
    ⟨(some 30), .fieldAddr 2 (.tmp 2), (some (29, true)), []⟩,
    ⟨(some 31), .load (.cell (.int .i64)) (.tmp 30), (some (29, true)), []⟩,
    ⟨(some 32), .bin .other .neq (.tmp 31) (.c (.int .i64 0)), (some (29, true)), []⟩,
    ⟨(some 33), .pick (.tmp 29) (.tmp 32) (.c (.bool false)), (some (25, false)), []⟩,
    ⟨(some 34), .pick (.tmp 25) (.c (.bool true)) (.tmp 33), none, []⟩,
    ⟨(some 35), .move (.tmp 34), none, []⟩,
    ⟨(some 36), .fieldAddr 2 (.tmp 5), (some (35, false)), []⟩,
    ⟨(some 37), .load (.cell .bool) (.tmp 36), (some (35, false)), []⟩,
    ⟨(some 38), .un .not (.tmp 37), (some (35, false)), []⟩,
    ⟨(some 39), .move (.tmp 38), (some (35, false)), []⟩,
    ⟨(some 40), .fieldAddr 3 (.tmp 2), (some (39, true)), []⟩,
    ⟨(some 41), .load (.cell (.int .i64)) (.tmp 40), (some (39, true)), []⟩,
    ⟨(some 42), .bin .other .neq (.tmp 41) (.c (.int .i64 0)), (some (39, true)), []⟩,
    ⟨(some 43), .pick (.tmp 39) (.tmp 42) (.c (.bool false)), (some (35, false)), []⟩,
    ⟨(some 44), .pick (.tmp 35) (.c (.bool true)) (.tmp 43), none, []⟩,
    ⟨(some 45), .move (.tmp 44), none, []⟩,
    ⟨(some 46), .fieldAddr 3 (.tmp 5), (some (45, false)), []⟩,
    ⟨(some 47), .load (.cell .bool) (.tmp 46), (some (45, false)), []⟩,
    ⟨(some 48), .un .not (.tmp 47), (some (45, false)), []⟩,
    ⟨(some 49), .move (.tmp 48), (some (45, false)), []⟩,
    ⟨(some 50), .fieldAddr 4 (.tmp 2), (some (49, true)), []⟩,
    ⟨(some 51), .load (.cell (.int .i64)) (.tmp 50), (some (49, true)), []⟩,
    ⟨(some 52), .bin .other .neq (.tmp 51) (.c (.int .i64 0)), (some (49, true)), []⟩,
    ⟨(some 53), .pick (.tmp 49) (.tmp 52) (.c (.bool false)), (some (45, false)), []⟩,
    ⟨(some 54), .pick (.tmp 45) (.c (.bool true)) (.tmp 53), none, []⟩,
    ⟨(some 55), .move (.tmp 54), none, []⟩,
    ⟨(some 56), .fieldAddr 4 (.tmp 5), (some (55, false)), []⟩,
    ⟨(some 57), .load (.cell .bool) (.tmp 56), (some (55, false)), []⟩,
    ⟨(some 58), .un .not (.tmp 57), (some (55, false)), []⟩,
    ⟨(some 59), .move (.tmp 58), (some (55, false)), []⟩,
    ⟨(some 60), .fieldAddr 5 (.tmp 2), (some (59, true)), []⟩,
    ⟨(some 61), .load (.cell .sl) (.tmp 60), (some (59, true)), []⟩,
    ⟨(some 62), .lenSl (.tmp 61), (some (59, true)), []⟩,
    ⟨(some 63), .bin .other .gtr (.tmp 62) (.c (.int .i64 0)), (some (59, true)), []⟩,
    ⟨(some 64), .pick (.tmp 59) (.tmp 63) (.c (.bool false)), (some (55, false)), []⟩,
    ⟨(some 65), .pick (.tmp 55) (.c (.bool true)) (.tmp 64), none, []⟩]) k59x8) k59x7
def k59x1 : AC := .seq (.seq (.ops false [
    ⟨(some 15), .move (.tmp 6), none, []⟩,
    ⟨(some 16), .un .not (.tmp 15), none, []⟩]) k59x3) k59x2
def k59x0 : AC := .seq (.ops false [
    ⟨(some 10), .fieldAddr 0 (.tmp 2), none, []⟩,
    ⟨(some 11), .load (.cell (.int .i64)) (.tmp 10), none, []⟩,
    ⟨(some 12), .call 89 [(.tmp 11)] [(.agg [.bool, .bool, .bool, .bool, .bool]), (.cell .bool)] .opq, none, []⟩,
    ⟨(some 9), .move (.tmp 12), none, []⟩,
    ⟨(some 13), .extract (.tmp 9) 0, none, []⟩,
    ⟨(some 14), .extract (.tmp 9) 1, none, []⟩,
    ⟨(some 5), .allocL [(.bool false), (.bool false), (.bool false), (.bool false), (.bool false)], none, []⟩,
    ⟨none, .store 5 (.tmp 5) (.tmp 13), none, []⟩,
    ⟨(some 6), .move (.tmp 14), none, []⟩]) k59x1
/-- provenance/tile.badIns -/
def c59 : AFn := ⟨140, [.tmp 4],
  .seq (.ops false [
    ⟨(some 2), .boxL (.tmp 0), none, []⟩,
    ⟨(some 4), .move (.c (.int .i64 0)), none, []⟩]) k59x0⟩
theorem cf59 : cFn Try.prog 59 = some c59 := by kernel_rfl
def k60x14 : AC := .ret
def k60x13 : AC := .seq (.mask 64) k60x14
def k60x12 : AC := .mask 398
def k60x11 : AC := .seq (.cond (.tmp 68)
   (.ops true [
      ⟨(some 70), .fieldAddr 1 (.tmp 3), none, []⟩,
      ⟨(some 71), .load (.cell (.int .i64)) (.tmp 70), none, []⟩,
      ⟨(some 72), .bin .other .eql (.tmp 71) (.c (.int .i64 0)), none, []⟩,
      ⟨(some 73), .move (.tmp 72), none, []⟩,
      ⟨(some 74), .fieldAddr 2 (.tmp 3), (some (73, true)), []⟩,
      ⟨(some 75), .load (.cell (.int .i64)) (.tmp 74), (some (73, true)), []⟩,
      ⟨(some 76), .bin .other .eql (.tmp 75) (.c (.int .i64 0)), (some (73, true)), []⟩,
      ⟨(some 77), .pick (.tmp 73) (.tmp 76) (.c (.bool false)), none, []⟩,
      ⟨(some 78), .move (.tmp 77), none, []⟩,
      ⟨(some 79), .fieldAddr 3 (.tmp 3), (some (78, true)), []⟩,
      ⟨(some 80), .load (.cell (.int .i64)) (.tmp 79), (some (78, true)), []⟩,
      ⟨(some 81), .bin .other .eql (.tmp 80) (.c (.int .i64 0)), (some (78, true)), []⟩,
      ⟨(some 82), .pick (.tmp 78) (.tmp 81) (.c (.bool false)), none, []⟩,
      ⟨(some 83), .move (.tmp 82), none, []⟩,
      ⟨(some 84), .fieldAddr 4 (.tmp 3), (some (83, true)), []⟩,
      ⟨(some 85), .load (.cell (.int .i64)) (.tmp 84), (some (83, true)), []⟩,
      ⟨(some 86), .call 58 [(.tmp 85), (.c (.int .i64 1)), (.c (.int .i64 6))] [(.cell .bool)] (.bool false), (some (83, true)), []⟩,
      ⟨(some 87), .pick (.tmp 83) (.tmp 86) (.c (.bool false)), none, []⟩,
      ⟨(some 8), .move (.tmp 87), none, []⟩])
   (.seq (.ops false [
      ⟨(some 6), .move (.c (.int .i64 1)), none, []⟩]) k60x13)) k60x12
def k60x10 : AC := .join 398
def k60x9 : AC := .seq (.cond (.tmp 48)
   (.ops true [
      ⟨(some 50), .fieldAddr 1 (.tmp 3), none, []⟩,
      ⟨(some 51), .load (.cell (.int .i64)) (.tmp 50), none, []⟩,
      ⟨(some 52), .bin .other .eql (.tmp 51) (.c (.int .i64 16)), none, []⟩,
      ⟨(some 53), .move (.tmp 52), none, []⟩,
      ⟨(some 54), .fieldAddr 1 (.tmp 3), (some (53, false)), []⟩,
      ⟨(some 55), .load (.cell (.int .i64)) (.tmp 54), (some (53, false)), []⟩,
      ⟨(some 56), .bin .other .eql (.tmp 55) (.c (.int .i64 17)), (some (53, false)), []⟩,
      ⟨(some 57), .pick (.tmp 53) (.c (.bool true)) (.tmp 56), none, []⟩,
      ⟨(some 58), .move (.tmp 57), none, []⟩,
      ⟨(some 59), .fieldAddr 1 (.tmp 3), (some (58, false)), []⟩,
      ⟨(some 60), .load (.cell (.int .i64)) (.tmp 59), (some (58, false)), []⟩,
      ⟨(some 61), .bin .other .eql (.tmp 60) (.c (.int .i64 18)), (some (58, false)), []⟩,
      ⟨(some 62), .pick (.tmp 58) (.c (.bool true)) (.tmp 61), none, []⟩,
      ⟨(some 63), .move (.tmp 62), none, []⟩,
      ⟨(some 64), .fieldAddr 4 (.tmp 3), (some (63, true)), []⟩,
      ⟨(some 65), .load (.cell (.int .i64)) (.tmp 64), (some (63, true)), []⟩,
      ⟨(some 66), .bin .other .eql (.tmp 65) (.c (.int .i64 0)), (some (63, true)), []⟩,
      ⟨(some 67), .pick (.tmp 63) (.tmp 66) (.c (.bool false)), none, []⟩,
      ⟨(some 7), .move (.c (.int .i64 2)), none, []⟩,
      ⟨(some 8), .move (.tmp 67), none, []⟩])
   (.seq (.ops false [
      ⟨(some 69), .bin .other .eql (.tmp 12) (.c (.int .i64 3)), none, []⟩,
      ⟨(some 68), .move (.tmp 69), none, []⟩]) k60x11)) k60x10
def k60x8 : AC := .join 398
def k60x7 : AC := .seq (.cond (.tmp 28)
   (.ops true [
      ⟨(some 30), .fieldAddr 1 (.tmp 3), none, []⟩,
      ⟨(some 31), .load (.cell (.int .i64)) (.tmp 30), none, []⟩,
      ⟨(some 32), .bin .other .eql (.tmp 31) (.c (.int .i64 0)), none, []⟩,
      ⟨(some 33), .move (.tmp 32), none, []⟩,
      ⟨(some 34), .fieldAddr 2 (.tmp 3), (some (33, true)), []⟩,
      ⟨(some 35), .load (.cell (.int .i64)) (.tmp 34), (some (33, true)), []⟩,
      ⟨(some 36), .bin .other .eql (.tmp 35) (.c (.int .i64 0)), (some (33, true)), []⟩,
      ⟨(some 37), .pick (.tmp 33) (.tmp 36) (.c (.bool false)), none, []⟩,
      ⟨(some 38), .move (.tmp 37), none, []⟩,
      ⟨(some 39), .fieldAddr 3 (.tmp 3), (some (38, true)), []⟩,
      ⟨(some 40), .load (.cell (.int .i64)) (.tmp 39), (some (38, true)), []⟩,
      ⟨(some 41), .bin .other .eql (.tmp 40) (.c (.int .i64 0)), (some (38, true)), []⟩,
      ⟨(some 42), .pick (.tmp 38) (.tmp 41) (.c (.bool false)), none, []⟩,
      ⟨(some 43), .move (.tmp 42), none, []⟩,
      ⟨(some 44), .fieldAddr 4 (.tmp 3), (some (43, true)), []⟩,
      ⟨(some 45), .load (.cell (.int .i64)) (.tmp 44), (some (43, true)), []⟩,
      ⟨(some 46), .bin .other .eql (.tmp 45) (.c (.int .i64 0)), (some (43, true)), []⟩,
      ⟨(some 47), .pick (.tmp 43) (.tmp 46) (.c (.bool false)), none, []⟩,
      ⟨(some 7), .move (.c (.int .i64 1)), none, []⟩,
      ⟨(some 8), .move (.tmp 47), none, []⟩])
   (.seq (.ops false [
      ⟨(some 49), .bin .other .eql (.tmp 12) (.c (.int .i64 2)), none, []⟩,
      ⟨(some 48), .move (.tmp 49), none, []⟩]) k60x9)) k60x8
def k60x6 : AC := .join 398
def k60x5 : AC := .seq (.cond (.tmp 13)
   (.ops true [
      ⟨(some 15), .fieldAddr 1 (.tmp 3), none, []⟩,
      ⟨(some 16), .load (.cell (.int .i64)) (.tmp 15), none, []⟩,
      ⟨(some 17), .bin .other .eql (.tmp 16) (.c (.int .i64 0)), none, []⟩,
      ⟨(some 18), .move (.tmp 17), none, []⟩,
      ⟨(some 19), .fieldAddr 3 (.tmp 3), (some (18, true)), []⟩,
      ⟨(some 20), .load (.cell (.int .i64)) (.tmp 19), (some (18, true)), []⟩,
      ⟨(some 21), .bin .other .eql (.tmp 20) (.c (.int .i64 0)), (some (18, true)), []⟩,
      ⟨(some 22), .pick (.tmp 18) (.tmp 21) (.c (.bool false)), none, []⟩,
      ⟨(some 23), .move (.tmp 22), none, []⟩,
      ⟨(some 24), .fieldAddr 4 (.tmp 3), (some (23, true)), []⟩,
      ⟨(some 25), .load (.cell (.int .i64)) (.tmp 24), (some (23, true)), []⟩,
      ⟨(some 26), .bin .other .eql (.tmp 25) (.c (.int .i64 0)), (some (23, true)), []⟩,
      ⟨(some 27), .pick (.tmp 23) (.tmp 26) (.c (.bool false)), none, []⟩,
      ⟨(some 8), .move (.tmp 27), none, []⟩])
   (.seq (.ops false [
      ⟨(some 29), .bin .other .eql (.tmp 12) (.c (.int .i64 1)), none, []⟩,
      ⟨(some 28), .move (.tmp 29), none, []⟩]) k60x7)) k60x6
def k60x4 : AC := .mask 398
def k60x3 : AC := .seq (.block 0 (.seq (.ops false [
     ⟨(some 14), .bin .other .eql (.tmp 12) (.c (.int .i64 0)), none, []⟩,
     ⟨(some 13), .move (.tmp 14), none, []⟩]) k60x5)) k60x4
def k60x22 : AC := .ret
def k60x21 : AC := .seq (.mask 64) k60x22
def k60x20 : AC := .mask 14
def k60x19 : AC := .seq (.cond (.tmp 96)
   (.seq (.ops false [
      ⟨(some 6), .move (.c (.int .i64 3)), none, []⟩]) k60x21)
   (.skip)) k60x20
def k60x27 : AC := .ret
def k60x26 : AC := .seq (.mask 64) k60x27
def k60x25 : AC := .mask 12
def k60x24 : AC := .seq (.cond (.tmp 110)
   (.seq (.ops false [
      ⟨(some 6), .move (.c (.int .i64 6)), none, []⟩]) k60x26)
   (.skip)) k60x25
def k60x35 : AC := .exit 1
def k60x34 : AC := .mask 36346078009743793399713474304540676
def k60x42 : AC := .ret
def k60x41 : AC := .seq (.mask 64) k60x42
def k60x40 : AC := .mask 36346078009743793399713474304540676
def k60x39 : AC := .seq (.cond (.tmp 122)
   (.seq (.ops false [
      ⟨(some 6), .move (.c (.int .i64 4)), none, []⟩]) k60x41)
   (.skip)) k60x40
def k60x38 : AC := .seq (.ops false [
    ⟨(some 118), .move (.tmp 10), none, []⟩,
    ⟨(some 119), .move (.tmp 2), none, []⟩,
    ⟨(some 120), .bin .other .sub (.tmp 119) (.c (.int .i64 1)), none, []⟩,
    ⟨(some 121), .call 58 [(.tmp 118), (.c (.int .i64 1)), (.tmp 120)] [(.cell .bool)] (.bool false), none, []⟩,
    ⟨(some 122), .un .not (.tmp 121), none, []⟩]) k60x39
def k60x37 : AC := .mask 36346078009743793399713474304540676
def k60x36 : AC := .ops false [
    ⟨(some 123), .bin .other .add (.tmp 114) (.c (.int .i64 1)), none, []⟩,
    ⟨(some 114), .move (.tmp 123), none, []⟩]
def k60x33 : AC := .seq (.seq (.block 2 (.seq (.ops false [
     ⟨(some 116), .indexAddr 1 (.tmp 112) (.tmp 114), none, []⟩,
     ⟨(some 117), .load (.cell (.int .i64)) (.tmp 116), none, []⟩,
     ⟨(some 10), .move (.tmp 117), none, []⟩]) k60x38)) k60x37) k60x36
def k60x32 : AC := .seq (.seq (.cond (.tmp 115)
   (.skip)
   (.seq (.mask 0) k60x35)) k60x34) k60x33
def k60x31 : AC := .seq (.ops false [
    ⟨(some 115), .bin .other .lss (.tmp 114) (.tmp 113), none, []⟩]) k60x32
def k60x30 : AC := .mask 0
def k60x29 : AC := .seq (.block 1 (.loop 36346078009743793399713474304540676 0 k60x31)) k60x30
def k60x44 : AC := .ret
def k60x43 : AC := .seq (.mask 64) k60x44
def k60x28 : AC := .seq (.ops false [
    ⟨(some 6), .move (.c (.int .i64 0)), none, []⟩]) k60x43
def k60x23 : AC := .seq (.seq (.ops false [
    ⟨(some 111), .fieldAddr 5 (.tmp 3), none, []⟩,
    ⟨(some 112), .load (.cell .sl) (.tmp 111), none, []⟩,
    ⟨(some 113), .lenSl (.tmp 112), none, []⟩,
    ⟨(some 114), .move (.c (.int .i64 0)), none, []⟩]) k60x29) k60x28
def k60x18 : AC := .seq (.seq (.ops true [
    ⟨(some 97), .fieldAddr 2 (.tmp 3), none, []⟩,
    ⟨(some 98), .load (.cell (.int .i64)) (.tmp 97), none, []⟩,
    ⟨(some 99), .move (.tmp 1), none, []⟩,
    ⟨(some 100), .bin .other .sub (.tmp 99) (.c (.int .i64 1)), none, []⟩,
    ⟨(some 101), .call 58 [(.tmp 98), (.c (.int .i64 0)), (.tmp 100)] [(.cell .bool)] (.bool false), none, []⟩,
    ⟨(some 102), .un .not (.tmp 101), none, []⟩,
    ⟨(some 103), .move (.tmp 102), none, []⟩,
    ⟨(some 104), .fieldAddr 3 (.tmp 3), (some (103, false)), []⟩,
    ⟨(some 105), .load (.cell (.int .i64)) (.tmp 104), (some (103, false)), []⟩,
    ⟨(some 106), .move (.tmp 1), (some (103, false)), []⟩,
    ⟨(some 107), .bin .other .sub (.tmp 106) (.c (.int .i64 1)), (some (103, false)), []⟩,
    ⟨(some 108), .call 58 [(.tmp 105), (.c (.int .i64 0)), (.tmp 107)] [(.cell .bool)] (.bool false), (some (103, false)), []⟩,
    ⟨(some 109), .un .not (.tmp 108), (some (103, false)), []⟩,
    ⟨(some 110), .pick (.tmp 103) (.c (.bool true)) (.tmp 109), none, []⟩]) k60x24) k60x23
def k60x2 : AC := .seq (.seq (.ops true [
    ⟨(some 88), .move (.tmp 8), none, []⟩,
    ⟨(some 89), .un .not (.tmp 88), none, []⟩,
    ⟨(some 90), .move (.tmp 89), none, []⟩,
    ⟨(some 91), .fieldAddr 5 (.tmp 3), (some (90, false)), []⟩,
    ⟨(some 92), .load (.cell .sl) (.tmp 91), (some (90, false)), []⟩,
    ⟨(some 93), .lenSl (.tmp 92), (some (90, false)), []⟩,
    ⟨(some 94), .move (.tmp 7), (some (90, false)), []⟩,
    ⟨(some 95), .bin .other .neq (.tmp 93) (.tmp 94), (some (90, false)), []⟩,
    ⟨(some 96), .pick (.tmp 90) (.c (.bool true)) (.tmp 95), none, []⟩]) k60x19) k60x18
def k60x1 : AC := .seq (.seq (.ops false [
    ⟨(some 11), .fieldAddr 0 (.tmp 3), none, []⟩,
    ⟨(some 12), .load (.cell (.int .i64)) (.tmp 11), none, []⟩]) k60x3) k60x2
def k60x0 : AC := .seq (.ops false [
    ⟨(some 7), .move (.c (.int .i64 0)), none, []⟩,
    ⟨(some 8), .move (.c (.bool false)), none, []⟩]) k60x1
/-- provenance/tile.badEnd -/
def c60 : AFn := ⟨124, [.tmp 6],
  .seq (.ops false [
    ⟨(some 3), .boxL (.tmp 0), none, []⟩,
    ⟨(some 6), .move (.c (.int .i64 0)), none, []⟩]) k60x0⟩
theorem cf60 : cFn Try.prog 60 = some c60 := by kernel_rfl
def k61x9 : AC := .exit 0
def k61x8 : AC := .mask 24586
def k61x12 : AC := .ops false [
    ⟨(some 17), .move (.tmp 3), none, []⟩,
    ⟨(some 18), .move (.tmp 4), none, []⟩,
    ⟨(some 19), .fieldAddr 2 (.tmp 1), none, []⟩,
    ⟨(some 20), .load (.cell (.int .i64)) (.tmp 19), none, []⟩,
    ⟨(some 21), .makeSl [(.bool false)] 1 (.tmp 20) (.tmp 20), none, []⟩,
    ⟨(some 22), .indexAddr 1 (.tmp 17) (.tmp 18), none, []⟩,
    ⟨none, .store 1 (.tmp 22) (.tmp 21), none, []⟩]
def k61x11 : AC := .mask 24586
def k61x10 : AC := .ops false [
    ⟨(some 23), .bin .other .add (.tmp 14) (.c (.int .i64 1)), none, []⟩,
    ⟨(some 14), .move (.tmp 23), none, []⟩]
def k61x7 : AC := .seq (.seq (.block 1 (.seq (.ops false [
     ⟨(some 16), .move (.tmp 14), none, []⟩,
     ⟨(some 4), .move (.tmp 16), none, []⟩]) k61x12)) k61x11) k61x10
def k61x6 : AC := .seq (.seq (.cond (.tmp 15)
   (.skip)
   (.seq (.mask 10) k61x9)) k61x8) k61x7
def k61x5 : AC := .seq (.ops false [
    ⟨(some 15), .bin .other .lss (.tmp 14) (.tmp 13), none, []⟩]) k61x6
def k61x4 : AC := .mask 10
def k61x3 : AC := .seq (.block 0 (.loop 24586 10 k61x5)) k61x4
def k61x20 : AC := .exit 2
def k61x19 : AC := .mask 10
def k61x18 : AC := .seq (.cond (.tmp 24)
   (.skip)
   (.seq (.mask 8) k61x20)) k61x19
def k61x29 : AC := .exit 4
def k61x28 : AC := .mask 106
def k61x27 : AC := .seq (.cond (.tmp 30)
   (.skip)
   (.seq (.mask 42) k61x29)) k61x28
def k61x35 : AC := .join 106
def k61x34 : AC := .seq (.cond (.tmp 50)
   (.ops false [
      ⟨(some 51), .move (.tmp 3), none, []⟩,
      ⟨(some 52), .move (.tmp 6), none, []⟩,
      ⟨(some 53), .move (.tmp 7), none, []⟩,
      ⟨(some 54), .indexAddr 1 (.tmp 51) (.tmp 52), none, []⟩,
      ⟨none, .store 1 (.tmp 54) (.tmp 53), none, []⟩,
      ⟨(some 5), .move (.c (.bool true)), none, []⟩])
   (.skip)) k61x35
def k61x33 : AC := .seq (.ops false [
    ⟨(some 44), .move (.tmp 7), none, []⟩,
    ⟨(some 45), .move (.tmp 3), none, []⟩,
    ⟨(some 46), .move (.tmp 6), none, []⟩,
    ⟨(some 47), .indexAddr 1 (.tmp 45) (.tmp 46), none, []⟩,
    ⟨(some 48), .load (.cell .sl) (.tmp 47), none, []⟩,
    ⟨(some 49), .call 91 [(.tmp 44), (.tmp 48)] [(.cell .bool)] (.bool false), none, []⟩,
    ⟨(some 50), .un .not (.tmp 49), none, []⟩]) k61x34
def k61x32 : AC := .seq (.ops false [
    ⟨(some 37), .fieldAddr 3 (.tmp 1), none, []⟩,
    ⟨(some 38), .load (.cell .sl) (.tmp 37), none, []⟩,
    ⟨(some 39), .move (.tmp 6), none, []⟩,
    ⟨(some 40), .indexAddr 7 (.tmp 38) (.tmp 39), none, []⟩,
    ⟨(some 41), .load (.agg [.sl, (.int .i64), (.int .i64), (.int .i64), (.int .i64), (.int .i64), .sl]) (.tmp 40), none, []⟩,
    ⟨(some 42), .move (.tmp 7), none, []⟩,
    ⟨(some 43), .call 90 [(.tmp 41), (.tmp 42)] [] .opq, none, []⟩]) k61x33
def k61x31 : AC := .mask 106
def k61x30 : AC := .ops false [
    ⟨(some 31), .move (.tmp 6), none, []⟩,
    ⟨(some 32), .bin .other .sub (.tmp 31) (.c (.int .i64 1)), none, []⟩,
    ⟨(some 6), .move (.tmp 32), none, []⟩]
def k61x26 : AC := .seq (.seq (.block 5 (.seq (.ops false [
     ⟨(some 33), .load (.agg [(.int .i64), .sl, (.int .i64), .sl]) (.tmp 1), none, []⟩,
     ⟨(some 34), .move (.tmp 3), none, []⟩,
     ⟨(some 35), .move (.tmp 6), none, []⟩,
     ⟨(some 36), .call 62 [(.tmp 33), (.tmp 34), (.tmp 35)] [(.cell .sl)] (.sl .nil 0), none, []⟩,
     ⟨(some 7), .move (.tmp 36), none, []⟩]) k61x32)) k61x31) k61x30
def k61x25 : AC := .seq (.seq (.ops false [
    ⟨(some 29), .move (.tmp 6), none, []⟩,
    ⟨(some 30), .bin .other .geq (.tmp 29) (.c (.int .i64 0)), none, []⟩]) k61x27) k61x26
def k61x24 : AC := .mask 42
def k61x23 : AC := .seq (.block 4 (.loop 106 42 k61x25)) k61x24
def k61x22 : AC := .seq (.ops false [
    ⟨(some 25), .fieldAddr 3 (.tmp 1), none, []⟩,
    ⟨(some 26), .load (.cell .sl) (.tmp 25), none, []⟩,
    ⟨(some 27), .lenSl (.tmp 26), none, []⟩,
    ⟨(some 28), .bin .other .sub (.tmp 27) (.c (.int .i64 1)), none, []⟩,
    ⟨(some 6), .move (.tmp 28), none, []⟩]) k61x23
def k61x21 : AC := .mask 42
def k61x17 : AC := .seq (.block 3 (.seq (.ops false [
     ⟨(some 5), .move (.c (.bool false)), none, []⟩]) k61x22)) k61x21
def k61x16 : AC := .seq (.seq (.ops false [
    ⟨(some 24), .move (.tmp 5), none, []⟩]) k61x18) k61x17
def k61x15 : AC := .mask 8
def k61x14 : AC := .seq (.block 2 (.loop 42 8 k61x16)) k61x15
def k61x38 : AC := .ret
def k61x37 : AC := .seq (.mask 4) k61x38
def k61x13 : AC := .seq (.ops false [
    ⟨(some 55), .move (.tmp 3), none, []⟩,
    ⟨(some 2), .move (.tmp 55), none, []⟩]) k61x37
def k61x2 : AC := .seq (.seq (.ops false [
    ⟨(some 5), .move (.c (.bool true)), none, []⟩]) k61x14) k61x13
def k61x1 : AC := .seq (.seq (.ops false [
    ⟨(some 12), .move (.tmp 3), none, []⟩,
    ⟨(some 13), .lenSl (.tmp 12), none, []⟩,
    ⟨(some 14), .move (.c (.int .i64 0)), none, []⟩]) k61x3) k61x2
def k61x0 : AC := .seq (.ops false [
    ⟨(some 8), .fieldAddr 3 (.tmp 1), none, []⟩,
    ⟨(some 9), .load (.cell .sl) (.tmp 8), none, []⟩,
    ⟨(some 10), .lenSl (.tmp 9), none, []⟩,
    ⟨(some 11), .makeSl [(.sl .nil 0)] 24 (.tmp 10) (.tmp 10), none, []⟩,
    ⟨(some 3), .move (.tmp 11), none, []⟩]) k61x1
/-- provenance/tile.live -/
def c61 : AFn := ⟨56, [.tmp 2],
  .seq (.ops false [
    ⟨(some 1), .boxL (.tmp 0), none, []⟩,
    ⟨(some 2), .move (.c (.sl .nil 0)), none, []⟩]) k61x0⟩
theorem cf61 : cFn Try.prog 61 = some c61 := by kernel_rfl
def k62x9 : AC := .exit 0
def k62x8 : AC := .mask 14680194
def k62x19 : AC := .exit 2
def k62x18 : AC := .mask 7530872962
def k62x22 : AC := .ops true [
    ⟨(some 37), .move (.tmp 7), none, []⟩,
    ⟨(some 38), .move (.tmp 10), none, []⟩,
    ⟨(some 39), .move (.tmp 7), none, []⟩,
    ⟨(some 40), .move (.tmp 10), none, []⟩,
    ⟨(some 41), .indexAddr 1 (.tmp 39) (.tmp 40), none, []⟩,
    ⟨(some 42), .load (.cell .bool) (.tmp 41), none, []⟩,
    ⟨(some 43), .move (.tmp 42), none, []⟩,
    ⟨(some 44), .move (.tmp 11), (some (43, false)), []⟩,
    ⟨(some 45), .pick (.tmp 43) (.c (.bool true)) (.tmp 44), none, []⟩,
    ⟨(some 46), .indexAddr 1 (.tmp 37) (.tmp 38), none, []⟩,
    ⟨none, .store 1 (.tmp 46) (.tmp 45), none, []⟩]
def k62x21 : AC := .mask 7530872962
def k62x20 : AC := .ops false [
    ⟨(some 47), .bin .other .add (.tmp 32) (.c (.int .i64 1)), none, []⟩,
    ⟨(some 32), .move (.tmp 47), none, []⟩]
def k62x17 : AC := .seq (.seq (.block 3 (.seq (.ops false [
     ⟨(some 34), .move (.tmp 32), none, []⟩,
     ⟨(some 35), .indexAddr 1 (.tmp 30) (.tmp 32), none, []⟩,
     ⟨(some 36), .load (.cell .bool) (.tmp 35), none, []⟩,
     ⟨(some 10), .move (.tmp 34), none, []⟩,
     ⟨(some 11), .move (.tmp 36), none, []⟩]) k62x22)) k62x21) k62x20
def k62x16 : AC := .seq (.seq (.cond (.tmp 33)
   (.skip)
   (.seq (.mask 14680194) k62x19)) k62x18) k62x17
def k62x15 : AC := .seq (.ops false [
    ⟨(some 33), .bin .other .lss (.tmp 32) (.tmp 31), none, []⟩]) k62x16
def k62x14 : AC := .mask 14680194
def k62x13 : AC := .seq (.block 2 (.loop 7530872962 14680194 k62x15)) k62x14
def k62x12 : AC := .seq (.ops false [
    ⟨(some 27), .move (.tmp 1), none, []⟩,
    ⟨(some 28), .move (.tmp 9), none, []⟩,
    ⟨(some 29), .indexAddr 1 (.tmp 27) (.tmp 28), none, []⟩,
    ⟨(some 30), .load (.cell .sl) (.tmp 29), none, []⟩,
    ⟨(some 31), .lenSl (.tmp 30), none, []⟩,
    ⟨(some 32), .move (.c (.int .i64 0)), none, []⟩]) k62x13
def k62x11 : AC := .mask 14680194
def k62x10 : AC := .ops false [
    ⟨(some 48), .bin .other .add (.tmp 23) (.c (.int .i64 1)), none, []⟩,
    ⟨(some 23), .move (.tmp 48), none, []⟩]
def k62x7 : AC := .seq (.seq (.block 1 (.seq (.ops false [
     ⟨(some 25), .indexAddr 1 (.tmp 21) (.tmp 23), none, []⟩,
     ⟨(some 26), .load (.cell (.int .i64)) (.tmp 25), none, []⟩,
     ⟨(some 9), .move (.tmp 26), none, []⟩]) k62x12)) k62x11) k62x10
def k62x6 : AC := .seq (.seq (.cond (.tmp 24)
   (.skip)
   (.seq (.mask 128) k62x9)) k62x8) k62x7
def k62x5 : AC := .seq (.ops false [
    ⟨(some 24), .bin .other .lss (.tmp 23) (.tmp 22), none, []⟩]) k62x6
def k62x4 : AC := .mask 128
def k62x3 : AC := .seq (.block 0 (.loop 14680194 128 k62x5)) k62x4
def k62x24 : AC := .ret
def k62x23 : AC := .seq (.mask 64) k62x24
def k62x2 : AC := .seq (.ops false [
    ⟨(some 49), .move (.tmp 7), none, []⟩,
    ⟨(some 6), .move (.tmp 49), none, []⟩]) k62x23
def k62x1 : AC := .seq (.seq (.ops false [
    ⟨(some 15), .fieldAddr 3 (.tmp 3), none, []⟩,
    ⟨(some 16), .load (.cell .sl) (.tmp 15), none, []⟩,
    ⟨(some 17), .move (.tmp 2), none, []⟩,
    ⟨(some 18), .indexAddr 7 (.tmp 16) (.tmp 17), none, []⟩,
    ⟨(some 19), .fieldAddr 1 (.tmp 18), none, []⟩,
    ⟨(some 20), .fieldAddr 5 (.tmp 19), none, []⟩,
    ⟨(some 21), .load (.cell .sl) (.tmp 20), none, []⟩,
    ⟨(some 22), .lenSl (.tmp 21), none, []⟩,
    ⟨(some 23), .move (.c (.int .i64 0)), none, []⟩]) k62x3) k62x2
def k62x0 : AC := .seq (.ops false [
    ⟨(some 12), .fieldAddr 2 (.tmp 3), none, []⟩,
    ⟨(some 13), .load (.cell (.int .i64)) (.tmp 12), none, []⟩,
    ⟨(some 14), .makeSl [(.bool false)] 1 (.tmp 13) (.tmp 13), none, []⟩,
    ⟨(some 7), .move (.tmp 14), none, []⟩]) k62x1
/-- provenance/tile.after -/
def c62 : AFn := ⟨50, [.tmp 6],
  .seq (.ops false [
    ⟨(some 3), .boxL (.tmp 0), none, []⟩,
    ⟨(some 6), .move (.c (.sl .nil 0)), none, []⟩]) k62x0⟩
theorem cf62 : cFn Try.prog 62 = some c62 := by kernel_rfl
def k63x6 : AC := .ret
def k63x5 : AC := .seq (.mask 16) k63x6
def k63x4 : AC := .mask 35
def k63x3 : AC := .seq (.cond (.tmp 12)
   (.seq (.ops false [
      ⟨(some 13), .move (.tmp 0), none, []⟩,
      ⟨(some 4), .move (.tmp 13), none, []⟩]) k63x5)
   (.skip)) k63x4
def k63x14 : AC := .exit 0
def k63x13 : AC := .mask 99
def k63x12 : AC := .seq (.cond (.tmp 19)
   (.skip)
   (.seq (.mask 33) k63x14)) k63x13
def k63x20 : AC := .ops false [
    ⟨(some 34), .move (.tmp 5), none, []⟩,
    ⟨(some 35), .bin .other .add (.tmp 34) (.c (.int .i64 1)), none, []⟩,
    ⟨(some 5), .move (.tmp 35), none, []⟩]
def k63x19 : AC := .join 99
def k63x18 : AC := .seq (.cond (.tmp 29)
   (.seq (.ops false [
      ⟨(some 30), .move (.tmp 0), none, []⟩,
      ⟨(some 31), .move (.tmp 5), none, []⟩,
      ⟨(some 32), .move (.tmp 7), none, []⟩,
      ⟨(some 33), .indexAddr 1 (.tmp 30) (.tmp 31), none, []⟩,
      ⟨none, .store 1 (.tmp 33) (.tmp 32), none, []⟩]) k63x20)
   (.skip)) k63x19
def k63x17 : AC := .seq (.ops false [
    ⟨(some 26), .move (.tmp 1), none, []⟩,
    ⟨(some 27), .move (.tmp 7), none, []⟩,
    ⟨(some 28), .callV (.tmp 26) [(.tmp 27)] [(.cell .bool)] (.bool false), none, []⟩,
    ⟨(some 29), .un .not (.tmp 28), none, []⟩]) k63x18
def k63x16 : AC := .mask 99
def k63x15 : AC := .ops false [
    ⟨(some 20), .move (.tmp 6), none, []⟩,
    ⟨(some 21), .bin .other .add (.tmp 20) (.c (.int .i64 1)), none, []⟩,
    ⟨(some 6), .move (.tmp 21), none, []⟩]
def k63x11 : AC := .seq (.seq (.block 1 (.seq (.ops false [
     ⟨(some 22), .move (.tmp 0), none, []⟩,
     ⟨(some 23), .move (.tmp 6), none, []⟩,
     ⟨(some 24), .indexAddr 1 (.tmp 22) (.tmp 23), none, []⟩,
     ⟨(some 25), .load (.cell (.int .i64)) (.tmp 24), none, []⟩,
     ⟨(some 7), .move (.tmp 25), none, []⟩]) k63x17)) k63x16) k63x15
def k63x10 : AC := .seq (.seq (.ops false [
    ⟨(some 16), .move (.tmp 6), none, []⟩,
    ⟨(some 17), .move (.tmp 0), none, []⟩,
    ⟨(some 18), .lenSl (.tmp 17), none, []⟩,
    ⟨(some 19), .bin .other .lss (.tmp 16) (.tmp 18), none, []⟩]) k63x12) k63x11
def k63x9 : AC := .mask 33
def k63x8 : AC := .seq (.block 0 (.loop 99 33 k63x10)) k63x9
def k63x24 : AC := .ret
def k63x23 : AC := .seq (.mask 16) k63x24
def k63x22 : AC := .seq (.ops false [
    ⟨(some 39), .move (.tmp 0), none, []⟩,
    ⟨(some 40), .move (.tmp 5), none, []⟩,
    ⟨(some 41), .slice 1 (.tmp 39) none (some (.tmp 40)), none, []⟩,
    ⟨(some 4), .move (.tmp 41), none, []⟩]) k63x23
def k63x7 : AC := .seq (.ops false [
    ⟨(some 36), .move (.tmp 0), none, []⟩,
    ⟨(some 37), .move (.tmp 5), none, []⟩,
    ⟨(some 38), .slice 1 (.tmp 36) (some (.tmp 37)) none, none, []⟩,
    ⟨none, .clear [(.int .i64 0)] (.tmp 38), none, []⟩]) k63x22
def k63x2 : AC := .seq (.seq (.ops false [
    ⟨(some 14), .move (.tmp 5), none, []⟩,
    ⟨(some 15), .bin .other .add (.tmp 14) (.c (.int .i64 1)), none, []⟩,
    ⟨(some 6), .move (.tmp 15), none, []⟩]) k63x8) k63x7
def k63x1 : AC := .seq (.seq (.ops false [
    ⟨(some 11), .move (.tmp 5), none, []⟩,
    ⟨(some 12), .bin .other .eql (.tmp 11) (.c (.int .i64 (-1))), none, []⟩]) k63x3) k63x2
def k63x0 : AC := .seq (.ops false [
    ⟨(some 8), .move (.tmp 0), none, []⟩,
    ⟨(some 9), .move (.tmp 1), none, []⟩,
    ⟨(some 10), .call 71 [(.tmp 8), (.tmp 9)] [(.cell (.int .i64))] (.int .i64 0), none, []⟩,
    ⟨(some 5), .move (.tmp 10), none, []⟩]) k63x1
/-- slices.DeleteFunc[[]int,int] -/
def c63 : AFn := ⟨42, [.tmp 4],
  .seq (.ops false [
    ⟨(some 4), .move (.c (.sl .nil 0)), none, []⟩]) k63x0⟩
theorem cf63 : cFn Try.prog 63 = some c63 := by kernel_rfl
def k64x2 : AC := .ret
def k64x1 : AC := .seq (.mask 4) k64x2
def k64x0 : AC := .seq (.ops false [
    ⟨(some 3), .move (.tmp 0), none, []⟩,
    ⟨(some 4), .bin .other .eql (.tmp 3) (.c (.int .i64 0)), none, []⟩,
    ⟨(some 2), .move (.tmp 4), none, []⟩]) k64x1
/-- provenance/tile.Uses$1 -/
def c64 : AFn := ⟨5, [.tmp 2],
  .seq (.ops false [
    ⟨(some 2), .move (.c (.bool false)), none, []⟩]) k64x0⟩
theorem cf64 : cFn Try.prog 64 = some c64 := by kernel_rfl
def k65x2 : AC := .ret
def k65x1 : AC := .seq (.mask 4) k65x2
def k65x0 : AC := .seq (.ops false [
    ⟨(some 3), .move (.tmp 0), none, []⟩,
    ⟨(some 4), .bin .other .eql (.tmp 3) (.c (.int .i64 0)), none, []⟩,
    ⟨(some 2), .move (.tmp 4), none, []⟩]) k65x1
/-- provenance/tile.EndUses$1 -/
def c65 : AFn := ⟨5, [.tmp 2],
  .seq (.ops false [
    ⟨(some 2), .move (.c (.bool false)), none, []⟩]) k65x0⟩
theorem cf65 : cFn Try.prog 65 = some c65 := by kernel_rfl
def k89x18 : AC := .join 52
def k89x17 : AC := .seq (.cond (.tmp 5)
   (.skip)
   (.ops false [
      ⟨(some 13), .bin .other .eql (.tmp 4) (.c (.int .i64 15)), none, []⟩,
      ⟨(some 5), .move (.tmp 13), none, []⟩])) k89x18
def k89x16 : AC := .join 52
def k89x15 : AC := .seq (.cond (.tmp 5)
   (.skip)
   (.seq (.ops false [
      ⟨(some 12), .bin .other .eql (.tmp 4) (.c (.int .i64 7)), none, []⟩,
      ⟨(some 5), .move (.tmp 12), none, []⟩]) k89x17)) k89x16
def k89x14 : AC := .join 52
def k89x13 : AC := .seq (.cond (.tmp 5)
   (.skip)
   (.seq (.ops false [
      ⟨(some 11), .bin .other .eql (.tmp 4) (.c (.int .i64 6)), none, []⟩,
      ⟨(some 5), .move (.tmp 11), none, []⟩]) k89x15)) k89x14
def k89x12 : AC := .join 52
def k89x11 : AC := .seq (.cond (.tmp 5)
   (.skip)
   (.seq (.ops false [
      ⟨(some 10), .bin .other .eql (.tmp 4) (.c (.int .i64 5)), none, []⟩,
      ⟨(some 5), .move (.tmp 10), none, []⟩]) k89x13)) k89x12
def k89x10 : AC := .join 52
def k89x9 : AC := .seq (.cond (.tmp 5)
   (.skip)
   (.seq (.ops false [
      ⟨(some 9), .bin .other .eql (.tmp 4) (.c (.int .i64 4)), none, []⟩,
      ⟨(some 5), .move (.tmp 9), none, []⟩]) k89x11)) k89x10
def k89x8 : AC := .join 52
def k89x7 : AC := .seq (.cond (.tmp 5)
   (.skip)
   (.seq (.ops false [
      ⟨(some 8), .bin .other .eql (.tmp 4) (.c (.int .i64 3)), none, []⟩,
      ⟨(some 5), .move (.tmp 8), none, []⟩]) k89x9)) k89x8
def k89x6 : AC := .join 52
def k89x5 : AC := .seq (.cond (.tmp 5)
   (.skip)
   (.seq (.ops false [
      ⟨(some 7), .bin .other .eql (.tmp 4) (.c (.int .i64 2)), none, []⟩,
      ⟨(some 5), .move (.tmp 7), none, []⟩]) k89x7)) k89x6
def k89x28 : AC := .ret
def k89x27 : AC := .seq (.mask 12) k89x28
def k89x35 : AC := .join 32788
def k89x34 : AC := .seq (.cond (.tmp 15)
   (.skip)
   (.ops false [
      ⟨(some 19), .bin .other .eql (.tmp 4) (.c (.int .i64 12)), none, []⟩,
      ⟨(some 15), .move (.tmp 19), none, []⟩])) k89x35
def k89x33 : AC := .join 32788
def k89x32 : AC := .seq (.cond (.tmp 15)
   (.skip)
   (.seq (.ops false [
      ⟨(some 18), .bin .other .eql (.tmp 4) (.c (.int .i64 10)), none, []⟩,
      ⟨(some 15), .move (.tmp 18), none, []⟩]) k89x34)) k89x33
def k89x31 : AC := .join 32788
def k89x30 : AC := .seq (.cond (.tmp 15)
   (.skip)
   (.seq (.ops false [
      ⟨(some 17), .bin .other .eql (.tmp 4) (.c (.int .i64 9)), none, []⟩,
      ⟨(some 15), .move (.tmp 17), none, []⟩]) k89x32)) k89x31
def k89x41 : AC := .ret
def k89x40 : AC := .seq (.mask 12) k89x41
def k89x44 : AC := .join 2097172
def k89x43 : AC := .seq (.cond (.tmp 21)
   (.skip)
   (.ops false [
      ⟨(some 23), .bin .other .eql (.tmp 4) (.c (.int .i64 103)), none, []⟩,
      ⟨(some 21), .move (.tmp 23), none, []⟩])) k89x44
def k89x48 : AC := .ret
def k89x47 : AC := .seq (.mask 12) k89x48
def k89x52 : AC := .ret
def k89x51 : AC := .seq (.mask 12) k89x52
def k89x56 : AC := .ret
def k89x55 : AC := .seq (.mask 12) k89x56
def k89x60 : AC := .ret
def k89x59 : AC := .seq (.mask 12) k89x60
def k89x64 : AC := .ret
def k89x63 : AC := .seq (.mask 12) k89x64
def k89x68 : AC := .ret
def k89x67 : AC := .seq (.mask 12) k89x68
def k89x72 : AC := .ret
def k89x71 : AC := .seq (.mask 12) k89x72
def k89x70 : AC := .mask 4
def k89x69 : AC := .seq (.cond (.tmp 40)
   (.seq (.ops false [
      ⟨(some 42), .build [(.bool false), (.bool false), (.bool false), (.bool false), (.bool false)] [(0, 1, (.c (.bool true))), (1, 1, (.c (.bool true))), (4, 1, (.c (.bool true)))], none, []⟩,
      ⟨none, .store 5 (.tmp 2) (.tmp 42), none, []⟩,
      ⟨(some 3), .move (.c (.bool true)), none, []⟩]) k89x71)
   (.skip)) k89x70
def k89x66 : AC := .mask 4
def k89x65 : AC := .seq (.cond (.tmp 37)
   (.seq (.ops false [
      ⟨(some 39), .build [(.bool false), (.bool false), (.bool false), (.bool false), (.bool false)] [(0, 1, (.c (.bool true))), (3, 1, (.c (.bool true))), (4, 1, (.c (.bool true)))], none, []⟩,
      ⟨none, .store 5 (.tmp 2) (.tmp 39), none, []⟩,
      ⟨(some 3), .move (.c (.bool true)), none, []⟩]) k89x67)
   (.seq (.ops false [
      ⟨(some 41), .bin .other .eql (.tmp 4) (.c (.int .i64 102)), none, []⟩,
      ⟨(some 40), .move (.tmp 41), none, []⟩]) k89x69)) k89x66
def k89x62 : AC := .mask 4
def k89x61 : AC := .seq (.cond (.tmp 34)
   (.seq (.ops false [
      ⟨(some 36), .build [(.bool false), (.bool false), (.bool false), (.bool false), (.bool false)] [(0, 1, (.c (.bool true))), (1, 1, (.c (.bool true)))], none, []⟩,
      ⟨none, .store 5 (.tmp 2) (.tmp 36), none, []⟩,
      ⟨(some 3), .move (.c (.bool true)), none, []⟩]) k89x63)
   (.seq (.ops false [
      ⟨(some 38), .bin .other .eql (.tmp 4) (.c (.int .i64 101)), none, []⟩,
      ⟨(some 37), .move (.tmp 38), none, []⟩]) k89x65)) k89x62
def k89x58 : AC := .mask 4
def k89x57 : AC := .seq (.cond (.tmp 31)
   (.seq (.ops false [
      ⟨(some 33), .build [(.bool false), (.bool false), (.bool false), (.bool false), (.bool false)] [(1, 1, (.c (.bool true)))], none, []⟩,
      ⟨none, .store 5 (.tmp 2) (.tmp 33), none, []⟩,
      ⟨(some 3), .move (.c (.bool true)), none, []⟩]) k89x59)
   (.seq (.ops false [
      ⟨(some 35), .bin .other .eql (.tmp 4) (.c (.int .i64 100)), none, []⟩,
      ⟨(some 34), .move (.tmp 35), none, []⟩]) k89x61)) k89x58
def k89x54 : AC := .mask 4
def k89x53 : AC := .seq (.cond (.tmp 28)
   (.seq (.ops false [
      ⟨(some 30), .build [(.bool false), (.bool false), (.bool false), (.bool false), (.bool false)] [(0, 1, (.c (.bool true))), (2, 1, (.c (.bool true))), (3, 1, (.c (.bool true)))], none, []⟩,
      ⟨none, .store 5 (.tmp 2) (.tmp 30), none, []⟩,
      ⟨(some 3), .move (.c (.bool true)), none, []⟩]) k89x55)
   (.seq (.ops false [
      ⟨(some 32), .bin .other .eql (.tmp 4) (.c (.int .i64 23)), none, []⟩,
      ⟨(some 31), .move (.tmp 32), none, []⟩]) k89x57)) k89x54
def k89x50 : AC := .mask 4
def k89x49 : AC := .seq (.cond (.tmp 25)
   (.seq (.ops false [
      ⟨(some 27), .build [(.bool false), (.bool false), (.bool false), (.bool false), (.bool false)] [(1, 1, (.c (.bool true))), (2, 1, (.c (.bool true))), (3, 1, (.c (.bool true)))], none, []⟩,
      ⟨none, .store 5 (.tmp 2) (.tmp 27), none, []⟩,
      ⟨(some 3), .move (.c (.bool true)), none, []⟩]) k89x51)
   (.seq (.ops false [
      ⟨(some 29), .bin .other .eql (.tmp 4) (.c (.int .i64 14)), none, []⟩,
      ⟨(some 28), .move (.tmp 29), none, []⟩]) k89x53)) k89x50
def k89x46 : AC := .mask 4
def k89x42 : AC := .seq (.cond (.tmp 21)
   (.seq (.ops false [
      ⟨(some 24), .build [(.bool false), (.bool false), (.bool false), (.bool false), (.bool false)] [(0, 1, (.c (.bool true))), (3, 1, (.c (.bool true)))], none, []⟩,
      ⟨none, .store 5 (.tmp 2) (.tmp 24), none, []⟩,
      ⟨(some 3), .move (.c (.bool true)), none, []⟩]) k89x47)
   (.seq (.ops false [
      ⟨(some 26), .bin .other .eql (.tmp 4) (.c (.int .i64 13)), none, []⟩,
      ⟨(some 25), .move (.tmp 26), none, []⟩]) k89x49)) k89x46
def k89x39 : AC := .mask 4
def k89x29 : AC := .seq (.cond (.tmp 15)
   (.seq (.ops false [
      ⟨(some 20), .build [(.bool false), (.bool false), (.bool false), (.bool false), (.bool false)] [(0, 1, (.c (.bool true))), (1, 1, (.c (.bool true))), (3, 1, (.c (.bool true)))], none, []⟩,
      ⟨none, .store 5 (.tmp 2) (.tmp 20), none, []⟩,
      ⟨(some 3), .move (.c (.bool true)), none, []⟩]) k89x40)
   (.seq (.seq (.ops false [
      ⟨(some 22), .bin .other .eql (.tmp 4) (.c (.int .i64 11)), none, []⟩,
      ⟨(some 21), .move (.tmp 22), none, []⟩]) k89x43) k89x42)) k89x39
def k89x26 : AC := .mask 4
def k89x4 : AC := .seq (.cond (.tmp 5)
   (.seq (.ops false [
      ⟨(some 14), .build [(.bool false), (.bool false), (.bool false), (.bool false), (.bool false)] [(0, 1, (.c (.bool true))), (1, 1, (.c (.bool true))), (2, 1, (.c (.bool true)))], none, []⟩,
      ⟨none, .store 5 (.tmp 2) (.tmp 14), none, []⟩,
      ⟨(some 3), .move (.c (.bool true)), none, []⟩]) k89x27)
   (.seq (.seq (.ops false [
      ⟨(some 16), .bin .other .eql (.tmp 4) (.c (.int .i64 8)), none, []⟩,
      ⟨(some 15), .move (.tmp 16), none, []⟩]) k89x30) k89x29)) k89x26
def k89x3 : AC := .mask 4
def k89x2 : AC := .seq (.block 0 (.seq (.seq (.ops false [
     ⟨(some 6), .bin .other .eql (.tmp 4) (.c (.int .i64 1)), none, []⟩,
     ⟨(some 5), .move (.tmp 6), none, []⟩]) k89x5) k89x4)) k89x3
def k89x74 : AC := .ret
def k89x73 : AC := .seq (.mask 12) k89x74
def k89x1 : AC := .seq (.ops false [
    ⟨(some 43), .build [(.bool false), (.bool false), (.bool false), (.bool false), (.bool false)] [], none, []⟩,
    ⟨none, .store 5 (.tmp 2) (.tmp 43), none, []⟩,
    ⟨(some 3), .move (.c (.bool false)), none, []⟩]) k89x73
def k89x0 : AC := .seq (.seq (.ops false [
    ⟨(some 4), .move (.tmp 0), none, []⟩]) k89x2) k89x1
/-- provenance/tile.shapeOf -/
def c89 : AFn := ⟨44, [.cell 2 (.agg [.bool, .bool, .bool, .bool, .bool]), .tmp 3],
  .seq (.ops false [
    ⟨(some 2), .allocL [(.bool false), (.bool false), (.bool false), (.bool false), (.bool false)], none, []⟩,
    ⟨(some 3), .move (.c (.bool false)), none, []⟩]) k89x0⟩
theorem cf89 : cFn Try.prog 89 = some c89 := by kernel_rfl
def k90x8 : AC := .exit 0
def k90x7 : AC := .mask 14342
def k90x11 : AC := .ops false [
    ⟨(some 17), .move (.tmp 1), none, []⟩,
    ⟨(some 18), .move (.tmp 5), none, []⟩,
    ⟨(some 19), .indexAddr 1 (.tmp 17) (.tmp 18), none, []⟩,
    ⟨none, .store 1 (.tmp 19) (.c (.bool true)), none, []⟩]
def k90x10 : AC := .mask 14342
def k90x9 : AC := .ops false [
    ⟨(some 20), .bin .other .add (.tmp 13) (.c (.int .i64 1)), none, []⟩,
    ⟨(some 13), .move (.tmp 20), none, []⟩]
def k90x6 : AC := .seq (.seq (.block 1 (.seq (.ops false [
     ⟨(some 15), .indexAddr 1 (.tmp 11) (.tmp 13), none, []⟩,
     ⟨(some 16), .load (.cell (.int .i64)) (.tmp 15), none, []⟩,
     ⟨(some 5), .move (.tmp 16), none, []⟩]) k90x11)) k90x10) k90x9
def k90x5 : AC := .seq (.seq (.cond (.tmp 14)
   (.skip)
   (.seq (.mask 6) k90x8)) k90x7) k90x6
def k90x4 : AC := .seq (.ops false [
    ⟨(some 14), .bin .other .lss (.tmp 13) (.tmp 12), none, []⟩]) k90x5
def k90x3 : AC := .mask 6
def k90x2 : AC := .seq (.block 0 (.loop 14342 6 k90x4)) k90x3
def k90x19 : AC := .exit 2
def k90x18 : AC := .mask 70
def k90x17 : AC := .seq (.cond (.tmp 26)
   (.skip)
   (.seq (.mask 2) k90x19)) k90x18
def k90x29 : AC := .exit 4
def k90x28 : AC := .mask 30786325577798
def k90x32 : AC := .ops false [
    ⟨(some 48), .move (.tmp 1), none, []⟩,
    ⟨(some 49), .move (.tmp 8), none, []⟩,
    ⟨(some 50), .indexAddr 1 (.tmp 48) (.tmp 49), none, []⟩,
    ⟨none, .store 1 (.tmp 50) (.c (.bool true)), none, []⟩]
def k90x31 : AC := .mask 30786325577798
def k90x30 : AC := .ops false [
    ⟨(some 51), .bin .other .add (.tmp 44) (.c (.int .i64 1)), none, []⟩,
    ⟨(some 44), .move (.tmp 51), none, []⟩]
def k90x27 : AC := .seq (.seq (.block 5 (.seq (.ops false [
     ⟨(some 46), .indexAddr 1 (.tmp 42) (.tmp 44), none, []⟩,
     ⟨(some 47), .load (.cell (.int .i64)) (.tmp 46), none, []⟩,
     ⟨(some 8), .move (.tmp 47), none, []⟩]) k90x32)) k90x31) k90x30
def k90x26 : AC := .seq (.seq (.cond (.tmp 45)
   (.skip)
   (.seq (.mask 70) k90x29)) k90x28) k90x27
def k90x25 : AC := .seq (.ops false [
    ⟨(some 45), .bin .other .lss (.tmp 44) (.tmp 43), none, []⟩]) k90x26
def k90x24 : AC := .mask 70
def k90x23 : AC := .seq (.block 4 (.loop 30786325577798 70 k90x25)) k90x24
def k90x22 : AC := .seq (.ops false [
    ⟨(some 37), .fieldAddr 0 (.tmp 2), none, []⟩,
    ⟨(some 38), .load (.cell .sl) (.tmp 37), none, []⟩,
    ⟨(some 39), .move (.tmp 6), none, []⟩,
    ⟨(some 40), .indexAddr 6 (.tmp 38) (.tmp 39), none, []⟩,
    ⟨(some 41), .load (.agg [(.int .i64), (.int .i64), (.int .i64), (.int .i64), (.int .i64), .sl]) (.tmp 40), none, []⟩,
    ⟨(some 42), .call 29 [(.tmp 41)] [(.cell .sl)] (.sl .nil 0), none, []⟩,
    ⟨(some 43), .lenSl (.tmp 42), none, []⟩,
    ⟨(some 44), .move (.c (.int .i64 0)), none, []⟩]) k90x23
def k90x21 : AC := .mask 70
def k90x20 : AC := .ops false [
    ⟨(some 27), .move (.tmp 6), none, []⟩,
    ⟨(some 28), .bin .other .sub (.tmp 27) (.c (.int .i64 1)), none, []⟩,
    ⟨(some 6), .move (.tmp 28), none, []⟩]
def k90x16 : AC := .seq (.seq (.block 3 (.seq (.ops false [
     ⟨(some 29), .move (.tmp 1), none, []⟩,
     ⟨(some 30), .fieldAddr 0 (.tmp 2), none, []⟩,
     ⟨(some 31), .load (.cell .sl) (.tmp 30), none, []⟩,
     ⟨(some 32), .move (.tmp 6), none, []⟩,
     ⟨(some 33), .indexAddr 6 (.tmp 31) (.tmp 32), none, []⟩,
     ⟨(some 34), .load (.agg [(.int .i64), (.int .i64), (.int .i64), (.int .i64), (.int .i64), .sl]) (.tmp 33), none, []⟩,
     ⟨(some 35), .call 30 [(.tmp 34)] [(.cell (.int .i64))] (.int .i64 0), none, []⟩,
     ⟨(some 36), .indexAddr 1 (.tmp 29) (.tmp 35), none, []⟩,
     ⟨none, .store 1 (.tmp 36) (.c (.bool false)), none, []⟩]) k90x22)) k90x21) k90x20
def k90x15 : AC := .seq (.seq (.ops false [
    ⟨(some 25), .move (.tmp 6), none, []⟩,
    ⟨(some 26), .bin .other .geq (.tmp 25) (.c (.int .i64 0)), none, []⟩]) k90x17) k90x16
def k90x14 : AC := .mask 2
def k90x13 : AC := .seq (.block 2 (.loop 70 2 k90x15)) k90x14
def k90x12 : AC := .ops false [
    ⟨(some 52), .move (.tmp 1), none, []⟩,
    ⟨(some 53), .indexAddr 1 (.tmp 52) (.c (.int .i64 0)), none, []⟩,
    ⟨none, .store 1 (.tmp 53) (.c (.bool false)), none, []⟩]
def k90x1 : AC := .seq (.seq (.ops false [
    ⟨(some 21), .fieldAddr 0 (.tmp 2), none, []⟩,
    ⟨(some 22), .load (.cell .sl) (.tmp 21), none, []⟩,
    ⟨(some 23), .lenSl (.tmp 22), none, []⟩,
    ⟨(some 24), .bin .other .sub (.tmp 23) (.c (.int .i64 1)), none, []⟩,
    ⟨(some 6), .move (.tmp 24), none, []⟩]) k90x13) k90x12
def k90x0 : AC := .seq (.seq (.ops false [
    ⟨(some 9), .fieldAddr 1 (.tmp 2), none, []⟩,
    ⟨(some 10), .load (.agg [(.int .i64), (.int .i64), (.int .i64), (.int .i64), (.int .i64), .sl]) (.tmp 9), none, []⟩,
    ⟨(some 11), .call 31 [(.tmp 10)] [(.cell .sl)] (.sl .nil 0), none, []⟩,
    ⟨(some 12), .lenSl (.tmp 11), none, []⟩,
    ⟨(some 13), .move (.c (.int .i64 0)), none, []⟩]) k90x2) k90x1
/-- provenance/tile.before -/
def c90 : AFn := ⟨54, [],
  .seq (.ops false [
    ⟨(some 2), .boxL (.tmp 0), none, []⟩]) k90x0⟩
theorem cf90 : cFn Try.prog 90 = some c90 := by kernel_rfl
def k91x5 : AC := .ret
def k91x4 : AC := .seq (.mask 16) k91x5
def k91x3 : AC := .mask 3
def k91x2 : AC := .seq (.cond (.tmp 10)
   (.seq (.ops false [
      ⟨(some 4), .move (.c (.bool false)), none, []⟩]) k91x4)
   (.skip)) k91x3
def k91x13 : AC := .exit 0
def k91x12 : AC := .mask 12291
def k91x20 : AC := .ret
def k91x19 : AC := .seq (.mask 16) k91x20
def k91x18 : AC := .mask 12291
def k91x17 : AC := .seq (.cond (.tmp 24)
   (.seq (.ops false [
      ⟨(some 4), .move (.c (.bool false)), none, []⟩]) k91x19)
   (.skip)) k91x18
def k91x16 : AC := .seq (.ops false [
    ⟨(some 16), .move (.tmp 0), none, []⟩,
    ⟨(some 17), .move (.tmp 5), none, []⟩,
    ⟨(some 18), .indexAddr 1 (.tmp 16) (.tmp 17), none, []⟩,
    ⟨(some 19), .load (.cell .bool) (.tmp 18), none, []⟩,
    ⟨(some 20), .move (.tmp 1), none, []⟩,
    ⟨(some 21), .move (.tmp 5), none, []⟩,
    ⟨(some 22), .indexAddr 1 (.tmp 20) (.tmp 21), none, []⟩,
    ⟨(some 23), .load (.cell .bool) (.tmp 22), none, []⟩,
    ⟨(some 24), .bin .bool .neq (.tmp 19) (.tmp 23), none, []⟩]) k91x17
def k91x15 : AC := .mask 12291
def k91x14 : AC := .ops false [
    ⟨(some 25), .bin .other .add (.tmp 13) (.c (.int .i64 1)), none, []⟩,
    ⟨(some 13), .move (.tmp 25), none, []⟩]
def k91x11 : AC := .seq (.seq (.block 1 (.seq (.ops false [
     ⟨(some 15), .move (.tmp 13), none, []⟩,
     ⟨(some 5), .move (.tmp 15), none, []⟩]) k91x16)) k91x15) k91x14
def k91x10 : AC := .seq (.seq (.cond (.tmp 14)
   (.skip)
   (.seq (.mask 0) k91x13)) k91x12) k91x11
def k91x9 : AC := .seq (.ops false [
    ⟨(some 14), .bin .other .lss (.tmp 13) (.tmp 12), none, []⟩]) k91x10
def k91x8 : AC := .mask 0
def k91x7 : AC := .seq (.block 0 (.loop 12291 0 k91x9)) k91x8
def k91x22 : AC := .ret
def k91x21 : AC := .seq (.mask 16) k91x22
def k91x6 : AC := .seq (.ops false [
    ⟨(some 4), .move (.c (.bool true)), none, []⟩]) k91x21
def k91x1 : AC := .seq (.seq (.ops false [
    ⟨(some 11), .move (.tmp 0), none, []⟩,
    ⟨(some 12), .lenSl (.tmp 11), none, []⟩,
    ⟨(some 13), .move (.c (.int .i64 0)), none, []⟩]) k91x7) k91x6
def k91x0 : AC := .seq (.seq (.ops false [
    ⟨(some 6), .move (.tmp 0), none, []⟩,
    ⟨(some 7), .lenSl (.tmp 6), none, []⟩,
    ⟨(some 8), .move (.tmp 1), none, []⟩,
    ⟨(some 9), .lenSl (.tmp 8), none, []⟩,
    ⟨(some 10), .bin .other .neq (.tmp 7) (.tmp 9), none, []⟩]) k91x2) k91x1
/-- slices.Equal[[]bool,bool] -/
def c91 : AFn := ⟨26, [.tmp 4],
  .seq (.ops false [
    ⟨(some 4), .move (.c (.bool false)), none, []⟩]) k91x0⟩
theorem cf91 : cFn Try.prog 91 = some c91 := by kernel_rfl
def k28x6 : AC := .ret
def k28x5 : AC := .seq (.mask 28) k28x6
def k28x4 : AC := .mask 10
def k28x3 : AC := .seq (.cond (.tmp 10)
   (.seq (.ops false [
      ⟨(some 11), .move (.tmp 5), none, []⟩,
      ⟨(some 2), .move (.c (.sl .nil 0)), none, []⟩,
      ⟨(some 3), .move (.c (.sl .nil 0)), none, []⟩,
      ⟨(some 4), .move (.tmp 11), none, []⟩]) k28x5)
   (.skip)) k28x4
def k28x2 : AC := .seq (.ops false [
    ⟨(some 9), .move (.tmp 5), none, []⟩,
    ⟨(some 10), .bin .other .neq (.tmp 9) (.c (.int .i64 0)), none, []⟩]) k28x3
def k28x15 : AC := .exit 0
def k28x14 : AC := .mask 196622
def k28x18 : AC := .ops false [
    ⟨(some 20), .move (.tmp 3), none, []⟩,
    ⟨(some 21), .load (.agg [(.int .i64), .sl, (.int .i64), .sl]) (.tmp 1), none, []⟩,
    ⟨(some 22), .move (.tmp 2), none, []⟩,
    ⟨(some 23), .move (.tmp 6), none, []⟩,
    ⟨(some 24), .call 62 [(.tmp 21), (.tmp 22), (.tmp 23)] [(.cell .sl)] (.sl .nil 0), none, []⟩,
    ⟨(some 25), .buildSl [(.sl .nil 0)] 1 [(0, (.tmp 24))], none, []⟩,
    ⟨(some 26), .append [(.sl .nil 0)] 1 24 (.tmp 20) (.tmp 25), none, []⟩,
    ⟨(some 3), .move (.tmp 26), none, []⟩]
def k28x17 : AC := .mask 196622
def k28x16 : AC := .ops false [
    ⟨(some 27), .bin .other .add (.tmp 17) (.c (.int .i64 1)), none, []⟩,
    ⟨(some 17), .move (.tmp 27), none, []⟩]
def k28x13 : AC := .seq (.seq (.block 1 (.seq (.ops false [
     ⟨(some 19), .move (.tmp 17), none, []⟩,
     ⟨(some 6), .move (.tmp 19), none, []⟩]) k28x18)) k28x17) k28x16
def k28x12 : AC := .seq (.seq (.cond (.tmp 18)
   (.skip)
   (.seq (.mask 12) k28x15)) k28x14) k28x13
def k28x11 : AC := .seq (.ops false [
    ⟨(some 18), .bin .other .lss (.tmp 17) (.tmp 16), none, []⟩]) k28x12
def k28x10 : AC := .mask 12
def k28x9 : AC := .seq (.block 0 (.loop 196622 12 k28x11)) k28x10
def k28x20 : AC := .ret
def k28x19 : AC := .seq (.mask 28) k28x20
def k28x8 : AC := .seq (.ops false [
    ⟨(some 28), .move (.tmp 2), none, []⟩,
    ⟨(some 29), .move (.tmp 3), none, []⟩,
    ⟨(some 2), .move (.tmp 28), none, []⟩,
    ⟨(some 3), .move (.tmp 29), none, []⟩,
    ⟨(some 4), .move (.c (.int .i64 0)), none, []⟩]) k28x19
def k28x7 : AC := .seq (.seq (.ops false [
    ⟨(some 14), .fieldAddr 3 (.tmp 1), none, []⟩,
    ⟨(some 15), .load (.cell .sl) (.tmp 14), none, []⟩,
    ⟨(some 16), .lenSl (.tmp 15), none, []⟩,
    ⟨(some 17), .move (.c (.int .i64 0)), none, []⟩]) k28x9) k28x8
def k28x1 : AC := .seq (.ops false [
    ⟨(some 12), .load (.agg [(.int .i64), .sl, (.int .i64), .sl]) (.tmp 1), none, []⟩,
    ⟨(some 13), .call 61 [(.tmp 12)] [(.cell .sl)] (.sl .nil 0), none, []⟩,
    ⟨(some 2), .move (.tmp 13), none, []⟩]) k28x7
def k28x0 : AC := .seq (.seq (.ops false [
    ⟨(some 7), .load (.agg [(.int .i64), .sl, (.int .i64), .sl]) (.tmp 1), none, []⟩,
    ⟨(some 8), .call 26 [(.tmp 7)] [(.cell (.int .i64))] (.int .i64 0), none, []⟩,
    ⟨(some 5), .move (.tmp 8), none, []⟩]) k28x2) k28x1
/-- provenance/tile.Live -/
def c28 : AFn := ⟨30, [.tmp 2, .tmp 3, .tmp 4],
  .seq (.ops false [
    ⟨(some 1), .boxL (.tmp 0), none, []⟩,
    ⟨(some 2), .move (.c (.sl .nil 0)), none, []⟩,
    ⟨(some 3), .move (.c (.sl .nil 0)), none, []⟩,
    ⟨(some 4), .move (.c (.int .i64 0)), none, []⟩]) k28x0⟩
theorem cf28 : cFn Try.prog 28 = some c28 := by kernel_rfl
def k29x3 : AC := .ret
def k29x2 : AC := .seq (.mask 4) k29x3
def k29x1 : AC := .seq (.ops false [
    ⟨(some 12), .move (.tmp 3), none, []⟩,
    ⟨(some 13), .call 63 [(.tmp 12), (.c (.fn 64 [] []))] [(.cell .sl)] (.sl .nil 0), none, []⟩,
    ⟨(some 2), .move (.tmp 13), none, []⟩]) k29x2
def k29x0 : AC := .seq (.ops false [
    ⟨(some 4), .fieldAddr 2 (.tmp 1), none, []⟩,
    ⟨(some 5), .load (.cell (.int .i64)) (.tmp 4), none, []⟩,
    ⟨(some 6), .fieldAddr 3 (.tmp 1), none, []⟩,
    ⟨(some 7), .load (.cell (.int .i64)) (.tmp 6), none, []⟩,
    ⟨(some 8), .buildSl [(.int .i64 0), (.int .i64 0)] 1 [(0, (.tmp 5)), (1, (.tmp 7))], none, []⟩,
    ⟨(some 9), .fieldAddr 5 (.tmp 1), none, []⟩,
    ⟨(some 10), .load (.cell .sl) (.tmp 9), none, []⟩,
    ⟨(some 11), .append [(.int .i64 0)] 1 8 (.tmp 8) (.tmp 10), none, []⟩,
    ⟨(some 3), .move (.tmp 11), none, []⟩]) k29x1
/-- provenance/tile.Uses -/
def c29 : AFn := ⟨14, [.tmp 2],
  .seq (.ops false [
    ⟨(some 1), .boxL (.tmp 0), none, []⟩,
    ⟨(some 2), .move (.c (.sl .nil 0)), none, []⟩]) k29x0⟩
theorem cf29 : cFn Try.prog 29 = some c29 := by kernel_rfl
def k30x5 : AC := .ret
def k30x4 : AC := .seq (.mask 4) k30x5
def k30x3 : AC := .mask 2
def k30x2 : AC := .seq (.cond (.tmp 10)
   (.seq (.ops false [
      ⟨(some 2), .move (.c (.int .i64 0)), none, []⟩]) k30x4)
   (.skip)) k30x3
def k30x7 : AC := .ret
def k30x6 : AC := .seq (.mask 4) k30x7
def k30x1 : AC := .seq (.ops false [
    ⟨(some 11), .fieldAddr 1 (.tmp 1), none, []⟩,
    ⟨(some 12), .load (.cell (.int .i64)) (.tmp 11), none, []⟩,
    ⟨(some 2), .move (.tmp 12), none, []⟩]) k30x6
def k30x0 : AC := .seq (.seq (.ops true [
    ⟨(some 3), .fieldAddr 0 (.tmp 1), none, []⟩,
    ⟨(some 4), .load (.cell (.int .i64)) (.tmp 3), none, []⟩,
    ⟨(some 5), .bin .other .eql (.tmp 4) (.c (.int .i64 13)), none, []⟩,
    ⟨(some 6), .move (.tmp 5), none, []⟩,
    ⟨(some 7), .fieldAddr 0 (.tmp 1), (some (6, false)), []⟩,
    ⟨(some 8), .load (.cell (.int .i64)) (.tmp 7), (some (6, false)), []⟩,
    ⟨(some 9), .bin .other .eql (.tmp 8) (.c (.int .i64 23)), (some (6, false)), []⟩,
    ⟨(some 10), .pick (.tmp 6) (.c (.bool true)) (.tmp 9), none, []⟩]) k30x2) k30x1
/-- provenance/tile.Def -/
def c30 : AFn := ⟨13, [.tmp 2],
  .seq (.ops false [
    ⟨(some 1), .boxL (.tmp 0), none, []⟩,
    ⟨(some 2), .move (.c (.int .i64 0)), none, []⟩]) k30x0⟩
theorem cf30 : cFn Try.prog 30 = some c30 := by kernel_rfl
def k31x2 : AC := .ret
def k31x1 : AC := .seq (.mask 4) k31x2
def k31x0 : AC := .seq (.ops false [
    ⟨(some 3), .fieldAddr 2 (.tmp 1), none, []⟩,
    ⟨(some 4), .load (.cell (.int .i64)) (.tmp 3), none, []⟩,
    ⟨(some 5), .fieldAddr 3 (.tmp 1), none, []⟩,
    ⟨(some 6), .load (.cell (.int .i64)) (.tmp 5), none, []⟩,
    ⟨(some 7), .buildSl [(.int .i64 0), (.int .i64 0)] 1 [(0, (.tmp 4)), (1, (.tmp 6))], none, []⟩,
    ⟨(some 8), .call 63 [(.tmp 7), (.c (.fn 65 [] []))] [(.cell .sl)] (.sl .nil 0), none, []⟩,
    ⟨(some 2), .move (.tmp 8), none, []⟩]) k31x1
/-- provenance/tile.EndUses -/
def c31 : AFn := ⟨9, [.tmp 2],
  .seq (.ops false [
    ⟨(some 1), .boxL (.tmp 0), none, []⟩,
    ⟨(some 2), .move (.c (.sl .nil 0)), none, []⟩]) k31x0⟩
theorem cf31 : cFn Try.prog 31 = some c31 := by kernel_rfl
def k20x2 : AC := .ret
def k20x1 : AC := .seq (.mask 16) k20x2
def k20x0 : AC := .seq (.ops false [
    ⟨(some 5), .move (.tmp 0), none, []⟩,
    ⟨(some 6), .move (.tmp 1), none, []⟩,
    ⟨(some 7), .call 54 [(.tmp 5), (.tmp 6)] [(.cell (.int .i64))] (.int .i64 0), none, []⟩,
    ⟨(some 8), .bin .other .geq (.tmp 7) (.c (.int .i64 0)), none, []⟩,
    ⟨(some 4), .move (.tmp 8), none, []⟩]) k20x1
/-- slices.Contains[[]int,int] -/
def c20 : AFn := ⟨9, [.tmp 4],
  .seq (.ops false [
    ⟨(some 4), .move (.c (.bool false)), none, []⟩]) k20x0⟩
theorem cf20 : cFn Try.prog 20 = some c20 := by kernel_rfl
def k54x8 : AC := .exit 0
def k54x7 : AC := .mask 387
def k54x15 : AC := .ret
def k54x14 : AC := .seq (.mask 16) k54x15
def k54x13 : AC := .mask 387
def k54x12 : AC := .seq (.cond (.tmp 16)
   (.seq (.ops false [
      ⟨(some 17), .move (.tmp 5), none, []⟩,
      ⟨(some 4), .move (.tmp 17), none, []⟩]) k54x14)
   (.skip)) k54x13
def k54x11 : AC := .seq (.ops false [
    ⟨(some 11), .move (.tmp 1), none, []⟩,
    ⟨(some 12), .move (.tmp 0), none, []⟩,
    ⟨(some 13), .move (.tmp 5), none, []⟩,
    ⟨(some 14), .indexAddr 1 (.tmp 12) (.tmp 13), none, []⟩,
    ⟨(some 15), .load (.cell (.int .i64)) (.tmp 14), none, []⟩,
    ⟨(some 16), .bin .other .eql (.tmp 11) (.tmp 15), none, []⟩]) k54x12
def k54x10 : AC := .mask 387
def k54x9 : AC := .ops false [
    ⟨(some 18), .bin .other .add (.tmp 8) (.c (.int .i64 1)), none, []⟩,
    ⟨(some 8), .move (.tmp 18), none, []⟩]
def k54x6 : AC := .seq (.seq (.block 1 (.seq (.ops false [
     ⟨(some 10), .move (.tmp 8), none, []⟩,
     ⟨(some 5), .move (.tmp 10), none, []⟩]) k54x11)) k54x10) k54x9
def k54x5 : AC := .seq (.seq (.cond (.tmp 9)
   (.skip)
   (.seq (.mask 0) k54x8)) k54x7) k54x6
def k54x4 : AC := .seq (.ops false [
    ⟨(some 9), .bin .other .lss (.tmp 8) (.tmp 7), none, []⟩]) k54x5
def k54x3 : AC := .mask 0
def k54x2 : AC := .seq (.block 0 (.loop 387 0 k54x4)) k54x3
def k54x17 : AC := .ret
def k54x16 : AC := .seq (.mask 16) k54x17
def k54x1 : AC := .seq (.ops false [
    ⟨(some 4), .move (.c (.int .i64 (-1))), none, []⟩]) k54x16
def k54x0 : AC := .seq (.seq (.ops false [
    ⟨(some 6), .move (.tmp 0), none, []⟩,
    ⟨(some 7), .lenSl (.tmp 6), none, []⟩,
    ⟨(some 8), .move (.c (.int .i64 0)), none, []⟩]) k54x2) k54x1
/-- slices.Index[[]int,int] -/
def c54 : AFn := ⟨19, [.tmp 4],
  .seq (.ops false [
    ⟨(some 4), .move (.c (.int .i64 0)), none, []⟩]) k54x0⟩
theorem cf54 : cFn Try.prog 54 = some c54 := by kernel_rfl
def k14x6 : AC := .ret
def k14x5 : AC := .seq (.mask 48) k14x6
def k14x4 : AC := .mask 22
def k14x3 : AC := .seq (.cond (.tmp 19)
   (.seq (.ops false [
      ⟨(some 20), .build [(.sl .nil 0), (.sl .nil 0), (.int .i64 0)] [], none, []⟩,
      ⟨(some 21), .move (.tmp 6), none, []⟩,
      ⟨none, .store 3 (.tmp 4) (.tmp 20), none, []⟩,
      ⟨(some 5), .move (.tmp 21), none, []⟩]) k14x5)
   (.skip)) k14x4
def k14x2 : AC := .seq (.ops false [
    ⟨(some 18), .move (.tmp 6), none, []⟩,
    ⟨(some 19), .bin .other .neq (.tmp 18) (.c (.int .i64 0)), none, []⟩]) k14x3
def k14x11 : AC := .ret
def k14x10 : AC := .seq (.mask 48) k14x11
def k14x9 : AC := .mask 22
def k14x8 : AC := .seq (.cond (.tmp 27)
   (.seq (.ops false [
      ⟨(some 28), .build [(.sl .nil 0), (.sl .nil 0), (.int .i64 0)] [], none, []⟩,
      ⟨none, .store 3 (.tmp 4) (.tmp 28), none, []⟩,
      ⟨(some 5), .move (.c (.int .i64 4)), none, []⟩]) k14x10)
   (.skip)) k14x9
def k14x22 : AC := .exit 0
def k14x21 : AC := .mask 26388279067538
def k14x25 : AC := .ops false [
    ⟨(some 47), .fieldAddr 0 (.tmp 9), none, []⟩,
    ⟨(some 48), .load (.cell .sl) (.tmp 47), none, []⟩,
    ⟨(some 49), .move (.tmp 10), none, []⟩,
    ⟨(some 50), .fieldAddr 1 (.tmp 9), none, []⟩,
    ⟨(some 51), .load (.cell .sl) (.tmp 50), none, []⟩,
    ⟨(some 52), .move (.tmp 10), none, []⟩,
    ⟨(some 53), .indexAddr 1 (.tmp 48) (.tmp 49), none, []⟩,
    ⟨none, .store 1 (.tmp 53) (.c (.int .i64 (-1))), none, [.load 1 50 none]⟩,
    ⟨(some 54), .indexAddr 1 (.tmp 51) (.tmp 52), none, []⟩,
    ⟨none, .store 1 (.tmp 54) (.c (.int .i64 (-1))), none, []⟩]
def k14x24 : AC := .mask 26388279067538
def k14x23 : AC := .ops false [
    ⟨(some 55), .bin .other .add (.tmp 44) (.c (.int .i64 1)), none, []⟩,
    ⟨(some 44), .move (.tmp 55), none, []⟩]
def k14x20 : AC := .seq (.seq (.block 1 (.seq (.ops false [
     ⟨(some 46), .move (.tmp 44), none, []⟩,
     ⟨(some 10), .move (.tmp 46), none, []⟩]) k14x25)) k14x24) k14x23
def k14x19 : AC := .seq (.seq (.cond (.tmp 45)
   (.skip)
   (.seq (.mask 914) k14x22)) k14x21) k14x20
def k14x18 : AC := .seq (.ops false [
    ⟨(some 45), .bin .other .lss (.tmp 44) (.tmp 43), none, []⟩]) k14x19
def k14x17 : AC := .mask 914
def k14x16 : AC := .seq (.block 0 (.loop 26388279067538 914 k14x18)) k14x17
def k14x33 : AC := .exit 2
def k14x32 : AC := .mask 2017612633061983122
def k14x39 : AC := .join 2017612633061983122
def k14x38 : AC := .seq (.cond (.tmp 71)
   (.ops false [
      ⟨(some 72), .fieldAddr 0 (.tmp 9), none, []⟩,
      ⟨(some 73), .load (.cell .sl) (.tmp 72), none, []⟩,
      ⟨(some 74), .move (.tmp 12), none, []⟩,
      ⟨(some 75), .move (.tmp 13), none, []⟩,
      ⟨(some 76), .indexAddr 1 (.tmp 73) (.tmp 74), none, []⟩,
      ⟨none, .store 1 (.tmp 76) (.tmp 75), none, []⟩])
   (.skip)) k14x39
def k14x37 : AC := .seq (.ops false [
    ⟨(some 69), .move (.tmp 13), none, []⟩,
    ⟨(some 70), .move (.tmp 1), none, []⟩,
    ⟨(some 71), .bin .other .leq (.tmp 69) (.tmp 70), none, []⟩]) k14x38
def k14x36 : AC := .seq (.ops false [
    ⟨(some 64), .move (.tmp 7), none, []⟩,
    ⟨(some 65), .move (.tmp 12), none, []⟩,
    ⟨(some 66), .fieldAddr 0 (.tmp 9), none, []⟩,
    ⟨(some 67), .load (.cell .sl) (.tmp 66), none, []⟩,
    ⟨(some 68), .call 43 [(.tmp 64), (.tmp 65), (.c (.int .i64 1)), (.tmp 67)] [(.cell (.int .i64))] (.int .i64 0), none, []⟩,
    ⟨(some 13), .move (.tmp 68), none, []⟩]) k14x37
def k14x35 : AC := .mask 2017612633061983122
def k14x34 : AC := .ops false [
    ⟨(some 77), .bin .other .add (.tmp 60) (.c (.int .i64 1)), none, []⟩,
    ⟨(some 60), .move (.tmp 77), none, []⟩]
def k14x31 : AC := .seq (.seq (.block 3 (.seq (.ops false [
     ⟨(some 62), .indexAddr 1 (.tmp 58) (.tmp 60), none, []⟩,
     ⟨(some 63), .load (.cell (.int .i64)) (.tmp 62), none, []⟩,
     ⟨(some 12), .move (.tmp 63), none, []⟩]) k14x36)) k14x35) k14x34
def k14x30 : AC := .seq (.seq (.cond (.tmp 61)
   (.skip)
   (.seq (.mask 912) k14x33)) k14x32) k14x31
def k14x29 : AC := .seq (.ops false [
    ⟨(some 61), .bin .other .lss (.tmp 60) (.tmp 59), none, []⟩]) k14x30
def k14x28 : AC := .mask 912
def k14x27 : AC := .seq (.block 2 (.loop 2017612633061983122 912 k14x29)) k14x28
def k14x48 : AC := .exit 4
def k14x47 : AC := .mask 3626777458843887524119440
def k14x54 : AC := .ops false [
    ⟨(some 108), .fieldAddr 2 (.tmp 9), none, []⟩,
    ⟨(some 109), .load (.cell (.int .i64)) (.tmp 108), none, []⟩,
    ⟨(some 110), .fieldAddr 1 (.tmp 9), none, []⟩,
    ⟨(some 111), .load (.cell .sl) (.tmp 110), none, []⟩,
    ⟨(some 112), .move (.tmp 14), none, []⟩,
    ⟨(some 113), .indexAddr 1 (.tmp 111) (.tmp 112), none, []⟩,
    ⟨(some 114), .load (.cell (.int .i64)) (.tmp 113), none, []⟩,
    ⟨(some 115), .bin .other .add (.tmp 114) (.c (.int .i64 1)), none, []⟩,
    ⟨(some 116), .mm true [(.tmp 109), (.tmp 115)], none, []⟩,
    ⟨(some 117), .fieldAddr 2 (.tmp 9), none, []⟩,
    ⟨none, .store 1 (.tmp 117) (.tmp 116), none, []⟩]
def k14x53 : AC := .join 3626777458843887524119440
def k14x52 : AC := .seq (.cond (.tmp 98)
   (.seq (.ops false [
      ⟨(some 99), .fieldAddr 1 (.tmp 9), none, []⟩,
      ⟨(some 100), .load (.cell .sl) (.tmp 99), none, []⟩,
      ⟨(some 101), .move (.tmp 14), none, []⟩,
      ⟨(some 102), .move (.tmp 7), none, []⟩,
      ⟨(some 103), .move (.tmp 14), none, []⟩,
      ⟨(some 104), .fieldAddr 1 (.tmp 9), none, []⟩,
      ⟨(some 105), .load (.cell .sl) (.tmp 104), none, []⟩,
      ⟨(some 106), .call 43 [(.tmp 102), (.tmp 103), (.c (.int .i64 0)), (.tmp 105)] [(.cell (.int .i64))] (.int .i64 0), none, [.load 1 99 none]⟩,
      ⟨(some 107), .indexAddr 1 (.tmp 100) (.tmp 101), none, []⟩,
      ⟨none, .store 1 (.tmp 107) (.tmp 106), none, []⟩]) k14x54)
   (.skip)) k14x53
def k14x51 : AC := .seq (.ops true [
    ⟨(some 84), .move (.tmp 7), none, []⟩,
    ⟨(some 85), .nilCheck (.tmp 84), none, []⟩,
    ⟨(some 86), .fieldAddr 2 (.tmp 85), none, []⟩,
    ⟨(some 87), .load (.cell .sl) (.tmp 86), none, []⟩,
    ⟨(some 88), .move (.tmp 14), none, []⟩,
    ⟨(some 89), .indexAddr 1 (.tmp 87) (.tmp 88), none, []⟩,
    ⟨(some 90), .load (.cell .bool) (.tmp 89), none, []⟩,
    ⟨(some 91), .move (.tmp 90), none, []⟩,
    ⟨(some 92), .fieldAddr 0 (.tmp 9), (some (91, true)), []⟩,
    ⟨(some 93), .load (.cell .sl) (.tmp 92), (some (91, true)), []⟩,
    ⟨(some 94), .move (.tmp 14), (some (91, true)), []⟩,
    ⟨(some 95), .indexAddr 1 (.tmp 93) (.tmp 94), (some (91, true)), []⟩,
    ⟨(some 96), .load (.cell (.int .i64)) (.tmp 95), (some (91, true)), []⟩,
    ⟨(some 97), .bin .other .lss (.tmp 96) (.c (.int .i64 0)), (some (91, true)), []⟩,
    ⟨(some 98), .pick (.tmp 91) (.tmp 97) (.c (.bool false)), none, []⟩]) k14x52
def k14x50 : AC := .mask 3626777458843887524119440
def k14x49 : AC := .ops false [
    ⟨(some 118), .bin .other .add (.tmp 81) (.c (.int .i64 1)), none, []⟩,
    ⟨(some 81), .move (.tmp 118), none, []⟩]
def k14x46 : AC := .seq (.seq (.block 5 (.seq (.ops false [
     ⟨(some 83), .move (.tmp 81), none, []⟩,
     ⟨(some 14), .move (.tmp 83), none, []⟩]) k14x51)) k14x50) k14x49
def k14x45 : AC := .seq (.seq (.cond (.tmp 82)
   (.skip)
   (.seq (.mask 784) k14x48)) k14x47) k14x46
def k14x44 : AC := .seq (.ops false [
    ⟨(some 82), .bin .other .lss (.tmp 81) (.tmp 80), none, []⟩]) k14x45
def k14x43 : AC := .mask 784
def k14x42 : AC := .seq (.block 4 (.loop 3626777458843887524119440 784 k14x44)) k14x43
def k14x63 : AC := .exit 6
def k14x62 : AC := .mask 7975367974709495237422842361682068240
def k14x66 : AC := .ops false [
    ⟨(some 125), .fieldAddr 0 (.tmp 9), none, []⟩,
    ⟨(some 126), .load (.cell .sl) (.tmp 125), none, []⟩,
    ⟨(some 127), .move (.tmp 15), none, []⟩,
    ⟨(some 128), .fieldAddr 1 (.tmp 9), none, []⟩,
    ⟨(some 129), .load (.cell .sl) (.tmp 128), none, []⟩,
    ⟨(some 130), .move (.tmp 15), none, []⟩,
    ⟨(some 131), .fieldAddr 0 (.tmp 9), none, []⟩,
    ⟨(some 132), .load (.cell .sl) (.tmp 131), none, []⟩,
    ⟨(some 133), .move (.tmp 8), none, []⟩,
    ⟨(some 134), .move (.tmp 15), none, []⟩,
    ⟨(some 138), .fieldAddr 1 (.tmp 9), none, []⟩,
    ⟨(some 139), .load (.cell .sl) (.tmp 138), none, []⟩,
    ⟨(some 140), .move (.tmp 8), none, []⟩,
    ⟨(some 141), .move (.tmp 15), none, []⟩,
    ⟨(some 135), .call 44 [(.tmp 133), (.tmp 134)] [(.cell (.int .i64))] (.int .i64 0), none, [.load 1 125 none, .load 1 128 none, .load 1 131 none, .load 1 138 none]⟩,
    ⟨(some 136), .indexAddr 1 (.tmp 132) (.tmp 135), none, []⟩,
    ⟨(some 137), .load (.cell (.int .i64)) (.tmp 136), none, []⟩,
    ⟨(some 142), .call 44 [(.tmp 140), (.tmp 141)] [(.cell (.int .i64))] (.int .i64 0), none, [.load 1 125 none, .load 1 128 none, .load 1 131 none, .load 1 138 none, .load 1 136 none]⟩,
    ⟨(some 143), .indexAddr 1 (.tmp 139) (.tmp 142), none, []⟩,
    ⟨(some 144), .load (.cell (.int .i64)) (.tmp 143), none, []⟩,
    ⟨(some 145), .indexAddr 1 (.tmp 126) (.tmp 127), none, []⟩,
    ⟨none, .store 1 (.tmp 145) (.tmp 137), none, [.load 1 128 none]⟩,
    ⟨(some 146), .indexAddr 1 (.tmp 129) (.tmp 130), none, []⟩,
    ⟨none, .store 1 (.tmp 146) (.tmp 144), none, []⟩]
def k14x65 : AC := .mask 7975367974709495237422842361682068240
def k14x64 : AC := .ops false [
    ⟨(some 147), .bin .other .add (.tmp 122) (.c (.int .i64 1)), none, []⟩,
    ⟨(some 122), .move (.tmp 147), none, []⟩]
def k14x61 : AC := .seq (.seq (.block 7 (.seq (.ops false [
     ⟨(some 124), .move (.tmp 122), none, []⟩,
     ⟨(some 15), .move (.tmp 124), none, []⟩]) k14x66)) k14x65) k14x64
def k14x60 : AC := .seq (.seq (.cond (.tmp 123)
   (.skip)
   (.seq (.mask 528) k14x63)) k14x62) k14x61
def k14x59 : AC := .seq (.ops false [
    ⟨(some 123), .bin .other .lss (.tmp 122) (.tmp 121), none, []⟩]) k14x60
def k14x58 : AC := .mask 528
def k14x57 : AC := .seq (.block 6 (.loop 7975367974709495237422842361682068240 528 k14x59)) k14x58
def k14x68 : AC := .ret
def k14x67 : AC := .seq (.mask 48) k14x68
def k14x56 : AC := .seq (.ops false [
    ⟨(some 148), .load (.agg [.sl, .sl, (.int .i64)]) (.tmp 9), none, []⟩,
    ⟨none, .store 3 (.tmp 4) (.tmp 148), none, []⟩,
    ⟨(some 5), .move (.c (.int .i64 0)), none, []⟩]) k14x67
def k14x41 : AC := .seq (.seq (.ops false [
    ⟨(some 119), .fieldAddr 0 (.tmp 9), none, []⟩,
    ⟨(some 120), .load (.cell .sl) (.tmp 119), none, []⟩,
    ⟨(some 121), .lenSl (.tmp 120), none, []⟩,
    ⟨(some 122), .move (.c (.int .i64 0)), none, []⟩]) k14x57) k14x56
def k14x26 : AC := .seq (.seq (.ops false [
    ⟨(some 78), .fieldAddr 0 (.tmp 9), none, []⟩,
    ⟨(some 79), .load (.cell .sl) (.tmp 78), none, []⟩,
    ⟨(some 80), .lenSl (.tmp 79), none, []⟩,
    ⟨(some 81), .move (.c (.int .i64 0)), none, []⟩]) k14x42) k14x41
def k14x15 : AC := .seq (.seq (.ops false [
    ⟨(some 56), .move (.tmp 7), none, []⟩,
    ⟨(some 57), .move (.tmp 1), none, []⟩,
    ⟨(some 58), .call 42 [(.tmp 56), (.tmp 57)] [(.cell .sl)] (.sl .nil 0), none, []⟩,
    ⟨(some 59), .lenSl (.tmp 58), none, []⟩,
    ⟨(some 60), .move (.c (.int .i64 0)), none, []⟩]) k14x27) k14x26
def k14x14 : AC := .seq (.seq (.ops false [
    ⟨(some 41), .fieldAddr 0 (.tmp 9), none, []⟩,
    ⟨(some 42), .load (.cell .sl) (.tmp 41), none, []⟩,
    ⟨(some 43), .lenSl (.tmp 42), none, []⟩,
    ⟨(some 44), .move (.c (.int .i64 0)), none, []⟩]) k14x16) k14x15
def k14x13 : AC := .seq (.ops false [
    ⟨(some 34), .fieldAddr 2 (.tmp 2), none, []⟩,
    ⟨(some 35), .load (.cell (.int .i64)) (.tmp 34), none, []⟩,
    ⟨(some 36), .makeSl [(.int .i64 0)] 8 (.tmp 35) (.tmp 35), none, []⟩,
    ⟨(some 37), .fieldAddr 2 (.tmp 2), none, []⟩,
    ⟨(some 38), .load (.cell (.int .i64)) (.tmp 37), none, []⟩,
    ⟨(some 39), .makeSl [(.int .i64 0)] 8 (.tmp 38) (.tmp 38), none, []⟩,
    ⟨(some 40), .build [(.sl .nil 0), (.sl .nil 0), (.int .i64 0)] [(0, 1, (.tmp 36)), (1, 1, (.tmp 39))], none, []⟩,
    ⟨(some 9), .allocL [(.sl .nil 0), (.sl .nil 0), (.int .i64 0)], none, []⟩,
    ⟨none, .store 3 (.tmp 9) (.tmp 40), none, []⟩]) k14x14
def k14x12 : AC := .seq (.ops false [
    ⟨(some 31), .move (.tmp 7), none, []⟩,
    ⟨(some 32), .move (.tmp 1), none, []⟩,
    ⟨(some 33), .call 41 [(.tmp 31), (.tmp 32)] [(.cell .sl)] (.sl .nil 0), none, []⟩,
    ⟨(some 8), .move (.tmp 33), none, []⟩]) k14x13
def k14x7 : AC := .seq (.ops false [
    ⟨(some 29), .load (.agg [(.int .i64), .sl, (.int .i64), .sl]) (.tmp 2), none, []⟩,
    ⟨(some 30), .call 40 [(.tmp 29)] [(.cell .ptr)] (.ptr none), none, []⟩,
    ⟨(some 7), .move (.tmp 30), none, []⟩]) k14x12
def k14x1 : AC := .seq (.seq (.ops true [
    ⟨(some 22), .move (.tmp 1), none, []⟩,
    ⟨(some 23), .bin .other .lss (.tmp 22) (.c (.int .i64 1)), none, []⟩,
    ⟨(some 24), .move (.tmp 23), none, []⟩,
    ⟨(some 25), .move (.tmp 1), (some (24, false)), []⟩,
    ⟨(some 26), .bin .other .gtr (.tmp 25) (.c (.int .i64 10)), (some (24, false)), []⟩,
    ⟨(some 27), .pick (.tmp 24) (.c (.bool true)) (.tmp 26), none, []⟩]) k14x8) k14x7
def k14x0 : AC := .seq (.seq (.ops false [
    ⟨(some 16), .load (.agg [(.int .i64), .sl, (.int .i64), .sl]) (.tmp 2), none, []⟩,
    ⟨(some 17), .call 26 [(.tmp 16)] [(.cell (.int .i64))] (.int .i64 0), none, []⟩,
    ⟨(some 6), .move (.tmp 17), none, []⟩]) k14x2) k14x1
/-- provenance/color.Allocate -/
def c14 : AFn := ⟨149, [.cell 4 (.agg [.sl, .sl, (.int .i64)]), .tmp 5],
  .seq (.ops false [
    ⟨(some 2), .boxL (.tmp 0), none, []⟩,
    ⟨(some 4), .allocL [(.sl .nil 0), (.sl .nil 0), (.int .i64 0)], none, []⟩,
    ⟨(some 5), .move (.c (.int .i64 0)), none, []⟩]) k14x0⟩
theorem cf14 : cFn Try.prog 14 = some c14 := by kernel_rfl
def k40x9 : AC := .exit 0
def k40x8 : AC := .mask 3221225482
def k40x11 : AC := .mask 3221225482
def k40x10 : AC := .ops false [
    ⟨(some 45), .bin .other .add (.tmp 31) (.c (.int .i64 1)), none, []⟩,
    ⟨(some 31), .move (.tmp 45), none, []⟩]
def k40x7 : AC := .seq (.seq (.block 1 (.ops false [
     ⟨(some 33), .load (.cell .ptr) (.tmp 3), none, []⟩,
     ⟨(some 34), .load (.cell .ptr) (.tmp 3), none, []⟩,
     ⟨(some 35), .nilCheck (.tmp 34), none, []⟩,
     ⟨(some 36), .fieldAddr 0 (.tmp 35), none, []⟩,
     ⟨(some 37), .load (.cell .sl) (.tmp 36), none, []⟩,
     ⟨(some 38), .fieldAddr 2 (.tmp 1), none, []⟩,
     ⟨(some 39), .load (.cell (.int .i64)) (.tmp 38), none, []⟩,
     ⟨(some 40), .makeSl [(.bool false)] 1 (.tmp 39) (.tmp 39), none, []⟩,
     ⟨(some 41), .buildSl [(.sl .nil 0)] 1 [(0, (.tmp 40))], none, []⟩,
     ⟨(some 42), .append [(.sl .nil 0)] 1 24 (.tmp 37) (.tmp 41), none, [.load 1 3 none]⟩,
     ⟨(some 43), .nilCheck (.tmp 33), none, []⟩,
     ⟨(some 44), .fieldAddr 0 (.tmp 43), none, []⟩,
     ⟨none, .store 1 (.tmp 44) (.tmp 42), none, []⟩])) k40x11) k40x10
def k40x6 : AC := .seq (.seq (.cond (.tmp 32)
   (.skip)
   (.seq (.mask 10) k40x9)) k40x8) k40x7
def k40x5 : AC := .seq (.ops false [
    ⟨(some 32), .bin .other .lss (.tmp 31) (.tmp 30), none, []⟩]) k40x6
def k40x4 : AC := .mask 10
def k40x3 : AC := .seq (.block 0 (.loop 3221225482 10 k40x5)) k40x4
def k40x20 : AC := .exit 2
def k40x19 : AC := .mask 63050394783187002
def k40x33 : AC := .exit 4
def k40x32 : AC := .mask 63050394783190842
def k40x31 : AC := .seq (.cond (.tmp 75)
   (.skip)
   (.seq (.mask 63050394783187002) k40x33)) k40x32
def k40x43 : AC := .join 63050394783219514
def k40x42 : AC := .seq (.cond (.tmp 102)
   (.ops false [
      ⟨(some 103), .load (.cell .ptr) (.tmp 3), none, []⟩,
      ⟨(some 104), .load (.cell .ptr) (.tmp 3), none, []⟩,
      ⟨(some 105), .nilCheck (.tmp 104), none, []⟩,
      ⟨(some 106), .fieldAddr 3 (.tmp 105), none, []⟩,
      ⟨(some 107), .load (.cell .sl) (.tmp 106), none, []⟩,
      ⟨(some 108), .move (.tmp 13), none, []⟩,
      ⟨(some 109), .fieldAddr 2 (.tmp 12), none, []⟩,
      ⟨(some 110), .load (.cell (.int .i64)) (.tmp 109), none, []⟩,
      ⟨(some 111), .build [(.int .i64 0), (.int .i64 0)] [(0, 1, (.tmp 108)), (1, 1, (.tmp 110))], none, []⟩,
      ⟨(some 112), .buildSl [(.int .i64 0), (.int .i64 0)] 2 [(0, (.tmp 111))], none, []⟩,
      ⟨(some 113), .append [(.int .i64 0), (.int .i64 0)] 2 16 (.tmp 107) (.tmp 112), none, [.load 1 3 none]⟩,
      ⟨(some 114), .nilCheck (.tmp 103), none, []⟩,
      ⟨(some 115), .fieldAddr 3 (.tmp 114), none, []⟩,
      ⟨none, .store 1 (.tmp 115) (.tmp 113), none, []⟩])
   (.skip)) k40x43
def k40x41 : AC := .seq (.ops true [
    ⟨(some 90), .fieldAddr 2 (.tmp 12), none, []⟩,
    ⟨(some 91), .load (.cell (.int .i64)) (.tmp 90), none, []⟩,
    ⟨(some 92), .bin .other .neq (.tmp 91) (.c (.int .i64 0)), none, []⟩,
    ⟨(some 93), .move (.tmp 92), none, []⟩,
    ⟨(some 94), .move (.tmp 13), (some (93, true)), []⟩,
    ⟨(some 95), .bin .other .neq (.tmp 94) (.c (.int .i64 0)), (some (93, true)), []⟩,
    ⟨(some 96), .pick (.tmp 93) (.tmp 95) (.c (.bool false)), none, []⟩,
    ⟨(some 97), .move (.tmp 96), none, []⟩,
    ⟨(some 98), .fieldAddr 2 (.tmp 12), (some (97, true)), []⟩,
    ⟨(some 99), .load (.cell (.int .i64)) (.tmp 98), (some (97, true)), []⟩,
    ⟨(some 100), .move (.tmp 13), (some (97, true)), []⟩,
    ⟨(some 101), .bin .other .neq (.tmp 99) (.tmp 100), (some (97, true)), []⟩,
    ⟨(some 102), .pick (.tmp 97) (.tmp 101) (.c (.bool false)), none, []⟩]) k40x42
def k40x40 : AC := .join 63050394783219514
def k40x39 : AC := .seq (.cond (.tmp 87)
   (.seq (.ops false [
      ⟨(some 88), .fieldAddr 2 (.tmp 12), none, []⟩,
      ⟨(some 89), .load (.cell (.int .i64)) (.tmp 88), none, []⟩,
      ⟨(some 14), .move (.tmp 89), none, []⟩]) k40x41)
   (.skip)) k40x40
def k40x57 : AC := .exit 6
def k40x56 : AC := .mask 76223250190290215815795975115110862561082
def k40x60 : AC := .ops true [
    ⟨(some 140), .load (.cell .ptr) (.tmp 3), none, []⟩,
    ⟨(some 141), .nilCheck (.tmp 140), none, []⟩,
    ⟨(some 142), .fieldAddr 1 (.tmp 141), none, []⟩,
    ⟨(some 143), .load (.cell .sl) (.tmp 142), none, []⟩,
    ⟨(some 144), .move (.tmp 15), none, []⟩,
    ⟨(some 145), .load (.cell .ptr) (.tmp 3), none, []⟩,
    ⟨(some 146), .nilCheck (.tmp 145), none, []⟩,
    ⟨(some 147), .fieldAddr 1 (.tmp 146), none, []⟩,
    ⟨(some 148), .load (.cell .sl) (.tmp 147), none, []⟩,
    ⟨(some 149), .move (.tmp 15), none, []⟩,
    ⟨(some 150), .indexAddr 1 (.tmp 148) (.tmp 149), none, []⟩,
    ⟨(some 151), .load (.cell .bool) (.tmp 150), none, []⟩,
    ⟨(some 152), .move (.tmp 151), none, []⟩,
    ⟨(some 153), .move (.tmp 16), (some (152, false)), []⟩,
    ⟨(some 154), .pick (.tmp 152) (.c (.bool true)) (.tmp 153), none, []⟩,
    ⟨(some 155), .indexAddr 1 (.tmp 143) (.tmp 144), none, []⟩,
    ⟨none, .store 1 (.tmp 155) (.tmp 154), none, []⟩]
def k40x59 : AC := .mask 76223250190290215815795975115110862561082
def k40x58 : AC := .ops false [
    ⟨(some 156), .bin .other .add (.tmp 135) (.c (.int .i64 1)), none, []⟩,
    ⟨(some 135), .move (.tmp 156), none, []⟩]
def k40x55 : AC := .seq (.seq (.block 7 (.seq (.ops false [
     ⟨(some 137), .move (.tmp 135), none, []⟩,
     ⟨(some 138), .indexAddr 1 (.tmp 133) (.tmp 135), none, []⟩,
     ⟨(some 139), .load (.cell .bool) (.tmp 138), none, []⟩,
     ⟨(some 15), .move (.tmp 137), none, []⟩,
     ⟨(some 16), .move (.tmp 139), none, []⟩]) k40x60)) k40x59) k40x58
def k40x54 : AC := .seq (.seq (.cond (.tmp 136)
   (.skip)
   (.seq (.mask 63050394783194938) k40x57)) k40x56) k40x55
def k40x53 : AC := .seq (.ops false [
    ⟨(some 136), .bin .other .lss (.tmp 135) (.tmp 134), none, []⟩]) k40x54
def k40x52 : AC := .mask 63050394783194938
def k40x51 : AC := .seq (.block 6 (.loop 76223250190290215815795975115110862561082 63050394783194938 k40x53)) k40x52
def k40x50 : AC := .join 63050394783194938
def k40x49 : AC := .seq (.cond (.tmp 132)
   (.seq (.ops false [
      ⟨(some 133), .load (.cell .sl) (.tmp 9), none, []⟩,
      ⟨(some 134), .lenSl (.tmp 133), none, []⟩,
      ⟨(some 135), .move (.c (.int .i64 0)), none, []⟩]) k40x51)
   (.skip)) k40x50
def k40x48 : AC := .ops false [
    ⟨(some 157), .move (.tmp 10), none, []⟩,
    ⟨(some 158), .load (.agg [(.int .i64), (.int .i64), (.int .i64), (.int .i64), (.int .i64), .sl]) (.tmp 12), none, []⟩,
    ⟨(some 159), .call 29 [(.tmp 158)] [(.cell .sl)] (.sl .nil 0), none, []⟩,
    ⟨(some 160), .callV (.tmp 157) [(.tmp 159)] [] .opq, none, []⟩]
def k40x47 : AC := .seq (.seq (.ops false [
    ⟨(some 130), .fieldAddr 0 (.tmp 12), none, []⟩,
    ⟨(some 131), .load (.cell (.int .i64)) (.tmp 130), none, []⟩,
    ⟨(some 132), .call 21 [(.tmp 131)] [(.cell .bool)] (.bool false), none, []⟩]) k40x49) k40x48
def k40x46 : AC := .seq (.ops false [
    ⟨(some 121), .load (.cell .ptr) (.tmp 3), none, []⟩,
    ⟨(some 122), .nilCheck (.tmp 121), none, []⟩,
    ⟨(some 123), .fieldAddr 2 (.tmp 122), none, []⟩,
    ⟨(some 124), .load (.cell .sl) (.tmp 123), none, []⟩,
    ⟨(some 125), .move (.tmp 13), none, []⟩,
    ⟨(some 126), .load (.cell .sl) (.tmp 9), none, []⟩,
    ⟨(some 127), .move (.tmp 13), none, []⟩,
    ⟨(some 128), .indexAddr 1 (.tmp 124) (.tmp 125), none, []⟩,
    ⟨none, .store 1 (.tmp 128) (.c (.bool true)), none, [.load 1 9 none]⟩,
    ⟨(some 129), .indexAddr 1 (.tmp 126) (.tmp 127), none, []⟩,
    ⟨none, .store 1 (.tmp 129) (.c (.bool false)), none, []⟩]) k40x47
def k40x38 : AC := .seq (.ops false [
    ⟨(some 116), .load (.cell .ptr) (.tmp 3), none, []⟩,
    ⟨(some 117), .move (.tmp 13), none, []⟩,
    ⟨(some 118), .move (.tmp 14), none, []⟩,
    ⟨(some 119), .load (.cell .sl) (.tmp 9), none, []⟩,
    ⟨(some 120), .call 78 [(.tmp 116), (.tmp 117), (.tmp 118), (.tmp 119)] [] .opq, none, []⟩]) k40x46
def k40x37 : AC := .seq (.seq (.ops false [
    ⟨(some 85), .fieldAddr 0 (.tmp 12), none, []⟩,
    ⟨(some 86), .load (.cell (.int .i64)) (.tmp 85), none, []⟩,
    ⟨(some 87), .bin .other .eql (.tmp 86) (.c (.int .i64 100)), none, []⟩]) k40x39) k40x38
def k40x36 : AC := .seq (.ops false [
    ⟨(some 83), .load (.agg [(.int .i64), (.int .i64), (.int .i64), (.int .i64), (.int .i64), .sl]) (.tmp 12), none, []⟩,
    ⟨(some 84), .call 30 [(.tmp 83)] [(.cell (.int .i64))] (.int .i64 0), none, []⟩,
    ⟨(some 13), .move (.tmp 84), none, []⟩,
    ⟨(some 14), .move (.c (.int .i64 0)), none, []⟩]) k40x37
def k40x35 : AC := .mask 63050394783190842
def k40x34 : AC := .ops false [
    ⟨(some 76), .move (.tmp 11), none, []⟩,
    ⟨(some 77), .bin .other .sub (.tmp 76) (.c (.int .i64 1)), none, []⟩,
    ⟨(some 11), .move (.tmp 77), none, []⟩]
def k40x30 : AC := .seq (.seq (.block 5 (.seq (.ops false [
     ⟨(some 78), .fieldAddr 0 (.tmp 8), none, []⟩,
     ⟨(some 79), .load (.cell .sl) (.tmp 78), none, []⟩,
     ⟨(some 80), .move (.tmp 11), none, []⟩,
     ⟨(some 81), .indexAddr 6 (.tmp 79) (.tmp 80), none, []⟩,
     ⟨(some 82), .load (.agg [(.int .i64), (.int .i64), (.int .i64), (.int .i64), (.int .i64), .sl]) (.tmp 81), none, []⟩,
     ⟨(some 12), .allocL [(.int .i64 0), (.int .i64 0), (.int .i64 0), (.int .i64 0), (.int .i64 0), (.sl .nil 0)], none, []⟩,
     ⟨none, .store 6 (.tmp 12) (.tmp 82), none, []⟩]) k40x36)) k40x35) k40x34
def k40x29 : AC := .seq (.seq (.ops false [
    ⟨(some 74), .move (.tmp 11), none, []⟩,
    ⟨(some 75), .bin .other .geq (.tmp 74) (.c (.int .i64 0)), none, []⟩]) k40x31) k40x30
def k40x28 : AC := .mask 63050394783187002
def k40x27 : AC := .seq (.block 4 (.loop 63050394783190842 63050394783187002 k40x29)) k40x28
def k40x26 : AC := .seq (.ops false [
    ⟨(some 70), .fieldAddr 0 (.tmp 8), none, []⟩,
    ⟨(some 71), .load (.cell .sl) (.tmp 70), none, []⟩,
    ⟨(some 72), .lenSl (.tmp 71), none, []⟩,
    ⟨(some 73), .bin .other .sub (.tmp 72) (.c (.int .i64 1)), none, []⟩,
    ⟨(some 11), .move (.tmp 73), none, []⟩]) k40x27
def k40x25 : AC := .seq (.ops false [
    ⟨(some 65), .move (.tmp 10), none, []⟩,
    ⟨(some 66), .fieldAddr 1 (.tmp 8), none, []⟩,
    ⟨(some 67), .load (.agg [(.int .i64), (.int .i64), (.int .i64), (.int .i64), (.int .i64), .sl]) (.tmp 66), none, []⟩,
    ⟨(some 68), .call 31 [(.tmp 67)] [(.cell .sl)] (.sl .nil 0), none, []⟩,
    ⟨(some 69), .callV (.tmp 65) [(.tmp 68)] [] .opq, none, []⟩]) k40x26
def k40x24 : AC := .seq (.ops false [
    ⟨(some 64), .makeFn 77 [] [(.tmp 9), (.tmp 3)], none, []⟩,
    ⟨(some 10), .move (.tmp 64), none, []⟩]) k40x25
def k40x23 : AC := .seq (.ops false [
    ⟨(some 60), .move (.tmp 5), none, []⟩,
    ⟨(some 61), .move (.tmp 7), none, []⟩,
    ⟨(some 62), .indexAddr 1 (.tmp 60) (.tmp 61), none, []⟩,
    ⟨(some 63), .load (.cell .sl) (.tmp 62), none, []⟩,
    ⟨(some 9), .allocH [(.sl .nil 0)], none, []⟩,
    ⟨none, .store 1 (.tmp 9) (.tmp 63), none, []⟩]) k40x24
def k40x22 : AC := .mask 63050394783187002
def k40x21 : AC := .ops false [
    ⟨(some 161), .bin .other .add (.tmp 55) (.c (.int .i64 1)), none, []⟩,
    ⟨(some 55), .move (.tmp 161), none, []⟩]
def k40x18 : AC := .seq (.seq (.block 3 (.seq (.ops false [
     ⟨(some 57), .move (.tmp 55), none, []⟩,
     ⟨(some 58), .indexAddr 7 (.tmp 53) (.tmp 55), none, []⟩,
     ⟨(some 59), .load (.agg [.sl, (.int .i64), (.int .i64), (.int .i64), (.int .i64), (.int .i64), .sl]) (.tmp 58), none, []⟩,
     ⟨(some 8), .allocL [(.sl .nil 0), (.int .i64 0), (.int .i64 0), (.int .i64 0), (.int .i64 0), (.int .i64 0), (.sl .nil 0)], none, []⟩,
     ⟨(some 7), .move (.tmp 57), none, []⟩,
     ⟨none, .store 7 (.tmp 8) (.tmp 59), none, []⟩]) k40x23)) k40x22) k40x21
def k40x17 : AC := .seq (.seq (.cond (.tmp 56)
   (.skip)
   (.seq (.mask 26) k40x20)) k40x19) k40x18
def k40x16 : AC := .seq (.ops false [
    ⟨(some 56), .bin .other .lss (.tmp 55) (.tmp 54), none, []⟩]) k40x17
def k40x15 : AC := .mask 26
def k40x14 : AC := .seq (.block 2 (.loop 63050394783187002 26 k40x16)) k40x15
def k40x69 : AC := .exit 8
def k40x68 : AC := .mask 81844091690530563419406350632111849100732222406682
def k40x81 : AC := .exit 10
def k40x80 : AC := .mask 5363816237122301534817634001376714254514687659865276442
def k40x84 : AC := .ops false [
    ⟨(some 185), .load (.cell .ptr) (.tmp 3), none, []⟩,
    ⟨(some 186), .move (.tmp 18), none, []⟩,
    ⟨(some 187), .move (.tmp 20), none, []⟩,
    ⟨(some 188), .call 79 [(.tmp 185), (.tmp 186), (.tmp 187)] [] .opq, none, []⟩]
def k40x83 : AC := .mask 5363816237122301534817634001376714254514687659865276442
def k40x82 : AC := .ops false [
    ⟨(some 189), .bin .other .add (.tmp 181) (.c (.int .i64 1)), none, []⟩,
    ⟨(some 181), .move (.tmp 189), none, []⟩]
def k40x79 : AC := .seq (.seq (.block 11 (.seq (.ops false [
     ⟨(some 183), .indexAddr 1 (.tmp 179) (.tmp 181), none, []⟩,
     ⟨(some 184), .load (.cell (.int .i64)) (.tmp 183), none, []⟩,
     ⟨(some 20), .move (.tmp 184), none, []⟩]) k40x84)) k40x83) k40x82
def k40x78 : AC := .seq (.seq (.cond (.tmp 182)
   (.skip)
   (.seq (.mask 81844091690530563419406350632111849100732222668826) k40x81)) k40x80) k40x79
def k40x77 : AC := .seq (.ops false [
    ⟨(some 182), .bin .other .lss (.tmp 181) (.tmp 180), none, []⟩]) k40x78
def k40x76 : AC := .mask 81844091690530563419406350632111849100732222668826
def k40x75 : AC := .seq (.block 10 (.loop 5363816237122301534817634001376714254514687659865276442 81844091690530563419406350632111849100732222668826 k40x77)) k40x76
def k40x74 : AC := .ops false [
    ⟨(some 190), .load (.cell .ptr) (.tmp 3), none, []⟩,
    ⟨(some 191), .move (.tmp 18), none, []⟩,
    ⟨(some 192), .move (.tmp 4), none, []⟩,
    ⟨(some 193), .indexAddr 1 (.tmp 192) (.c (.int .i64 0)), none, []⟩,
    ⟨(some 194), .load (.cell .sl) (.tmp 193), none, []⟩,
    ⟨(some 195), .call 78 [(.tmp 190), (.tmp 191), (.c (.int .i64 0)), (.tmp 194)] [] .opq, none, []⟩]
def k40x73 : AC := .seq (.seq (.ops false [
    ⟨(some 176), .fieldAddr 1 (.tmp 1), none, []⟩,
    ⟨(some 177), .load (.cell .sl) (.tmp 176), none, []⟩,
    ⟨(some 178), .move (.tmp 17), none, []⟩,
    ⟨(some 179), .slice 1 (.tmp 177) none (some (.tmp 178)), none, []⟩,
    ⟨(some 180), .lenSl (.tmp 179), none, []⟩,
    ⟨(some 181), .move (.c (.int .i64 0)), none, []⟩]) k40x75) k40x74
def k40x72 : AC := .seq (.ops false [
    ⟨(some 170), .load (.cell .ptr) (.tmp 3), none, []⟩,
    ⟨(some 171), .nilCheck (.tmp 170), none, []⟩,
    ⟨(some 172), .fieldAddr 2 (.tmp 171), none, []⟩,
    ⟨(some 173), .load (.cell .sl) (.tmp 172), none, []⟩,
    ⟨(some 174), .move (.tmp 18), none, []⟩,
    ⟨(some 175), .indexAddr 1 (.tmp 173) (.tmp 174), none, []⟩,
    ⟨none, .store 1 (.tmp 175) (.c (.bool true)), none, []⟩]) k40x73
def k40x71 : AC := .mask 81844091690530563419406350632111849100732222406682
def k40x70 : AC := .ops false [
    ⟨(some 196), .bin .other .add (.tmp 165) (.c (.int .i64 1)), none, []⟩,
    ⟨(some 165), .move (.tmp 196), none, []⟩]
def k40x67 : AC := .seq (.seq (.block 9 (.seq (.ops false [
     ⟨(some 167), .move (.tmp 165), none, []⟩,
     ⟨(some 168), .indexAddr 1 (.tmp 163) (.tmp 165), none, []⟩,
     ⟨(some 169), .load (.cell (.int .i64)) (.tmp 168), none, []⟩,
     ⟨(some 17), .move (.tmp 167), none, []⟩,
     ⟨(some 18), .move (.tmp 169), none, []⟩]) k40x72)) k40x71) k40x70
def k40x66 : AC := .seq (.seq (.cond (.tmp 166)
   (.skip)
   (.seq (.mask 8) k40x69)) k40x68) k40x67
def k40x65 : AC := .seq (.ops false [
    ⟨(some 166), .bin .other .lss (.tmp 165) (.tmp 164), none, []⟩]) k40x66
def k40x64 : AC := .mask 8
def k40x63 : AC := .seq (.block 8 (.loop 81844091690530563419406350632111849100732222406682 8 k40x65)) k40x64
def k40x87 : AC := .ret
def k40x86 : AC := .seq (.mask 4) k40x87
def k40x85 : AC := .seq (.ops false [
    ⟨(some 202), .load (.cell .ptr) (.tmp 3), none, []⟩,
    ⟨(some 2), .move (.tmp 202), none, []⟩]) k40x86
def k40x62 : AC := .seq (.ops false [
    ⟨(some 197), .load (.cell .ptr) (.tmp 3), none, []⟩,
    ⟨(some 198), .nilCheck (.tmp 197), none, []⟩,
    ⟨(some 199), .fieldAddr 2 (.tmp 198), none, []⟩,
    ⟨(some 200), .load (.cell .sl) (.tmp 199), none, []⟩,
    ⟨(some 201), .indexAddr 1 (.tmp 200) (.c (.int .i64 0)), none, []⟩,
    ⟨none, .store 1 (.tmp 201) (.c (.bool false)), none, []⟩]) k40x85
def k40x13 : AC := .seq (.seq (.ops false [
    ⟨(some 162), .fieldAddr 1 (.tmp 1), none, []⟩,
    ⟨(some 163), .load (.cell .sl) (.tmp 162), none, []⟩,
    ⟨(some 164), .lenSl (.tmp 163), none, []⟩,
    ⟨(some 165), .move (.c (.int .i64 0)), none, []⟩]) k40x63) k40x62
def k40x12 : AC := .seq (.seq (.ops false [
    ⟨(some 52), .fieldAddr 3 (.tmp 1), none, []⟩,
    ⟨(some 53), .load (.cell .sl) (.tmp 52), none, []⟩,
    ⟨(some 54), .lenSl (.tmp 53), none, []⟩,
    ⟨(some 55), .move (.c (.int .i64 0)), none, []⟩]) k40x14) k40x13
def k40x2 : AC := .seq (.ops false [
    ⟨(some 47), .load (.agg [(.int .i64), .sl, (.int .i64), .sl]) (.tmp 1), none, []⟩,
    ⟨(some 48), .call 28 [(.tmp 47)] [(.cell .sl), (.cell .sl), (.cell (.int .i64))] .opq, none, []⟩,
    ⟨(some 46), .move (.tmp 48), none, []⟩,
    ⟨(some 49), .extract (.tmp 46) 0, none, []⟩,
    ⟨(some 50), .extract (.tmp 46) 1, none, []⟩,
    ⟨(some 51), .extract (.tmp 46) 2, none, []⟩,
    ⟨(some 4), .move (.tmp 49), none, []⟩,
    ⟨(some 5), .move (.tmp 50), none, []⟩,
    ⟨(some 6), .move (.tmp 51), none, []⟩]) k40x12
def k40x1 : AC := .seq (.seq (.ops false [
    ⟨(some 29), .fieldAddr 2 (.tmp 1), none, []⟩,
    ⟨(some 30), .load (.cell (.int .i64)) (.tmp 29), none, []⟩,
    ⟨(some 31), .move (.c (.int .i64 0)), none, []⟩]) k40x3) k40x2
def k40x0 : AC := .seq (.ops false [
    ⟨(some 21), .fieldAddr 2 (.tmp 1), none, []⟩,
    ⟨(some 22), .load (.cell (.int .i64)) (.tmp 21), none, []⟩,
    ⟨(some 23), .makeSl [(.bool false)] 1 (.tmp 22) (.tmp 22), none, []⟩,
    ⟨(some 24), .fieldAddr 2 (.tmp 1), none, []⟩,
    ⟨(some 25), .load (.cell (.int .i64)) (.tmp 24), none, []⟩,
    ⟨(some 26), .makeSl [(.bool false)] 1 (.tmp 25) (.tmp 25), none, []⟩,
    ⟨(some 27), .build [(.sl .nil 0), (.sl .nil 0), (.sl .nil 0), (.sl .nil 0)] [(1, 1, (.tmp 23)), (2, 1, (.tmp 26))], none, []⟩,
    ⟨(some 28), .boxH (.tmp 27), none, []⟩,
    ⟨(some 3), .allocH [(.ptr none)], none, []⟩,
    ⟨none, .store 1 (.tmp 3) (.tmp 28), none, []⟩]) k40x1
/-- provenance/color.build -/
def c40 : AFn := ⟨203, [.tmp 2],
  .seq (.ops false [
    ⟨(some 1), .boxL (.tmp 0), none, []⟩,
    ⟨(some 2), .move (.c (.ptr none)), none, []⟩]) k40x0⟩
theorem cf40 : cFn Try.prog 40 = some c40 := by kernel_rfl
def k41x9 : AC := .exit 0
def k41x8 : AC := .mask 201326627
def k41x12 : AC := .ops false [
    ⟨(some 30), .move (.tmp 5), none, []⟩,
    ⟨(some 31), .move (.tmp 6), none, []⟩,
    ⟨(some 32), .move (.tmp 6), none, []⟩,
    ⟨(some 33), .indexAddr 1 (.tmp 30) (.tmp 31), none, []⟩,
    ⟨none, .store 1 (.tmp 33) (.tmp 32), none, []⟩]
def k41x11 : AC := .mask 201326627
def k41x10 : AC := .ops false [
    ⟨(some 34), .bin .other .add (.tmp 27) (.c (.int .i64 1)), none, []⟩,
    ⟨(some 27), .move (.tmp 34), none, []⟩]
def k41x7 : AC := .seq (.seq (.block 1 (.seq (.ops false [
     ⟨(some 29), .move (.tmp 27), none, []⟩,
     ⟨(some 6), .move (.tmp 29), none, []⟩]) k41x12)) k41x11) k41x10
def k41x6 : AC := .seq (.seq (.cond (.tmp 28)
   (.skip)
   (.seq (.mask 35) k41x9)) k41x8) k41x7
def k41x5 : AC := .seq (.ops false [
    ⟨(some 28), .bin .other .lss (.tmp 27) (.tmp 26), none, []⟩]) k41x6
def k41x4 : AC := .mask 35
def k41x3 : AC := .seq (.block 0 (.loop 201326627 35 k41x5)) k41x4
def k41x20 : AC := .exit 2
def k41x19 : AC := .mask 1924145348643
def k41x28 : AC := .exit 3
def k41x27 : AC := .mask 1924145350179
def k41x26 : AC := .seq (.cond (.tmp 89)
   (.seq (.mask 1924145348643) k41x28)
   (.skip)) k41x27
def k41x37 : AC := .exit 4
def k41x36 : AC := .mask 141976867225561692969554904354339
def k41x42 : AC := .join 141976867225561692969554904354339
def k41x41 : AC := .seq (.cond (.tmp 111)
   (.ops false [
      ⟨(some 112), .move (.tmp 0), none, []⟩,
      ⟨(some 113), .move (.tmp 9), none, []⟩,
      ⟨(some 114), .move (.tmp 12), none, []⟩,
      ⟨(some 115), .call 79 [(.tmp 112), (.tmp 113), (.tmp 114)] [] .opq, none, []⟩])
   (.skip)) k41x42
def k41x40 : AC := .seq (.ops false [
    ⟨(some 111), .move (.tmp 13), none, []⟩]) k41x41
def k41x39 : AC := .mask 141976867225561692969554904354339
def k41x38 : AC := .ops false [
    ⟨(some 116), .bin .other .add (.tmp 106) (.c (.int .i64 1)), none, []⟩,
    ⟨(some 106), .move (.tmp 116), none, []⟩]
def k41x35 : AC := .seq (.seq (.block 5 (.seq (.ops false [
     ⟨(some 108), .move (.tmp 106), none, []⟩,
     ⟨(some 109), .indexAddr 1 (.tmp 104) (.tmp 106), none, []⟩,
     ⟨(some 110), .load (.cell .bool) (.tmp 109), none, []⟩,
     ⟨(some 12), .move (.tmp 108), none, []⟩,
     ⟨(some 13), .move (.tmp 110), none, []⟩]) k41x40)) k41x39) k41x38
def k41x34 : AC := .seq (.seq (.cond (.tmp 107)
   (.skip)
   (.seq (.mask 1924145352227) k41x37)) k41x36) k41x35
def k41x33 : AC := .seq (.ops false [
    ⟨(some 107), .bin .other .lss (.tmp 106) (.tmp 105), none, []⟩]) k41x34
def k41x32 : AC := .mask 1924145352227
def k41x31 : AC := .seq (.block 4 (.loop 141976867225561692969554904354339 1924145352227 k41x33)) k41x32
def k41x55 : AC := .exit 6
def k41x54 : AC := .mask 78052608194857180995375013954271189416282659
def k41x60 : AC := .join 78052608194857180995375013954271189416282659
def k41x59 : AC := .seq (.cond (.tmp 157)
   (.ops false [
      ⟨(some 158), .move (.tmp 0), none, []⟩,
      ⟨(some 159), .nilCheck (.tmp 158), none, []⟩,
      ⟨(some 160), .fieldAddr 0 (.tmp 159), none, []⟩,
      ⟨(some 161), .load (.cell .sl) (.tmp 160), none, []⟩,
      ⟨(some 162), .move (.tmp 9), none, []⟩,
      ⟨(some 163), .indexAddr 1 (.tmp 161) (.tmp 162), none, []⟩,
      ⟨(some 164), .load (.cell .sl) (.tmp 163), none, []⟩,
      ⟨(some 165), .move (.tmp 16), none, []⟩,
      ⟨(some 166), .move (.tmp 0), none, []⟩,
      ⟨(some 167), .nilCheck (.tmp 166), none, []⟩,
      ⟨(some 168), .fieldAddr 0 (.tmp 167), none, []⟩,
      ⟨(some 169), .load (.cell .sl) (.tmp 168), none, []⟩,
      ⟨(some 170), .move (.tmp 16), none, []⟩,
      ⟨(some 171), .indexAddr 1 (.tmp 169) (.tmp 170), none, []⟩,
      ⟨(some 172), .load (.cell .sl) (.tmp 171), none, []⟩,
      ⟨(some 173), .move (.tmp 9), none, []⟩,
      ⟨(some 174), .indexAddr 1 (.tmp 164) (.tmp 165), none, []⟩,
      ⟨none, .store 1 (.tmp 174) (.c (.bool false)), none, []⟩,
      ⟨(some 175), .indexAddr 1 (.tmp 172) (.tmp 173), none, []⟩,
      ⟨none, .store 1 (.tmp 175) (.c (.bool false)), none, []⟩])
   (.skip)) k41x60
def k41x58 : AC := .seq (.ops true [
    ⟨(some 150), .move (.tmp 17), none, []⟩,
    ⟨(some 151), .move (.tmp 150), none, []⟩,
    ⟨(some 152), .move (.tmp 11), (some (151, true)), []⟩,
    ⟨(some 153), .move (.tmp 16), (some (151, true)), []⟩,
    ⟨(some 154), .indexAddr 1 (.tmp 152) (.tmp 153), (some (151, true)), []⟩,
    ⟨(some 155), .load (.cell .bool) (.tmp 154), (some (151, true)), []⟩,
    ⟨(some 156), .un .not (.tmp 155), (some (151, true)), []⟩,
    ⟨(some 157), .pick (.tmp 151) (.tmp 156) (.c (.bool false)), none, []⟩]) k41x59
def k41x57 : AC := .mask 78052608194857180995375013954271189416282659
def k41x56 : AC := .ops false [
    ⟨(some 176), .bin .other .add (.tmp 145) (.c (.int .i64 1)), none, []⟩,
    ⟨(some 145), .move (.tmp 176), none, []⟩]
def k41x53 : AC := .seq (.seq (.block 7 (.seq (.ops false [
     ⟨(some 147), .move (.tmp 145), none, []⟩,
     ⟨(some 148), .indexAddr 1 (.tmp 143) (.tmp 145), none, []⟩,
     ⟨(some 149), .load (.cell .bool) (.tmp 148), none, []⟩,
     ⟨(some 16), .move (.tmp 147), none, []⟩,
     ⟨(some 17), .move (.tmp 149), none, []⟩]) k41x58)) k41x57) k41x56
def k41x52 : AC := .seq (.seq (.cond (.tmp 146)
   (.skip)
   (.seq (.mask 1924145348643) k41x55)) k41x54) k41x53
def k41x51 : AC := .seq (.ops false [
    ⟨(some 146), .bin .other .lss (.tmp 145) (.tmp 144), none, []⟩]) k41x52
def k41x50 : AC := .mask 1924145348643
def k41x49 : AC := .seq (.block 6 (.loop 78052608194857180995375013954271189416282659 1924145348643 k41x51)) k41x50
def k41x62 : AC := .exit 3
def k41x48 : AC := .seq (.mask 1924145348643) k41x62
def k41x47 : AC := .mask 1924145350179
def k41x46 : AC := .seq (.cond (.tmp 136)
   (.seq (.seq (.ops false [
      ⟨(some 137), .move (.tmp 0), none, []⟩,
      ⟨(some 138), .nilCheck (.tmp 137), none, []⟩,
      ⟨(some 139), .fieldAddr 0 (.tmp 138), none, []⟩,
      ⟨(some 140), .load (.cell .sl) (.tmp 139), none, []⟩,
      ⟨(some 141), .move (.tmp 9), none, []⟩,
      ⟨(some 142), .indexAddr 1 (.tmp 140) (.tmp 141), none, []⟩,
      ⟨(some 143), .load (.cell .sl) (.tmp 142), none, []⟩,
      ⟨(some 144), .lenSl (.tmp 143), none, []⟩,
      ⟨(some 145), .move (.c (.int .i64 0)), none, []⟩]) k41x49) k41x48)
   (.skip)) k41x47
def k41x45 : AC := .seq (.ops true [
    ⟨(some 124), .move (.tmp 15), none, []⟩,
    ⟨(some 125), .move (.tmp 1), none, []⟩,
    ⟨(some 126), .bin .other .geq (.tmp 124) (.tmp 125), none, []⟩,
    ⟨(some 127), .move (.tmp 126), none, []⟩,
    ⟨(some 128), .move (.tmp 0), (some (127, true)), []⟩,
    ⟨(some 129), .nilCheck (.tmp 128), (some (127, true)), []⟩,
    ⟨(some 130), .fieldAddr 1 (.tmp 129), (some (127, true)), []⟩,
    ⟨(some 131), .load (.cell .sl) (.tmp 130), (some (127, true)), []⟩,
    ⟨(some 132), .move (.tmp 9), (some (127, true)), []⟩,
    ⟨(some 133), .indexAddr 1 (.tmp 131) (.tmp 132), (some (127, true)), []⟩,
    ⟨(some 134), .load (.cell .bool) (.tmp 133), (some (127, true)), []⟩,
    ⟨(some 135), .un .not (.tmp 134), (some (127, true)), []⟩,
    ⟨(some 136), .pick (.tmp 127) (.tmp 135) (.c (.bool false)), none, []⟩]) k41x46
def k41x70 : AC := .exit 8
def k41x69 : AC := .mask 73559785961562665201200657303214840813699479788958254627
def k41x73 : AC := .ops false [
    ⟨(some 188), .move (.tmp 0), none, []⟩,
    ⟨(some 189), .nilCheck (.tmp 188), none, []⟩,
    ⟨(some 190), .fieldAddr 0 (.tmp 189), none, []⟩,
    ⟨(some 191), .load (.cell .sl) (.tmp 190), none, []⟩,
    ⟨(some 192), .move (.tmp 10), none, []⟩,
    ⟨(some 193), .indexAddr 1 (.tmp 191) (.tmp 192), none, []⟩,
    ⟨(some 194), .load (.cell .sl) (.tmp 193), none, []⟩,
    ⟨(some 195), .move (.tmp 18), none, []⟩,
    ⟨(some 196), .move (.tmp 0), none, []⟩,
    ⟨(some 197), .nilCheck (.tmp 196), none, []⟩,
    ⟨(some 198), .fieldAddr 0 (.tmp 197), none, []⟩,
    ⟨(some 199), .load (.cell .sl) (.tmp 198), none, []⟩,
    ⟨(some 200), .move (.tmp 18), none, []⟩,
    ⟨(some 201), .indexAddr 1 (.tmp 199) (.tmp 200), none, []⟩,
    ⟨(some 202), .load (.cell .sl) (.tmp 201), none, []⟩,
    ⟨(some 203), .move (.tmp 10), none, []⟩,
    ⟨(some 204), .indexAddr 1 (.tmp 194) (.tmp 195), none, []⟩,
    ⟨none, .store 1 (.tmp 204) (.c (.bool false)), none, []⟩,
    ⟨(some 205), .indexAddr 1 (.tmp 202) (.tmp 203), none, []⟩,
    ⟨none, .store 1 (.tmp 205) (.c (.bool false)), none, []⟩]
def k41x72 : AC := .mask 73559785961562665201200657303214840813699479788958254627
def k41x71 : AC := .ops false [
    ⟨(some 206), .bin .other .add (.tmp 185) (.c (.int .i64 1)), none, []⟩,
    ⟨(some 185), .move (.tmp 206), none, []⟩]
def k41x68 : AC := .seq (.seq (.block 9 (.seq (.ops false [
     ⟨(some 187), .move (.tmp 185), none, []⟩,
     ⟨(some 18), .move (.tmp 187), none, []⟩]) k41x73)) k41x72) k41x71
def k41x67 : AC := .seq (.seq (.cond (.tmp 186)
   (.skip)
   (.seq (.mask 1924145350179) k41x70)) k41x69) k41x68
def k41x66 : AC := .seq (.ops false [
    ⟨(some 186), .bin .other .lss (.tmp 185) (.tmp 184), none, []⟩]) k41x67
def k41x65 : AC := .mask 1924145350179
def k41x64 : AC := .seq (.block 8 (.loop 73559785961562665201200657303214840813699479788958254627 1924145350179 k41x66)) k41x65
def k41x74 : AC := .ops false [
    ⟨(some 211), .move (.tmp 0), none, []⟩,
    ⟨(some 212), .nilCheck (.tmp 211), none, []⟩,
    ⟨(some 213), .fieldAddr 2 (.tmp 212), none, []⟩,
    ⟨(some 214), .load (.cell .sl) (.tmp 213), none, []⟩,
    ⟨(some 215), .move (.tmp 10), none, []⟩,
    ⟨(some 216), .indexAddr 1 (.tmp 214) (.tmp 215), none, []⟩,
    ⟨none, .store 1 (.tmp 216) (.c (.bool false)), none, []⟩]
def k41x63 : AC := .seq (.ops false [
    ⟨(some 207), .move (.tmp 5), none, []⟩,
    ⟨(some 208), .move (.tmp 10), none, []⟩,
    ⟨(some 209), .move (.tmp 9), none, []⟩,
    ⟨(some 210), .indexAddr 1 (.tmp 207) (.tmp 208), none, []⟩,
    ⟨none, .store 1 (.tmp 210) (.tmp 209), none, []⟩]) k41x74
def k41x44 : AC := .seq (.seq (.ops false [
    ⟨(some 177), .move (.tmp 0), none, []⟩,
    ⟨(some 178), .nilCheck (.tmp 177), none, []⟩,
    ⟨(some 179), .fieldAddr 0 (.tmp 178), none, []⟩,
    ⟨(some 180), .load (.cell .sl) (.tmp 179), none, []⟩,
    ⟨(some 181), .move (.tmp 10), none, []⟩,
    ⟨(some 182), .indexAddr 1 (.tmp 180) (.tmp 181), none, []⟩,
    ⟨(some 183), .load (.cell .sl) (.tmp 182), none, []⟩,
    ⟨(some 184), .lenSl (.tmp 183), none, []⟩,
    ⟨(some 185), .move (.c (.int .i64 0)), none, []⟩]) k41x64) k41x63
def k41x30 : AC := .seq (.seq (.ops false [
    ⟨(some 118), .move (.tmp 0), none, []⟩,
    ⟨(some 119), .move (.tmp 9), none, []⟩,
    ⟨(some 120), .move (.tmp 1), none, []⟩,
    ⟨(some 121), .call 81 [(.tmp 118), (.tmp 119), (.tmp 120)] [(.cell (.int .i64)), (.cell (.int .i64))] .opq, none, []⟩,
    ⟨(some 117), .move (.tmp 121), none, []⟩,
    ⟨(some 122), .extract (.tmp 117) 0, none, []⟩,
    ⟨(some 123), .extract (.tmp 117) 1, none, []⟩,
    ⟨(some 14), .move (.tmp 122), none, []⟩,
    ⟨(some 15), .move (.tmp 123), none, []⟩]) k41x45) k41x44
def k41x29 : AC := .seq (.seq (.ops false [
    ⟨(some 98), .move (.tmp 0), none, []⟩,
    ⟨(some 99), .nilCheck (.tmp 98), none, []⟩,
    ⟨(some 100), .fieldAddr 0 (.tmp 99), none, []⟩,
    ⟨(some 101), .load (.cell .sl) (.tmp 100), none, []⟩,
    ⟨(some 102), .move (.tmp 10), none, []⟩,
    ⟨(some 103), .indexAddr 1 (.tmp 101) (.tmp 102), none, []⟩,
    ⟨(some 104), .load (.cell .sl) (.tmp 103), none, []⟩,
    ⟨(some 105), .lenSl (.tmp 104), none, []⟩,
    ⟨(some 106), .move (.c (.int .i64 0)), none, []⟩]) k41x31) k41x30
def k41x25 : AC := .seq (.ops false [
    ⟨(some 90), .move (.tmp 0), none, []⟩,
    ⟨(some 91), .nilCheck (.tmp 90), none, []⟩,
    ⟨(some 92), .fieldAddr 0 (.tmp 91), none, []⟩,
    ⟨(some 93), .load (.cell .sl) (.tmp 92), none, []⟩,
    ⟨(some 94), .move (.tmp 9), none, []⟩,
    ⟨(some 95), .indexAddr 1 (.tmp 93) (.tmp 94), none, []⟩,
    ⟨(some 96), .load (.cell .sl) (.tmp 95), none, []⟩,
    ⟨(some 97), .call 80 [(.tmp 96)] [(.cell .sl)] (.sl .nil 0), none, []⟩,
    ⟨(some 11), .move (.tmp 97), none, []⟩]) k41x29
def k41x24 : AC := .seq (.seq (.ops true [
    ⟨(some 58), .move (.tmp 9), none, []⟩,
    ⟨(some 59), .move (.tmp 10), none, []⟩,
    ⟨(some 60), .bin .other .eql (.tmp 58) (.tmp 59), none, []⟩,
    ⟨(some 61), .move (.tmp 60), none, []⟩,
    ⟨(some 62), .move (.tmp 0), (some (61, false)), []⟩,
    ⟨(some 63), .nilCheck (.tmp 62), (some (61, false)), []⟩,
    ⟨(some 64), .fieldAddr 0 (.tmp 63), (some (61, false)), []⟩,
    ⟨(some 65), .load (.cell .sl) (.tmp 64), (some (61, false)), []⟩,
    ⟨(some 66), .move (.tmp 9), (some (61, false)), []⟩,
    ⟨(some 67), .indexAddr 1 (.tmp 65) (.tmp 66), (some (61, false)), []⟩,
    ⟨(some 68), .load (.cell .sl) (.tmp 67), (some (61, false)), []⟩,
    ⟨(some 69), .move (.tmp 10), (some (61, false)), []⟩,
    ⟨(some 70), .indexAddr 1 (.tmp 68) (.tmp 69), (some (61, false)), []⟩,
    ⟨(some 71), .load (.cell .bool) (.tmp 70), (some (61, false)), []⟩,
    ⟨(some 72), .pick (.tmp 61) (.c (.bool true)) (.tmp 71), none, []⟩,
    ⟨(some 73), .move (.tmp 72), none, []⟩,
    ⟨(some 74), .move (.tmp 0), (some (73, false)), []⟩,
    ⟨(some 75), .nilCheck (.tmp 74), (some (73, false)), []⟩,
    ⟨(some 76), .fieldAddr 1 (.tmp 75), (some (73, false)), []⟩,
    ⟨(some 77), .load (.cell .sl) (.tmp 76), (some (73, false)), []⟩,
    ⟨(some 78), .move (.tmp 9), (some (73, false)), []⟩,
    ⟨(some 79), .indexAddr 1 (.tmp 77) (.tmp 78), (some (73, false)), []⟩,
    ⟨(some 80), .load (.cell .bool) (.tmp 79), (some (73, false)), []⟩,
    ⟨(some 81), .move (.tmp 0), (some (73, false)), []⟩,
    ⟨(some 82), .nilCheck (.tmp 81), (some (73, false)), []⟩,
    ⟨(some 83), .fieldAddr 1 (.tmp 82), (some (73, false)), []⟩,
    ⟨(some 84), .load (.cell .sl) (.tmp 83), (some (73, false)), []⟩,
    ⟨(some 85), .move (.tmp 10), (some (73, false)), []⟩,
    ⟨(some 86), .indexAddr 1 (.tmp 84) (.tmp 85), (some (73, false)), []⟩,
    ⟨(some 87), .load (.cell .bool) (.tmp 86), (some (73, false)), []⟩,
    ⟨(some 88), .bin .bool .neq (.tmp 80) (.tmp 87), (some (73, false)), []⟩,
    ⟨(some 89), .pick (.tmp 73) (.c (.bool true)) (.tmp 88), none, []⟩]) k41x26) k41x25
def k41x23 : AC := .seq (.ops false [
    ⟨(some 44), .move (.tmp 5), none, []⟩,
    ⟨(some 45), .indexArr 2 1 (.tmp 8) (.c (.int .i64 0)), none, []⟩,
    ⟨(some 46), .load (.cell (.int .i64)) (.tmp 45), none, []⟩,
    ⟨(some 47), .indexArr 2 1 (.tmp 8) (.c (.int .i64 1)), none, []⟩,
    ⟨(some 48), .load (.cell (.int .i64)) (.tmp 47), none, []⟩,
    ⟨(some 49), .mm false [(.tmp 46), (.tmp 48)], none, []⟩,
    ⟨(some 51), .move (.tmp 5), none, []⟩,
    ⟨(some 52), .indexArr 2 1 (.tmp 8) (.c (.int .i64 0)), none, []⟩,
    ⟨(some 53), .load (.cell (.int .i64)) (.tmp 52), none, []⟩,
    ⟨(some 54), .indexArr 2 1 (.tmp 8) (.c (.int .i64 1)), none, []⟩,
    ⟨(some 55), .load (.cell (.int .i64)) (.tmp 54), none, []⟩,
    ⟨(some 56), .mm true [(.tmp 53), (.tmp 55)], none, []⟩,
    ⟨(some 50), .call 44 [(.tmp 44), (.tmp 49)] [(.cell (.int .i64))] (.int .i64 0), none, [.load 1 52 none, .load 1 54 none]⟩,
    ⟨(some 57), .call 44 [(.tmp 51), (.tmp 56)] [(.cell (.int .i64))] (.int .i64 0), none, []⟩,
    ⟨(some 9), .move (.tmp 50), none, []⟩,
    ⟨(some 10), .move (.tmp 57), none, []⟩]) k41x24
def k41x22 : AC := .join 1924145348643
def k41x21 : AC := .ops false [
    ⟨(some 217), .bin .other .add (.tmp 40) (.c (.int .i64 1)), none, []⟩,
    ⟨(some 40), .move (.tmp 217), none, []⟩]
def k41x18 : AC := .seq (.seq (.block 3 (.seq (.ops false [
     ⟨(some 42), .indexAddr 2 (.tmp 38) (.tmp 40), none, []⟩,
     ⟨(some 43), .load (.agg [(.int .i64), (.int .i64)]) (.tmp 42), none, []⟩,
     ⟨(some 8), .allocL [(.int .i64 0), (.int .i64 0)], none, []⟩,
     ⟨none, .store 2 (.tmp 8) (.tmp 43), none, []⟩]) k41x23)) k41x22) k41x21
def k41x17 : AC := .seq (.seq (.cond (.tmp 41)
   (.skip)
   (.seq (.mask 32) k41x20)) k41x19) k41x18
def k41x16 : AC := .seq (.ops false [
    ⟨(some 41), .bin .other .lss (.tmp 40) (.tmp 39), none, []⟩]) k41x17
def k41x15 : AC := .mask 32
def k41x14 : AC := .seq (.block 2 (.loop 1924145348643 32 k41x16)) k41x15
def k41x77 : AC := .ret
def k41x76 : AC := .seq (.mask 16) k41x77
def k41x13 : AC := .seq (.ops false [
    ⟨(some 218), .move (.tmp 5), none, []⟩,
    ⟨(some 4), .move (.tmp 218), none, []⟩]) k41x76
def k41x2 : AC := .seq (.seq (.ops false [
    ⟨(some 35), .move (.tmp 0), none, []⟩,
    ⟨(some 36), .nilCheck (.tmp 35), none, []⟩,
    ⟨(some 37), .fieldAddr 3 (.tmp 36), none, []⟩,
    ⟨(some 38), .load (.cell .sl) (.tmp 37), none, []⟩,
    ⟨(some 39), .lenSl (.tmp 38), none, []⟩,
    ⟨(some 40), .move (.c (.int .i64 0)), none, []⟩]) k41x14) k41x13
def k41x1 : AC := .seq (.seq (.ops false [
    ⟨(some 25), .move (.tmp 5), none, []⟩,
    ⟨(some 26), .lenSl (.tmp 25), none, []⟩,
    ⟨(some 27), .move (.c (.int .i64 0)), none, []⟩]) k41x3) k41x2
def k41x0 : AC := .seq (.ops false [
    ⟨(some 19), .move (.tmp 0), none, []⟩,
    ⟨(some 20), .nilCheck (.tmp 19), none, []⟩,
    ⟨(some 21), .fieldAddr 0 (.tmp 20), none, []⟩,
    ⟨(some 22), .load (.cell .sl) (.tmp 21), none, []⟩,
    ⟨(some 23), .lenSl (.tmp 22), none, []⟩,
    ⟨(some 24), .makeSl [(.int .i64 0)] 8 (.tmp 23) (.tmp 23), none, []⟩,
    ⟨(some 5), .move (.tmp 24), none, []⟩]) k41x1
/-- (*provenance/color.graph).coalesce -/
def c41 : AFn := ⟨219, [.tmp 4],
  .seq (.ops false [
    ⟨(some 4), .move (.c (.sl .nil 0)), none, []⟩]) k41x0⟩
theorem cf41 : cFn Try.prog 41 = some c41 := by kernel_rfl
def k42x11 : AC := .exit 0
def k42x10 : AC := .mask 103079215331
def k42x17 : AC := .join 103079215331
def k42x16 : AC := .seq (.cond (.tmp 62)
   (.ops false [
      ⟨(some 63), .move (.tmp 7), none, []⟩,
      ⟨(some 64), .bin .other .add (.tmp 63) (.c (.int .i64 1)), none, []⟩,
      ⟨(some 7), .move (.tmp 64), none, []⟩])
   (.skip)) k42x17
def k42x15 : AC := .seq (.ops false [
    ⟨(some 59), .move (.tmp 5), none, []⟩,
    ⟨(some 60), .move (.tmp 8), none, []⟩,
    ⟨(some 61), .indexAddr 1 (.tmp 59) (.tmp 60), none, []⟩,
    ⟨(some 62), .load (.cell .bool) (.tmp 61), none, []⟩]) k42x16
def k42x14 : AC := .seq (.ops true [
    ⟨(some 39), .move (.tmp 5), none, []⟩,
    ⟨(some 40), .move (.tmp 8), none, []⟩,
    ⟨(some 41), .move (.tmp 0), none, []⟩,
    ⟨(some 42), .nilCheck (.tmp 41), none, []⟩,
    ⟨(some 43), .fieldAddr 2 (.tmp 42), none, []⟩,
    ⟨(some 44), .load (.cell .sl) (.tmp 43), none, []⟩,
    ⟨(some 45), .move (.tmp 8), none, []⟩,
    ⟨(some 46), .indexAddr 1 (.tmp 44) (.tmp 45), none, []⟩,
    ⟨(some 47), .load (.cell .bool) (.tmp 46), none, []⟩,
    ⟨(some 48), .move (.tmp 47), none, []⟩,
    ⟨(some 49), .move (.tmp 0), (some (48, true)), []⟩,
    ⟨(some 50), .nilCheck (.tmp 49), (some (48, true)), []⟩,
    ⟨(some 51), .fieldAddr 1 (.tmp 50), (some (48, true)), []⟩,
    ⟨(some 52), .load (.cell .sl) (.tmp 51), (some (48, true)), []⟩,
    ⟨(some 53), .move (.tmp 8), (some (48, true)), []⟩,
    ⟨(some 54), .indexAddr 1 (.tmp 52) (.tmp 53), (some (48, true)), []⟩,
    ⟨(some 55), .load (.cell .bool) (.tmp 54), (some (48, true)), []⟩,
    ⟨(some 56), .un .not (.tmp 55), (some (48, true)), []⟩,
    ⟨(some 57), .pick (.tmp 48) (.tmp 56) (.c (.bool false)), none, []⟩,
    ⟨(some 58), .indexAddr 1 (.tmp 39) (.tmp 40), none, []⟩,
    ⟨none, .store 1 (.tmp 58) (.tmp 57), none, []⟩]) k42x15
def k42x13 : AC := .mask 103079215331
def k42x12 : AC := .ops false [
    ⟨(some 65), .bin .other .add (.tmp 36) (.c (.int .i64 1)), none, []⟩,
    ⟨(some 36), .move (.tmp 65), none, []⟩]
def k42x9 : AC := .seq (.seq (.block 1 (.seq (.ops false [
     ⟨(some 38), .move (.tmp 36), none, []⟩,
     ⟨(some 8), .move (.tmp 38), none, []⟩]) k42x14)) k42x13) k42x12
def k42x8 : AC := .seq (.seq (.cond (.tmp 37)
   (.skip)
   (.seq (.mask 227) k42x11)) k42x10) k42x9
def k42x7 : AC := .seq (.ops false [
    ⟨(some 37), .bin .other .lss (.tmp 36) (.tmp 35), none, []⟩]) k42x8
def k42x6 : AC := .mask 227
def k42x5 : AC := .seq (.block 0 (.loop 103079215331 227 k42x7)) k42x6
def k42x26 : AC := .exit 2
def k42x25 : AC := .mask 4132070672510939562211
def k42x36 : AC := .exit 4
def k42x35 : AC := .mask 533037116753911203496675
def k42x41 : AC := .join 533037116753911203496675
def k42x40 : AC := .seq (.cond (.tmp 89)
   (.ops false [
      ⟨(some 90), .move (.tmp 6), none, []⟩,
      ⟨(some 91), .move (.tmp 9), none, []⟩,
      ⟨(some 92), .indexAddr 1 (.tmp 90) (.tmp 91), none, []⟩,
      ⟨(some 93), .load (.cell (.int .i64)) (.tmp 92), none, []⟩,
      ⟨(some 94), .bin .other .add (.tmp 93) (.c (.int .i64 1)), none, []⟩,
      ⟨(some 95), .indexAddr 1 (.tmp 90) (.tmp 91), none, []⟩,
      ⟨none, .store 1 (.tmp 95) (.tmp 94), none, []⟩])
   (.skip)) k42x41
def k42x39 : AC := .seq (.ops true [
    ⟨(some 83), .move (.tmp 12), none, []⟩,
    ⟨(some 84), .move (.tmp 83), none, []⟩,
    ⟨(some 85), .move (.tmp 5), (some (84, true)), []⟩,
    ⟨(some 86), .move (.tmp 11), (some (84, true)), []⟩,
    ⟨(some 87), .indexAddr 1 (.tmp 85) (.tmp 86), (some (84, true)), []⟩,
    ⟨(some 88), .load (.cell .bool) (.tmp 87), (some (84, true)), []⟩,
    ⟨(some 89), .pick (.tmp 84) (.tmp 88) (.c (.bool false)), none, []⟩]) k42x40
def k42x38 : AC := .mask 533037116753911203496675
def k42x37 : AC := .ops false [
    ⟨(some 96), .bin .other .add (.tmp 78) (.c (.int .i64 1)), none, []⟩,
    ⟨(some 78), .move (.tmp 96), none, []⟩]
def k42x34 : AC := .seq (.seq (.block 5 (.seq (.ops false [
     ⟨(some 80), .move (.tmp 78), none, []⟩,
     ⟨(some 81), .indexAddr 1 (.tmp 76) (.tmp 78), none, []⟩,
     ⟨(some 82), .load (.cell .bool) (.tmp 81), none, []⟩,
     ⟨(some 11), .move (.tmp 80), none, []⟩,
     ⟨(some 12), .move (.tmp 82), none, []⟩]) k42x39)) k42x38) k42x37
def k42x33 : AC := .seq (.seq (.cond (.tmp 79)
   (.skip)
   (.seq (.mask 4132070672510939562211) k42x36)) k42x35) k42x34
def k42x32 : AC := .seq (.ops false [
    ⟨(some 79), .bin .other .lss (.tmp 78) (.tmp 77), none, []⟩]) k42x33
def k42x31 : AC := .mask 4132070672510939562211
def k42x30 : AC := .seq (.block 4 (.loop 533037116753911203496675 4132070672510939562211 k42x32)) k42x31
def k42x29 : AC := .seq (.ops false [
    ⟨(some 76), .move (.tmp 10), none, []⟩,
    ⟨(some 77), .lenSl (.tmp 76), none, []⟩,
    ⟨(some 78), .move (.c (.int .i64 0)), none, []⟩]) k42x30
def k42x28 : AC := .mask 4132070672510939562211
def k42x27 : AC := .ops false [
    ⟨(some 97), .bin .other .add (.tmp 71) (.c (.int .i64 1)), none, []⟩,
    ⟨(some 71), .move (.tmp 97), none, []⟩]
def k42x24 : AC := .seq (.seq (.block 3 (.seq (.ops false [
     ⟨(some 73), .move (.tmp 71), none, []⟩,
     ⟨(some 74), .indexAddr 1 (.tmp 69) (.tmp 71), none, []⟩,
     ⟨(some 75), .load (.cell .sl) (.tmp 74), none, []⟩,
     ⟨(some 9), .move (.tmp 73), none, []⟩,
     ⟨(some 10), .move (.tmp 75), none, []⟩]) k42x29)) k42x28) k42x27
def k42x23 : AC := .seq (.seq (.cond (.tmp 72)
   (.skip)
   (.seq (.mask 227) k42x26)) k42x25) k42x24
def k42x22 : AC := .seq (.ops false [
    ⟨(some 72), .bin .other .lss (.tmp 71) (.tmp 70), none, []⟩]) k42x23
def k42x21 : AC := .mask 227
def k42x20 : AC := .seq (.block 2 (.loop 4132070672510939562211 227 k42x22)) k42x21
def k42x51 : AC := .exit 6
def k42x50 : AC := .mask 950737950171172051122527412323
def k42x62 : AC := .exit 8
def k42x61 : AC := .mask 18697846353366383672076372303971
def k42x69 : AC := .exit 9
def k42x68 : AC := .mask 18697846353366383672076372336739
def k42x67 : AC := .seq (.cond (.tmp 109)
   (.seq (.mask 18697846353366383672076372303971) k42x69)
   (.skip)) k42x68
def k42x74 : AC := .exit 8
def k42x73 : AC := .seq (.mask 950737950171172051122527428707) k42x74
def k42x72 : AC := .mask 18697846353366383672076372336739
def k42x71 : AC := .seq (.cond (.tmp 115)
   (.seq (.ops false [
      ⟨(some 116), .move (.tmp 15), none, []⟩,
      ⟨(some 14), .move (.tmp 116), none, []⟩]) k42x73)
   (.skip)) k42x72
def k42x76 : AC := .join 18697846353366383672076372303971
def k42x75 : AC := .seq (.cond (.tmp 129)
   (.ops false [
      ⟨(some 130), .move (.tmp 15), none, []⟩,
      ⟨(some 14), .move (.tmp 130), none, []⟩])
   (.skip)) k42x76
def k42x70 : AC := .seq (.ops true [
    ⟨(some 117), .move (.tmp 14), none, []⟩,
    ⟨(some 118), .bin .other .lss (.tmp 117) (.c (.int .i64 0)), none, []⟩,
    ⟨(some 119), .move (.tmp 118), none, []⟩,
    ⟨(some 120), .move (.tmp 6), (some (119, false)), []⟩,
    ⟨(some 121), .move (.tmp 15), (some (119, false)), []⟩,
    ⟨(some 122), .indexAddr 1 (.tmp 120) (.tmp 121), (some (119, false)), []⟩,
    ⟨(some 123), .load (.cell (.int .i64)) (.tmp 122), (some (119, false)), []⟩,
    ⟨(some 124), .move (.tmp 6), (some (119, false)), []⟩,
    ⟨(some 125), .move (.tmp 14), (some (119, false)), []⟩,
    ⟨(some 126), .indexAddr 1 (.tmp 124) (.tmp 125), (some (119, false)), []⟩,
    ⟨(some 127), .load (.cell (.int .i64)) (.tmp 126), (some (119, false)), []⟩,
    ⟨(some 128), .bin .other .gtr (.tmp 123) (.tmp 127), (some (119, false)), []⟩,
    ⟨(some 129), .pick (.tmp 119) (.c (.bool true)) (.tmp 128), none, []⟩]) k42x75
def k42x66 : AC := .seq (.seq (.ops false [
    ⟨(some 110), .move (.tmp 6), none, []⟩,
    ⟨(some 111), .move (.tmp 15), none, []⟩,
    ⟨(some 112), .indexAddr 1 (.tmp 110) (.tmp 111), none, []⟩,
    ⟨(some 113), .load (.cell (.int .i64)) (.tmp 112), none, []⟩,
    ⟨(some 114), .move (.tmp 1), none, []⟩,
    ⟨(some 115), .bin .other .lss (.tmp 113) (.tmp 114), none, []⟩]) k42x71) k42x70
def k42x65 : AC := .seq (.seq (.ops false [
    ⟨(some 108), .move (.tmp 16), none, []⟩,
    ⟨(some 109), .un .not (.tmp 108), none, []⟩]) k42x67) k42x66
def k42x64 : AC := .join 18697846353366383672076372303971
def k42x63 : AC := .ops false [
    ⟨(some 131), .bin .other .add (.tmp 103) (.c (.int .i64 1)), none, []⟩,
    ⟨(some 103), .move (.tmp 131), none, []⟩]
def k42x60 : AC := .seq (.seq (.block 9 (.seq (.ops false [
     ⟨(some 105), .move (.tmp 103), none, []⟩,
     ⟨(some 106), .indexAddr 1 (.tmp 101) (.tmp 103), none, []⟩,
     ⟨(some 107), .load (.cell .bool) (.tmp 106), none, []⟩,
     ⟨(some 15), .move (.tmp 105), none, []⟩,
     ⟨(some 16), .move (.tmp 107), none, []⟩]) k42x65)) k42x64) k42x63
def k42x59 : AC := .seq (.seq (.cond (.tmp 104)
   (.skip)
   (.seq (.mask 950737950171172051122527428707) k42x62)) k42x61) k42x60
def k42x58 : AC := .seq (.ops false [
    ⟨(some 104), .bin .other .lss (.tmp 103) (.tmp 102), none, []⟩]) k42x59
def k42x57 : AC := .join 950737950171172051122527428707
def k42x56 : AC := .seq (.block 8 (.loop 18697846353366383672076372303971 950737950171172051122527428707 k42x58)) k42x57
def k42x88 : AC := .exit 10
def k42x87 : AC := .mask 312210432779429674719450226989128183611138147
def k42x93 : AC := .join 312210432779429674719450226989128183611138147
def k42x92 : AC := .seq (.cond (.tmp 152)
   (.ops false [
      ⟨(some 153), .move (.tmp 6), none, []⟩,
      ⟨(some 154), .move (.tmp 17), none, []⟩,
      ⟨(some 155), .indexAddr 1 (.tmp 153) (.tmp 154), none, []⟩,
      ⟨(some 156), .load (.cell (.int .i64)) (.tmp 155), none, []⟩,
      ⟨(some 157), .bin .other .sub (.tmp 156) (.c (.int .i64 1)), none, []⟩,
      ⟨(some 158), .indexAddr 1 (.tmp 153) (.tmp 154), none, []⟩,
      ⟨none, .store 1 (.tmp 158) (.tmp 157), none, []⟩])
   (.skip)) k42x93
def k42x91 : AC := .seq (.ops false [
    ⟨(some 152), .move (.tmp 18), none, []⟩]) k42x92
def k42x90 : AC := .mask 312210432779429674719450226989128183611138147
def k42x89 : AC := .ops false [
    ⟨(some 159), .bin .other .add (.tmp 147) (.c (.int .i64 1)), none, []⟩,
    ⟨(some 147), .move (.tmp 159), none, []⟩]
def k42x86 : AC := .seq (.seq (.block 11 (.seq (.ops false [
     ⟨(some 149), .move (.tmp 147), none, []⟩,
     ⟨(some 150), .indexAddr 1 (.tmp 145) (.tmp 147), none, []⟩,
     ⟨(some 151), .load (.cell .bool) (.tmp 150), none, []⟩,
     ⟨(some 17), .move (.tmp 149), none, []⟩,
     ⟨(some 18), .move (.tmp 151), none, []⟩]) k42x91)) k42x90) k42x89
def k42x85 : AC := .seq (.seq (.cond (.tmp 148)
   (.skip)
   (.seq (.mask 950737950171172051122527412323) k42x88)) k42x87) k42x86
def k42x84 : AC := .seq (.ops false [
    ⟨(some 148), .bin .other .lss (.tmp 147) (.tmp 146), none, []⟩]) k42x85
def k42x83 : AC := .mask 950737950171172051122527412323
def k42x82 : AC := .seq (.block 10 (.loop 312210432779429674719450226989128183611138147 950737950171172051122527412323 k42x84)) k42x83
def k42x81 : AC := .seq (.ops false [
    ⟨(some 139), .move (.tmp 0), none, []⟩,
    ⟨(some 140), .nilCheck (.tmp 139), none, []⟩,
    ⟨(some 141), .fieldAddr 0 (.tmp 140), none, []⟩,
    ⟨(some 142), .load (.cell .sl) (.tmp 141), none, []⟩,
    ⟨(some 143), .move (.tmp 14), none, []⟩,
    ⟨(some 144), .indexAddr 1 (.tmp 142) (.tmp 143), none, []⟩,
    ⟨(some 145), .load (.cell .sl) (.tmp 144), none, []⟩,
    ⟨(some 146), .lenSl (.tmp 145), none, []⟩,
    ⟨(some 147), .move (.c (.int .i64 0)), none, []⟩]) k42x82
def k42x80 : AC := .seq (.ops false [
    ⟨(some 135), .move (.tmp 13), none, []⟩,
    ⟨(some 136), .move (.tmp 14), none, []⟩,
    ⟨(some 137), .buildSl [(.int .i64 0)] 1 [(0, (.tmp 136))], none, []⟩,
    ⟨(some 138), .append [(.int .i64 0)] 1 8 (.tmp 135) (.tmp 137), none, []⟩,
    ⟨(some 13), .move (.tmp 138), none, []⟩]) k42x81
def k42x55 : AC := .seq (.ops false [
    ⟨(some 132), .move (.tmp 5), none, []⟩,
    ⟨(some 133), .move (.tmp 14), none, []⟩,
    ⟨(some 134), .indexAddr 1 (.tmp 132) (.tmp 133), none, []⟩,
    ⟨none, .store 1 (.tmp 134) (.c (.bool false)), none, []⟩]) k42x80
def k42x54 : AC := .seq (.seq (.ops false [
    ⟨(some 101), .move (.tmp 5), none, []⟩,
    ⟨(some 102), .lenSl (.tmp 101), none, []⟩,
    ⟨(some 103), .move (.c (.int .i64 0)), none, []⟩]) k42x56) k42x55
def k42x53 : AC := .mask 950737950171172051122527412323
def k42x52 : AC := .ops false [
    ⟨(some 160), .bin .other .add (.tmp 99) (.c (.int .i64 1)), none, []⟩,
    ⟨(some 99), .move (.tmp 160), none, []⟩]
def k42x49 : AC := .seq (.seq (.block 7 (.seq (.ops false [
     ⟨(some 14), .move (.c (.int .i64 (-1))), none, []⟩]) k42x54)) k42x53) k42x52
def k42x48 : AC := .seq (.seq (.cond (.tmp 100)
   (.skip)
   (.seq (.mask 8192) k42x51)) k42x50) k42x49
def k42x47 : AC := .seq (.ops false [
    ⟨(some 100), .bin .other .lss (.tmp 99) (.tmp 98), none, []⟩]) k42x48
def k42x46 : AC := .mask 8192
def k42x45 : AC := .seq (.block 6 (.loop 950737950171172051122527412323 8192 k42x47)) k42x46
def k42x97 : AC := .ret
def k42x96 : AC := .seq (.mask 16) k42x97
def k42x95 : AC := .seq (.ops false [
    ⟨(some 163), .move (.tmp 13), none, []⟩,
    ⟨(some 4), .move (.tmp 163), none, []⟩]) k42x96
def k42x44 : AC := .seq (.ops false [
    ⟨(some 161), .move (.tmp 13), none, []⟩,
    ⟨(some 162), .call 82 [(.tmp 161)] [] .opq, none, []⟩]) k42x95
def k42x43 : AC := .seq (.seq (.ops false [
    ⟨(some 98), .move (.tmp 7), none, []⟩,
    ⟨(some 99), .move (.c (.int .i64 0)), none, []⟩]) k42x45) k42x44
def k42x19 : AC := .seq (.ops false [
    ⟨(some 13), .move (.c (.sl .nil 0)), none, []⟩]) k42x43
def k42x4 : AC := .seq (.seq (.ops false [
    ⟨(some 66), .move (.tmp 0), none, []⟩,
    ⟨(some 67), .nilCheck (.tmp 66), none, []⟩,
    ⟨(some 68), .fieldAddr 0 (.tmp 67), none, []⟩,
    ⟨(some 69), .load (.cell .sl) (.tmp 68), none, []⟩,
    ⟨(some 70), .lenSl (.tmp 69), none, []⟩,
    ⟨(some 71), .move (.c (.int .i64 0)), none, []⟩]) k42x20) k42x19
def k42x3 : AC := .seq (.seq (.ops false [
    ⟨(some 31), .move (.tmp 0), none, []⟩,
    ⟨(some 32), .nilCheck (.tmp 31), none, []⟩,
    ⟨(some 33), .fieldAddr 0 (.tmp 32), none, []⟩,
    ⟨(some 34), .load (.cell .sl) (.tmp 33), none, []⟩,
    ⟨(some 35), .lenSl (.tmp 34), none, []⟩,
    ⟨(some 36), .move (.c (.int .i64 0)), none, []⟩]) k42x5) k42x4
def k42x2 : AC := .seq (.ops false [
    ⟨(some 7), .move (.c (.int .i64 0)), none, []⟩]) k42x3
def k42x1 : AC := .seq (.ops false [
    ⟨(some 25), .move (.tmp 0), none, []⟩,
    ⟨(some 26), .nilCheck (.tmp 25), none, []⟩,
    ⟨(some 27), .fieldAddr 0 (.tmp 26), none, []⟩,
    ⟨(some 28), .load (.cell .sl) (.tmp 27), none, []⟩,
    ⟨(some 29), .lenSl (.tmp 28), none, []⟩,
    ⟨(some 30), .makeSl [(.int .i64 0)] 8 (.tmp 29) (.tmp 29), none, []⟩,
    ⟨(some 6), .move (.tmp 30), none, []⟩]) k42x2
def k42x0 : AC := .seq (.ops false [
    ⟨(some 19), .move (.tmp 0), none, []⟩,
    ⟨(some 20), .nilCheck (.tmp 19), none, []⟩,
    ⟨(some 21), .fieldAddr 0 (.tmp 20), none, []⟩,
    ⟨(some 22), .load (.cell .sl) (.tmp 21), none, []⟩,
    ⟨(some 23), .lenSl (.tmp 22), none, []⟩,
    ⟨(some 24), .makeSl [(.bool false)] 1 (.tmp 23) (.tmp 23), none, []⟩,
    ⟨(some 5), .move (.tmp 24), none, []⟩]) k42x1
/-- (*provenance/color.graph).order -/
def c42 : AFn := ⟨164, [.tmp 4],
  .seq (.ops false [
    ⟨(some 4), .move (.c (.sl .nil 0)), none, []⟩]) k42x0⟩
theorem cf42 : cFn Try.prog 42 = some c42 := by kernel_rfl
def k43x9 : AC := .exit 0
def k43x8 : AC := .mask 523
def k43x7 : AC := .seq (.cond (.tmp 14)
   (.skip)
   (.seq (.mask 512) k43x9)) k43x8
def k43x18 : AC := .exit 2
def k43x17 : AC := .mask 14681611
def k43x24 : AC := .ops false [
    ⟨(some 10), .move (.c (.bool true)), none, []⟩]
def k43x23 : AC := .join 14681611
def k43x22 : AC := .seq (.cond (.tmp 36)
   (.seq (.ops false [
      ⟨(some 37), .move (.tmp 9), none, []⟩,
      ⟨(some 38), .bin .other .add (.tmp 37) (.c (.int .i64 1)), none, []⟩,
      ⟨(some 9), .move (.tmp 38), none, []⟩]) k43x24)
   (.skip)) k43x23
def k43x21 : AC := .seq (.ops true [
    ⟨(some 28), .move (.tmp 12), none, []⟩,
    ⟨(some 29), .move (.tmp 28), none, []⟩,
    ⟨(some 30), .move (.tmp 3), (some (29, true)), []⟩,
    ⟨(some 31), .move (.tmp 11), (some (29, true)), []⟩,
    ⟨(some 32), .indexAddr 1 (.tmp 30) (.tmp 31), (some (29, true)), []⟩,
    ⟨(some 33), .load (.cell (.int .i64)) (.tmp 32), (some (29, true)), []⟩,
    ⟨(some 34), .move (.tmp 9), (some (29, true)), []⟩,
    ⟨(some 35), .bin .other .eql (.tmp 33) (.tmp 34), (some (29, true)), []⟩,
    ⟨(some 36), .pick (.tmp 29) (.tmp 35) (.c (.bool false)), none, []⟩]) k43x22
def k43x20 : AC := .mask 14681611
def k43x19 : AC := .ops false [
    ⟨(some 39), .bin .other .add (.tmp 23) (.c (.int .i64 1)), none, []⟩,
    ⟨(some 23), .move (.tmp 39), none, []⟩]
def k43x16 : AC := .seq (.seq (.block 3 (.seq (.ops false [
     ⟨(some 25), .move (.tmp 23), none, []⟩,
     ⟨(some 26), .indexAddr 1 (.tmp 21) (.tmp 23), none, []⟩,
     ⟨(some 27), .load (.cell .bool) (.tmp 26), none, []⟩,
     ⟨(some 11), .move (.tmp 25), none, []⟩,
     ⟨(some 12), .move (.tmp 27), none, []⟩]) k43x21)) k43x20) k43x19
def k43x15 : AC := .seq (.seq (.cond (.tmp 24)
   (.skip)
   (.seq (.mask 1547) k43x18)) k43x17) k43x16
def k43x14 : AC := .seq (.ops false [
    ⟨(some 24), .bin .other .lss (.tmp 23) (.tmp 22), none, []⟩]) k43x15
def k43x13 : AC := .mask 1547
def k43x12 : AC := .seq (.block 2 (.loop 14681611 1547 k43x14)) k43x13
def k43x11 : AC := .seq (.ops false [
    ⟨(some 15), .move (.tmp 0), none, []⟩,
    ⟨(some 16), .nilCheck (.tmp 15), none, []⟩,
    ⟨(some 17), .fieldAddr 0 (.tmp 16), none, []⟩,
    ⟨(some 18), .load (.cell .sl) (.tmp 17), none, []⟩,
    ⟨(some 19), .move (.tmp 1), none, []⟩,
    ⟨(some 20), .indexAddr 1 (.tmp 18) (.tmp 19), none, []⟩,
    ⟨(some 21), .load (.cell .sl) (.tmp 20), none, []⟩,
    ⟨(some 22), .lenSl (.tmp 21), none, []⟩,
    ⟨(some 23), .move (.c (.int .i64 0)), none, []⟩]) k43x12
def k43x10 : AC := .mask 1547
def k43x6 : AC := .seq (.block 1 (.seq (.ops false [
     ⟨(some 10), .move (.c (.bool false)), none, []⟩]) k43x11)) k43x10
def k43x5 : AC := .seq (.seq (.ops false [
    ⟨(some 14), .move (.tmp 10), none, []⟩]) k43x7) k43x6
def k43x4 : AC := .mask 512
def k43x3 : AC := .seq (.block 0 (.loop 1547 512 k43x5)) k43x4
def k43x27 : AC := .ret
def k43x26 : AC := .seq (.mask 256) k43x27
def k43x2 : AC := .seq (.ops false [
    ⟨(some 40), .move (.tmp 9), none, []⟩,
    ⟨(some 8), .move (.tmp 40), none, []⟩]) k43x26
def k43x1 : AC := .seq (.seq (.ops false [
    ⟨(some 10), .move (.c (.bool true)), none, []⟩]) k43x3) k43x2
def k43x0 : AC := .seq (.ops false [
    ⟨(some 13), .move (.tmp 2), none, []⟩,
    ⟨(some 9), .move (.tmp 13), none, []⟩]) k43x1
/-- (*provenance/color.graph).least -/
def c43 : AFn := ⟨41, [.tmp 8],
  .seq (.ops false [
    ⟨(some 8), .move (.c (.int .i64 0)), none, []⟩]) k43x0⟩
theorem cf43 : cFn Try.prog 43 = some c43 := by kernel_rfl
def k44x7 : AC := .exit 0
def k44x6 : AC := .mask 3
def k44x5 : AC := .seq (.cond (.tmp 10)
   (.skip)
   (.seq (.mask 2) k44x7)) k44x6
def k44x8 : AC := .mask 3
def k44x4 : AC := .seq (.block 1 (.ops false [
     ⟨(some 11), .move (.tmp 0), none, []⟩,
     ⟨(some 12), .move (.tmp 1), none, []⟩,
     ⟨(some 13), .indexAddr 1 (.tmp 11) (.tmp 12), none, []⟩,
     ⟨(some 14), .load (.cell (.int .i64)) (.tmp 13), none, []⟩,
     ⟨(some 1), .move (.tmp 14), none, []⟩])) k44x8
def k44x3 : AC := .seq (.seq (.ops false [
    ⟨(some 5), .move (.tmp 0), none, []⟩,
    ⟨(some 6), .move (.tmp 1), none, []⟩,
    ⟨(some 7), .indexAddr 1 (.tmp 5) (.tmp 6), none, []⟩,
    ⟨(some 8), .load (.cell (.int .i64)) (.tmp 7), none, []⟩,
    ⟨(some 9), .move (.tmp 1), none, []⟩,
    ⟨(some 10), .bin .other .neq (.tmp 8) (.tmp 9), none, []⟩]) k44x5) k44x4
def k44x2 : AC := .mask 2
def k44x10 : AC := .ret
def k44x9 : AC := .seq (.mask 16) k44x10
def k44x1 : AC := .seq (.ops false [
    ⟨(some 15), .move (.tmp 1), none, []⟩,
    ⟨(some 4), .move (.tmp 15), none, []⟩]) k44x9
def k44x0 : AC := .seq (.seq (.block 0 (.loop 3 2 k44x3)) k44x2) k44x1
/-- (provenance/color.classes).of -/
def c44 : AFn := ⟨16, [.tmp 4],
  .seq (.ops false [
    ⟨(some 4), .move (.c (.int .i64 0)), none, []⟩]) k44x0⟩
theorem cf44 : cFn Try.prog 44 = some c44 := by kernel_rfl
def k77x6 : AC := .exit 0
def k77x5 : AC := .mask 454
def k77x9 : AC := .ops false [
    ⟨(some 12), .load (.cell .sl) (.tmp 1), none, []⟩,
    ⟨(some 13), .move (.tmp 5), none, []⟩,
    ⟨(some 14), .load (.cell .ptr) (.tmp 2), none, []⟩,
    ⟨(some 15), .nilCheck (.tmp 14), none, []⟩,
    ⟨(some 16), .fieldAddr 2 (.tmp 15), none, []⟩,
    ⟨(some 17), .load (.cell .sl) (.tmp 16), none, []⟩,
    ⟨(some 18), .move (.tmp 5), none, []⟩,
    ⟨(some 19), .indexAddr 1 (.tmp 12) (.tmp 13), none, []⟩,
    ⟨none, .store 1 (.tmp 19) (.c (.bool true)), none, []⟩,
    ⟨(some 20), .indexAddr 1 (.tmp 17) (.tmp 18), none, []⟩,
    ⟨none, .store 1 (.tmp 20) (.c (.bool true)), none, []⟩]
def k77x8 : AC := .mask 454
def k77x7 : AC := .ops false [
    ⟨(some 21), .bin .other .add (.tmp 8) (.c (.int .i64 1)), none, []⟩,
    ⟨(some 8), .move (.tmp 21), none, []⟩]
def k77x4 : AC := .seq (.seq (.block 1 (.seq (.ops false [
     ⟨(some 10), .indexAddr 1 (.tmp 6) (.tmp 8), none, []⟩,
     ⟨(some 11), .load (.cell (.int .i64)) (.tmp 10), none, []⟩,
     ⟨(some 5), .move (.tmp 11), none, []⟩]) k77x9)) k77x8) k77x7
def k77x3 : AC := .seq (.seq (.cond (.tmp 9)
   (.skip)
   (.seq (.mask 0) k77x6)) k77x5) k77x4
def k77x2 : AC := .seq (.ops false [
    ⟨(some 9), .bin .other .lss (.tmp 8) (.tmp 7), none, []⟩]) k77x3
def k77x1 : AC := .mask 0
def k77x0 : AC := .seq (.block 0 (.loop 454 0 k77x2)) k77x1
/-- provenance/color.build$1 -/
def c77 : AFn := ⟨22, [],
  .seq (.ops false [
    ⟨(some 6), .move (.tmp 0), none, []⟩,
    ⟨(some 7), .lenSl (.tmp 6), none, []⟩,
    ⟨(some 8), .move (.c (.int .i64 0)), none, []⟩]) k77x0⟩
theorem cf77 : cFn Try.prog 77 = some c77 := by kernel_rfl
def k78x6 : AC := .exit 0
def k78x5 : AC := .mask 7175
def k78x11 : AC := .join 7175
def k78x10 : AC := .seq (.cond (.tmp 22)
   (.ops false [
      ⟨(some 23), .move (.tmp 0), none, []⟩,
      ⟨(some 24), .move (.tmp 1), none, []⟩,
      ⟨(some 25), .move (.tmp 8), none, []⟩,
      ⟨(some 26), .call 79 [(.tmp 23), (.tmp 24), (.tmp 25)] [] .opq, none, []⟩])
   (.skip)) k78x11
def k78x9 : AC := .seq (.ops true [
    ⟨(some 17), .move (.tmp 9), none, []⟩,
    ⟨(some 18), .move (.tmp 17), none, []⟩,
    ⟨(some 19), .move (.tmp 8), (some (18, true)), []⟩,
    ⟨(some 20), .move (.tmp 2), (some (18, true)), []⟩,
    ⟨(some 21), .bin .other .neq (.tmp 19) (.tmp 20), (some (18, true)), []⟩,
    ⟨(some 22), .pick (.tmp 18) (.tmp 21) (.c (.bool false)), none, []⟩]) k78x10
def k78x8 : AC := .mask 7175
def k78x7 : AC := .ops false [
    ⟨(some 27), .bin .other .add (.tmp 12) (.c (.int .i64 1)), none, []⟩,
    ⟨(some 12), .move (.tmp 27), none, []⟩]
def k78x4 : AC := .seq (.seq (.block 1 (.seq (.ops false [
     ⟨(some 14), .move (.tmp 12), none, []⟩,
     ⟨(some 15), .indexAddr 1 (.tmp 10) (.tmp 12), none, []⟩,
     ⟨(some 16), .load (.cell .bool) (.tmp 15), none, []⟩,
     ⟨(some 8), .move (.tmp 14), none, []⟩,
     ⟨(some 9), .move (.tmp 16), none, []⟩]) k78x9)) k78x8) k78x7
def k78x3 : AC := .seq (.seq (.cond (.tmp 13)
   (.skip)
   (.seq (.mask 0) k78x6)) k78x5) k78x4
def k78x2 : AC := .seq (.ops false [
    ⟨(some 13), .bin .other .lss (.tmp 12) (.tmp 11), none, []⟩]) k78x3
def k78x1 : AC := .mask 0
def k78x0 : AC := .seq (.block 0 (.loop 7175 0 k78x2)) k78x1
/-- (*provenance/color.graph).define -/
def c78 : AFn := ⟨28, [],
  .seq (.ops false [
    ⟨(some 10), .move (.tmp 3), none, []⟩,
    ⟨(some 11), .lenSl (.tmp 10), none, []⟩,
    ⟨(some 12), .move (.c (.int .i64 0)), none, []⟩]) k78x0⟩
theorem cf78 : cFn Try.prog 78 = some c78 := by kernel_rfl
def k79x1 : AC := .join 0
def k79x0 : AC := .seq (.cond (.tmp 16)
   (.ops false [
      ⟨(some 17), .move (.tmp 0), none, []⟩,
      ⟨(some 18), .nilCheck (.tmp 17), none, []⟩,
      ⟨(some 19), .fieldAddr 0 (.tmp 18), none, []⟩,
      ⟨(some 20), .load (.cell .sl) (.tmp 19), none, []⟩,
      ⟨(some 21), .move (.tmp 1), none, []⟩,
      ⟨(some 22), .indexAddr 1 (.tmp 20) (.tmp 21), none, []⟩,
      ⟨(some 23), .load (.cell .sl) (.tmp 22), none, []⟩,
      ⟨(some 24), .move (.tmp 2), none, []⟩,
      ⟨(some 25), .move (.tmp 0), none, []⟩,
      ⟨(some 26), .nilCheck (.tmp 25), none, []⟩,
      ⟨(some 27), .fieldAddr 0 (.tmp 26), none, []⟩,
      ⟨(some 28), .load (.cell .sl) (.tmp 27), none, []⟩,
      ⟨(some 29), .move (.tmp 2), none, []⟩,
      ⟨(some 30), .indexAddr 1 (.tmp 28) (.tmp 29), none, []⟩,
      ⟨(some 31), .load (.cell .sl) (.tmp 30), none, []⟩,
      ⟨(some 32), .move (.tmp 1), none, []⟩,
      ⟨(some 33), .indexAddr 1 (.tmp 23) (.tmp 24), none, []⟩,
      ⟨none, .store 1 (.tmp 33) (.c (.bool true)), none, []⟩,
      ⟨(some 34), .indexAddr 1 (.tmp 31) (.tmp 32), none, []⟩,
      ⟨none, .store 1 (.tmp 34) (.c (.bool true)), none, []⟩])
   (.skip)) k79x1
/-- (*provenance/color.graph).add -/
def c79 : AFn := ⟨35, [],
  .seq (.ops true [
    ⟨(some 6), .move (.tmp 1), none, []⟩,
    ⟨(some 7), .move (.tmp 2), none, []⟩,
    ⟨(some 8), .bin .other .neq (.tmp 6) (.tmp 7), none, []⟩,
    ⟨(some 9), .move (.tmp 8), none, []⟩,
    ⟨(some 10), .move (.tmp 1), (some (9, true)), []⟩,
    ⟨(some 11), .bin .other .neq (.tmp 10) (.c (.int .i64 0)), (some (9, true)), []⟩,
    ⟨(some 12), .pick (.tmp 9) (.tmp 11) (.c (.bool false)), none, []⟩,
    ⟨(some 13), .move (.tmp 12), none, []⟩,
    ⟨(some 14), .move (.tmp 2), (some (13, true)), []⟩,
    ⟨(some 15), .bin .other .neq (.tmp 14) (.c (.int .i64 0)), (some (13, true)), []⟩,
    ⟨(some 16), .pick (.tmp 13) (.tmp 15) (.c (.bool false)), none, []⟩]) k79x0⟩
theorem cf79 : cFn Try.prog 79 = some c79 := by kernel_rfl
def k80x5 : AC := .ret
def k80x4 : AC := .seq (.mask 4) k80x5
def k80x3 : AC := .mask 1
def k80x2 : AC := .seq (.cond (.tmp 4)
   (.seq (.ops false [
      ⟨(some 2), .move (.c (.sl .nil 0)), none, []⟩]) k80x4)
   (.skip)) k80x3
def k80x7 : AC := .ret
def k80x6 : AC := .seq (.mask 4) k80x7
def k80x1 : AC := .seq (.ops false [
    ⟨(some 5), .buildSl [] 1 [], none, []⟩,
    ⟨(some 6), .move (.tmp 0), none, []⟩,
    ⟨(some 7), .append [(.bool false)] 1 1 (.tmp 5) (.tmp 6), none, []⟩,
    ⟨(some 2), .move (.tmp 7), none, []⟩]) k80x6
def k80x0 : AC := .seq (.seq (.ops false [
    ⟨(some 3), .move (.tmp 0), none, []⟩,
    ⟨(some 4), .bin .sl .eql (.tmp 3) (.c (.sl .nil 0)), none, []⟩]) k80x2) k80x1
/-- slices.Clone[[]bool,bool] -/
def c80 : AFn := ⟨8, [.tmp 2],
  .seq (.ops false [
    ⟨(some 2), .move (.c (.sl .nil 0)), none, []⟩]) k80x0⟩
theorem cf80 : cFn Try.prog 80 = some c80 := by kernel_rfl
def k81x8 : AC := .exit 0
def k81x7 : AC := .mask 458949
def k81x15 : AC := .exit 1
def k81x14 : AC := .mask 459205
def k81x13 : AC := .seq (.cond (.tmp 24)
   (.seq (.mask 458949) k81x15)
   (.skip)) k81x14
def k81x18 : AC := .join 458949
def k81x17 : AC := .seq (.cond (.tmp 36)
   (.ops false [
      ⟨(some 37), .move (.tmp 7), none, []⟩,
      ⟨(some 38), .bin .other .add (.tmp 37) (.c (.int .i64 1)), none, []⟩,
      ⟨(some 7), .move (.tmp 38), none, []⟩])
   (.skip)) k81x18
def k81x16 : AC := .seq (.ops false [
    ⟨(some 27), .move (.tmp 0), none, []⟩,
    ⟨(some 28), .nilCheck (.tmp 27), none, []⟩,
    ⟨(some 29), .fieldAddr 0 (.tmp 28), none, []⟩,
    ⟨(some 30), .load (.cell .sl) (.tmp 29), none, []⟩,
    ⟨(some 31), .move (.tmp 8), none, []⟩,
    ⟨(some 32), .indexAddr 1 (.tmp 30) (.tmp 31), none, []⟩,
    ⟨(some 33), .load (.cell .sl) (.tmp 32), none, []⟩,
    ⟨(some 34), .call 96 [(.tmp 33)] [(.cell (.int .i64))] (.int .i64 0), none, []⟩,
    ⟨(some 35), .move (.tmp 2), none, []⟩,
    ⟨(some 36), .bin .other .geq (.tmp 34) (.tmp 35), none, []⟩]) k81x17
def k81x12 : AC := .seq (.ops false [
    ⟨(some 25), .move (.tmp 6), none, []⟩,
    ⟨(some 26), .bin .other .add (.tmp 25) (.c (.int .i64 1)), none, []⟩,
    ⟨(some 6), .move (.tmp 26), none, []⟩]) k81x16
def k81x11 : AC := .seq (.seq (.ops false [
    ⟨(some 23), .move (.tmp 9), none, []⟩,
    ⟨(some 24), .un .not (.tmp 23), none, []⟩]) k81x13) k81x12
def k81x10 : AC := .join 458949
def k81x9 : AC := .ops false [
    ⟨(some 39), .bin .other .add (.tmp 18) (.c (.int .i64 1)), none, []⟩,
    ⟨(some 18), .move (.tmp 39), none, []⟩]
def k81x6 : AC := .seq (.seq (.block 1 (.seq (.ops false [
     ⟨(some 20), .move (.tmp 18), none, []⟩,
     ⟨(some 21), .indexAddr 1 (.tmp 16) (.tmp 18), none, []⟩,
     ⟨(some 22), .load (.cell .bool) (.tmp 21), none, []⟩,
     ⟨(some 8), .move (.tmp 20), none, []⟩,
     ⟨(some 9), .move (.tmp 22), none, []⟩]) k81x11)) k81x10) k81x9
def k81x5 : AC := .seq (.seq (.cond (.tmp 19)
   (.skip)
   (.seq (.mask 192) k81x8)) k81x7) k81x6
def k81x4 : AC := .seq (.ops false [
    ⟨(some 19), .bin .other .lss (.tmp 18) (.tmp 17), none, []⟩]) k81x5
def k81x3 : AC := .mask 192
def k81x2 : AC := .seq (.block 0 (.loop 458949 192 k81x4)) k81x3
def k81x22 : AC := .ret
def k81x21 : AC := .seq (.mask 192) k81x22
def k81x1 : AC := .seq (.ops false [
    ⟨(some 40), .move (.tmp 6), none, []⟩,
    ⟨(some 41), .move (.tmp 7), none, []⟩,
    ⟨(some 6), .move (.tmp 40), none, []⟩,
    ⟨(some 7), .move (.tmp 41), none, []⟩]) k81x21
def k81x0 : AC := .seq (.seq (.ops false [
    ⟨(some 10), .move (.tmp 0), none, []⟩,
    ⟨(some 11), .nilCheck (.tmp 10), none, []⟩,
    ⟨(some 12), .fieldAddr 0 (.tmp 11), none, []⟩,
    ⟨(some 13), .load (.cell .sl) (.tmp 12), none, []⟩,
    ⟨(some 14), .move (.tmp 1), none, []⟩,
    ⟨(some 15), .indexAddr 1 (.tmp 13) (.tmp 14), none, []⟩,
    ⟨(some 16), .load (.cell .sl) (.tmp 15), none, []⟩,
    ⟨(some 17), .lenSl (.tmp 16), none, []⟩,
    ⟨(some 18), .move (.c (.int .i64 0)), none, []⟩]) k81x2) k81x1
/-- (*provenance/color.graph).degree -/
def c81 : AFn := ⟨42, [.tmp 6, .tmp 7],
  .seq (.ops false [
    ⟨(some 6), .move (.c (.int .i64 0)), none, []⟩,
    ⟨(some 7), .move (.c (.int .i64 0)), none, []⟩]) k81x0⟩
theorem cf81 : cFn Try.prog 81 = some c81 := by kernel_rfl
def k82x6 : AC := .exit 0
def k82x5 : AC := .mask 13
def k82x4 : AC := .seq (.cond (.tmp 9)
   (.skip)
   (.seq (.mask 0) k82x6)) k82x5
def k82x8 : AC := .mask 13
def k82x7 : AC := .ops false [
    ⟨(some 10), .move (.tmp 2), none, []⟩,
    ⟨(some 11), .bin .other .add (.tmp 10) (.c (.int .i64 1)), none, []⟩,
    ⟨(some 12), .move (.tmp 3), none, []⟩,
    ⟨(some 13), .bin .other .sub (.tmp 12) (.c (.int .i64 1)), none, []⟩,
    ⟨(some 2), .move (.tmp 11), none, []⟩,
    ⟨(some 3), .move (.tmp 13), none, []⟩]
def k82x3 : AC := .seq (.seq (.block 1 (.ops false [
     ⟨(some 14), .move (.tmp 0), none, []⟩,
     ⟨(some 15), .move (.tmp 2), none, []⟩,
     ⟨(some 16), .move (.tmp 0), none, []⟩,
     ⟨(some 17), .move (.tmp 3), none, []⟩,
     ⟨(some 18), .move (.tmp 0), none, []⟩,
     ⟨(some 19), .move (.tmp 3), none, []⟩,
     ⟨(some 20), .indexAddr 1 (.tmp 18) (.tmp 19), none, []⟩,
     ⟨(some 21), .load (.cell (.int .i64)) (.tmp 20), none, []⟩,
     ⟨(some 22), .move (.tmp 0), none, []⟩,
     ⟨(some 23), .move (.tmp 2), none, []⟩,
     ⟨(some 24), .indexAddr 1 (.tmp 22) (.tmp 23), none, []⟩,
     ⟨(some 25), .load (.cell (.int .i64)) (.tmp 24), none, []⟩,
     ⟨(some 26), .indexAddr 1 (.tmp 14) (.tmp 15), none, []⟩,
     ⟨none, .store 1 (.tmp 26) (.tmp 21), none, []⟩,
     ⟨(some 27), .indexAddr 1 (.tmp 16) (.tmp 17), none, []⟩,
     ⟨none, .store 1 (.tmp 27) (.tmp 25), none, []⟩])) k82x8) k82x7
def k82x2 : AC := .seq (.seq (.ops false [
    ⟨(some 7), .move (.tmp 2), none, []⟩,
    ⟨(some 8), .move (.tmp 3), none, []⟩,
    ⟨(some 9), .bin .other .lss (.tmp 7) (.tmp 8), none, []⟩]) k82x4) k82x3
def k82x1 : AC := .mask 0
def k82x0 : AC := .seq (.block 0 (.loop 13 0 k82x2)) k82x1
/-- slices.Reverse[[]int,int] -/
def c82 : AFn := ⟨28, [],
  .seq (.ops false [
    ⟨(some 4), .move (.tmp 0), none, []⟩,
    ⟨(some 5), .lenSl (.tmp 4), none, []⟩,
    ⟨(some 6), .bin .other .sub (.tmp 5) (.c (.int .i64 1)), none, []⟩,
    ⟨(some 2), .move (.c (.int .i64 0)), none, []⟩,
    ⟨(some 3), .move (.tmp 6), none, []⟩]) k82x0⟩
theorem cf82 : cFn Try.prog 82 = some c82 := by kernel_rfl
def k96x9 : AC := .exit 0
def k96x8 : AC := .mask 456
def k96x14 : AC := .join 456
def k96x13 : AC := .seq (.cond (.tmp 12)
   (.ops false [
      ⟨(some 13), .move (.tmp 3), none, []⟩,
      ⟨(some 14), .bin .other .add (.tmp 13) (.c (.int .i64 1)), none, []⟩,
      ⟨(some 3), .move (.tmp 14), none, []⟩])
   (.skip)) k96x14
def k96x12 : AC := .seq (.ops false [
    ⟨(some 12), .move (.tmp 5), none, []⟩]) k96x13
def k96x11 : AC := .mask 456
def k96x10 : AC := .ops false [
    ⟨(some 15), .bin .other .add (.tmp 8) (.c (.int .i64 1)), none, []⟩,
    ⟨(some 8), .move (.tmp 15), none, []⟩]
def k96x7 : AC := .seq (.seq (.block 1 (.seq (.ops false [
     ⟨(some 10), .indexAddr 1 (.tmp 6) (.tmp 8), none, []⟩,
     ⟨(some 11), .load (.cell .bool) (.tmp 10), none, []⟩,
     ⟨(some 5), .move (.tmp 11), none, []⟩]) k96x12)) k96x11) k96x10
def k96x6 : AC := .seq (.seq (.cond (.tmp 9)
   (.skip)
   (.seq (.mask 8) k96x9)) k96x8) k96x7
def k96x5 : AC := .seq (.ops false [
    ⟨(some 9), .bin .other .lss (.tmp 8) (.tmp 7), none, []⟩]) k96x6
def k96x4 : AC := .mask 8
def k96x3 : AC := .seq (.block 0 (.loop 456 8 k96x5)) k96x4
def k96x17 : AC := .ret
def k96x16 : AC := .seq (.mask 4) k96x17
def k96x2 : AC := .seq (.ops false [
    ⟨(some 16), .move (.tmp 3), none, []⟩,
    ⟨(some 2), .move (.tmp 16), none, []⟩]) k96x16
def k96x1 : AC := .seq (.seq (.ops false [
    ⟨(some 6), .move (.tmp 0), none, []⟩,
    ⟨(some 7), .lenSl (.tmp 6), none, []⟩,
    ⟨(some 8), .move (.c (.int .i64 0)), none, []⟩]) k96x3) k96x2
def k96x0 : AC := .seq (.ops false [
    ⟨(some 3), .move (.c (.int .i64 0)), none, []⟩]) k96x1
/-- provenance/color.count -/
def c96 : AFn := ⟨17, [.tmp 2],
  .seq (.ops false [
    ⟨(some 2), .move (.c (.int .i64 0)), none, []⟩]) k96x0⟩
theorem cf96 : cFn Try.prog 96 = some c96 := by kernel_rfl
def k21x2 : AC := .ret
def k21x1 : AC := .seq (.mask 4) k21x2
def k21x0 : AC := .seq (.ops true [
    ⟨(some 3), .move (.tmp 0), none, []⟩,
    ⟨(some 4), .bin .other .eql (.tmp 3) (.c (.int .i64 101)), none, []⟩,
    ⟨(some 5), .move (.tmp 4), none, []⟩,
    ⟨(some 6), .move (.tmp 0), (some (5, false)), []⟩,
    ⟨(some 7), .bin .other .eql (.tmp 6) (.c (.int .i64 102)), (some (5, false)), []⟩,
    ⟨(some 8), .pick (.tmp 5) (.c (.bool true)) (.tmp 7), none, []⟩,
    ⟨(some 2), .move (.tmp 8), none, []⟩]) k21x1
/-- provenance/color.Calls -/
def c21 : AFn := ⟨9, [.tmp 2],
  .seq (.ops false [
    ⟨(some 2), .move (.c (.bool false)), none, []⟩]) k21x0⟩
theorem cf21 : cFn Try.prog 21 = some c21 := by kernel_rfl
def k9x6 : AC := .ret
def k9x5 : AC := .seq (.mask 12) k9x6
def k9x4 : AC := .mask 2
def k9x3 : AC := .seq (.cond (.tmp 29)
   (.seq (.ops false [
      ⟨(some 30), .move (.tmp 4), none, []⟩,
      ⟨(some 2), .move (.c (.sl .nil 0)), none, []⟩,
      ⟨(some 3), .move (.tmp 30), none, []⟩]) k9x5)
   (.skip)) k9x4
def k9x2 : AC := .seq (.ops false [
    ⟨(some 28), .move (.tmp 4), none, []⟩,
    ⟨(some 29), .bin .other .neq (.tmp 28) (.c (.int .i64 0)), none, []⟩]) k9x3
def k9x15 : AC := .exit 0
def k9x14 : AC := .mask 103079215138
def k9x18 : AC := .ops false [
    ⟨(some 39), .load (.cell .sl) (.tmp 5), none, []⟩,
    ⟨(some 40), .move (.tmp 6), none, []⟩,
    ⟨(some 41), .move (.tmp 6), none, []⟩,
    ⟨(some 42), .build [(.int .i64 0), (.int .i64 0), (.int .i64 0), (.bool false)] [(0, 1, (.tmp 41)), (1, 1, (.c (.int .i64 (-1))))], none, []⟩,
    ⟨(some 43), .indexAddr 4 (.tmp 39) (.tmp 40), none, []⟩,
    ⟨none, .store 4 (.tmp 43) (.tmp 42), none, []⟩]
def k9x17 : AC := .mask 103079215138
def k9x16 : AC := .ops false [
    ⟨(some 44), .bin .other .add (.tmp 36) (.c (.int .i64 1)), none, []⟩,
    ⟨(some 36), .move (.tmp 44), none, []⟩]
def k9x13 : AC := .seq (.seq (.block 1 (.seq (.ops false [
     ⟨(some 38), .move (.tmp 36), none, []⟩,
     ⟨(some 6), .move (.tmp 38), none, []⟩]) k9x18)) k9x17) k9x16
def k9x12 : AC := .seq (.seq (.cond (.tmp 37)
   (.skip)
   (.seq (.mask 34) k9x15)) k9x14) k9x13
def k9x11 : AC := .seq (.ops false [
    ⟨(some 37), .bin .other .lss (.tmp 36) (.tmp 35), none, []⟩]) k9x12
def k9x10 : AC := .mask 34
def k9x9 : AC := .seq (.block 0 (.loop 103079215138 34 k9x11)) k9x10
def k9x29 : AC := .exit 2
def k9x28 : AC := .mask 63050394783189922
def k9x40 : AC := .exit 4
def k9x39 : AC := .mask 64626654652766632866
def k9x45 : AC := .join 64626654652766632866
def k9x44 : AC := .seq (.cond (.tmp 70)
   (.ops false [
      ⟨(some 71), .move (.tmp 7), none, []⟩,
      ⟨(some 72), .move (.tmp 14), none, []⟩,
      ⟨(some 73), .move (.tmp 11), none, []⟩,
      ⟨(some 74), .callV (.tmp 71) [(.tmp 72), (.tmp 73)] [] .opq, none, []⟩])
   (.skip)) k9x45
def k9x43 : AC := .seq (.ops false [
    ⟨(some 70), .move (.tmp 15), none, []⟩]) k9x44
def k9x42 : AC := .mask 64626654652766632866
def k9x41 : AC := .ops false [
    ⟨(some 75), .bin .other .add (.tmp 65) (.c (.int .i64 1)), none, []⟩,
    ⟨(some 65), .move (.tmp 75), none, []⟩]
def k9x38 : AC := .seq (.seq (.block 5 (.seq (.ops false [
     ⟨(some 67), .move (.tmp 65), none, []⟩,
     ⟨(some 68), .indexAddr 1 (.tmp 63) (.tmp 65), none, []⟩,
     ⟨(some 69), .load (.cell .bool) (.tmp 68), none, []⟩,
     ⟨(some 14), .move (.tmp 67), none, []⟩,
     ⟨(some 15), .move (.tmp 69), none, []⟩]) k9x43)) k9x42) k9x41
def k9x37 : AC := .seq (.seq (.cond (.tmp 66)
   (.skip)
   (.seq (.mask 63050394783202210) k9x40)) k9x39) k9x38
def k9x36 : AC := .seq (.ops false [
    ⟨(some 66), .bin .other .lss (.tmp 65) (.tmp 64), none, []⟩]) k9x37
def k9x35 : AC := .mask 63050394783202210
def k9x34 : AC := .seq (.block 4 (.loop 64626654652766632866 63050394783202210 k9x36)) k9x35
def k9x54 : AC := .exit 6
def k9x53 : AC := .mask 1057810155213195311070114
def k9x65 : AC := .exit 8
def k9x64 : AC := .mask 136457501952051662878292898
def k9x68 : AC := .ops false [
    ⟨(some 90), .move (.tmp 7), none, []⟩,
    ⟨(some 91), .move (.tmp 19), none, []⟩,
    ⟨(some 92), .move (.tmp 11), none, []⟩,
    ⟨(some 93), .callV (.tmp 90) [(.tmp 91), (.tmp 92)] [] .opq, none, []⟩]
def k9x67 : AC := .mask 136457501952051662878292898
def k9x66 : AC := .ops false [
    ⟨(some 94), .bin .other .add (.tmp 86) (.c (.int .i64 1)), none, []⟩,
    ⟨(some 86), .move (.tmp 94), none, []⟩]
def k9x63 : AC := .seq (.seq (.block 9 (.seq (.ops false [
     ⟨(some 88), .indexAddr 1 (.tmp 84) (.tmp 86), none, []⟩,
     ⟨(some 89), .load (.cell (.int .i64)) (.tmp 88), none, []⟩,
     ⟨(some 19), .move (.tmp 89), none, []⟩]) k9x68)) k9x67) k9x66
def k9x62 : AC := .seq (.seq (.cond (.tmp 87)
   (.skip)
   (.seq (.mask 1057810155213195311201186) k9x65)) k9x64) k9x63
def k9x61 : AC := .seq (.ops false [
    ⟨(some 87), .bin .other .lss (.tmp 86) (.tmp 85), none, []⟩]) k9x62
def k9x60 : AC := .mask 1057810155213195311201186
def k9x59 : AC := .seq (.block 8 (.loop 136457501952051662878292898 1057810155213195311201186 k9x61)) k9x60
def k9x69 : AC := .ops false [
    ⟨(some 101), .move (.tmp 11), none, []⟩,
    ⟨(some 102), .bin .other .add (.tmp 101) (.c (.int .i64 2)), none, []⟩,
    ⟨(some 11), .move (.tmp 102), none, []⟩]
def k9x58 : AC := .seq (.ops false [
    ⟨(some 95), .move (.tmp 7), none, []⟩,
    ⟨(some 96), .load (.agg [(.int .i64), (.int .i64), (.int .i64), (.int .i64), (.int .i64), .sl]) (.tmp 17), none, []⟩,
    ⟨(some 97), .call 30 [(.tmp 96)] [(.cell (.int .i64))] (.int .i64 0), none, []⟩,
    ⟨(some 98), .move (.tmp 11), none, []⟩,
    ⟨(some 99), .bin .other .add (.tmp 98) (.c (.int .i64 1)), none, []⟩,
    ⟨(some 100), .callV (.tmp 95) [(.tmp 97), (.tmp 99)] [] .opq, none, []⟩]) k9x69
def k9x57 : AC := .seq (.seq (.ops false [
    ⟨(some 83), .load (.agg [(.int .i64), (.int .i64), (.int .i64), (.int .i64), (.int .i64), .sl]) (.tmp 17), none, []⟩,
    ⟨(some 84), .call 29 [(.tmp 83)] [(.cell .sl)] (.sl .nil 0), none, []⟩,
    ⟨(some 85), .lenSl (.tmp 84), none, []⟩,
    ⟨(some 86), .move (.c (.int .i64 0)), none, []⟩]) k9x59) k9x58
def k9x56 : AC := .mask 1057810155213195311070114
def k9x55 : AC := .ops false [
    ⟨(some 103), .bin .other .add (.tmp 79) (.c (.int .i64 1)), none, []⟩,
    ⟨(some 79), .move (.tmp 103), none, []⟩]
def k9x52 : AC := .seq (.seq (.block 7 (.seq (.ops false [
     ⟨(some 81), .indexAddr 6 (.tmp 77) (.tmp 79), none, []⟩,
     ⟨(some 82), .load (.agg [(.int .i64), (.int .i64), (.int .i64), (.int .i64), (.int .i64), .sl]) (.tmp 81), none, []⟩,
     ⟨(some 17), .allocL [(.int .i64 0), (.int .i64 0), (.int .i64 0), (.int .i64 0), (.int .i64 0), (.sl .nil 0)], none, []⟩,
     ⟨none, .store 6 (.tmp 17) (.tmp 82), none, []⟩]) k9x57)) k9x56) k9x55
def k9x51 : AC := .seq (.seq (.cond (.tmp 80)
   (.skip)
   (.seq (.mask 63050394783202210) k9x54)) k9x53) k9x52
def k9x50 : AC := .seq (.ops false [
    ⟨(some 80), .bin .other .lss (.tmp 79) (.tmp 78), none, []⟩]) k9x51
def k9x49 : AC := .mask 63050394783202210
def k9x48 : AC := .seq (.block 6 (.loop 1057810155213195311070114 63050394783202210 k9x50)) k9x49
def k9x77 : AC := .exit 10
def k9x76 : AC := .mask 567907468902246834920917819202466
def k9x80 : AC := .ops false [
    ⟨(some 112), .move (.tmp 7), none, []⟩,
    ⟨(some 113), .move (.tmp 21), none, []⟩,
    ⟨(some 114), .move (.tmp 11), none, []⟩,
    ⟨(some 115), .callV (.tmp 112) [(.tmp 113), (.tmp 114)] [] .opq, none, []⟩]
def k9x79 : AC := .mask 567907468902246834920917819202466
def k9x78 : AC := .ops false [
    ⟨(some 116), .bin .other .add (.tmp 108) (.c (.int .i64 1)), none, []⟩,
    ⟨(some 108), .move (.tmp 116), none, []⟩]
def k9x75 : AC := .seq (.seq (.block 11 (.seq (.ops false [
     ⟨(some 110), .indexAddr 1 (.tmp 106) (.tmp 108), none, []⟩,
     ⟨(some 111), .load (.cell (.int .i64)) (.tmp 110), none, []⟩,
     ⟨(some 21), .move (.tmp 111), none, []⟩]) k9x80)) k9x79) k9x78
def k9x74 : AC := .seq (.seq (.cond (.tmp 109)
   (.skip)
   (.seq (.mask 63050394783194018) k9x77)) k9x76) k9x75
def k9x73 : AC := .seq (.ops false [
    ⟨(some 109), .bin .other .lss (.tmp 108) (.tmp 107), none, []⟩]) k9x74
def k9x72 : AC := .mask 63050394783194018
def k9x71 : AC := .seq (.block 10 (.loop 567907468902246834920917819202466 63050394783194018 k9x73)) k9x72
def k9x88 : AC := .exit 12
def k9x87 : AC := .mask 9304595970494411110389699816745601954
def k9x93 : AC := .join 9304595970494411110389699816745601954
def k9x92 : AC := .seq (.cond (.tmp 127)
   (.ops false [
      ⟨(some 128), .move (.tmp 7), none, []⟩,
      ⟨(some 129), .move (.tmp 22), none, []⟩,
      ⟨(some 130), .move (.tmp 11), none, []⟩,
      ⟨(some 131), .bin .other .add (.tmp 130) (.c (.int .i64 1)), none, []⟩,
      ⟨(some 132), .callV (.tmp 128) [(.tmp 129), (.tmp 131)] [] .opq, none, []⟩])
   (.skip)) k9x93
def k9x91 : AC := .seq (.ops false [
    ⟨(some 127), .move (.tmp 23), none, []⟩]) k9x92
def k9x90 : AC := .mask 9304595970494411110389699816745601954
def k9x89 : AC := .ops false [
    ⟨(some 133), .bin .other .add (.tmp 122) (.c (.int .i64 1)), none, []⟩,
    ⟨(some 122), .move (.tmp 133), none, []⟩]
def k9x86 : AC := .seq (.seq (.block 13 (.seq (.ops false [
     ⟨(some 124), .move (.tmp 122), none, []⟩,
     ⟨(some 125), .indexAddr 1 (.tmp 120) (.tmp 122), none, []⟩,
     ⟨(some 126), .load (.cell .bool) (.tmp 125), none, []⟩,
     ⟨(some 22), .move (.tmp 124), none, []⟩,
     ⟨(some 23), .move (.tmp 126), none, []⟩]) k9x91)) k9x90) k9x89
def k9x85 : AC := .seq (.seq (.cond (.tmp 123)
   (.skip)
   (.seq (.mask 63050394783189922) k9x88)) k9x87) k9x86
def k9x84 : AC := .seq (.ops false [
    ⟨(some 123), .bin .other .lss (.tmp 122) (.tmp 121), none, []⟩]) k9x85
def k9x83 : AC := .mask 63050394783189922
def k9x82 : AC := .seq (.block 12 (.loop 9304595970494411110389699816745601954 63050394783189922 k9x84)) k9x83
def k9x81 : AC := .ops false [
    ⟨(some 134), .move (.tmp 11), none, []⟩,
    ⟨(some 135), .bin .other .add (.tmp 134) (.c (.int .i64 2)), none, []⟩,
    ⟨(some 11), .move (.tmp 135), none, []⟩]
def k9x70 : AC := .seq (.seq (.ops false [
    ⟨(some 117), .move (.tmp 9), none, []⟩,
    ⟨(some 118), .move (.tmp 12), none, []⟩,
    ⟨(some 119), .indexAddr 1 (.tmp 117) (.tmp 118), none, []⟩,
    ⟨(some 120), .load (.cell .sl) (.tmp 119), none, []⟩,
    ⟨(some 121), .lenSl (.tmp 120), none, []⟩,
    ⟨(some 122), .move (.c (.int .i64 0)), none, []⟩]) k9x82) k9x81
def k9x47 : AC := .seq (.seq (.ops false [
    ⟨(some 104), .fieldAddr 1 (.tmp 13), none, []⟩,
    ⟨(some 105), .load (.agg [(.int .i64), (.int .i64), (.int .i64), (.int .i64), (.int .i64), .sl]) (.tmp 104), none, []⟩,
    ⟨(some 106), .call 31 [(.tmp 105)] [(.cell .sl)] (.sl .nil 0), none, []⟩,
    ⟨(some 107), .lenSl (.tmp 106), none, []⟩,
    ⟨(some 108), .move (.c (.int .i64 0)), none, []⟩]) k9x71) k9x70
def k9x33 : AC := .seq (.seq (.ops false [
    ⟨(some 76), .fieldAddr 0 (.tmp 13), none, []⟩,
    ⟨(some 77), .load (.cell .sl) (.tmp 76), none, []⟩,
    ⟨(some 78), .lenSl (.tmp 77), none, []⟩,
    ⟨(some 79), .move (.c (.int .i64 0)), none, []⟩]) k9x48) k9x47
def k9x32 : AC := .seq (.seq (.ops false [
    ⟨(some 60), .move (.tmp 8), none, []⟩,
    ⟨(some 61), .move (.tmp 12), none, []⟩,
    ⟨(some 62), .indexAddr 1 (.tmp 60) (.tmp 61), none, []⟩,
    ⟨(some 63), .load (.cell .sl) (.tmp 62), none, []⟩,
    ⟨(some 64), .lenSl (.tmp 63), none, []⟩,
    ⟨(some 65), .move (.c (.int .i64 0)), none, []⟩]) k9x34) k9x33
def k9x31 : AC := .mask 63050394783189922
def k9x30 : AC := .ops false [
    ⟨(some 136), .bin .other .add (.tmp 55) (.c (.int .i64 1)), none, []⟩,
    ⟨(some 55), .move (.tmp 136), none, []⟩]
def k9x27 : AC := .seq (.seq (.block 3 (.seq (.ops false [
     ⟨(some 57), .move (.tmp 55), none, []⟩,
     ⟨(some 58), .indexAddr 7 (.tmp 53) (.tmp 55), none, []⟩,
     ⟨(some 59), .load (.agg [.sl, (.int .i64), (.int .i64), (.int .i64), (.int .i64), (.int .i64), .sl]) (.tmp 58), none, []⟩,
     ⟨(some 13), .allocL [(.sl .nil 0), (.int .i64 0), (.int .i64 0), (.int .i64 0), (.int .i64 0), (.int .i64 0), (.sl .nil 0)], none, []⟩,
     ⟨(some 12), .move (.tmp 57), none, []⟩,
     ⟨none, .store 7 (.tmp 13) (.tmp 59), none, []⟩]) k9x32)) k9x31) k9x30
def k9x26 : AC := .seq (.seq (.cond (.tmp 56)
   (.skip)
   (.seq (.mask 162) k9x29)) k9x28) k9x27
def k9x25 : AC := .seq (.ops false [
    ⟨(some 56), .bin .other .lss (.tmp 55) (.tmp 54), none, []⟩]) k9x26
def k9x24 : AC := .mask 162
def k9x23 : AC := .seq (.block 2 (.loop 63050394783189922 162 k9x25)) k9x24
def k9x102 : AC := .exit 14
def k9x101 : AC := .mask 2439144006089286906105469186070914539716770
def k9x105 : AC := .ops false [
    ⟨(some 144), .move (.tmp 7), none, []⟩,
    ⟨(some 145), .move (.tmp 25), none, []⟩,
    ⟨(some 146), .callV (.tmp 144) [(.tmp 145), (.c (.int .i64 0))] [] .opq, none, []⟩]
def k9x104 : AC := .mask 2439144006089286906105469186070914539716770
def k9x103 : AC := .ops false [
    ⟨(some 147), .bin .other .add (.tmp 140) (.c (.int .i64 1)), none, []⟩,
    ⟨(some 140), .move (.tmp 147), none, []⟩]
def k9x100 : AC := .seq (.seq (.block 15 (.seq (.ops false [
     ⟨(some 142), .indexAddr 1 (.tmp 138) (.tmp 140), none, []⟩,
     ⟨(some 143), .load (.cell (.int .i64)) (.tmp 142), none, []⟩,
     ⟨(some 25), .move (.tmp 143), none, []⟩]) k9x105)) k9x104) k9x103
def k9x99 : AC := .seq (.seq (.cond (.tmp 141)
   (.skip)
   (.seq (.mask 34) k9x102)) k9x101) k9x100
def k9x98 : AC := .seq (.ops false [
    ⟨(some 141), .bin .other .lss (.tmp 140) (.tmp 139), none, []⟩]) k9x99
def k9x97 : AC := .mask 34
def k9x96 : AC := .seq (.block 14 (.loop 2439144006089286906105469186070914539716770 34 k9x98)) k9x97
def k9x107 : AC := .ret
def k9x106 : AC := .seq (.mask 12) k9x107
def k9x95 : AC := .seq (.ops false [
    ⟨(some 148), .load (.agg [(.int .i64), .sl, (.int .i64), .sl]) (.tmp 1), none, []⟩,
    ⟨(some 149), .load (.cell .sl) (.tmp 5), none, []⟩,
    ⟨(some 150), .call 32 [(.tmp 148), (.tmp 149)] [(.cell .sl)] (.sl .nil 0), none, []⟩,
    ⟨(some 2), .move (.tmp 150), none, []⟩,
    ⟨(some 3), .move (.c (.int .i64 0)), none, []⟩]) k9x106
def k9x22 : AC := .seq (.seq (.ops false [
    ⟨(some 137), .fieldAddr 1 (.tmp 1), none, []⟩,
    ⟨(some 138), .load (.cell .sl) (.tmp 137), none, []⟩,
    ⟨(some 139), .lenSl (.tmp 138), none, []⟩,
    ⟨(some 140), .move (.c (.int .i64 0)), none, []⟩]) k9x96) k9x95
def k9x21 : AC := .seq (.seq (.ops false [
    ⟨(some 52), .fieldAddr 3 (.tmp 1), none, []⟩,
    ⟨(some 53), .load (.cell .sl) (.tmp 52), none, []⟩,
    ⟨(some 54), .lenSl (.tmp 53), none, []⟩,
    ⟨(some 55), .move (.c (.int .i64 0)), none, []⟩]) k9x23) k9x22
def k9x20 : AC := .seq (.ops false [
    ⟨(some 11), .move (.c (.int .i64 0)), none, []⟩]) k9x21
def k9x19 : AC := .seq (.ops false [
    ⟨(some 47), .load (.agg [(.int .i64), .sl, (.int .i64), .sl]) (.tmp 1), none, []⟩,
    ⟨(some 48), .call 28 [(.tmp 47)] [(.cell .sl), (.cell .sl), (.cell (.int .i64))] .opq, none, []⟩,
    ⟨(some 46), .move (.tmp 48), none, []⟩,
    ⟨(some 49), .extract (.tmp 46) 0, none, []⟩,
    ⟨(some 50), .extract (.tmp 46) 1, none, []⟩,
    ⟨(some 51), .extract (.tmp 46) 2, none, []⟩,
    ⟨(some 8), .move (.tmp 49), none, []⟩,
    ⟨(some 9), .move (.tmp 50), none, []⟩,
    ⟨(some 10), .move (.tmp 51), none, []⟩]) k9x20
def k9x8 : AC := .seq (.ops false [
    ⟨(some 45), .makeFn 27 [] [(.tmp 5)], none, []⟩,
    ⟨(some 7), .move (.tmp 45), none, []⟩]) k9x19
def k9x7 : AC := .seq (.seq (.ops false [
    ⟨(some 34), .load (.cell .sl) (.tmp 5), none, []⟩,
    ⟨(some 35), .lenSl (.tmp 34), none, []⟩,
    ⟨(some 36), .move (.c (.int .i64 0)), none, []⟩]) k9x9) k9x8
def k9x1 : AC := .seq (.ops false [
    ⟨(some 31), .fieldAddr 2 (.tmp 1), none, []⟩,
    ⟨(some 32), .load (.cell (.int .i64)) (.tmp 31), none, []⟩,
    ⟨(some 33), .makeSl [(.int .i64 0), (.int .i64 0), (.int .i64 0), (.bool false)] 32 (.tmp 32) (.tmp 32), none, []⟩,
    ⟨(some 5), .allocH [(.sl .nil 0)], none, []⟩,
    ⟨none, .store 1 (.tmp 5) (.tmp 33), none, []⟩]) k9x7
def k9x0 : AC := .seq (.seq (.ops false [
    ⟨(some 26), .load (.agg [(.int .i64), .sl, (.int .i64), .sl]) (.tmp 1), none, []⟩,
    ⟨(some 27), .call 26 [(.tmp 26)] [(.cell (.int .i64))] (.int .i64 0), none, []⟩,
    ⟨(some 4), .move (.tmp 27), none, []⟩]) k9x2) k9x1
/-- provenance/linear.Ranges -/
def c9 : AFn := ⟨151, [.tmp 2, .tmp 3],
  .seq (.ops false [
    ⟨(some 1), .boxL (.tmp 0), none, []⟩,
    ⟨(some 2), .move (.c (.sl .nil 0)), none, []⟩,
    ⟨(some 3), .move (.c (.int .i64 0)), none, []⟩]) k9x0⟩
theorem cf9 : cFn Try.prog 9 = some c9 := by kernel_rfl
def k27x3 : AC := .join 34
def k27x2 : AC := .seq (.cond (.tmp 13)
   (.ops false [
      ⟨(some 14), .move (.tmp 5), none, []⟩,
      ⟨(some 15), .move (.tmp 5), none, []⟩,
      ⟨(some 16), .move (.tmp 1), none, []⟩,
      ⟨(some 17), .move (.tmp 1), none, []⟩,
      ⟨(some 18), .nilCheck (.tmp 14), none, []⟩,
      ⟨(some 19), .fieldAddr 1 (.tmp 18), none, []⟩,
      ⟨none, .store 1 (.tmp 19) (.tmp 16), none, []⟩,
      ⟨(some 20), .nilCheck (.tmp 15), none, []⟩,
      ⟨(some 21), .fieldAddr 2 (.tmp 20), none, []⟩,
      ⟨none, .store 1 (.tmp 21) (.tmp 17), none, []⟩])
   (.skip)) k27x3
def k27x1 : AC := .ops false [
    ⟨(some 22), .move (.tmp 5), none, []⟩,
    ⟨(some 23), .move (.tmp 5), none, []⟩,
    ⟨(some 24), .move (.tmp 5), none, []⟩,
    ⟨(some 25), .nilCheck (.tmp 24), none, []⟩,
    ⟨(some 26), .fieldAddr 1 (.tmp 25), none, []⟩,
    ⟨(some 27), .load (.cell (.int .i64)) (.tmp 26), none, []⟩,
    ⟨(some 28), .move (.tmp 1), none, []⟩,
    ⟨(some 29), .mm false [(.tmp 27), (.tmp 28)], none, []⟩,
    ⟨(some 30), .move (.tmp 5), none, []⟩,
    ⟨(some 31), .nilCheck (.tmp 30), none, []⟩,
    ⟨(some 32), .fieldAddr 2 (.tmp 31), none, []⟩,
    ⟨(some 33), .load (.cell (.int .i64)) (.tmp 32), none, []⟩,
    ⟨(some 34), .move (.tmp 1), none, []⟩,
    ⟨(some 35), .mm true [(.tmp 33), (.tmp 34)], none, []⟩,
    ⟨(some 36), .nilCheck (.tmp 22), none, []⟩,
    ⟨(some 37), .fieldAddr 1 (.tmp 36), none, []⟩,
    ⟨none, .store 1 (.tmp 37) (.tmp 29), none, []⟩,
    ⟨(some 38), .nilCheck (.tmp 23), none, []⟩,
    ⟨(some 39), .fieldAddr 2 (.tmp 38), none, []⟩,
    ⟨none, .store 1 (.tmp 39) (.tmp 35), none, []⟩]
def k27x0 : AC := .seq (.seq (.ops false [
    ⟨(some 9), .move (.tmp 5), none, []⟩,
    ⟨(some 10), .nilCheck (.tmp 9), none, []⟩,
    ⟨(some 11), .fieldAddr 1 (.tmp 10), none, []⟩,
    ⟨(some 12), .load (.cell (.int .i64)) (.tmp 11), none, []⟩,
    ⟨(some 13), .bin .other .lss (.tmp 12) (.c (.int .i64 0)), none, []⟩]) k27x2) k27x1
/-- provenance/linear.Ranges$1 -/
def c27 : AFn := ⟨40, [],
  .seq (.ops false [
    ⟨(some 6), .load (.cell .sl) (.tmp 2), none, []⟩,
    ⟨(some 7), .move (.tmp 0), none, []⟩,
    ⟨(some 8), .indexAddr 4 (.tmp 6) (.tmp 7), none, []⟩,
    ⟨(some 5), .move (.tmp 8), none, []⟩]) k27x0⟩
theorem cf27 : cFn Try.prog 27 = some c27 := by kernel_rfl
def k32x9 : AC := .exit 0
def k32x8 : AC := .mask 57378
def k32x20 : AC := .exit 2
def k32x19 : AC := .mask 7397410
def k32x33 : AC := .exit 4
def k32x32 : AC := .mask 3228622882
def k32x38 : AC := .join 3228622882
def k32x37 : AC := .seq (.cond (.tmp 57)
   (.ops false [
      ⟨(some 58), .move (.tmp 1), none, []⟩,
      ⟨(some 59), .move (.tmp 10), none, []⟩,
      ⟨(some 60), .indexAddr 4 (.tmp 58) (.tmp 59), none, []⟩,
      ⟨(some 61), .fieldAddr 3 (.tmp 60), none, []⟩,
      ⟨none, .store 1 (.tmp 61) (.c (.bool true)), none, []⟩])
   (.skip)) k32x38
def k32x36 : AC := .seq (.ops true [
    ⟨(some 34), .move (.tmp 1), none, []⟩,
    ⟨(some 35), .move (.tmp 10), none, []⟩,
    ⟨(some 36), .indexAddr 4 (.tmp 34) (.tmp 35), none, []⟩,
    ⟨(some 37), .fieldAddr 1 (.tmp 36), none, []⟩,
    ⟨(some 38), .load (.cell (.int .i64)) (.tmp 37), none, []⟩,
    ⟨(some 39), .bin .other .geq (.tmp 38) (.c (.int .i64 0)), none, []⟩,
    ⟨(some 40), .move (.tmp 39), none, []⟩,
    ⟨(some 41), .move (.tmp 1), (some (40, true)), []⟩,
    ⟨(some 42), .move (.tmp 10), (some (40, true)), []⟩,
    ⟨(some 43), .indexAddr 4 (.tmp 41) (.tmp 42), (some (40, true)), []⟩,
    ⟨(some 44), .fieldAddr 1 (.tmp 43), (some (40, true)), []⟩,
    ⟨(some 45), .load (.cell (.int .i64)) (.tmp 44), (some (40, true)), []⟩,
    ⟨(some 46), .move (.tmp 5), (some (40, true)), []⟩,
    ⟨(some 47), .bin .other .leq (.tmp 45) (.tmp 46), (some (40, true)), []⟩,
    ⟨(some 48), .pick (.tmp 40) (.tmp 47) (.c (.bool false)), none, []⟩,
    ⟨(some 49), .move (.tmp 48), none, []⟩,
    ⟨(some 50), .move (.tmp 1), (some (49, true)), []⟩,
    ⟨(some 51), .move (.tmp 10), (some (49, true)), []⟩,
    ⟨(some 52), .indexAddr 4 (.tmp 50) (.tmp 51), (some (49, true)), []⟩,
    ⟨(some 53), .fieldAddr 2 (.tmp 52), (some (49, true)), []⟩,
    ⟨(some 54), .load (.cell (.int .i64)) (.tmp 53), (some (49, true)), []⟩,
    ⟨(some 55), .move (.tmp 5), (some (49, true)), []⟩,
    ⟨(some 56), .bin .other .gtr (.tmp 54) (.tmp 55), (some (49, true)), []⟩,
    ⟨(some 57), .pick (.tmp 49) (.tmp 56) (.c (.bool false)), none, []⟩]) k32x37
def k32x35 : AC := .mask 3228622882
def k32x34 : AC := .ops false [
    ⟨(some 62), .bin .other .add (.tmp 31) (.c (.int .i64 1)), none, []⟩,
    ⟨(some 31), .move (.tmp 62), none, []⟩]
def k32x31 : AC := .seq (.seq (.block 5 (.seq (.ops false [
     ⟨(some 33), .move (.tmp 31), none, []⟩,
     ⟨(some 10), .move (.tmp 33), none, []⟩]) k32x36)) k32x35) k32x34
def k32x30 : AC := .seq (.seq (.cond (.tmp 32)
   (.skip)
   (.seq (.mask 7397410) k32x33)) k32x32) k32x31
def k32x29 : AC := .seq (.ops false [
    ⟨(some 32), .bin .other .lss (.tmp 31) (.tmp 30), none, []⟩]) k32x30
def k32x28 : AC := .mask 7397410
def k32x27 : AC := .seq (.block 4 (.loop 3228622882 7397410 k32x29)) k32x28
def k32x26 : AC := .join 7397410
def k32x25 : AC := .seq (.cond (.tmp 28)
   (.seq (.ops false [
      ⟨(some 29), .move (.tmp 1), none, []⟩,
      ⟨(some 30), .lenSl (.tmp 29), none, []⟩,
      ⟨(some 31), .move (.c (.int .i64 0)), none, []⟩]) k32x27)
   (.skip)) k32x26
def k32x24 : AC := .ops false [
    ⟨(some 63), .move (.tmp 5), none, []⟩,
    ⟨(some 64), .bin .other .add (.tmp 63) (.c (.int .i64 2)), none, []⟩,
    ⟨(some 5), .move (.tmp 64), none, []⟩]
def k32x23 : AC := .seq (.seq (.ops false [
    ⟨(some 26), .fieldAddr 0 (.tmp 9), none, []⟩,
    ⟨(some 27), .load (.cell (.int .i64)) (.tmp 26), none, []⟩,
    ⟨(some 28), .call 21 [(.tmp 27)] [(.cell .bool)] (.bool false), none, []⟩]) k32x25) k32x24
def k32x22 : AC := .mask 7397410
def k32x21 : AC := .ops false [
    ⟨(some 65), .bin .other .add (.tmp 22) (.c (.int .i64 1)), none, []⟩,
    ⟨(some 22), .move (.tmp 65), none, []⟩]
def k32x18 : AC := .seq (.seq (.block 3 (.seq (.ops false [
     ⟨(some 24), .indexAddr 6 (.tmp 20) (.tmp 22), none, []⟩,
     ⟨(some 25), .load (.agg [(.int .i64), (.int .i64), (.int .i64), (.int .i64), (.int .i64), .sl]) (.tmp 24), none, []⟩,
     ⟨(some 9), .allocL [(.int .i64 0), (.int .i64 0), (.int .i64 0), (.int .i64 0), (.int .i64 0), (.sl .nil 0)], none, []⟩,
     ⟨none, .store 6 (.tmp 9) (.tmp 25), none, []⟩]) k32x23)) k32x22) k32x21
def k32x17 : AC := .seq (.seq (.cond (.tmp 23)
   (.skip)
   (.seq (.mask 57378) k32x20)) k32x19) k32x18
def k32x16 : AC := .seq (.ops false [
    ⟨(some 23), .bin .other .lss (.tmp 22) (.tmp 21), none, []⟩]) k32x17
def k32x15 : AC := .mask 57378
def k32x14 : AC := .seq (.block 2 (.loop 7397410 57378 k32x16)) k32x15
def k32x13 : AC := .ops false [
    ⟨(some 66), .move (.tmp 5), none, []⟩,
    ⟨(some 67), .bin .other .add (.tmp 66) (.c (.int .i64 2)), none, []⟩,
    ⟨(some 5), .move (.tmp 67), none, []⟩]
def k32x12 : AC := .seq (.seq (.ops false [
    ⟨(some 19), .fieldAddr 0 (.tmp 7), none, []⟩,
    ⟨(some 20), .load (.cell .sl) (.tmp 19), none, []⟩,
    ⟨(some 21), .lenSl (.tmp 20), none, []⟩,
    ⟨(some 22), .move (.c (.int .i64 0)), none, []⟩]) k32x14) k32x13
def k32x11 : AC := .mask 57378
def k32x10 : AC := .ops false [
    ⟨(some 68), .bin .other .add (.tmp 15) (.c (.int .i64 1)), none, []⟩,
    ⟨(some 15), .move (.tmp 68), none, []⟩]
def k32x7 : AC := .seq (.seq (.block 1 (.seq (.ops false [
     ⟨(some 17), .indexAddr 7 (.tmp 13) (.tmp 15), none, []⟩,
     ⟨(some 18), .load (.agg [.sl, (.int .i64), (.int .i64), (.int .i64), (.int .i64), (.int .i64), .sl]) (.tmp 17), none, []⟩,
     ⟨(some 7), .allocL [(.sl .nil 0), (.int .i64 0), (.int .i64 0), (.int .i64 0), (.int .i64 0), (.int .i64 0), (.sl .nil 0)], none, []⟩,
     ⟨none, .store 7 (.tmp 7) (.tmp 18), none, []⟩]) k32x12)) k32x11) k32x10
def k32x6 : AC := .seq (.seq (.cond (.tmp 16)
   (.skip)
   (.seq (.mask 2) k32x9)) k32x8) k32x7
def k32x5 : AC := .seq (.ops false [
    ⟨(some 16), .bin .other .lss (.tmp 15) (.tmp 14), none, []⟩]) k32x6
def k32x4 : AC := .mask 2
def k32x3 : AC := .seq (.block 0 (.loop 57378 2 k32x5)) k32x4
def k32x44 : AC := .ret
def k32x43 : AC := .seq (.mask 16) k32x44
def k32x42 : AC := .seq (.ops false [
    ⟨(some 73), .move (.tmp 11), none, []⟩,
    ⟨(some 4), .move (.tmp 73), none, []⟩]) k32x43
def k32x41 : AC := .seq (.ops false [
    ⟨(some 71), .move (.tmp 11), none, []⟩,
    ⟨(some 72), .call 67 [(.tmp 71), (.c (.fn 68 [] []))] [] .opq, none, []⟩]) k32x42
def k32x2 : AC := .seq (.ops false [
    ⟨(some 69), .move (.tmp 1), none, []⟩,
    ⟨(some 70), .call 34 [(.tmp 69), (.c (.fn 66 [] []))] [(.cell .sl)] (.sl .nil 0), none, []⟩,
    ⟨(some 11), .move (.tmp 70), none, []⟩]) k32x41
def k32x1 : AC := .seq (.seq (.ops false [
    ⟨(some 12), .fieldAddr 3 (.tmp 2), none, []⟩,
    ⟨(some 13), .load (.cell .sl) (.tmp 12), none, []⟩,
    ⟨(some 14), .lenSl (.tmp 13), none, []⟩,
    ⟨(some 15), .move (.c (.int .i64 0)), none, []⟩]) k32x3) k32x2
def k32x0 : AC := .seq (.ops false [
    ⟨(some 5), .move (.c (.int .i64 0)), none, []⟩]) k32x1
/-- provenance/linear.finish -/
def c32 : AFn := ⟨74, [.tmp 4],
  .seq (.ops false [
    ⟨(some 2), .boxL (.tmp 0), none, []⟩,
    ⟨(some 4), .move (.c (.sl .nil 0)), none, []⟩]) k32x0⟩
theorem cf32 : cFn Try.prog 32 = some c32 := by kernel_rfl
def k66x2 : AC := .ret
def k66x1 : AC := .seq (.mask 4) k66x2
def k66x0 : AC := .seq (.ops true [
    ⟨(some 3), .fieldAddr 1 (.tmp 1), none, []⟩,
    ⟨(some 4), .load (.cell (.int .i64)) (.tmp 3), none, []⟩,
    ⟨(some 5), .bin .other .lss (.tmp 4) (.c (.int .i64 0)), none, []⟩,
    ⟨(some 6), .move (.tmp 5), none, []⟩,
    ⟨(some 7), .fieldAddr 0 (.tmp 1), (some (6, false)), []⟩,
    ⟨(some 8), .load (.cell (.int .i64)) (.tmp 7), (some (6, false)), []⟩,
    ⟨(some 9), .bin .other .eql (.tmp 8) (.c (.int .i64 0)), (some (6, false)), []⟩,
    ⟨(some 10), .pick (.tmp 6) (.c (.bool true)) (.tmp 9), none, []⟩,
    ⟨(some 2), .move (.tmp 10), none, []⟩]) k66x1
/-- provenance/linear.finish$1 -/
def c66 : AFn := ⟨11, [.tmp 2],
  .seq (.ops false [
    ⟨(some 1), .boxL (.tmp 0), none, []⟩,
    ⟨(some 2), .move (.c (.bool false)), none, []⟩]) k66x0⟩
theorem cf66 : cFn Try.prog 66 = some c66 := by kernel_rfl
/-- slices.SortStableFunc[[]provenance/linear.Range,provenance/linear.Range] -/
def c67 : AFn := ⟨9, [],
  .ops false [
    ⟨(some 4), .move (.tmp 0), none, []⟩,
    ⟨(some 5), .move (.tmp 0), none, []⟩,
    ⟨(some 6), .lenSl (.tmp 5), none, []⟩,
    ⟨(some 7), .move (.tmp 1), none, []⟩,
    ⟨(some 8), .call 92 [(.tmp 4), (.tmp 6), (.tmp 7)] [] .opq, none, []⟩]⟩
theorem cf67 : cFn Try.prog 67 = some c67 := by kernel_rfl
def k68x2 : AC := .ret
def k68x1 : AC := .seq (.mask 16) k68x2
def k68x0 : AC := .seq (.ops false [
    ⟨(some 5), .fieldAddr 1 (.tmp 2), none, []⟩,
    ⟨(some 6), .load (.cell (.int .i64)) (.tmp 5), none, []⟩,
    ⟨(some 7), .fieldAddr 1 (.tmp 3), none, []⟩,
    ⟨(some 8), .load (.cell (.int .i64)) (.tmp 7), none, []⟩,
    ⟨(some 9), .call 69 [(.tmp 6), (.tmp 8)] [(.cell (.int .i64))] (.int .i64 0), none, []⟩,
    ⟨(some 4), .move (.tmp 9), none, []⟩]) k68x1
/-- provenance/linear.finish$2 -/
def c68 : AFn := ⟨10, [.tmp 4],
  .seq (.ops false [
    ⟨(some 2), .boxL (.tmp 0), none, []⟩,
    ⟨(some 3), .boxL (.tmp 1), none, []⟩,
    ⟨(some 4), .move (.c (.int .i64 0)), none, []⟩]) k68x0⟩
theorem cf68 : cFn Try.prog 68 = some c68 := by kernel_rfl
def k92x8 : AC := .exit 0
def k92x7 : AC := .mask 455
def k92x6 : AC := .seq (.cond (.tmp 13)
   (.skip)
   (.seq (.mask 199) k92x8)) k92x7
def k92x11 : AC := .ops false [
    ⟨(some 20), .move (.tmp 8), none, []⟩,
    ⟨(some 21), .move (.tmp 6), none, []⟩,
    ⟨(some 22), .bin .other .add (.tmp 20) (.tmp 21), none, []⟩,
    ⟨(some 8), .move (.tmp 22), none, []⟩]
def k92x10 : AC := .seq (.ops false [
    ⟨(some 19), .move (.tmp 8), none, []⟩,
    ⟨(some 7), .move (.tmp 19), none, []⟩]) k92x11
def k92x9 : AC := .mask 455
def k92x5 : AC := .seq (.block 1 (.seq (.ops false [
     ⟨(some 14), .move (.tmp 0), none, []⟩,
     ⟨(some 15), .move (.tmp 7), none, []⟩,
     ⟨(some 16), .move (.tmp 8), none, []⟩,
     ⟨(some 17), .move (.tmp 2), none, []⟩,
     ⟨(some 18), .call 97 [(.tmp 14), (.tmp 15), (.tmp 16), (.tmp 17)] [] .opq, none, []⟩]) k92x10)) k92x9
def k92x4 : AC := .seq (.seq (.ops false [
    ⟨(some 11), .move (.tmp 8), none, []⟩,
    ⟨(some 12), .move (.tmp 1), none, []⟩,
    ⟨(some 13), .bin .other .leq (.tmp 11) (.tmp 12), none, []⟩]) k92x6) k92x5
def k92x3 : AC := .mask 199
def k92x18 : AC := .exit 2
def k92x17 : AC := .mask 71
def k92x16 : AC := .seq (.cond (.tmp 30)
   (.skip)
   (.seq (.mask 0) k92x18)) k92x17
def k92x27 : AC := .exit 4
def k92x26 : AC := .mask 455
def k92x25 : AC := .seq (.cond (.tmp 35)
   (.skip)
   (.seq (.mask 199) k92x27)) k92x26
def k92x30 : AC := .ops false [
    ⟨(some 45), .move (.tmp 8), none, []⟩,
    ⟨(some 46), .move (.tmp 6), none, []⟩,
    ⟨(some 47), .bin .other .mul (.c (.int .i64 2)) (.tmp 46), none, []⟩,
    ⟨(some 48), .bin .other .add (.tmp 45) (.tmp 47), none, []⟩,
    ⟨(some 8), .move (.tmp 48), none, []⟩]
def k92x29 : AC := .seq (.ops false [
    ⟨(some 44), .move (.tmp 8), none, []⟩,
    ⟨(some 7), .move (.tmp 44), none, []⟩]) k92x30
def k92x28 : AC := .mask 455
def k92x24 : AC := .seq (.block 5 (.seq (.ops false [
     ⟨(some 36), .move (.tmp 0), none, []⟩,
     ⟨(some 37), .move (.tmp 7), none, []⟩,
     ⟨(some 38), .move (.tmp 7), none, []⟩,
     ⟨(some 39), .move (.tmp 6), none, []⟩,
     ⟨(some 40), .bin .other .add (.tmp 38) (.tmp 39), none, []⟩,
     ⟨(some 41), .move (.tmp 8), none, []⟩,
     ⟨(some 42), .move (.tmp 2), none, []⟩,
     ⟨(some 43), .call 98 [(.tmp 36), (.tmp 37), (.tmp 40), (.tmp 41), (.tmp 42)] [] .opq, none, []⟩]) k92x29)) k92x28
def k92x23 : AC := .seq (.seq (.ops false [
    ⟨(some 33), .move (.tmp 8), none, []⟩,
    ⟨(some 34), .move (.tmp 1), none, []⟩,
    ⟨(some 35), .bin .other .leq (.tmp 33) (.tmp 34), none, []⟩]) k92x25) k92x24
def k92x22 : AC := .mask 199
def k92x34 : AC := .join 71
def k92x33 : AC := .seq (.cond (.tmp 54)
   (.ops false [
      ⟨(some 55), .move (.tmp 0), none, []⟩,
      ⟨(some 56), .move (.tmp 7), none, []⟩,
      ⟨(some 57), .move (.tmp 9), none, []⟩,
      ⟨(some 58), .move (.tmp 1), none, []⟩,
      ⟨(some 59), .move (.tmp 2), none, []⟩,
      ⟨(some 60), .call 98 [(.tmp 55), (.tmp 56), (.tmp 57), (.tmp 58), (.tmp 59)] [] .opq, none, []⟩])
   (.skip)) k92x34
def k92x32 : AC := .seq (.ops false [
    ⟨(some 52), .move (.tmp 9), none, []⟩,
    ⟨(some 53), .move (.tmp 1), none, []⟩,
    ⟨(some 54), .bin .other .lss (.tmp 52) (.tmp 53), none, []⟩]) k92x33
def k92x31 : AC := .ops false [
    ⟨(some 61), .move (.tmp 6), none, []⟩,
    ⟨(some 62), .bin .other .mul (.tmp 61) (.c (.int .i64 2)), none, []⟩,
    ⟨(some 6), .move (.tmp 62), none, []⟩]
def k92x21 : AC := .seq (.seq (.ops false [
    ⟨(some 49), .move (.tmp 7), none, []⟩,
    ⟨(some 50), .move (.tmp 6), none, []⟩,
    ⟨(some 51), .bin .other .add (.tmp 49) (.tmp 50), none, []⟩,
    ⟨(some 9), .move (.tmp 51), none, []⟩]) k92x32) k92x31
def k92x20 : AC := .seq (.seq (.block 4 (.loop 455 199 k92x23)) k92x22) k92x21
def k92x19 : AC := .mask 71
def k92x15 : AC := .seq (.block 3 (.seq (.ops false [
     ⟨(some 31), .move (.tmp 6), none, []⟩,
     ⟨(some 32), .bin .other .mul (.c (.int .i64 2)) (.tmp 31), none, []⟩,
     ⟨(some 7), .move (.c (.int .i64 0)), none, []⟩,
     ⟨(some 8), .move (.tmp 32), none, []⟩]) k92x20)) k92x19
def k92x14 : AC := .seq (.seq (.ops false [
    ⟨(some 28), .move (.tmp 6), none, []⟩,
    ⟨(some 29), .move (.tmp 1), none, []⟩,
    ⟨(some 30), .bin .other .lss (.tmp 28) (.tmp 29), none, []⟩]) k92x16) k92x15
def k92x13 : AC := .mask 0
def k92x12 : AC := .seq (.block 2 (.loop 71 0 k92x14)) k92x13
def k92x2 : AC := .seq (.ops false [
    ⟨(some 23), .move (.tmp 0), none, []⟩,
    ⟨(some 24), .move (.tmp 7), none, []⟩,
    ⟨(some 25), .move (.tmp 1), none, []⟩,
    ⟨(some 26), .move (.tmp 2), none, []⟩,
    ⟨(some 27), .call 97 [(.tmp 23), (.tmp 24), (.tmp 25), (.tmp 26)] [] .opq, none, []⟩]) k92x12
def k92x1 : AC := .seq (.seq (.block 0 (.loop 455 199 k92x4)) k92x3) k92x2
def k92x0 : AC := .seq (.ops false [
    ⟨(some 10), .move (.tmp 6), none, []⟩,
    ⟨(some 7), .move (.c (.int .i64 0)), none, []⟩,
    ⟨(some 8), .move (.tmp 10), none, []⟩]) k92x1
/-- slices.stableCmpFunc[provenance/linear.Range] -/
def c92 : AFn := ⟨63, [],
  .seq (.ops false [
    ⟨(some 6), .move (.c (.int .i64 20)), none, []⟩]) k92x0⟩
theorem cf92 : cFn Try.prog 92 = some c92 := by kernel_rfl
def k97x6 : AC := .exit 0
def k97x5 : AC := .mask 271
def k97x4 : AC := .seq (.cond (.tmp 14)
   (.skip)
   (.seq (.mask 0) k97x6)) k97x5
def k97x15 : AC := .exit 2
def k97x14 : AC := .mask 783
def k97x13 : AC := .seq (.cond (.tmp 34)
   (.skip)
   (.seq (.mask 271) k97x15)) k97x14
def k97x17 : AC := .mask 783
def k97x16 : AC := .ops false [
    ⟨(some 35), .move (.tmp 9), none, []⟩,
    ⟨(some 36), .bin .other .sub (.tmp 35) (.c (.int .i64 1)), none, []⟩,
    ⟨(some 9), .move (.tmp 36), none, []⟩]
def k97x12 : AC := .seq (.seq (.block 3 (.ops false [
     ⟨(some 37), .move (.tmp 0), none, []⟩,
     ⟨(some 38), .move (.tmp 9), none, []⟩,
     ⟨(some 39), .move (.tmp 0), none, []⟩,
     ⟨(some 40), .move (.tmp 9), none, []⟩,
     ⟨(some 41), .bin .other .sub (.tmp 40) (.c (.int .i64 1)), none, []⟩,
     ⟨(some 42), .move (.tmp 0), none, []⟩,
     ⟨(some 43), .move (.tmp 9), none, []⟩,
     ⟨(some 44), .bin .other .sub (.tmp 43) (.c (.int .i64 1)), none, []⟩,
     ⟨(some 45), .indexAddr 4 (.tmp 42) (.tmp 44), none, []⟩,
     ⟨(some 46), .load (.agg [(.int .i64), (.int .i64), (.int .i64), .bool]) (.tmp 45), none, []⟩,
     ⟨(some 47), .move (.tmp 0), none, []⟩,
     ⟨(some 48), .move (.tmp 9), none, []⟩,
     ⟨(some 49), .indexAddr 4 (.tmp 47) (.tmp 48), none, []⟩,
     ⟨(some 50), .load (.agg [(.int .i64), (.int .i64), (.int .i64), .bool]) (.tmp 49), none, []⟩,
     ⟨(some 51), .indexAddr 4 (.tmp 37) (.tmp 38), none, []⟩,
     ⟨none, .store 4 (.tmp 51) (.tmp 46), none, []⟩,
     ⟨(some 52), .indexAddr 4 (.tmp 39) (.tmp 41), none, []⟩,
     ⟨none, .store 4 (.tmp 52) (.tmp 50), none, []⟩])) k97x17) k97x16
def k97x11 : AC := .seq (.seq (.ops true [
    ⟨(some 18), .move (.tmp 9), none, []⟩,
    ⟨(some 19), .move (.tmp 1), none, []⟩,
    ⟨(some 20), .bin .other .gtr (.tmp 18) (.tmp 19), none, []⟩,
    ⟨(some 21), .move (.tmp 20), none, []⟩,
    ⟨(some 22), .move (.tmp 3), (some (21, true)), []⟩,
    ⟨(some 23), .move (.tmp 0), (some (21, true)), []⟩,
    ⟨(some 24), .move (.tmp 9), (some (21, true)), []⟩,
    ⟨(some 25), .indexAddr 4 (.tmp 23) (.tmp 24), (some (21, true)), []⟩,
    ⟨(some 26), .load (.agg [(.int .i64), (.int .i64), (.int .i64), .bool]) (.tmp 25), (some (21, true)), []⟩,
    ⟨(some 27), .move (.tmp 0), (some (21, true)), []⟩,
    ⟨(some 28), .move (.tmp 9), (some (21, true)), []⟩,
    ⟨(some 29), .bin .other .sub (.tmp 28) (.c (.int .i64 1)), (some (21, true)), []⟩,
    ⟨(some 30), .indexAddr 4 (.tmp 27) (.tmp 29), (some (21, true)), []⟩,
    ⟨(some 31), .load (.agg [(.int .i64), (.int .i64), (.int .i64), .bool]) (.tmp 30), (some (21, true)), []⟩,
    ⟨(some 32), .callV (.tmp 22) [(.tmp 26), (.tmp 31)] [(.cell (.int .i64))] (.int .i64 0), (some (21, true)), []⟩,
    ⟨(some 33), .bin .other .lss (.tmp 32) (.c (.int .i64 0)), (some (21, true)), []⟩,
    ⟨(some 34), .pick (.tmp 21) (.tmp 33) (.c (.bool false)), none, []⟩]) k97x13) k97x12
def k97x10 : AC := .mask 271
def k97x9 : AC := .seq (.block 2 (.loop 783 271 k97x11)) k97x10
def k97x8 : AC := .mask 271
def k97x7 : AC := .ops false [
    ⟨(some 15), .move (.tmp 8), none, []⟩,
    ⟨(some 16), .bin .other .add (.tmp 15) (.c (.int .i64 1)), none, []⟩,
    ⟨(some 8), .move (.tmp 16), none, []⟩]
def k97x3 : AC := .seq (.seq (.block 1 (.seq (.ops false [
     ⟨(some 17), .move (.tmp 8), none, []⟩,
     ⟨(some 9), .move (.tmp 17), none, []⟩]) k97x9)) k97x8) k97x7
def k97x2 : AC := .seq (.seq (.ops false [
    ⟨(some 12), .move (.tmp 8), none, []⟩,
    ⟨(some 13), .move (.tmp 2), none, []⟩,
    ⟨(some 14), .bin .other .lss (.tmp 12) (.tmp 13), none, []⟩]) k97x4) k97x3
def k97x1 : AC := .mask 0
def k97x0 : AC := .seq (.block 0 (.loop 271 0 k97x2)) k97x1
/-- slices.insertionSortCmpFunc[provenance/linear.Range] -/
def c97 : AFn := ⟨53, [],
  .seq (.ops false [
    ⟨(some 10), .move (.tmp 1), none, []⟩,
    ⟨(some 11), .bin .other .add (.tmp 10) (.c (.int .i64 1)), none, []⟩,
    ⟨(some 8), .move (.tmp 11), none, []⟩]) k97x0⟩
theorem cf97 : cFn Try.prog 97 = some c97 := by kernel_rfl
def k34x6 : AC := .ret
def k34x5 : AC := .seq (.mask 16) k34x6
def k34x4 : AC := .mask 35
def k34x3 : AC := .seq (.cond (.tmp 12)
   (.seq (.ops false [
      ⟨(some 13), .move (.tmp 0), none, []⟩,
      ⟨(some 4), .move (.tmp 13), none, []⟩]) k34x5)
   (.skip)) k34x4
def k34x14 : AC := .exit 0
def k34x13 : AC := .mask 99
def k34x12 : AC := .seq (.cond (.tmp 19)
   (.skip)
   (.seq (.mask 33) k34x14)) k34x13
def k34x20 : AC := .ops false [
    ⟨(some 34), .move (.tmp 5), none, []⟩,
    ⟨(some 35), .bin .other .add (.tmp 34) (.c (.int .i64 1)), none, []⟩,
    ⟨(some 5), .move (.tmp 35), none, []⟩]
def k34x19 : AC := .join 99
def k34x18 : AC := .seq (.cond (.tmp 29)
   (.seq (.ops false [
      ⟨(some 30), .move (.tmp 0), none, []⟩,
      ⟨(some 31), .move (.tmp 5), none, []⟩,
      ⟨(some 32), .load (.agg [(.int .i64), (.int .i64), (.int .i64), .bool]) (.tmp 7), none, []⟩,
      ⟨(some 33), .indexAddr 4 (.tmp 30) (.tmp 31), none, []⟩,
      ⟨none, .store 4 (.tmp 33) (.tmp 32), none, []⟩]) k34x20)
   (.skip)) k34x19
def k34x17 : AC := .seq (.ops false [
    ⟨(some 26), .move (.tmp 1), none, []⟩,
    ⟨(some 27), .load (.agg [(.int .i64), (.int .i64), (.int .i64), .bool]) (.tmp 7), none, []⟩,
    ⟨(some 28), .callV (.tmp 26) [(.tmp 27)] [(.cell .bool)] (.bool false), none, []⟩,
    ⟨(some 29), .un .not (.tmp 28), none, []⟩]) k34x18
def k34x16 : AC := .mask 99
def k34x15 : AC := .ops false [
    ⟨(some 20), .move (.tmp 6), none, []⟩,
    ⟨(some 21), .bin .other .add (.tmp 20) (.c (.int .i64 1)), none, []⟩,
    ⟨(some 6), .move (.tmp 21), none, []⟩]
def k34x11 : AC := .seq (.seq (.block 1 (.seq (.ops false [
     ⟨(some 22), .move (.tmp 0), none, []⟩,
     ⟨(some 23), .move (.tmp 6), none, []⟩,
     ⟨(some 24), .indexAddr 4 (.tmp 22) (.tmp 23), none, []⟩,
     ⟨(some 25), .load (.agg [(.int .i64), (.int .i64), (.int .i64), .bool]) (.tmp 24), none, []⟩,
     ⟨(some 7), .allocL [(.int .i64 0), (.int .i64 0), (.int .i64 0), (.bool false)], none, []⟩,
     ⟨none, .store 4 (.tmp 7) (.tmp 25), none, []⟩]) k34x17)) k34x16) k34x15
def k34x10 : AC := .seq (.seq (.ops false [
    ⟨(some 16), .move (.tmp 6), none, []⟩,
    ⟨(some 17), .move (.tmp 0), none, []⟩,
    ⟨(some 18), .lenSl (.tmp 17), none, []⟩,
    ⟨(some 19), .bin .other .lss (.tmp 16) (.tmp 18), none, []⟩]) k34x12) k34x11
def k34x9 : AC := .mask 33
def k34x8 : AC := .seq (.block 0 (.loop 99 33 k34x10)) k34x9
def k34x24 : AC := .ret
def k34x23 : AC := .seq (.mask 16) k34x24
def k34x22 : AC := .seq (.ops false [
    ⟨(some 39), .move (.tmp 0), none, []⟩,
    ⟨(some 40), .move (.tmp 5), none, []⟩,
    ⟨(some 41), .slice 4 (.tmp 39) none (some (.tmp 40)), none, []⟩,
    ⟨(some 4), .move (.tmp 41), none, []⟩]) k34x23
def k34x7 : AC := .seq (.ops false [
    ⟨(some 36), .move (.tmp 0), none, []⟩,
    ⟨(some 37), .move (.tmp 5), none, []⟩,
    ⟨(some 38), .slice 4 (.tmp 36) (some (.tmp 37)) none, none, []⟩,
    ⟨none, .clear [(.int .i64 0), (.int .i64 0), (.int .i64 0), (.bool false)] (.tmp 38), none, []⟩]) k34x22
def k34x2 : AC := .seq (.seq (.ops false [
    ⟨(some 14), .move (.tmp 5), none, []⟩,
    ⟨(some 15), .bin .other .add (.tmp 14) (.c (.int .i64 1)), none, []⟩,
    ⟨(some 6), .move (.tmp 15), none, []⟩]) k34x8) k34x7
def k34x1 : AC := .seq (.seq (.ops false [
    ⟨(some 11), .move (.tmp 5), none, []⟩,
    ⟨(some 12), .bin .other .eql (.tmp 11) (.c (.int .i64 (-1))), none, []⟩]) k34x3) k34x2
def k34x0 : AC := .seq (.ops false [
    ⟨(some 8), .move (.tmp 0), none, []⟩,
    ⟨(some 9), .move (.tmp 1), none, []⟩,
    ⟨(some 10), .call 70 [(.tmp 8), (.tmp 9)] [(.cell (.int .i64))] (.int .i64 0), none, []⟩,
    ⟨(some 5), .move (.tmp 10), none, []⟩]) k34x1
/-- slices.DeleteFunc[[]provenance/linear.Range,provenance/linear.Range] -/
def c34 : AFn := ⟨42, [.tmp 4],
  .seq (.ops false [
    ⟨(some 4), .move (.c (.sl .nil 0)), none, []⟩]) k34x0⟩
theorem cf34 : cFn Try.prog 34 = some c34 := by kernel_rfl
def k69x10 : AC := .ret
def k69x9 : AC := .seq (.mask 16) k69x10
def k69x8 : AC := .mask 0
def k69x7 : AC := .seq (.cond (.tmp 12)
   (.seq (.ops false [
      ⟨(some 4), .move (.c (.int .i64 0)), none, []⟩]) k69x9)
   (.skip)) k69x8
def k69x12 : AC := .ret
def k69x11 : AC := .seq (.mask 16) k69x12
def k69x6 : AC := .seq (.ops false [
    ⟨(some 4), .move (.c (.int .i64 (-1))), none, []⟩]) k69x11
def k69x5 : AC := .mask 67
def k69x4 : AC := .seq (.cond (.tmp 11)
   (.seq (.seq (.ops false [
      ⟨(some 12), .move (.tmp 6), none, []⟩]) k69x7) k69x6)
   (.skip)) k69x5
def k69x17 : AC := .ret
def k69x16 : AC := .seq (.mask 16) k69x17
def k69x15 : AC := .mask 3
def k69x14 : AC := .seq (.cond (.tmp 13)
   (.seq (.ops false [
      ⟨(some 4), .move (.c (.int .i64 1)), none, []⟩]) k69x16)
   (.skip)) k69x15
def k69x22 : AC := .ret
def k69x21 : AC := .seq (.mask 16) k69x22
def k69x20 : AC := .mask 3
def k69x19 : AC := .seq (.cond (.tmp 16)
   (.seq (.ops false [
      ⟨(some 4), .move (.c (.int .i64 (-1))), none, []⟩]) k69x21)
   (.skip)) k69x20
def k69x27 : AC := .ret
def k69x26 : AC := .seq (.mask 16) k69x27
def k69x25 : AC := .mask 0
def k69x24 : AC := .seq (.cond (.tmp 19)
   (.seq (.ops false [
      ⟨(some 4), .move (.c (.int .i64 1)), none, []⟩]) k69x26)
   (.skip)) k69x25
def k69x29 : AC := .ret
def k69x28 : AC := .seq (.mask 16) k69x29
def k69x23 : AC := .seq (.ops false [
    ⟨(some 4), .move (.c (.int .i64 0)), none, []⟩]) k69x28
def k69x18 : AC := .seq (.seq (.ops false [
    ⟨(some 17), .move (.tmp 0), none, []⟩,
    ⟨(some 18), .move (.tmp 1), none, []⟩,
    ⟨(some 19), .bin .other .gtr (.tmp 17) (.tmp 18), none, []⟩]) k69x24) k69x23
def k69x13 : AC := .seq (.seq (.ops false [
    ⟨(some 14), .move (.tmp 0), none, []⟩,
    ⟨(some 15), .move (.tmp 1), none, []⟩,
    ⟨(some 16), .bin .other .lss (.tmp 14) (.tmp 15), none, []⟩]) k69x19) k69x18
def k69x3 : AC := .seq (.seq (.ops false [
    ⟨(some 13), .move (.tmp 6), none, []⟩]) k69x14) k69x13
def k69x2 : AC := .seq (.seq (.ops false [
    ⟨(some 11), .move (.tmp 5), none, []⟩]) k69x4) k69x3
def k69x1 : AC := .seq (.ops false [
    ⟨(some 9), .move (.tmp 1), none, []⟩,
    ⟨(some 10), .call 93 [(.tmp 9)] [(.cell .bool)] (.bool false), none, []⟩,
    ⟨(some 6), .move (.tmp 10), none, []⟩]) k69x2
def k69x0 : AC := .seq (.ops false [
    ⟨(some 7), .move (.tmp 0), none, []⟩,
    ⟨(some 8), .call 93 [(.tmp 7)] [(.cell .bool)] (.bool false), none, []⟩,
    ⟨(some 5), .move (.tmp 8), none, []⟩]) k69x1
/-- cmp.Compare[int] -/
def c69 : AFn := ⟨20, [.tmp 4],
  .seq (.ops false [
    ⟨(some 4), .move (.c (.int .i64 0)), none, []⟩]) k69x0⟩
theorem cf69 : cFn Try.prog 69 = some c69 := by kernel_rfl
def k93x2 : AC := .ret
def k93x1 : AC := .seq (.mask 4) k93x2
def k93x0 : AC := .seq (.ops false [
    ⟨(some 3), .move (.tmp 0), none, []⟩,
    ⟨(some 4), .move (.tmp 0), none, []⟩,
    ⟨(some 5), .bin .other .neq (.tmp 3) (.tmp 4), none, []⟩,
    ⟨(some 2), .move (.tmp 5), none, []⟩]) k93x1
/-- cmp.isNaN[int] -/
def c93 : AFn := ⟨6, [.tmp 2],
  .seq (.ops false [
    ⟨(some 2), .move (.c (.bool false)), none, []⟩]) k93x0⟩
theorem cf93 : cFn Try.prog 93 = some c93 := by kernel_rfl
def k70x8 : AC := .exit 0
def k70x7 : AC := .mask 387
def k70x15 : AC := .ret
def k70x14 : AC := .seq (.mask 16) k70x15
def k70x13 : AC := .mask 387
def k70x12 : AC := .seq (.cond (.tmp 16)
   (.seq (.ops false [
      ⟨(some 17), .move (.tmp 5), none, []⟩,
      ⟨(some 4), .move (.tmp 17), none, []⟩]) k70x14)
   (.skip)) k70x13
def k70x11 : AC := .seq (.ops false [
    ⟨(some 11), .move (.tmp 1), none, []⟩,
    ⟨(some 12), .move (.tmp 0), none, []⟩,
    ⟨(some 13), .move (.tmp 5), none, []⟩,
    ⟨(some 14), .indexAddr 4 (.tmp 12) (.tmp 13), none, []⟩,
    ⟨(some 15), .load (.agg [(.int .i64), (.int .i64), (.int .i64), .bool]) (.tmp 14), none, []⟩,
    ⟨(some 16), .callV (.tmp 11) [(.tmp 15)] [(.cell .bool)] (.bool false), none, []⟩]) k70x12
def k70x10 : AC := .mask 387
def k70x9 : AC := .ops false [
    ⟨(some 18), .bin .other .add (.tmp 8) (.c (.int .i64 1)), none, []⟩,
    ⟨(some 8), .move (.tmp 18), none, []⟩]
def k70x6 : AC := .seq (.seq (.block 1 (.seq (.ops false [
     ⟨(some 10), .move (.tmp 8), none, []⟩,
     ⟨(some 5), .move (.tmp 10), none, []⟩]) k70x11)) k70x10) k70x9
def k70x5 : AC := .seq (.seq (.cond (.tmp 9)
   (.skip)
   (.seq (.mask 0) k70x8)) k70x7) k70x6
def k70x4 : AC := .seq (.ops false [
    ⟨(some 9), .bin .other .lss (.tmp 8) (.tmp 7), none, []⟩]) k70x5
def k70x3 : AC := .mask 0
def k70x2 : AC := .seq (.block 0 (.loop 387 0 k70x4)) k70x3
def k70x17 : AC := .ret
def k70x16 : AC := .seq (.mask 16) k70x17
def k70x1 : AC := .seq (.ops false [
    ⟨(some 4), .move (.c (.int .i64 (-1))), none, []⟩]) k70x16
def k70x0 : AC := .seq (.seq (.ops false [
    ⟨(some 6), .move (.tmp 0), none, []⟩,
    ⟨(some 7), .lenSl (.tmp 6), none, []⟩,
    ⟨(some 8), .move (.c (.int .i64 0)), none, []⟩]) k70x2) k70x1
/-- slices.IndexFunc[[]provenance/linear.Range,provenance/linear.Range] -/
def c70 : AFn := ⟨19, [.tmp 4],
  .seq (.ops false [
    ⟨(some 4), .move (.c (.int .i64 0)), none, []⟩]) k70x0⟩
theorem cf70 : cFn Try.prog 70 = some c70 := by kernel_rfl
def k71x8 : AC := .exit 0
def k71x7 : AC := .mask 387
def k71x15 : AC := .ret
def k71x14 : AC := .seq (.mask 16) k71x15
def k71x13 : AC := .mask 387
def k71x12 : AC := .seq (.cond (.tmp 16)
   (.seq (.ops false [
      ⟨(some 17), .move (.tmp 5), none, []⟩,
      ⟨(some 4), .move (.tmp 17), none, []⟩]) k71x14)
   (.skip)) k71x13
def k71x11 : AC := .seq (.ops false [
    ⟨(some 11), .move (.tmp 1), none, []⟩,
    ⟨(some 12), .move (.tmp 0), none, []⟩,
    ⟨(some 13), .move (.tmp 5), none, []⟩,
    ⟨(some 14), .indexAddr 1 (.tmp 12) (.tmp 13), none, []⟩,
    ⟨(some 15), .load (.cell (.int .i64)) (.tmp 14), none, []⟩,
    ⟨(some 16), .callV (.tmp 11) [(.tmp 15)] [(.cell .bool)] (.bool false), none, []⟩]) k71x12
def k71x10 : AC := .mask 387
def k71x9 : AC := .ops false [
    ⟨(some 18), .bin .other .add (.tmp 8) (.c (.int .i64 1)), none, []⟩,
    ⟨(some 8), .move (.tmp 18), none, []⟩]
def k71x6 : AC := .seq (.seq (.block 1 (.seq (.ops false [
     ⟨(some 10), .move (.tmp 8), none, []⟩,
     ⟨(some 5), .move (.tmp 10), none, []⟩]) k71x11)) k71x10) k71x9
def k71x5 : AC := .seq (.seq (.cond (.tmp 9)
   (.skip)
   (.seq (.mask 0) k71x8)) k71x7) k71x6
def k71x4 : AC := .seq (.ops false [
    ⟨(some 9), .bin .other .lss (.tmp 8) (.tmp 7), none, []⟩]) k71x5
def k71x3 : AC := .mask 0
def k71x2 : AC := .seq (.block 0 (.loop 387 0 k71x4)) k71x3
def k71x17 : AC := .ret
def k71x16 : AC := .seq (.mask 16) k71x17
def k71x1 : AC := .seq (.ops false [
    ⟨(some 4), .move (.c (.int .i64 (-1))), none, []⟩]) k71x16
def k71x0 : AC := .seq (.seq (.ops false [
    ⟨(some 6), .move (.tmp 0), none, []⟩,
    ⟨(some 7), .lenSl (.tmp 6), none, []⟩,
    ⟨(some 8), .move (.c (.int .i64 0)), none, []⟩]) k71x2) k71x1
/-- slices.IndexFunc[[]int,int] -/
def c71 : AFn := ⟨19, [.tmp 4],
  .seq (.ops false [
    ⟨(some 4), .move (.c (.int .i64 0)), none, []⟩]) k71x0⟩
theorem cf71 : cFn Try.prog 71 = some c71 := by kernel_rfl
def k72x2 : AC := .ret
def k72x1 : AC := .seq (.mask 8) k72x2
def k72x0 : AC := .seq (.ops false [
    ⟨(some 4), .move (.tmp 0), none, []⟩,
    ⟨(some 5), .fieldAddr 1 (.tmp 1), none, []⟩,
    ⟨(some 6), .load (.cell (.int .i64)) (.tmp 5), none, []⟩,
    ⟨(some 7), .bin .other .lss (.tmp 4) (.tmp 6), none, []⟩,
    ⟨(some 3), .move (.tmp 7), none, []⟩]) k72x1
/-- (*provenance/linear.scan).slot$1 -/
def c72 : AFn := ⟨8, [.tmp 3],
  .seq (.ops false [
    ⟨(some 3), .move (.c (.bool false)), none, []⟩]) k72x0⟩
theorem cf72 : cFn Try.prog 72 = some c72 := by kernel_rfl
def k73x2 : AC := .ret
def k73x1 : AC := .seq (.mask 16) k73x2
def k73x0 : AC := .seq (.ops false [
    ⟨(some 5), .move (.tmp 0), none, []⟩,
    ⟨(some 6), .move (.tmp 1), none, []⟩,
    ⟨(some 7), .call 70 [(.tmp 5), (.tmp 6)] [(.cell (.int .i64))] (.int .i64 0), none, []⟩,
    ⟨(some 8), .bin .other .geq (.tmp 7) (.c (.int .i64 0)), none, []⟩,
    ⟨(some 4), .move (.tmp 8), none, []⟩]) k73x1
/-- slices.ContainsFunc[[]provenance/linear.Range,provenance/linear.Range] -/
def c73 : AFn := ⟨9, [.tmp 4],
  .seq (.ops false [
    ⟨(some 4), .move (.c (.bool false)), none, []⟩]) k73x0⟩
theorem cf73 : cFn Try.prog 73 = some c73 := by kernel_rfl
def k74x2 : AC := .ret
def k74x1 : AC := .seq (.mask 16) k74x2
def k74x0 : AC := .seq (.ops false [
    ⟨(some 5), .load (.cell .ptr) (.tmp 1), none, []⟩,
    ⟨(some 6), .nilCheck (.tmp 5), none, []⟩,
    ⟨(some 7), .fieldAddr 0 (.tmp 6), none, []⟩,
    ⟨(some 8), .fieldAddr 0 (.tmp 7), none, []⟩,
    ⟨(some 9), .load (.cell .sl) (.tmp 8), none, []⟩,
    ⟨(some 10), .fieldAddr 0 (.tmp 3), none, []⟩,
    ⟨(some 11), .load (.cell (.int .i64)) (.tmp 10), none, []⟩,
    ⟨(some 12), .indexAddr 1 (.tmp 9) (.tmp 11), none, []⟩,
    ⟨(some 13), .load (.cell (.int .i64)) (.tmp 12), none, []⟩,
    ⟨(some 14), .load (.cell (.int .i64)) (.tmp 2), none, []⟩,
    ⟨(some 15), .bin .other .eql (.tmp 13) (.tmp 14), none, []⟩,
    ⟨(some 4), .move (.tmp 15), none, []⟩]) k74x1
/-- (*provenance/linear.scan).free$1 -/
def c74 : AFn := ⟨16, [.tmp 4],
  .seq (.ops false [
    ⟨(some 3), .boxL (.tmp 0), none, []⟩,
    ⟨(some 4), .move (.c (.bool false)), none, []⟩]) k74x0⟩
theorem cf74 : cFn Try.prog 74 = some c74 := by kernel_rfl
def k75x2 : AC := .ret
def k75x1 : AC := .seq (.mask 8) k75x2
def k75x0 : AC := .seq (.ops false [
    ⟨(some 4), .fieldAddr 2 (.tmp 2), none, []⟩,
    ⟨(some 5), .load (.cell (.int .i64)) (.tmp 4), none, []⟩,
    ⟨(some 6), .fieldAddr 2 (.tmp 1), none, []⟩,
    ⟨(some 7), .load (.cell (.int .i64)) (.tmp 6), none, []⟩,
    ⟨(some 8), .bin .other .gtr (.tmp 5) (.tmp 7), none, []⟩,
    ⟨(some 3), .move (.tmp 8), none, []⟩]) k75x1
/-- (*provenance/linear.scan).enter$1 -/
def c75 : AFn := ⟨9, [.tmp 3],
  .seq (.ops false [
    ⟨(some 2), .boxL (.tmp 0), none, []⟩,
    ⟨(some 3), .move (.c (.bool false)), none, []⟩]) k75x0⟩
theorem cf75 : cFn Try.prog 75 = some c75 := by kernel_rfl
def k76x7 : AC := .ret
def k76x6 : AC := .seq (.mask 64) k76x7
def k76x5 : AC := .mask 135
def k76x4 : AC := .seq (.cond (.tmp 16)
   (.seq (.ops false [
      ⟨(some 17), .move (.tmp 0), none, []⟩,
      ⟨(some 6), .move (.tmp 17), none, []⟩]) k76x6)
   (.skip)) k76x5
def k76x13 : AC := .ret
def k76x12 : AC := .seq (.mask 64) k76x13
def k76x11 : AC := .mask 391
def k76x10 : AC := .seq (.cond (.tmp 22)
   (.seq (.ops false [
      ⟨(some 23), .move (.tmp 0), none, []⟩,
      ⟨(some 24), .move (.tmp 2), none, []⟩,
      ⟨(some 25), .append [(.int .i64 0), (.int .i64 0), (.int .i64 0), (.bool false)] 4 32 (.tmp 23) (.tmp 24), none, []⟩,
      ⟨(some 6), .move (.tmp 25), none, []⟩]) k76x12)
   (.skip)) k76x11
def k76x21 : AC := .ret
def k76x20 : AC := .seq (.mask 64) k76x21
def k76x19 : AC := .seq (.ops false [
    ⟨(some 55), .move (.tmp 9), none, []⟩,
    ⟨(some 6), .move (.tmp 55), none, []⟩]) k76x20
def k76x18 : AC := .seq (.ops false [
    ⟨(some 46), .move (.tmp 9), none, []⟩,
    ⟨(some 47), .move (.tmp 1), none, []⟩,
    ⟨(some 48), .move (.tmp 7), none, []⟩,
    ⟨(some 49), .bin .other .add (.tmp 47) (.tmp 48), none, []⟩,
    ⟨(some 50), .slice 4 (.tmp 46) (some (.tmp 49)) none, none, []⟩,
    ⟨(some 51), .move (.tmp 0), none, []⟩,
    ⟨(some 52), .move (.tmp 1), none, []⟩,
    ⟨(some 53), .slice 4 (.tmp 51) (some (.tmp 52)) none, none, []⟩,
    ⟨(some 54), .copy 4 (.tmp 50) (.tmp 53), none, []⟩]) k76x19
def k76x17 : AC := .seq (.ops false [
    ⟨(some 41), .move (.tmp 9), none, []⟩,
    ⟨(some 42), .move (.tmp 1), none, []⟩,
    ⟨(some 43), .slice 4 (.tmp 41) (some (.tmp 42)) none, none, []⟩,
    ⟨(some 44), .move (.tmp 2), none, []⟩,
    ⟨(some 45), .copy 4 (.tmp 43) (.tmp 44), none, []⟩]) k76x18
def k76x16 : AC := .mask 391
def k76x15 : AC := .seq (.cond (.tmp 31)
   (.seq (.bad) k76x17)
   (.skip)) k76x16
def k76x29 : AC := .ret
def k76x28 : AC := .seq (.mask 64) k76x29
def k76x27 : AC := .seq (.ops false [
    ⟨(some 83), .move (.tmp 0), none, []⟩,
    ⟨(some 6), .move (.tmp 83), none, []⟩]) k76x28
def k76x26 : AC := .seq (.ops false [
    ⟨(some 78), .move (.tmp 0), none, []⟩,
    ⟨(some 79), .move (.tmp 1), none, []⟩,
    ⟨(some 80), .slice 4 (.tmp 78) (some (.tmp 79)) none, none, []⟩,
    ⟨(some 81), .move (.tmp 2), none, []⟩,
    ⟨(some 82), .copy 4 (.tmp 80) (.tmp 81), none, []⟩]) k76x27
def k76x25 : AC := .mask 391
def k76x24 : AC := .seq (.cond (.tmp 68)
   (.seq (.ops false [
      ⟨(some 69), .move (.tmp 0), none, []⟩,
      ⟨(some 70), .move (.tmp 1), none, []⟩,
      ⟨(some 71), .move (.tmp 7), none, []⟩,
      ⟨(some 72), .bin .other .add (.tmp 70) (.tmp 71), none, []⟩,
      ⟨(some 73), .slice 4 (.tmp 69) (some (.tmp 72)) none, none, []⟩,
      ⟨(some 74), .move (.tmp 0), none, []⟩,
      ⟨(some 75), .move (.tmp 1), none, []⟩,
      ⟨(some 76), .slice 4 (.tmp 74) (some (.tmp 75)) none, none, []⟩,
      ⟨(some 77), .copy 4 (.tmp 73) (.tmp 76), none, []⟩]) k76x26)
   (.skip)) k76x25
def k76x33 : AC := .ret
def k76x32 : AC := .seq (.mask 64) k76x33
def k76x31 : AC := .seq (.ops false [
    ⟨(some 94), .move (.tmp 0), none, []⟩,
    ⟨(some 6), .move (.tmp 94), none, []⟩]) k76x32
def k76x30 : AC := .seq (.ops false [
    ⟨(some 89), .move (.tmp 0), none, []⟩,
    ⟨(some 90), .move (.tmp 1), none, []⟩,
    ⟨(some 91), .slice 4 (.tmp 89) (some (.tmp 90)) none, none, []⟩,
    ⟨(some 92), .move (.tmp 7), none, []⟩,
    ⟨(some 93), .call 95 [(.tmp 91), (.tmp 92)] [] .opq, none, []⟩]) k76x31
def k76x23 : AC := .seq (.ops false [
    ⟨(some 84), .move (.tmp 0), none, []⟩,
    ⟨(some 85), .move (.tmp 8), none, []⟩,
    ⟨(some 86), .slice 4 (.tmp 84) (some (.tmp 85)) none, none, []⟩,
    ⟨(some 87), .move (.tmp 2), none, []⟩,
    ⟨(some 88), .copy 4 (.tmp 86) (.tmp 87), none, []⟩]) k76x30
def k76x22 : AC := .seq (.seq (.ops false [
    ⟨(some 61), .move (.tmp 2), none, []⟩,
    ⟨(some 62), .move (.tmp 0), none, []⟩,
    ⟨(some 63), .move (.tmp 1), none, []⟩,
    ⟨(some 64), .move (.tmp 7), none, []⟩,
    ⟨(some 65), .bin .other .add (.tmp 63) (.tmp 64), none, []⟩,
    ⟨(some 66), .slice 4 (.tmp 62) (some (.tmp 65)) none, none, []⟩,
    ⟨(some 67), .call 94 [(.tmp 61), (.tmp 66)] [(.cell .bool)] (.bool false), none, []⟩,
    ⟨(some 68), .un .not (.tmp 67), none, []⟩]) k76x24) k76x23
def k76x14 : AC := .seq (.ops false [
    ⟨(some 56), .move (.tmp 0), none, []⟩,
    ⟨(some 57), .move (.tmp 8), none, []⟩,
    ⟨(some 58), .move (.tmp 7), none, []⟩,
    ⟨(some 59), .bin .other .add (.tmp 57) (.tmp 58), none, []⟩,
    ⟨(some 60), .slice 4 (.tmp 56) none (some (.tmp 59)), none, []⟩,
    ⟨(some 0), .move (.tmp 60), none, []⟩]) k76x22
def k76x9 : AC := .seq (.seq (.bad) k76x15) k76x14
def k76x8 : AC := .seq (.seq (.ops false [
    ⟨(some 20), .move (.tmp 1), none, []⟩,
    ⟨(some 21), .move (.tmp 8), none, []⟩,
    ⟨(some 22), .bin .other .eql (.tmp 20) (.tmp 21), none, []⟩]) k76x10) k76x9
def k76x3 : AC := .seq (.ops false [
    ⟨(some 18), .move (.tmp 0), none, []⟩,
    ⟨(some 19), .lenSl (.tmp 18), none, []⟩,
    ⟨(some 8), .move (.tmp 19), none, []⟩]) k76x8
def k76x2 : AC := .seq (.seq (.ops false [
    ⟨(some 15), .move (.tmp 7), none, []⟩,
    ⟨(some 16), .bin .other .eql (.tmp 15) (.c (.int .i64 0)), none, []⟩]) k76x4) k76x3
def k76x1 : AC := .seq (.ops false [
    ⟨(some 13), .move (.tmp 2), none, []⟩,
    ⟨(some 14), .lenSl (.tmp 13), none, []⟩,
    ⟨(some 7), .move (.tmp 14), none, []⟩]) k76x2
def k76x0 : AC := .seq (.ops false [
    ⟨(some 10), .move (.tmp 0), none, []⟩,
    ⟨(some 11), .move (.tmp 1), none, []⟩,
    ⟨(some 12), .slice 4 (.tmp 10) (some (.tmp 11)) none, none, []⟩]) k76x1
/-- slices.Insert[[]provenance/linear.Range,provenance/linear.Range] -/
def c76 : AFn := ⟨95, [.tmp 6],
  .seq (.ops false [
    ⟨(some 6), .move (.c (.sl .nil 0)), none, []⟩]) k76x0⟩
theorem cf76 : cFn Try.prog 76 = some c76 := by kernel_rfl
def k12x6 : AC := .ret
def k12x5 : AC := .seq (.mask 48) k12x6
def k12x4 : AC := .mask 86
def k12x3 : AC := .seq (.cond (.tmp 21)
   (.seq (.ops false [
      ⟨(some 22), .build [(.sl .nil 0), (.sl .nil 0), (.int .i64 0)] [], none, []⟩,
      ⟨(some 23), .move (.tmp 7), none, []⟩,
      ⟨none, .store 3 (.tmp 4) (.tmp 22), none, []⟩,
      ⟨(some 5), .move (.tmp 23), none, []⟩]) k12x5)
   (.skip)) k12x4
def k12x11 : AC := .ret
def k12x10 : AC := .seq (.mask 48) k12x11
def k12x9 : AC := .mask 86
def k12x8 : AC := .seq (.cond (.tmp 29)
   (.seq (.ops false [
      ⟨(some 30), .build [(.sl .nil 0), (.sl .nil 0), (.int .i64 0)] [], none, []⟩,
      ⟨none, .store 3 (.tmp 4) (.tmp 30), none, []⟩,
      ⟨(some 5), .move (.c (.int .i64 4)), none, []⟩]) k12x10)
   (.skip)) k12x9
def k12x20 : AC := .exit 0
def k12x19 : AC := .mask 105553116266834
def k12x23 : AC := .ops false [
    ⟨(some 49), .move (.tmp 8), none, []⟩,
    ⟨(some 50), .nilCheck (.tmp 49), none, []⟩,
    ⟨(some 51), .fieldAddr 0 (.tmp 50), none, []⟩,
    ⟨(some 52), .fieldAddr 0 (.tmp 51), none, []⟩,
    ⟨(some 53), .load (.cell .sl) (.tmp 52), none, []⟩,
    ⟨(some 54), .move (.tmp 9), none, []⟩,
    ⟨(some 55), .move (.tmp 8), none, []⟩,
    ⟨(some 56), .nilCheck (.tmp 55), none, []⟩,
    ⟨(some 57), .fieldAddr 0 (.tmp 56), none, []⟩,
    ⟨(some 58), .fieldAddr 1 (.tmp 57), none, []⟩,
    ⟨(some 59), .load (.cell .sl) (.tmp 58), none, []⟩,
    ⟨(some 60), .move (.tmp 9), none, []⟩,
    ⟨(some 61), .indexAddr 1 (.tmp 53) (.tmp 54), none, []⟩,
    ⟨none, .store 1 (.tmp 61) (.c (.int .i64 (-1))), none, []⟩,
    ⟨(some 62), .indexAddr 1 (.tmp 59) (.tmp 60), none, []⟩,
    ⟨none, .store 1 (.tmp 62) (.c (.int .i64 (-1))), none, []⟩]
def k12x22 : AC := .mask 105553116266834
def k12x21 : AC := .ops false [
    ⟨(some 63), .bin .other .add (.tmp 46) (.c (.int .i64 1)), none, []⟩,
    ⟨(some 46), .move (.tmp 63), none, []⟩]
def k12x18 : AC := .seq (.seq (.block 1 (.seq (.ops false [
     ⟨(some 48), .move (.tmp 46), none, []⟩,
     ⟨(some 9), .move (.tmp 48), none, []⟩]) k12x23)) k12x22) k12x21
def k12x17 : AC := .seq (.seq (.cond (.tmp 47)
   (.skip)
   (.seq (.mask 338) k12x20)) k12x19) k12x18
def k12x16 : AC := .seq (.ops false [
    ⟨(some 47), .bin .other .lss (.tmp 46) (.tmp 45), none, []⟩]) k12x17
def k12x15 : AC := .mask 338
def k12x14 : AC := .seq (.block 0 (.loop 105553116266834 338 k12x16)) k12x15
def k12x31 : AC := .exit 2
def k12x30 : AC := .mask 129127208515966861586
def k12x40 : AC := .exit 3
def k12x39 : AC := .seq (.mask 129127208515966861586) k12x40
def k12x38 : AC := .mask 129127208515966863634
def k12x37 : AC := .seq (.cond (.tmp 80)
   (.seq (.ops false [
      ⟨(some 81), .move (.tmp 8), none, []⟩,
      ⟨(some 82), .load (.agg [(.int .i64), (.int .i64), (.int .i64), .bool]) (.tmp 11), none, []⟩,
      ⟨(some 83), .call 36 [(.tmp 81), (.tmp 82)] [] .opq, none, []⟩]) k12x39)
   (.skip)) k12x38
def k12x46 : AC := .exit 3
def k12x45 : AC := .seq (.mask 129127208515966861586) k12x46
def k12x44 : AC := .mask 129127208515966863634
def k12x43 : AC := .seq (.cond (.tmp 88)
   (.seq (.ops false [
      ⟨(some 89), .move (.tmp 8), none, []⟩,
      ⟨(some 90), .load (.agg [(.int .i64), (.int .i64), (.int .i64), .bool]) (.tmp 11), none, []⟩,
      ⟨(some 91), .move (.tmp 12), none, []⟩,
      ⟨(some 92), .call 38 [(.tmp 89), (.tmp 90), (.tmp 91)] [] .opq, none, []⟩]) k12x45)
   (.skip)) k12x44
def k12x42 : AC := .seq (.ops false [
    ⟨(some 87), .move (.tmp 12), none, []⟩,
    ⟨(some 88), .bin .other .gtr (.tmp 87) (.c (.int .i64 0)), none, []⟩]) k12x43
def k12x52 : AC := .exit 3
def k12x51 : AC := .seq (.mask 129127208515966861586) k12x52
def k12x50 : AC := .mask 129127208515966871826
def k12x49 : AC := .seq (.cond (.tmp 109)
   (.seq (.ops false [
      ⟨(some 110), .move (.tmp 8), none, []⟩,
      ⟨(some 111), .load (.agg [(.int .i64), (.int .i64), (.int .i64), .bool]) (.tmp 11), none, []⟩,
      ⟨(some 112), .call 36 [(.tmp 110), (.tmp 111)] [] .opq, none, []⟩]) k12x51)
   (.skip)) k12x50
def k12x55 : AC := .ops false [
    ⟨(some 139), .move (.tmp 8), none, []⟩,
    ⟨(some 140), .load (.agg [(.int .i64), (.int .i64), (.int .i64), .bool]) (.tmp 11), none, []⟩,
    ⟨(some 141), .move (.tmp 14), none, []⟩,
    ⟨(some 142), .call 38 [(.tmp 139), (.tmp 140), (.tmp 141)] [] .opq, none, []⟩]
def k12x54 : AC := .seq (.ops false [
    ⟨(some 136), .move (.tmp 8), none, []⟩,
    ⟨(some 137), .load (.agg [(.int .i64), (.int .i64), (.int .i64), .bool]) (.tmp 13), none, []⟩,
    ⟨(some 138), .call 39 [(.tmp 136), (.tmp 137)] [] .opq, none, []⟩]) k12x55
def k12x53 : AC := .seq (.ops false [
    ⟨(some 127), .move (.tmp 8), none, []⟩,
    ⟨(some 128), .nilCheck (.tmp 127), none, []⟩,
    ⟨(some 129), .fieldAddr 0 (.tmp 128), none, []⟩,
    ⟨(some 130), .fieldAddr 0 (.tmp 129), none, []⟩,
    ⟨(some 131), .load (.cell .sl) (.tmp 130), none, []⟩,
    ⟨(some 132), .fieldAddr 0 (.tmp 13), none, []⟩,
    ⟨(some 133), .load (.cell (.int .i64)) (.tmp 132), none, []⟩,
    ⟨(some 134), .indexAddr 1 (.tmp 131) (.tmp 133), none, []⟩,
    ⟨(some 135), .load (.cell (.int .i64)) (.tmp 134), none, []⟩,
    ⟨(some 14), .move (.tmp 135), none, []⟩]) k12x54
def k12x48 : AC := .seq (.ops false [
    ⟨(some 113), .move (.tmp 8), none, []⟩,
    ⟨(some 114), .move (.tmp 8), none, []⟩,
    ⟨(some 115), .nilCheck (.tmp 114), none, []⟩,
    ⟨(some 116), .fieldAddr 3 (.tmp 115), none, []⟩,
    ⟨(some 117), .load (.cell .sl) (.tmp 116), none, []⟩,
    ⟨(some 118), .move (.tmp 8), none, []⟩,
    ⟨(some 119), .nilCheck (.tmp 118), none, []⟩,
    ⟨(some 120), .fieldAddr 3 (.tmp 119), none, []⟩,
    ⟨(some 121), .load (.cell .sl) (.tmp 120), none, []⟩,
    ⟨(some 122), .lenSl (.tmp 121), none, []⟩,
    ⟨(some 123), .bin .other .sub (.tmp 122) (.c (.int .i64 1)), none, []⟩,
    ⟨(some 124), .slice 4 (.tmp 117) none (some (.tmp 123)), none, []⟩,
    ⟨(some 125), .nilCheck (.tmp 113), none, []⟩,
    ⟨(some 126), .fieldAddr 3 (.tmp 125), none, []⟩,
    ⟨none, .store 1 (.tmp 126) (.tmp 124), none, []⟩]) k12x53
def k12x47 : AC := .seq (.seq (.ops false [
    ⟨(some 105), .fieldAddr 2 (.tmp 13), none, []⟩,
    ⟨(some 106), .load (.cell (.int .i64)) (.tmp 105), none, []⟩,
    ⟨(some 107), .fieldAddr 2 (.tmp 11), none, []⟩,
    ⟨(some 108), .load (.cell (.int .i64)) (.tmp 107), none, []⟩,
    ⟨(some 109), .bin .other .leq (.tmp 106) (.tmp 108), none, []⟩]) k12x49) k12x48
def k12x41 : AC := .seq (.ops false [
    ⟨(some 93), .move (.tmp 8), none, []⟩,
    ⟨(some 94), .nilCheck (.tmp 93), none, []⟩,
    ⟨(some 95), .fieldAddr 3 (.tmp 94), none, []⟩,
    ⟨(some 96), .load (.cell .sl) (.tmp 95), none, []⟩,
    ⟨(some 97), .move (.tmp 8), none, []⟩,
    ⟨(some 98), .nilCheck (.tmp 97), none, []⟩,
    ⟨(some 99), .fieldAddr 3 (.tmp 98), none, []⟩,
    ⟨(some 100), .load (.cell .sl) (.tmp 99), none, []⟩,
    ⟨(some 101), .lenSl (.tmp 100), none, []⟩,
    ⟨(some 102), .bin .other .sub (.tmp 101) (.c (.int .i64 1)), none, []⟩,
    ⟨(some 103), .indexAddr 4 (.tmp 96) (.tmp 102), none, []⟩,
    ⟨(some 104), .load (.agg [(.int .i64), (.int .i64), (.int .i64), .bool]) (.tmp 103), none, []⟩,
    ⟨(some 13), .allocL [(.int .i64 0), (.int .i64 0), (.int .i64 0), (.bool false)], none, []⟩,
    ⟨none, .store 4 (.tmp 13) (.tmp 104), none, []⟩]) k12x47
def k12x36 : AC := .seq (.seq (.ops false [
    ⟨(some 84), .move (.tmp 8), none, []⟩,
    ⟨(some 85), .move (.tmp 1), none, []⟩,
    ⟨(some 86), .call 37 [(.tmp 84), (.tmp 85)] [(.cell (.int .i64))] (.int .i64 0), none, []⟩,
    ⟨(some 12), .move (.tmp 86), none, []⟩]) k12x42) k12x41
def k12x35 : AC := .seq (.seq (.ops false [
    ⟨(some 79), .fieldAddr 3 (.tmp 11), none, []⟩,
    ⟨(some 80), .load (.cell .bool) (.tmp 79), none, []⟩]) k12x37) k12x36
def k12x34 : AC := .seq (.ops false [
    ⟨(some 70), .move (.tmp 8), none, []⟩,
    ⟨(some 71), .move (.tmp 8), none, []⟩,
    ⟨(some 72), .nilCheck (.tmp 71), none, []⟩,
    ⟨(some 73), .fieldAddr 3 (.tmp 72), none, []⟩,
    ⟨(some 74), .load (.cell .sl) (.tmp 73), none, []⟩,
    ⟨(some 75), .makeFn 35 [] [(.tmp 11)], none, []⟩,
    ⟨(some 76), .call 34 [(.tmp 74), (.tmp 75)] [(.cell .sl)] (.sl .nil 0), none, []⟩,
    ⟨(some 77), .nilCheck (.tmp 70), none, []⟩,
    ⟨(some 78), .fieldAddr 3 (.tmp 77), none, []⟩,
    ⟨none, .store 1 (.tmp 78) (.tmp 76), none, []⟩]) k12x35
def k12x33 : AC := .join 129127208515966861586
def k12x32 : AC := .ops false [
    ⟨(some 143), .bin .other .add (.tmp 66) (.c (.int .i64 1)), none, []⟩,
    ⟨(some 66), .move (.tmp 143), none, []⟩]
def k12x29 : AC := .seq (.seq (.block 3 (.seq (.ops false [
     ⟨(some 68), .indexAddr 4 (.tmp 64) (.tmp 66), none, []⟩,
     ⟨(some 69), .load (.agg [(.int .i64), (.int .i64), (.int .i64), .bool]) (.tmp 68), none, []⟩,
     ⟨(some 11), .allocH [(.int .i64 0), (.int .i64 0), (.int .i64 0), (.bool false)], none, []⟩,
     ⟨none, .store 4 (.tmp 11) (.tmp 69), none, []⟩]) k12x34)) k12x33) k12x32
def k12x28 : AC := .seq (.seq (.cond (.tmp 67)
   (.skip)
   (.seq (.mask 272) k12x31)) k12x30) k12x29
def k12x27 : AC := .seq (.ops false [
    ⟨(some 67), .bin .other .lss (.tmp 66) (.tmp 65), none, []⟩]) k12x28
def k12x26 : AC := .mask 272
def k12x25 : AC := .seq (.block 2 (.loop 129127208515966861586 272 k12x27)) k12x26
def k12x59 : AC := .ret
def k12x58 : AC := .seq (.mask 48) k12x59
def k12x57 : AC := .seq (.ops false [
    ⟨(some 153), .move (.tmp 8), none, []⟩,
    ⟨(some 154), .nilCheck (.tmp 153), none, []⟩,
    ⟨(some 155), .fieldAddr 0 (.tmp 154), none, []⟩,
    ⟨(some 156), .load (.agg [.sl, .sl, (.int .i64)]) (.tmp 155), none, []⟩,
    ⟨none, .store 3 (.tmp 4) (.tmp 156), none, []⟩,
    ⟨(some 5), .move (.c (.int .i64 0)), none, []⟩]) k12x58
def k12x24 : AC := .seq (.ops false [
    ⟨(some 144), .move (.tmp 8), none, []⟩,
    ⟨(some 145), .move (.tmp 8), none, []⟩,
    ⟨(some 146), .nilCheck (.tmp 145), none, []⟩,
    ⟨(some 147), .fieldAddr 4 (.tmp 146), none, []⟩,
    ⟨(some 148), .load (.cell .sl) (.tmp 147), none, []⟩,
    ⟨(some 149), .lenSl (.tmp 148), none, []⟩,
    ⟨(some 150), .nilCheck (.tmp 144), none, []⟩,
    ⟨(some 151), .fieldAddr 0 (.tmp 150), none, []⟩,
    ⟨(some 152), .fieldAddr 2 (.tmp 151), none, []⟩,
    ⟨none, .store 1 (.tmp 152) (.tmp 149), none, []⟩]) k12x57
def k12x13 : AC := .seq (.seq (.ops false [
    ⟨(some 64), .move (.tmp 6), none, []⟩,
    ⟨(some 65), .lenSl (.tmp 64), none, []⟩,
    ⟨(some 66), .move (.c (.int .i64 0)), none, []⟩]) k12x25) k12x24
def k12x12 : AC := .seq (.seq (.ops false [
    ⟨(some 40), .move (.tmp 8), none, []⟩,
    ⟨(some 41), .nilCheck (.tmp 40), none, []⟩,
    ⟨(some 42), .fieldAddr 0 (.tmp 41), none, []⟩,
    ⟨(some 43), .fieldAddr 0 (.tmp 42), none, []⟩,
    ⟨(some 44), .load (.cell .sl) (.tmp 43), none, []⟩,
    ⟨(some 45), .lenSl (.tmp 44), none, []⟩,
    ⟨(some 46), .move (.c (.int .i64 0)), none, []⟩]) k12x14) k12x13
def k12x7 : AC := .seq (.ops false [
    ⟨(some 31), .fieldAddr 2 (.tmp 2), none, []⟩,
    ⟨(some 32), .load (.cell (.int .i64)) (.tmp 31), none, []⟩,
    ⟨(some 33), .makeSl [(.int .i64 0)] 8 (.tmp 32) (.tmp 32), none, []⟩,
    ⟨(some 34), .fieldAddr 2 (.tmp 2), none, []⟩,
    ⟨(some 35), .load (.cell (.int .i64)) (.tmp 34), none, []⟩,
    ⟨(some 36), .makeSl [(.int .i64 0)] 8 (.tmp 35) (.tmp 35), none, []⟩,
    ⟨(some 37), .build [(.sl .nil 0), (.sl .nil 0), (.int .i64 0)] [(0, 1, (.tmp 33)), (1, 1, (.tmp 36))], none, []⟩,
    ⟨(some 38), .build [(.sl .nil 0), (.sl .nil 0), (.int .i64 0), (.sl .nil 0), (.sl .nil 0)] [(0, 3, (.tmp 37))], none, []⟩,
    ⟨(some 39), .boxH (.tmp 38), none, []⟩,
    ⟨(some 8), .move (.tmp 39), none, []⟩]) k12x12
def k12x2 : AC := .seq (.seq (.ops true [
    ⟨(some 24), .move (.tmp 1), none, []⟩,
    ⟨(some 25), .bin .other .lss (.tmp 24) (.c (.int .i64 1)), none, []⟩,
    ⟨(some 26), .move (.tmp 25), none, []⟩,
    ⟨(some 27), .move (.tmp 1), (some (26, false)), []⟩,
    ⟨(some 28), .bin .other .gtr (.tmp 27) (.c (.int .i64 10)), (some (26, false)), []⟩,
    ⟨(some 29), .pick (.tmp 26) (.c (.bool true)) (.tmp 28), none, []⟩]) k12x8) k12x7
def k12x1 : AC := .seq (.seq (.ops false [
    ⟨(some 20), .move (.tmp 7), none, []⟩,
    ⟨(some 21), .bin .other .neq (.tmp 20) (.c (.int .i64 0)), none, []⟩]) k12x3) k12x2
def k12x0 : AC := .seq (.ops false [
    ⟨(some 16), .load (.agg [(.int .i64), .sl, (.int .i64), .sl]) (.tmp 2), none, []⟩,
    ⟨(some 17), .call 9 [(.tmp 16)] [(.cell .sl), (.cell (.int .i64))] .opq, none, []⟩,
    ⟨(some 15), .move (.tmp 17), none, []⟩,
    ⟨(some 18), .extract (.tmp 15) 0, none, []⟩,
    ⟨(some 19), .extract (.tmp 15) 1, none, []⟩,
    ⟨(some 6), .move (.tmp 18), none, []⟩,
    ⟨(some 7), .move (.tmp 19), none, []⟩]) k12x1
/-- provenance/linear.Allocate -/
def c12 : AFn := ⟨157, [.cell 4 (.agg [.sl, .sl, (.int .i64)]), .tmp 5],
  .seq (.ops false [
    ⟨(some 2), .boxL (.tmp 0), none, []⟩,
    ⟨(some 4), .allocL [(.sl .nil 0), (.sl .nil 0), (.int .i64 0)], none, []⟩,
    ⟨(some 5), .move (.c (.int .i64 0)), none, []⟩]) k12x0⟩
theorem cf12 : cFn Try.prog 12 = some c12 := by kernel_rfl
def k35x2 : AC := .ret
def k35x1 : AC := .seq (.mask 8) k35x2
def k35x0 : AC := .seq (.ops false [
    ⟨(some 4), .fieldAddr 2 (.tmp 2), none, []⟩,
    ⟨(some 5), .load (.cell (.int .i64)) (.tmp 4), none, []⟩,
    ⟨(some 6), .fieldAddr 1 (.tmp 1), none, []⟩,
    ⟨(some 7), .load (.cell (.int .i64)) (.tmp 6), none, []⟩,
    ⟨(some 8), .bin .other .lss (.tmp 5) (.tmp 7), none, []⟩,
    ⟨(some 3), .move (.tmp 8), none, []⟩]) k35x1
/-- provenance/linear.Allocate$1 -/
def c35 : AFn := ⟨9, [.tmp 3],
  .seq (.ops false [
    ⟨(some 2), .boxL (.tmp 0), none, []⟩,
    ⟨(some 3), .move (.c (.bool false)), none, []⟩]) k35x0⟩
theorem cf35 : cFn Try.prog 35 = some c35 := by kernel_rfl
def k36x5 : AC := .ops false [
    ⟨(some 18), .move (.tmp 0), none, []⟩,
    ⟨(some 19), .move (.tmp 0), none, []⟩,
    ⟨(some 20), .nilCheck (.tmp 19), none, []⟩,
    ⟨(some 21), .fieldAddr 4 (.tmp 20), none, []⟩,
    ⟨(some 22), .load (.cell .sl) (.tmp 21), none, []⟩,
    ⟨(some 23), .buildSl [(.int .i64 0)] 1 [(0, (.c (.int .i64 0)))], none, []⟩,
    ⟨(some 24), .append [(.int .i64 0)] 1 8 (.tmp 22) (.tmp 23), none, []⟩,
    ⟨(some 25), .nilCheck (.tmp 18), none, []⟩,
    ⟨(some 26), .fieldAddr 4 (.tmp 25), none, []⟩,
    ⟨none, .store 1 (.tmp 26) (.tmp 24), none, []⟩]
def k36x4 : AC := .join 25
def k36x3 : AC := .seq (.cond (.tmp 12)
   (.seq (.ops false [
      ⟨(some 13), .move (.tmp 0), none, []⟩,
      ⟨(some 14), .nilCheck (.tmp 13), none, []⟩,
      ⟨(some 15), .fieldAddr 4 (.tmp 14), none, []⟩,
      ⟨(some 16), .load (.cell .sl) (.tmp 15), none, []⟩,
      ⟨(some 17), .lenSl (.tmp 16), none, []⟩,
      ⟨(some 4), .move (.tmp 17), none, []⟩]) k36x5)
   (.skip)) k36x4
def k36x7 : AC := .ops false [
    ⟨(some 35), .move (.tmp 0), none, []⟩,
    ⟨(some 36), .nilCheck (.tmp 35), none, []⟩,
    ⟨(some 37), .fieldAddr 0 (.tmp 36), none, []⟩,
    ⟨(some 38), .fieldAddr 0 (.tmp 37), none, []⟩,
    ⟨(some 39), .load (.cell .sl) (.tmp 38), none, []⟩,
    ⟨(some 40), .fieldAddr 0 (.tmp 3), none, []⟩,
    ⟨(some 41), .load (.cell (.int .i64)) (.tmp 40), none, []⟩,
    ⟨(some 42), .move (.tmp 0), none, []⟩,
    ⟨(some 43), .nilCheck (.tmp 42), none, []⟩,
    ⟨(some 44), .fieldAddr 0 (.tmp 43), none, []⟩,
    ⟨(some 45), .fieldAddr 1 (.tmp 44), none, []⟩,
    ⟨(some 46), .load (.cell .sl) (.tmp 45), none, []⟩,
    ⟨(some 47), .fieldAddr 0 (.tmp 3), none, []⟩,
    ⟨(some 48), .load (.cell (.int .i64)) (.tmp 47), none, []⟩,
    ⟨(some 49), .move (.tmp 4), none, []⟩,
    ⟨(some 50), .indexAddr 1 (.tmp 39) (.tmp 41), none, []⟩,
    ⟨none, .store 1 (.tmp 50) (.c (.int .i64 (-1))), none, [.load 1 47 none]⟩,
    ⟨(some 51), .indexAddr 1 (.tmp 46) (.tmp 48), none, []⟩,
    ⟨none, .store 1 (.tmp 51) (.tmp 49), none, []⟩]
def k36x2 : AC := .seq (.ops false [
    ⟨(some 27), .move (.tmp 0), none, []⟩,
    ⟨(some 28), .nilCheck (.tmp 27), none, []⟩,
    ⟨(some 29), .fieldAddr 4 (.tmp 28), none, []⟩,
    ⟨(some 30), .load (.cell .sl) (.tmp 29), none, []⟩,
    ⟨(some 31), .move (.tmp 4), none, []⟩,
    ⟨(some 32), .fieldAddr 2 (.tmp 3), none, []⟩,
    ⟨(some 33), .load (.cell (.int .i64)) (.tmp 32), none, []⟩,
    ⟨(some 34), .indexAddr 1 (.tmp 30) (.tmp 31), none, []⟩,
    ⟨none, .store 1 (.tmp 34) (.tmp 33), none, []⟩]) k36x7
def k36x1 : AC := .seq (.seq (.ops false [
    ⟨(some 11), .move (.tmp 4), none, []⟩,
    ⟨(some 12), .bin .other .lss (.tmp 11) (.c (.int .i64 0)), none, []⟩]) k36x3) k36x2
def k36x0 : AC := .seq (.ops false [
    ⟨(some 5), .move (.tmp 0), none, []⟩,
    ⟨(some 6), .nilCheck (.tmp 5), none, []⟩,
    ⟨(some 7), .fieldAddr 4 (.tmp 6), none, []⟩,
    ⟨(some 8), .load (.cell .sl) (.tmp 7), none, []⟩,
    ⟨(some 9), .makeFn 72 [] [(.tmp 3)], none, []⟩,
    ⟨(some 10), .call 71 [(.tmp 8), (.tmp 9)] [(.cell (.int .i64))] (.int .i64 0), none, []⟩,
    ⟨(some 4), .move (.tmp 10), none, []⟩]) k36x1
/-- (*provenance/linear.scan).slot -/
def c36 : AFn := ⟨52, [],
  .seq (.ops false [
    ⟨(some 3), .boxH (.tmp 1), none, []⟩]) k36x0⟩
theorem cf36 : cFn Try.prog 36 = some c36 := by kernel_rfl
def k37x8 : AC := .exit 0
def k37x7 : AC := .mask 38
def k37x6 : AC := .seq (.cond (.tmp 8)
   (.skip)
   (.seq (.mask 0) k37x8)) k37x7
def k37x14 : AC := .ret
def k37x13 : AC := .seq (.mask 16) k37x14
def k37x12 : AC := .mask 38
def k37x11 : AC := .seq (.cond (.tmp 17)
   (.seq (.ops false [
      ⟨(some 18), .load (.cell (.int .i64)) (.tmp 5), none, []⟩,
      ⟨(some 4), .move (.tmp 18), none, []⟩]) k37x13)
   (.skip)) k37x12
def k37x10 : AC := .mask 38
def k37x16 : AC := .ops false [
    ⟨(some 5), .allocH [(.int .i64 0)], none, []⟩,
    ⟨none, .store 1 (.tmp 5) (.tmp 19), none, []⟩]
def k37x15 : AC := .ops false [
    ⟨(some 9), .load (.cell (.int .i64)) (.tmp 5), none, []⟩,
    ⟨(some 10), .bin .other .add (.tmp 9) (.c (.int .i64 1)), none, []⟩,
    ⟨none, .store 1 (.tmp 5) (.tmp 10), none, []⟩]
def k37x9 : AC := .seq (.seq (.ops false [
    ⟨(some 19), .load (.cell (.int .i64)) (.tmp 5), none, []⟩]) k37x16) k37x15
def k37x5 : AC := .seq (.seq (.block 1 (.seq (.ops false [
     ⟨(some 11), .load (.cell .ptr) (.tmp 2), none, []⟩,
     ⟨(some 12), .nilCheck (.tmp 11), none, []⟩,
     ⟨(some 13), .fieldAddr 3 (.tmp 12), none, []⟩,
     ⟨(some 14), .load (.cell .sl) (.tmp 13), none, []⟩,
     ⟨(some 15), .makeFn 74 [] [(.tmp 2), (.tmp 5)], none, []⟩,
     ⟨(some 16), .call 73 [(.tmp 14), (.tmp 15)] [(.cell .bool)] (.bool false), none, []⟩,
     ⟨(some 17), .un .not (.tmp 16), none, []⟩]) k37x11)) k37x10) k37x9
def k37x4 : AC := .seq (.seq (.ops false [
    ⟨(some 6), .load (.cell (.int .i64)) (.tmp 5), none, []⟩,
    ⟨(some 7), .move (.tmp 1), none, []⟩,
    ⟨(some 8), .bin .other .leq (.tmp 6) (.tmp 7), none, []⟩]) k37x6) k37x5
def k37x3 : AC := .mask 0
def k37x2 : AC := .seq (.block 0 (.loop 38 0 k37x4)) k37x3
def k37x18 : AC := .ret
def k37x17 : AC := .seq (.mask 16) k37x18
def k37x1 : AC := .seq (.ops false [
    ⟨(some 4), .move (.c (.int .i64 0)), none, []⟩]) k37x17
def k37x0 : AC := .seq (.seq (.ops false [
    ⟨(some 5), .allocH [(.int .i64 0)], none, []⟩,
    ⟨none, .store 1 (.tmp 5) (.c (.int .i64 1)), none, []⟩]) k37x2) k37x1
/-- (*provenance/linear.scan).free -/
def c37 : AFn := ⟨20, [.tmp 4],
  .seq (.ops false [
    ⟨(some 2), .boxH (.tmp 0), none, []⟩,
    ⟨(some 4), .move (.c (.int .i64 0)), none, []⟩]) k37x0⟩
theorem cf37 : cFn Try.prog 37 = some c37 := by kernel_rfl
def k38x5 : AC := .join 81
def k38x4 : AC := .seq (.cond (.tmp 31)
   (.ops false [
      ⟨(some 32), .move (.tmp 0), none, []⟩,
      ⟨(some 33), .nilCheck (.tmp 32), none, []⟩,
      ⟨(some 34), .fieldAddr 3 (.tmp 33), none, []⟩,
      ⟨(some 35), .load (.cell .sl) (.tmp 34), none, []⟩,
      ⟨(some 36), .lenSl (.tmp 35), none, []⟩,
      ⟨(some 6), .move (.tmp 36), none, []⟩])
   (.skip)) k38x5
def k38x3 : AC := .ops false [
    ⟨(some 37), .move (.tmp 0), none, []⟩,
    ⟨(some 38), .move (.tmp 0), none, []⟩,
    ⟨(some 39), .nilCheck (.tmp 38), none, []⟩,
    ⟨(some 40), .fieldAddr 3 (.tmp 39), none, []⟩,
    ⟨(some 41), .load (.cell .sl) (.tmp 40), none, []⟩,
    ⟨(some 42), .move (.tmp 6), none, []⟩,
    ⟨(some 43), .load (.agg [(.int .i64), (.int .i64), (.int .i64), .bool]) (.tmp 4), none, []⟩,
    ⟨(some 44), .buildSl [(.int .i64 0), (.int .i64 0), (.int .i64 0), (.bool false)] 4 [(0, (.tmp 43))], none, []⟩,
    ⟨(some 45), .call 76 [(.tmp 41), (.tmp 42), (.tmp 44)] [(.cell .sl)] (.sl .nil 0), none, []⟩,
    ⟨(some 46), .nilCheck (.tmp 37), none, []⟩,
    ⟨(some 47), .fieldAddr 3 (.tmp 46), none, []⟩,
    ⟨none, .store 1 (.tmp 47) (.tmp 45), none, []⟩]
def k38x2 : AC := .seq (.seq (.ops false [
    ⟨(some 30), .move (.tmp 6), none, []⟩,
    ⟨(some 31), .bin .other .lss (.tmp 30) (.c (.int .i64 0)), none, []⟩]) k38x4) k38x3
def k38x1 : AC := .seq (.ops false [
    ⟨(some 24), .move (.tmp 0), none, []⟩,
    ⟨(some 25), .nilCheck (.tmp 24), none, []⟩,
    ⟨(some 26), .fieldAddr 3 (.tmp 25), none, []⟩,
    ⟨(some 27), .load (.cell .sl) (.tmp 26), none, []⟩,
    ⟨(some 28), .makeFn 75 [] [(.tmp 4)], none, []⟩,
    ⟨(some 29), .call 70 [(.tmp 27), (.tmp 28)] [(.cell (.int .i64))] (.int .i64 0), none, []⟩,
    ⟨(some 6), .move (.tmp 29), none, []⟩]) k38x2
def k38x0 : AC := .seq (.ops false [
    ⟨(some 7), .move (.tmp 0), none, []⟩,
    ⟨(some 8), .nilCheck (.tmp 7), none, []⟩,
    ⟨(some 9), .fieldAddr 0 (.tmp 8), none, []⟩,
    ⟨(some 10), .fieldAddr 0 (.tmp 9), none, []⟩,
    ⟨(some 11), .load (.cell .sl) (.tmp 10), none, []⟩,
    ⟨(some 12), .fieldAddr 0 (.tmp 4), none, []⟩,
    ⟨(some 13), .load (.cell (.int .i64)) (.tmp 12), none, []⟩,
    ⟨(some 14), .move (.tmp 0), none, []⟩,
    ⟨(some 15), .nilCheck (.tmp 14), none, []⟩,
    ⟨(some 16), .fieldAddr 0 (.tmp 15), none, []⟩,
    ⟨(some 17), .fieldAddr 1 (.tmp 16), none, []⟩,
    ⟨(some 18), .load (.cell .sl) (.tmp 17), none, []⟩,
    ⟨(some 19), .fieldAddr 0 (.tmp 4), none, []⟩,
    ⟨(some 20), .load (.cell (.int .i64)) (.tmp 19), none, []⟩,
    ⟨(some 21), .move (.tmp 2), none, []⟩,
    ⟨(some 22), .indexAddr 1 (.tmp 11) (.tmp 13), none, []⟩,
    ⟨none, .store 1 (.tmp 22) (.tmp 21), none, [.load 1 19 none]⟩,
    ⟨(some 23), .indexAddr 1 (.tmp 18) (.tmp 20), none, []⟩,
    ⟨none, .store 1 (.tmp 23) (.c (.int .i64 (-1))), none, []⟩]) k38x1
/-- (*provenance/linear.scan).enter -/
def c38 : AFn := ⟨48, [],
  .seq (.ops false [
    ⟨(some 4), .boxH (.tmp 1), none, []⟩]) k38x0⟩
theorem cf38 : cFn Try.prog 38 = some c38 := by kernel_rfl
def k39x1 : AC := .ops false [
    ⟨(some 15), .move (.tmp 0), none, []⟩,
    ⟨(some 16), .nilCheck (.tmp 15), none, []⟩,
    ⟨(some 17), .fieldAddr 0 (.tmp 16), none, []⟩,
    ⟨(some 18), .fieldAddr 0 (.tmp 17), none, []⟩,
    ⟨(some 19), .load (.cell .sl) (.tmp 18), none, []⟩,
    ⟨(some 20), .fieldAddr 0 (.tmp 3), none, []⟩,
    ⟨(some 21), .load (.cell (.int .i64)) (.tmp 20), none, []⟩,
    ⟨(some 22), .move (.tmp 0), none, []⟩,
    ⟨(some 23), .nilCheck (.tmp 22), none, []⟩,
    ⟨(some 24), .fieldAddr 0 (.tmp 23), none, []⟩,
    ⟨(some 25), .fieldAddr 1 (.tmp 24), none, []⟩,
    ⟨(some 26), .load (.cell .sl) (.tmp 25), none, []⟩,
    ⟨(some 27), .fieldAddr 0 (.tmp 3), none, []⟩,
    ⟨(some 28), .load (.cell (.int .i64)) (.tmp 27), none, []⟩,
    ⟨(some 29), .move (.tmp 0), none, []⟩,
    ⟨(some 30), .nilCheck (.tmp 29), none, []⟩,
    ⟨(some 31), .fieldAddr 4 (.tmp 30), none, []⟩,
    ⟨(some 32), .load (.cell .sl) (.tmp 31), none, []⟩,
    ⟨(some 33), .lenSl (.tmp 32), none, []⟩,
    ⟨(some 34), .bin .other .sub (.tmp 33) (.c (.int .i64 1)), none, []⟩,
    ⟨(some 35), .indexAddr 1 (.tmp 19) (.tmp 21), none, []⟩,
    ⟨none, .store 1 (.tmp 35) (.c (.int .i64 (-1))), none, [.load 1 27 none]⟩,
    ⟨(some 36), .indexAddr 1 (.tmp 26) (.tmp 28), none, []⟩,
    ⟨none, .store 1 (.tmp 36) (.tmp 34), none, []⟩]
def k39x0 : AC := .seq (.ops false [
    ⟨(some 4), .move (.tmp 0), none, []⟩,
    ⟨(some 5), .move (.tmp 0), none, []⟩,
    ⟨(some 6), .nilCheck (.tmp 5), none, []⟩,
    ⟨(some 7), .fieldAddr 4 (.tmp 6), none, []⟩,
    ⟨(some 8), .load (.cell .sl) (.tmp 7), none, []⟩,
    ⟨(some 9), .fieldAddr 2 (.tmp 3), none, []⟩,
    ⟨(some 10), .load (.cell (.int .i64)) (.tmp 9), none, []⟩,
    ⟨(some 11), .buildSl [(.int .i64 0)] 1 [(0, (.tmp 10))], none, []⟩,
    ⟨(some 12), .append [(.int .i64 0)] 1 8 (.tmp 8) (.tmp 11), none, []⟩,
    ⟨(some 13), .nilCheck (.tmp 4), none, []⟩,
    ⟨(some 14), .fieldAddr 4 (.tmp 13), none, []⟩,
    ⟨none, .store 1 (.tmp 14) (.tmp 12), none, []⟩]) k39x1
/-- (*provenance/linear.scan).spill -/
def c39 : AFn := ⟨37, [],
  .seq (.ops false [
    ⟨(some 3), .boxL (.tmp 1), none, []⟩]) k39x0⟩
theorem cf39 : cFn Try.prog 39 = some c39 := by kernel_rfl
def code : FuncId → Option AFn
  | 8 => some c8
  | 25 => some c25
  | 26 => some c26
  | 58 => some c58
  | 59 => some c59
  | 60 => some c60
  | 61 => some c61
  | 62 => some c62
  | 63 => some c63
  | 64 => some c64
  | 65 => some c65
  | 89 => some c89
  | 90 => some c90
  | 91 => some c91
  | 28 => some c28
  | 29 => some c29
  | 30 => some c30
  | 31 => some c31
  | 20 => some c20
  | 54 => some c54
  | 14 => some c14
  | 40 => some c40
  | 41 => some c41
  | 42 => some c42
  | 43 => some c43
  | 44 => some c44
  | 77 => some c77
  | 78 => some c78
  | 79 => some c79
  | 80 => some c80
  | 81 => some c81
  | 82 => some c82
  | 96 => some c96
  | 21 => some c21
  | 9 => some c9
  | 27 => some c27
  | 32 => some c32
  | 66 => some c66
  | 67 => some c67
  | 68 => some c68
  | 92 => some c92
  | 97 => some c97
  | 34 => some c34
  | 69 => some c69
  | 93 => some c93
  | 70 => some c70
  | 71 => some c71
  | 72 => some c72
  | 73 => some c73
  | 74 => some c74
  | 75 => some c75
  | 76 => some c76
  | 12 => some c12
  | 35 => some c35
  | 36 => some c36
  | 37 => some c37
  | 38 => some c38
  | 39 => some c39
  | _ => none
theorem code_ok (f : FuncId) (c : AFn) (h : code f = some c) : cFn Try.prog f = some c := by
  unfold code at h
  split at h
  · cases h; exact cf8
  · cases h; exact cf25
  · cases h; exact cf26
  · cases h; exact cf58
  · cases h; exact cf59
  · cases h; exact cf60
  · cases h; exact cf61
  · cases h; exact cf62
  · cases h; exact cf63
  · cases h; exact cf64
  · cases h; exact cf65
  · cases h; exact cf89
  · cases h; exact cf90
  · cases h; exact cf91
  · cases h; exact cf28
  · cases h; exact cf29
  · cases h; exact cf30
  · cases h; exact cf31
  · cases h; exact cf20
  · cases h; exact cf54
  · cases h; exact cf14
  · cases h; exact cf40
  · cases h; exact cf41
  · cases h; exact cf42
  · cases h; exact cf43
  · cases h; exact cf44
  · cases h; exact cf77
  · cases h; exact cf78
  · cases h; exact cf79
  · cases h; exact cf80
  · cases h; exact cf81
  · cases h; exact cf82
  · cases h; exact cf96
  · cases h; exact cf21
  · cases h; exact cf9
  · cases h; exact cf27
  · cases h; exact cf32
  · cases h; exact cf66
  · cases h; exact cf67
  · cases h; exact cf68
  · cases h; exact cf92
  · cases h; exact cf97
  · cases h; exact cf34
  · cases h; exact cf69
  · cases h; exact cf93
  · cases h; exact cf70
  · cases h; exact cf71
  · cases h; exact cf72
  · cases h; exact cf73
  · cases h; exact cf74
  · cases h; exact cf75
  · cases h; exact cf76
  · cases h; exact cf12
  · cases h; exact cf35
  · cases h; exact cf36
  · cases h; exact cf37
  · cases h; exact cf38
  · cases h; exact cf39
  · cases h
end Go.Proofs.Ytnmdadadjneaiaa.D
