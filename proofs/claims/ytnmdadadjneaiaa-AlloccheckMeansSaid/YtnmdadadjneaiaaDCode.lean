/- The code of functions, as constants. -/
import Derived.Test.YtnmdadadjneaiaaLibE
import Derived.Test.YtnmdadadjneaiaaProg
import Derived.KernelRfl
set_option linter.unusedVariables false
set_option maxRecDepth 100000
namespace Go.Proofs.Ytnmdadadjneaiaa.D
open Go Go.Proofs.Ytnmdadadjneaiaa.Abs Abs.Sh Go.Proofs
def k8x4 : AC := .ret
def k8x3 : AC := .seq (.mask 1) k8x4
def k8x2 : AC := .seq (.ops true [
 o 15 (.move (t 2)),
 o 16 (.bin .other .eql (t 15) (c 0)),
 o 17 (.move (t 16)),
 g 18 17 (.move (t 4)),
 g 19 17 (.bin .other .eql (t 18) (c 0)),
 o 20 (.pick (t 17) (t 19) (.c (.bool false))),
 o 21 (.move (t 20)),
 g 22 21 (.fieldAddr 0 (t 1)),
 g 23 21 (.load (.cell .sl) (t 22)),
 g 24 21 (.lenSl (t 23)),
 g 25 21 (.bin .other .eql (t 24) (c 2)),
 o 26 (.pick (t 21) (t 25) (.c (.bool false))),
 o 27 (.move (t 26)),
 g 28 27 (.fieldAddr 0 (t 1)),
 g 29 27 (.load (.cell .sl) (t 28)),
 g 30 27 (.indexAddr 1 (t 29) (c 1)),
 g 31 27 (.load I (t 30)),
 g 32 27 (.bin .other .eql (t 31) (c 1)),
 o 33 (.pick (t 27) (t 32) (.c (.bool false))),
 o 34 (.move (t 33)),
 g 35 34 (.fieldAddr 0 (t 3)),
 g 36 34 (.load (.cell .sl) (t 35)),
 g 37 34 (.lenSl (t 36)),
 g 38 34 (.bin .other .eql (t 37) (c 2)),
 o 39 (.pick (t 34) (t 38) (.c (.bool false))),
 o 40 (.move (t 39)),
 g 41 40 (.fieldAddr 0 (t 3)),
 g 42 40 (.load (.cell .sl) (t 41)),
 g 43 40 (.indexAddr 1 (t 42) (c 1)),
 g 44 40 (.load I (t 43)),
 g 45 40 (.bin .other .eql (t 44) (c 1)),
 o 46 (.pick (t 40) (t 45) (.c (.bool false))),
 o 0 (.move (t 46))]) k8x3
def k8x1 : AC := .seq (.ops false [
 o 11 (.call 25 [] [(.agg [(.int .i64), .sl, (.int .i64), .sl])] (.agg [(.int .i64 0), (.sl .nil 0), (.int .i64 0), (.sl .nil 0)])),
 o 12 (.call 12 [(t 11), (c 1)] [(.agg [.sl, .sl, (.int .i64)]), I] .opq),
 o 10 (.move (t 12)),
 o 13 (.extract (t 10) 0),
 o 14 (.extract (t 10) 1),
 o 3 (.allocL [(.sl .nil 0), (.sl .nil 0), (.int .i64 0)]),
 u (.store 3 (t 3) (t 13)),
 o 4 (.move (t 14))]) k8x2
def k8x0 : AC := .seq (.ops false [
 o 6 (.call 25 [] [(.agg [(.int .i64), .sl, (.int .i64), .sl])] (.agg [(.int .i64 0), (.sl .nil 0), (.int .i64 0), (.sl .nil 0)])),
 o 7 (.call 14 [(t 6), (c 1)] [(.agg [.sl, .sl, (.int .i64)]), I] .opq),
 o 5 (.move (t 7)),
 o 8 (.extract (t 5) 0),
 o 9 (.extract (t 5) 1),
 o 1 (.allocL [(.sl .nil 0), (.sl .nil 0), (.int .i64 0)]),
 u (.store 3 (t 1) (t 8)),
 o 2 (.move (t 9))]) k8x1
def c8 : AFn := ⟨47, [.tmp 0],
 .seq (.ops false [
 o 0 (.move (.c (.bool false)))]) k8x0⟩
theorem cf8 : cFn Try.prog 8 = some c8 := by kernel_rfl
def k25x2 : AC := .ret
def k25x1 : AC := .seq (.mask 1) k25x2
def k25x0 : AC := .seq (.ops false [
 o 1 (.buildSl [(.int .i64 0)] 1 [(0, (c 1))]),
 o 2 (.build [(.int .i64 0), (.int .i64 0), (.int .i64 0), (.int .i64 0), (.int .i64 0), (.sl .nil 0)] [(0, 1, (c 0)), (2, 1, (c 1))]),
 o 3 (.build [(.sl .nil 0), (.int .i64 0), (.int .i64 0), (.int .i64 0), (.int .i64 0), (.int .i64 0), (.sl .nil 0)] [(1, 6, (t 2))]),
 o 4 (.buildSl [(.sl .nil 0), (.int .i64 0), (.int .i64 0), (.int .i64 0), (.int .i64 0), (.int .i64 0), (.sl .nil 0)] 7 [(0, (t 3))]),
 o 5 (.build [(.int .i64 0), (.sl .nil 0), (.int .i64 0), (.sl .nil 0)] [(1, 1, (t 1)), (2, 1, (c 2)), (3, 1, (t 4))]),
 u (.store 4 (t 0) (t 5))]) k25x1
def c25 : AFn := ⟨6, [.cell 0 (.agg [(.int .i64), .sl, (.int .i64), .sl])],
 .seq (.ops false [
 o 0 (.allocL [(.int .i64 0), (.sl .nil 0), (.int .i64 0), (.sl .nil 0)])]) k25x0⟩
theorem cf25 : cFn Try.prog 25 = some c25 := by kernel_rfl
def k26x5 : AC := .ret
def k26x4 : AC := .seq (.mask 4) k26x5
def k26x3 : AC := .mask 2
def k26x2 : AC := .seq (.cond (.tmp 29)
 (.seq (.ops false [
 o 2 (.move (c 2))]) k26x4)
  (.skip)) k26x3
def k26x10 : AC := .ret
def k26x9 : AC := .seq (.mask 4) k26x10
def k26x8 : AC := .mask 2
def k26x7 : AC := .seq (.cond (.tmp 33)
 (.seq (.ops false [
 o 2 (.move (c 3))]) k26x9)
  (.skip)) k26x8
def k26x18 : AC := .exit 0
def k26x17 : AC := .mask 240518168578
def k26x26 : AC := .ret
def k26x25 : AC := .seq (.mask 4) k26x26
def k26x24 : AC := .mask 240518168602
def k26x23 : AC := .seq (.cond (.tmp 47)
 (.seq (.ops false [
 o 2 (.move (c 6))]) k26x25)
  (.skip)) k26x24
def k26x30 : AC := .ret
def k26x29 : AC := .seq (.mask 4) k26x30
def k26x28 : AC := .mask 240518168578
def k26x27 : AC := .seq (.cond (.tmp 53)
 (.seq (.ops false [
 o 2 (.move (c 7))]) k26x29)
  (.skip)) k26x28
def k26x22 : AC := .seq (.ops false [
 o 48 (.fieldAddr 1 (t 1)),
 o 49 (.load (.cell .sl) (t 48)),
 o 50 (.move (t 3)),
 o 51 (.slice 1 (t 49) none (some (t 50))),
 o 52 (.move (t 4)),
 o 53 (.call 20 [(t 51), (t 52)] [(.cell .bool)] (.bool false))]) k26x27
def k26x21 : AC := .seq (.seq (.ops false [
 o 42 (.move (t 4)),
 o 43 (.fieldAddr 2 (t 1)),
 o 44 (.load I (t 43)),
 o 45 (.bin .other .sub (t 44) (c 1)),
 o 46 (.call 58 [(t 42), (c 1), (t 45)] [(.cell .bool)] (.bool false)),
 o 47 (.un .not (t 46))]) k26x23) k26x22
def k26x20 : AC := .mask 240518168578
def k26x19 : AC := .ops false [
 o 54 (.bin .other .add (t 37) (c 1)),
 o 37 (.move (t 54))]
def k26x16 : AC := .seq (.seq (.block 1 (.seq (.ops false [
 o 39 (.move (t 37)),
 o 40 (.indexAddr 1 (t 35) (t 37)),
 o 41 (.load I (t 40)),
 o 3 (.move (t 39)),
 o 4 (.move (t 41))]) k26x21)) k26x20) k26x19
def k26x15 : AC := .seq (.seq (.cond (.tmp 38)
 (.skip)
 (.seq (.mask 2) k26x18)) k26x17) k26x16
def k26x14 : AC := .seq (.ops false [
 o 38 (.bin .other .lss (t 37) (t 36))]) k26x15
def k26x13 : AC := .mask 2
def k26x12 : AC := .seq (.block 0 (.loop 240518168578 2 k26x14)) k26x13
def k26x39 : AC := .exit 2
def k26x38 : AC := .mask 504403158265495586
def k26x48 : AC := .ret
def k26x47 : AC := .seq (.mask 4) k26x48
def k26x46 : AC := .mask 504403158265495714
def k26x45 : AC := .seq (.cond (.tmp 68)
 (.seq (.ops false [
 o 2 (.move (c 2))]) k26x47)
  (.skip)) k26x46
def k26x44 : AC := .seq (.ops false [
 o 67 (.move (t 5)),
 o 68 (.bin .other .gtr (t 67) (c 4096))]) k26x45
def k26x56 : AC := .exit 4
def k26x55 : AC := .mask 8264645748180144619682
def k26x64 : AC := .ret
def k26x63 : AC := .seq (.mask 4) k26x64
def k26x62 : AC := .mask 8264645748180144619682
def k26x61 : AC := .seq (.cond (.tmp 81)
 (.seq (.ops false [
 o 82 (.move (t 10)),
 o 2 (.move (t 82))]) k26x63)
  (.skip)) k26x62
def k26x60 : AC := .seq (.ops false [
 o 80 (.move (t 10)),
 o 81 (.bin .other .neq (t 80) (c 0))]) k26x61
def k26x59 : AC := .seq (.ops false [
 o 76 (.load (.agg [(.int .i64), (.int .i64), (.int .i64), (.int .i64), (.int .i64), .sl]) (t 9)),
 o 77 (.fieldAddr 2 (t 1)),
 o 78 (.load I (t 77)),
 o 79 (.call 59 [(t 76), (t 78)] [I] (.int .i64 0)),
 o 10 (.move (t 79))]) k26x60
def k26x58 : AC := .mask 8264645748180144619682
def k26x57 : AC := .ops false [
 o 83 (.bin .other .add (t 72) (c 1)),
 o 72 (.move (t 83))]
def k26x54 : AC := .seq (.seq (.block 5 (.seq (.ops false [
 o 74 (.indexAddr 6 (t 70) (t 72)),
 o 75 (.load (.agg [(.int .i64), (.int .i64), (.int .i64), (.int .i64), (.int .i64), .sl]) (t 74)),
 o 9 (.allocL [(.int .i64 0), (.int .i64 0), (.int .i64 0), (.int .i64 0), (.int .i64 0), (.sl .nil 0)]),
 u (.store 6 (t 9) (t 75))]) k26x59)) k26x58) k26x57
def k26x53 : AC := .seq (.seq (.cond (.tmp 73)
 (.skip)
 (.seq (.mask 504403158265495714) k26x56)) k26x55) k26x54
def k26x52 : AC := .seq (.ops false [
 o 73 (.bin .other .lss (t 72) (t 71))]) k26x53
def k26x51 : AC := .mask 504403158265495714
def k26x50 : AC := .seq (.block 4 (.loop 8264645748180144619682 504403158265495714 k26x52)) k26x51
def k26x69 : AC := .ret
def k26x68 : AC := .seq (.mask 4) k26x69
def k26x67 : AC := .mask 504403158265495586
def k26x66 : AC := .seq (.cond (.tmp 93)
 (.seq (.ops false [
 o 94 (.move (t 11)),
 o 2 (.move (t 94))]) k26x68)
  (.skip)) k26x67
def k26x65 : AC := .seq (.ops false [
 o 92 (.move (t 11)),
 o 93 (.bin .other .neq (t 92) (c 0))]) k26x66
def k26x49 : AC := .seq (.ops false [
 o 84 (.fieldAddr 1 (t 7)),
 o 85 (.load (.agg [(.int .i64), (.int .i64), (.int .i64), (.int .i64), (.int .i64), .sl]) (t 84)),
 o 86 (.fieldAddr 2 (t 1)),
 o 87 (.load I (t 86)),
 o 88 (.fieldAddr 3 (t 1)),
 o 89 (.load (.cell .sl) (t 88)),
 o 90 (.lenSl (t 89)),
 o 91 (.call 60 [(t 85), (t 87), (t 90)] [I] (.int .i64 0)),
 o 11 (.move (t 91))]) k26x65
def k26x43 : AC := .seq (.seq (.ops false [
 o 69 (.fieldAddr 0 (t 7)),
 o 70 (.load (.cell .sl) (t 69)),
 o 71 (.lenSl (t 70)),
 o 72 (.move (c 0))]) k26x50) k26x49
def k26x42 : AC := .seq (.seq (.ops false [
 o 62 (.move (t 5)),
 o 63 (.fieldAddr 0 (t 7)),
 o 64 (.load (.cell .sl) (t 63)),
 o 65 (.lenSl (t 64)),
 o 66 (.bin .other .add (t 62) (t 65)),
 o 5 (.move (t 66))]) k26x44) k26x43
def k26x41 : AC := .mask 504403158265495586
def k26x40 : AC := .ops false [
 o 95 (.bin .other .add (t 58) (c 1)),
 o 58 (.move (t 95))]
def k26x37 : AC := .seq (.seq (.block 3 (.seq (.ops false [
 o 60 (.indexAddr 7 (t 56) (t 58)),
 o 61 (.load (.agg [.sl, (.int .i64), (.int .i64), (.int .i64), (.int .i64), (.int .i64), .sl]) (t 60)),
 o 7 (.allocL [(.sl .nil 0), (.int .i64 0), (.int .i64 0), (.int .i64 0), (.int .i64 0), (.int .i64 0), (.sl .nil 0)]),
 u (.store 7 (t 7) (t 61))]) k26x42)) k26x41) k26x40
def k26x36 : AC := .seq (.seq (.cond (.tmp 59)
 (.skip)
 (.seq (.mask 2) k26x39)) k26x38) k26x37
def k26x35 : AC := .seq (.ops false [
 o 59 (.bin .other .lss (t 58) (t 57))]) k26x36
def k26x34 : AC := .mask 2
def k26x33 : AC := .seq (.block 2 (.loop 504403158265495586 2 k26x35)) k26x34
def k26x78 : AC := .exit 6
def k26x77 : AC := .mask 12290
def k26x76 : AC := .seq (.cond (.tmp 101)
 (.skip)
 (.seq (.mask 0) k26x78)) k26x77
def k26x84 : AC := .ret
def k26x83 : AC := .seq (.mask 4) k26x84
def k26x82 : AC := .mask 12290
def k26x81 : AC := .seq (.cond (.tmp 116)
 (.seq (.ops false [
 o 2 (.move (c 12))]) k26x83)
  (.skip)) k26x82
def k26x80 : AC := .mask 12290
def k26x79 : AC := .ops false [
 o 102 (.move (t 13)),
 o 103 (.bin .other .add (t 102) (c 1)),
 o 13 (.move (t 103))]
def k26x75 : AC := .seq (.seq (.block 7 (.seq (.ops true [
 o 104 (.move (t 12)),
 o 105 (.indexAddr 1 (t 104) (c 0)),
 o 106 (.load (.cell .sl) (t 105)),
 o 107 (.move (t 13)),
 o 108 (.indexAddr 1 (t 106) (t 107)),
 o 109 (.load (.cell .bool) (t 108)),
 o 110 (.move (t 109)),
 g 111 110 (.fieldAddr 1 (t 1)),
 g 112 110 (.load (.cell .sl) (t 111)),
 g 113 110 (.move (t 13)),
 g 114 110 (.call 20 [(t 112), (t 113)] [(.cell .bool)] (.bool false)),
 g 115 110 (.un .not (t 114)),
 o 116 (.pick (t 110) (t 115) (.c (.bool false)))]) k26x81)) k26x80) k26x79
def k26x74 : AC := .seq (.seq (.ops false [
 o 98 (.move (t 13)),
 o 99 (.fieldAddr 2 (t 1)),
 o 100 (.load I (t 99)),
 o 101 (.bin .other .lss (t 98) (t 100))]) k26x76) k26x75
def k26x73 : AC := .mask 0
def k26x72 : AC := .seq (.block 6 (.loop 12290 0 k26x74)) k26x73
def k26x86 : AC := .ret
def k26x85 : AC := .seq (.mask 4) k26x86
def k26x71 : AC := .seq (.ops false [
 o 2 (.move (c 0))]) k26x85
def k26x70 : AC := .seq (.seq (.ops false [
 o 13 (.move (c 1))]) k26x72) k26x71
def k26x32 : AC := .seq (.ops false [
 o 96 (.load (.agg [(.int .i64), .sl, (.int .i64), .sl]) (t 1)),
 o 97 (.call 61 [(t 96)] [(.cell .sl)] (.sl .nil 0)),
 o 12 (.move (t 97))]) k26x70
def k26x31 : AC := .seq (.seq (.ops false [
 o 55 (.fieldAddr 3 (t 1)),
 o 56 (.load (.cell .sl) (t 55)),
 o 57 (.lenSl (t 56)),
 o 58 (.move (c 0))]) k26x33) k26x32
def k26x11 : AC := .seq (.ops false [
 o 5 (.move (c 0))]) k26x31
def k26x6 : AC := .seq (.seq (.ops false [
 o 34 (.fieldAddr 1 (t 1)),
 o 35 (.load (.cell .sl) (t 34)),
 o 36 (.lenSl (t 35)),
 o 37 (.move (c 0))]) k26x12) k26x11
def k26x1 : AC := .seq (.seq (.ops false [
 o 30 (.fieldAddr 3 (t 1)),
 o 31 (.load (.cell .sl) (t 30)),
 o 32 (.lenSl (t 31)),
 o 33 (.bin .other .eql (t 32) (c 0))]) k26x7) k26x6
def k26x0 : AC := .seq (.seq (.ops true [
 o 14 (.fieldAddr 1 (t 1)),
 o 15 (.load (.cell .sl) (t 14)),
 o 16 (.lenSl (t 15)),
 o 17 (.bin .other .gtr (t 16) (c 6)),
 o 18 (.move (t 17)),
 f 19 18 (.fieldAddr 3 (t 1)),
 f 20 18 (.load (.cell .sl) (t 19)),
 f 21 18 (.lenSl (t 20)),
 f 22 18 (.bin .other .gtr (t 21) (c 4096)),
 o 23 (.pick (t 18) (.c (.bool true)) (t 22)),
 o 24 (.move (t 23)),
 f 25 24 (.fieldAddr 2 (t 1)),
 f 26 24 (.load I (t 25)),
 f 27 24 (.call 58 [(t 26), (c 1), (c 8192)] [(.cell .bool)] (.bool false)),
 f 28 24 (.un .not (t 27)),
 o 29 (.pick (t 24) (.c (.bool true)) (t 28))]) k26x2) k26x1
def c26 : AFn := ⟨117, [.tmp 2],
 .seq (.ops false [
 o 1 (.boxL (t 0)),
 o 2 (.move (c 0))]) k26x0⟩
theorem cf26 : cFn Try.prog 26 = some c26 := by kernel_rfl
def k58x2 : AC := .ret
def k58x1 : AC := .seq (.mask 64) k58x2
def k58x0 : AC := .seq (.ops true [
 o 7 (.move (t 0)),
 o 8 (.move (t 1)),
 o 9 (.bin .other .geq (t 7) (t 8)),
 o 10 (.move (t 9)),
 g 11 10 (.move (t 0)),
 g 12 10 (.move (t 2)),
 g 13 10 (.bin .other .leq (t 11) (t 12)),
 o 14 (.pick (t 10) (t 13) (.c (.bool false))),
 o 6 (.move (t 14))]) k58x1
def c58 : AFn := ⟨15, [.tmp 6],
 .seq (.ops false [
 o 6 (.move (.c (.bool false)))]) k58x0⟩
theorem cf58 : cFn Try.prog 58 = some c58 := by kernel_rfl
def k59x6 : AC := .ret
def k59x5 : AC := .seq (.mask 16) k59x6
def k59x4 : AC := .mask 38
def k59x3 : AC := .seq (.cond (.tmp 16)
 (.seq (.ops false [
 o 4 (.move (c 1))]) k59x5)
  (.skip)) k59x4
def k59x11 : AC := .ret
def k59x10 : AC := .seq (.mask 16) k59x11
def k59x9 : AC := .mask 6
def k59x8 : AC := .seq (.cond (.tmp 65)
 (.seq (.ops false [
 o 4 (.move (c 3))]) k59x10)
  (.skip)) k59x9
def k59x16 : AC := .ret
def k59x15 : AC := .seq (.mask 16) k59x16
def k59x14 : AC := .mask 6
def k59x13 : AC := .seq (.cond (.tmp 118)
 (.seq (.ops false [
 o 4 (.move (c 4))]) k59x15)
  (.skip)) k59x14
def k59x24 : AC := .exit 0
def k59x23 : AC := .mask 2381976568446569244243622252022377480194
def k59x31 : AC := .ret
def k59x30 : AC := .seq (.mask 16) k59x31
def k59x29 : AC := .mask 2381976568446569244243622252022377480194
def k59x28 : AC := .seq (.cond (.tmp 138)
 (.seq (.ops false [
 o 4 (.move (c 6))]) k59x30)
  (.skip)) k59x29
def k59x27 : AC := .seq (.ops false [
 o 134 (.move (t 8)),
 o 135 (.move (t 1)),
 o 136 (.bin .other .sub (t 135) (c 1)),
 o 137 (.call 58 [(t 134), (c 0), (t 136)] [(.cell .bool)] (.bool false)),
 o 138 (.un .not (t 137))]) k59x28
def k59x26 : AC := .mask 2381976568446569244243622252022377480194
def k59x25 : AC := .ops false [
 o 139 (.bin .other .add (t 130) (c 1)),
 o 130 (.move (t 139))]
def k59x22 : AC := .seq (.seq (.block 1 (.seq (.ops false [
 o 132 (.indexAddr 1 (t 128) (t 130)),
 o 133 (.load I (t 132)),
 o 8 (.move (t 133))]) k59x27)) k59x26) k59x25
def k59x21 : AC := .seq (.seq (.cond (.tmp 131)
 (.skip)
 (.seq (.mask 0) k59x24)) k59x23) k59x22
def k59x20 : AC := .seq (.ops false [
 o 131 (.bin .other .lss (t 130) (t 129))]) k59x21
def k59x19 : AC := .mask 0
def k59x18 : AC := .seq (.block 0 (.loop 2381976568446569244243622252022377480194 0 k59x20)) k59x19
def k59x33 : AC := .ret
def k59x32 : AC := .seq (.mask 16) k59x33
def k59x17 : AC := .seq (.ops false [
 o 4 (.move (c 0))]) k59x32
def k59x12 : AC := .seq (.seq (.ops false [
 o 119 (.fieldAddr 1 (t 2)),
 o 120 (.load I (t 119)),
 o 121 (.fieldAddr 2 (t 2)),
 o 122 (.load I (t 121)),
 o 123 (.fieldAddr 3 (t 2)),
 o 124 (.load I (t 123)),
 o 125 (.buildSl [(.int .i64 0), (.int .i64 0), (.int .i64 0)] 1 [(0, (t 120)), (1, (t 122)), (2, (t 124))]),
 o 126 (.fieldAddr 5 (t 2)),
 o 127 (.load (.cell .sl) (t 126)),
 o 128 (.append [(.int .i64 0)] 1 8 (t 125) (t 127)),
 o 129 (.lenSl (t 128)),
 o 130 (.move (c 0))]) k59x18) k59x17
def k59x7 : AC := .seq (.seq (.ops true [
 o 66 (.fieldAddr 5 (t 2)),
 o 67 (.load (.cell .sl) (t 66)),
 o 68 (.lenSl (t 67)),
 o 69 (.bin .other .gtr (t 68) (c 6)),
 o 70 (.move (t 69)),
 f 71 70 (.fieldAddr 4 (t 2)),
 f 72 70 (.load I (t 71)),
 f 73 70 (.call 58 [(t 72), (c (-2147483648)), (c 2147483647)] [(.cell .bool)] (.bool false)),
 f 74 70 (.un .not (t 73)),
 o 75 (.pick (t 70) (.c (.bool true)) (t 74)),
 o 76 (.move (t 75)),
 f 77 76 (.fieldAddr 0 (t 2)),
 f 78 76 (.load I (t 77)),
 f 79 76 (.bin .other .eql (t 78) (c 101)),
 f 80 76 (.move (t 79)),
 f 81 80 (.fieldAddr 0 (t 2)),
 f 82 80 (.load I (t 81)),
 f 83 80 (.bin .other .eql (t 82) (c 103)),
 f 84 76 (.pick (t 80) (.c (.bool true)) (t 83)),
 f 85 76 (.move (t 84)),
 g 86 85 (.fieldAddr 4 (t 2)),
 g 87 85 (.load I (t 86)),
 g 88 85 (.call 58 [(t 87), (c 0), (c 255)] [(.cell .bool)] (.bool false)),
 g 89 85 (.un .not (t 88)),
 f 90 76 (.pick (t 85) (t 89) (.c (.bool false))),
 o 91 (.pick (t 76) (.c (.bool true)) (t 90)),
 o 92 (.move (t 91)),
 f 93 92 (.fieldAddr 0 (t 2)),
 f 94 92 (.load I (t 93)),
 f 95 92 (.bin .other .eql (t 94) (c 9)),
 f 96 92 (.move (t 95)),
 f 97 96 (.fieldAddr 0 (t 2)),
 f 98 96 (.load I (t 97)),
 f 99 96 (.bin .other .eql (t 98) (c 10)),
 f 100 92 (.pick (t 96) (.c (.bool true)) (t 99)),
 f 101 92 (.move (t 100)),
 g 102 101 (.fieldAddr 4 (t 2)),
 g 103 101 (.load I (t 102)),
 g 104 101 (.call 58 [(t 103), (c 0), (c 31)] [(.cell .bool)] (.bool false)),
 g 105 101 (.un .not (t 104)),
 f 106 92 (.pick (t 101) (t 105) (.c (.bool false))),
 o 107 (.pick (t 92) (.c (.bool true)) (t 106)),
 o 108 (.move (t 107)),
 f 109 108 (.fieldAddr 0 (t 2)),
 f 110 108 (.load I (t 109)),
 f 111 108 (.bin .other .eql (t 110) (c 14)),
 f 112 108 (.move (t 111)),
 g 113 112 (.fieldAddr 4 (t 2)),
 g 114 112 (.load I (t 113)),
 g 115 112 (.call 58 [(t 114), (c 0), (c 4095)] [(.cell .bool)] (.bool false)),
 g 116 112 (.un .not (t 115)),
 f 117 108 (.pick (t 112) (t 116) (.c (.bool false))),
 o 118 (.pick (t 108) (.c (.bool true)) (t 117))]) k59x13) k59x12
def k59x2 : AC := .seq (.seq (.ops true [
 o 17 (.fieldAddr 0 (t 5)),
 o 18 (.load (.cell .bool) (t 17)),
 o 19 (.un .not (t 18)),
 o 20 (.move (t 19)),
 g 21 20 (.fieldAddr 1 (t 2)),
 g 22 20 (.load I (t 21)),
 g 23 20 (.bin .other .neq (t 22) (c 0)),
 o 24 (.pick (t 20) (t 23) (.c (.bool false))),
 o 25 (.move (t 24)),
 f 26 25 (.fieldAddr 1 (t 5)),
 f 27 25 (.load (.cell .bool) (t 26)),
 f 28 25 (.un .not (t 27)),
 f 29 25 (.move (t 28)),
 g 30 29 (.fieldAddr 2 (t 2)),
 g 31 29 (.load I (t 30)),
 g 32 29 (.bin .other .neq (t 31) (c 0)),
 f 33 25 (.pick (t 29) (t 32) (.c (.bool false))),
 o 34 (.pick (t 25) (.c (.bool true)) (t 33)),
 o 35 (.move (t 34)),
 f 36 35 (.fieldAddr 2 (t 5)),
 f 37 35 (.load (.cell .bool) (t 36)),
 f 38 35 (.un .not (t 37)),
 f 39 35 (.move (t 38)),
 g 40 39 (.fieldAddr 3 (t 2)),
 g 41 39 (.load I (t 40)),
 g 42 39 (.bin .other .neq (t 41) (c 0)),
 f 43 35 (.pick (t 39) (t 42) (.c (.bool false))),
 o 44 (.pick (t 35) (.c (.bool true)) (t 43)),
 o 45 (.move (t 44)),
 f 46 45 (.fieldAddr 3 (t 5)),
 f 47 45 (.load (.cell .bool) (t 46)),
 f 48 45 (.un .not (t 47)),
 f 49 45 (.move (t 48)),
 g 50 49 (.fieldAddr 4 (t 2)),
 g 51 49 (.load I (t 50)),
 g 52 49 (.bin .other .neq (t 51) (c 0)),
 f 53 45 (.pick (t 49) (t 52) (.c (.bool false))),
 o 54 (.pick (t 45) (.c (.bool true)) (t 53)),
 o 55 (.move (t 54)),
 f 56 55 (.fieldAddr 4 (t 5)),
 f 57 55 (.load (.cell .bool) (t 56)),
 f 58 55 (.un .not (t 57)),
 f 59 55 (.move (t 58)),
 g 60 59 (.fieldAddr 5 (t 2)),
 g 61 59 (.load (.cell .sl) (t 60)),
 g 62 59 (.lenSl (t 61)),
 g 63 59 (.bin .other .gtr (t 62) (c 0)),
 f 64 55 (.pick (t 59) (t 63) (.c (.bool false))),
 o 65 (.pick (t 55) (.c (.bool true)) (t 64))]) k59x8) k59x7
def k59x1 : AC := .seq (.seq (.ops false [
 o 15 (.move (t 6)),
 o 16 (.un .not (t 15))]) k59x3) k59x2
def k59x0 : AC := .seq (.ops false [
 o 10 (.fieldAddr 0 (t 2)),
 o 11 (.load I (t 10)),
 o 12 (.call 89 [(t 11)] [(.agg [.bool, .bool, .bool, .bool, .bool]), (.cell .bool)] .opq),
 o 9 (.move (t 12)),
 o 13 (.extract (t 9) 0),
 o 14 (.extract (t 9) 1),
 o 5 (.allocL [(.bool false), (.bool false), (.bool false), (.bool false), (.bool false)]),
 u (.store 5 (t 5) (t 13)),
 o 6 (.move (t 14))]) k59x1
def c59 : AFn := ⟨140, [.tmp 4],
 .seq (.ops false [
 o 2 (.boxL (t 0)),
 o 4 (.move (c 0))]) k59x0⟩
theorem cf59 : cFn Try.prog 59 = some c59 := by kernel_rfl
def k60x14 : AC := .ret
def k60x13 : AC := .seq (.mask 64) k60x14
def k60x12 : AC := .mask 398
def k60x11 : AC := .seq (.cond (.tmp 68)
 (.ops true [
 o 70 (.fieldAddr 1 (t 3)),
 o 71 (.load I (t 70)),
 o 72 (.bin .other .eql (t 71) (c 0)),
 o 73 (.move (t 72)),
 g 74 73 (.fieldAddr 2 (t 3)),
 g 75 73 (.load I (t 74)),
 g 76 73 (.bin .other .eql (t 75) (c 0)),
 o 77 (.pick (t 73) (t 76) (.c (.bool false))),
 o 78 (.move (t 77)),
 g 79 78 (.fieldAddr 3 (t 3)),
 g 80 78 (.load I (t 79)),
 g 81 78 (.bin .other .eql (t 80) (c 0)),
 o 82 (.pick (t 78) (t 81) (.c (.bool false))),
 o 83 (.move (t 82)),
 g 84 83 (.fieldAddr 4 (t 3)),
 g 85 83 (.load I (t 84)),
 g 86 83 (.call 58 [(t 85), (c 1), (c 6)] [(.cell .bool)] (.bool false)),
 o 87 (.pick (t 83) (t 86) (.c (.bool false))),
 o 8 (.move (t 87))])
  (.seq (.ops false [
 o 6 (.move (c 1))]) k60x13)) k60x12
def k60x10 : AC := .join 398
def k60x9 : AC := .seq (.cond (.tmp 48)
 (.ops true [
 o 50 (.fieldAddr 1 (t 3)),
 o 51 (.load I (t 50)),
 o 52 (.bin .other .eql (t 51) (c 16)),
 o 53 (.move (t 52)),
 f 54 53 (.fieldAddr 1 (t 3)),
 f 55 53 (.load I (t 54)),
 f 56 53 (.bin .other .eql (t 55) (c 17)),
 o 57 (.pick (t 53) (.c (.bool true)) (t 56)),
 o 58 (.move (t 57)),
 f 59 58 (.fieldAddr 1 (t 3)),
 f 60 58 (.load I (t 59)),
 f 61 58 (.bin .other .eql (t 60) (c 18)),
 o 62 (.pick (t 58) (.c (.bool true)) (t 61)),
 o 63 (.move (t 62)),
 g 64 63 (.fieldAddr 4 (t 3)),
 g 65 63 (.load I (t 64)),
 g 66 63 (.bin .other .eql (t 65) (c 0)),
 o 67 (.pick (t 63) (t 66) (.c (.bool false))),
 o 7 (.move (c 2)),
 o 8 (.move (t 67))])
  (.seq (.ops false [
 o 69 (.bin .other .eql (t 12) (c 3)),
 o 68 (.move (t 69))]) k60x11)) k60x10
def k60x8 : AC := .join 398
def k60x7 : AC := .seq (.cond (.tmp 28)
 (.ops true [
 o 30 (.fieldAddr 1 (t 3)),
 o 31 (.load I (t 30)),
 o 32 (.bin .other .eql (t 31) (c 0)),
 o 33 (.move (t 32)),
 g 34 33 (.fieldAddr 2 (t 3)),
 g 35 33 (.load I (t 34)),
 g 36 33 (.bin .other .eql (t 35) (c 0)),
 o 37 (.pick (t 33) (t 36) (.c (.bool false))),
 o 38 (.move (t 37)),
 g 39 38 (.fieldAddr 3 (t 3)),
 g 40 38 (.load I (t 39)),
 g 41 38 (.bin .other .eql (t 40) (c 0)),
 o 42 (.pick (t 38) (t 41) (.c (.bool false))),
 o 43 (.move (t 42)),
 g 44 43 (.fieldAddr 4 (t 3)),
 g 45 43 (.load I (t 44)),
 g 46 43 (.bin .other .eql (t 45) (c 0)),
 o 47 (.pick (t 43) (t 46) (.c (.bool false))),
 o 7 (.move (c 1)),
 o 8 (.move (t 47))])
  (.seq (.ops false [
 o 49 (.bin .other .eql (t 12) (c 2)),
 o 48 (.move (t 49))]) k60x9)) k60x8
def k60x6 : AC := .join 398
def k60x5 : AC := .seq (.cond (.tmp 13)
 (.ops true [
 o 15 (.fieldAddr 1 (t 3)),
 o 16 (.load I (t 15)),
 o 17 (.bin .other .eql (t 16) (c 0)),
 o 18 (.move (t 17)),
 g 19 18 (.fieldAddr 3 (t 3)),
 g 20 18 (.load I (t 19)),
 g 21 18 (.bin .other .eql (t 20) (c 0)),
 o 22 (.pick (t 18) (t 21) (.c (.bool false))),
 o 23 (.move (t 22)),
 g 24 23 (.fieldAddr 4 (t 3)),
 g 25 23 (.load I (t 24)),
 g 26 23 (.bin .other .eql (t 25) (c 0)),
 o 27 (.pick (t 23) (t 26) (.c (.bool false))),
 o 8 (.move (t 27))])
  (.seq (.ops false [
 o 29 (.bin .other .eql (t 12) (c 1)),
 o 28 (.move (t 29))]) k60x7)) k60x6
def k60x4 : AC := .mask 398
def k60x3 : AC := .seq (.block 0 (.seq (.ops false [
 o 14 (.bin .other .eql (t 12) (c 0)),
 o 13 (.move (t 14))]) k60x5)) k60x4
def k60x22 : AC := .ret
def k60x21 : AC := .seq (.mask 64) k60x22
def k60x20 : AC := .mask 14
def k60x19 : AC := .seq (.cond (.tmp 96)
 (.seq (.ops false [
 o 6 (.move (c 3))]) k60x21)
  (.skip)) k60x20
def k60x27 : AC := .ret
def k60x26 : AC := .seq (.mask 64) k60x27
def k60x25 : AC := .mask 12
def k60x24 : AC := .seq (.cond (.tmp 110)
 (.seq (.ops false [
 o 6 (.move (c 6))]) k60x26)
  (.skip)) k60x25
def k60x35 : AC := .exit 1
def k60x34 : AC := .mask 36346078009743793399713474304540676
def k60x42 : AC := .ret
def k60x41 : AC := .seq (.mask 64) k60x42
def k60x40 : AC := .mask 36346078009743793399713474304540676
def k60x39 : AC := .seq (.cond (.tmp 122)
 (.seq (.ops false [
 o 6 (.move (c 4))]) k60x41)
  (.skip)) k60x40
def k60x38 : AC := .seq (.ops false [
 o 118 (.move (t 10)),
 o 119 (.move (t 2)),
 o 120 (.bin .other .sub (t 119) (c 1)),
 o 121 (.call 58 [(t 118), (c 1), (t 120)] [(.cell .bool)] (.bool false)),
 o 122 (.un .not (t 121))]) k60x39
def k60x37 : AC := .mask 36346078009743793399713474304540676
def k60x36 : AC := .ops false [
 o 123 (.bin .other .add (t 114) (c 1)),
 o 114 (.move (t 123))]
def k60x33 : AC := .seq (.seq (.block 2 (.seq (.ops false [
 o 116 (.indexAddr 1 (t 112) (t 114)),
 o 117 (.load I (t 116)),
 o 10 (.move (t 117))]) k60x38)) k60x37) k60x36
def k60x32 : AC := .seq (.seq (.cond (.tmp 115)
 (.skip)
 (.seq (.mask 0) k60x35)) k60x34) k60x33
def k60x31 : AC := .seq (.ops false [
 o 115 (.bin .other .lss (t 114) (t 113))]) k60x32
def k60x30 : AC := .mask 0
def k60x29 : AC := .seq (.block 1 (.loop 36346078009743793399713474304540676 0 k60x31)) k60x30
def k60x44 : AC := .ret
def k60x43 : AC := .seq (.mask 64) k60x44
def k60x28 : AC := .seq (.ops false [
 o 6 (.move (c 0))]) k60x43
def k60x23 : AC := .seq (.seq (.ops false [
 o 111 (.fieldAddr 5 (t 3)),
 o 112 (.load (.cell .sl) (t 111)),
 o 113 (.lenSl (t 112)),
 o 114 (.move (c 0))]) k60x29) k60x28
def k60x18 : AC := .seq (.seq (.ops true [
 o 97 (.fieldAddr 2 (t 3)),
 o 98 (.load I (t 97)),
 o 99 (.move (t 1)),
 o 100 (.bin .other .sub (t 99) (c 1)),
 o 101 (.call 58 [(t 98), (c 0), (t 100)] [(.cell .bool)] (.bool false)),
 o 102 (.un .not (t 101)),
 o 103 (.move (t 102)),
 f 104 103 (.fieldAddr 3 (t 3)),
 f 105 103 (.load I (t 104)),
 f 106 103 (.move (t 1)),
 f 107 103 (.bin .other .sub (t 106) (c 1)),
 f 108 103 (.call 58 [(t 105), (c 0), (t 107)] [(.cell .bool)] (.bool false)),
 f 109 103 (.un .not (t 108)),
 o 110 (.pick (t 103) (.c (.bool true)) (t 109))]) k60x24) k60x23
def k60x2 : AC := .seq (.seq (.ops true [
 o 88 (.move (t 8)),
 o 89 (.un .not (t 88)),
 o 90 (.move (t 89)),
 f 91 90 (.fieldAddr 5 (t 3)),
 f 92 90 (.load (.cell .sl) (t 91)),
 f 93 90 (.lenSl (t 92)),
 f 94 90 (.move (t 7)),
 f 95 90 (.bin .other .neq (t 93) (t 94)),
 o 96 (.pick (t 90) (.c (.bool true)) (t 95))]) k60x19) k60x18
def k60x1 : AC := .seq (.seq (.ops false [
 o 11 (.fieldAddr 0 (t 3)),
 o 12 (.load I (t 11))]) k60x3) k60x2
def k60x0 : AC := .seq (.ops false [
 o 7 (.move (c 0)),
 o 8 (.move (.c (.bool false)))]) k60x1
def c60 : AFn := ⟨124, [.tmp 6],
 .seq (.ops false [
 o 3 (.boxL (t 0)),
 o 6 (.move (c 0))]) k60x0⟩
theorem cf60 : cFn Try.prog 60 = some c60 := by kernel_rfl
def k61x9 : AC := .exit 0
def k61x8 : AC := .mask 24586
def k61x12 : AC := .ops false [
 o 17 (.move (t 3)),
 o 18 (.move (t 4)),
 o 19 (.fieldAddr 2 (t 1)),
 o 20 (.load I (t 19)),
 o 21 (.makeSl [(.bool false)] 1 (t 20) (t 20)),
 o 22 (.indexAddr 1 (t 17) (t 18)),
 u (.store 1 (t 22) (t 21))]
def k61x11 : AC := .mask 24586
def k61x10 : AC := .ops false [
 o 23 (.bin .other .add (t 14) (c 1)),
 o 14 (.move (t 23))]
def k61x7 : AC := .seq (.seq (.block 1 (.seq (.ops false [
 o 16 (.move (t 14)),
 o 4 (.move (t 16))]) k61x12)) k61x11) k61x10
def k61x6 : AC := .seq (.seq (.cond (.tmp 15)
 (.skip)
 (.seq (.mask 10) k61x9)) k61x8) k61x7
def k61x5 : AC := .seq (.ops false [
 o 15 (.bin .other .lss (t 14) (t 13))]) k61x6
def k61x4 : AC := .mask 10
def k61x3 : AC := .seq (.block 0 (.loop 24586 10 k61x5)) k61x4
def k61x20 : AC := .exit 2
def k61x19 : AC := .mask 10
def k61x18 : AC := .seq (.cond (.tmp 24)
 (.skip)
 (.seq (.mask 8) k61x20)) k61x19
def k61x29 : AC := .exit 4
def k61x28 : AC := .mask 106
def k61x27 : AC := .seq (.cond (.tmp 30)
 (.skip)
 (.seq (.mask 42) k61x29)) k61x28
def k61x35 : AC := .join 106
def k61x34 : AC := .seq (.cond (.tmp 50)
 (.ops false [
 o 51 (.move (t 3)),
 o 52 (.move (t 6)),
 o 53 (.move (t 7)),
 o 54 (.indexAddr 1 (t 51) (t 52)),
 u (.store 1 (t 54) (t 53)),
 o 5 (.move (.c (.bool true)))])
  (.skip)) k61x35
def k61x33 : AC := .seq (.ops false [
 o 44 (.move (t 7)),
 o 45 (.move (t 3)),
 o 46 (.move (t 6)),
 o 47 (.indexAddr 1 (t 45) (t 46)),
 o 48 (.load (.cell .sl) (t 47)),
 o 49 (.call 91 [(t 44), (t 48)] [(.cell .bool)] (.bool false)),
 o 50 (.un .not (t 49))]) k61x34
def k61x32 : AC := .seq (.ops false [
 o 37 (.fieldAddr 3 (t 1)),
 o 38 (.load (.cell .sl) (t 37)),
 o 39 (.move (t 6)),
 o 40 (.indexAddr 7 (t 38) (t 39)),
 o 41 (.load (.agg [.sl, (.int .i64), (.int .i64), (.int .i64), (.int .i64), (.int .i64), .sl]) (t 40)),
 o 42 (.move (t 7)),
 o 43 (.call 90 [(t 41), (t 42)] [] .opq)]) k61x33
def k61x31 : AC := .mask 106
def k61x30 : AC := .ops false [
 o 31 (.move (t 6)),
 o 32 (.bin .other .sub (t 31) (c 1)),
 o 6 (.move (t 32))]
def k61x26 : AC := .seq (.seq (.block 5 (.seq (.ops false [
 o 33 (.load (.agg [(.int .i64), .sl, (.int .i64), .sl]) (t 1)),
 o 34 (.move (t 3)),
 o 35 (.move (t 6)),
 o 36 (.call 62 [(t 33), (t 34), (t 35)] [(.cell .sl)] (.sl .nil 0)),
 o 7 (.move (t 36))]) k61x32)) k61x31) k61x30
def k61x25 : AC := .seq (.seq (.ops false [
 o 29 (.move (t 6)),
 o 30 (.bin .other .geq (t 29) (c 0))]) k61x27) k61x26
def k61x24 : AC := .mask 42
def k61x23 : AC := .seq (.block 4 (.loop 106 42 k61x25)) k61x24
def k61x22 : AC := .seq (.ops false [
 o 25 (.fieldAddr 3 (t 1)),
 o 26 (.load (.cell .sl) (t 25)),
 o 27 (.lenSl (t 26)),
 o 28 (.bin .other .sub (t 27) (c 1)),
 o 6 (.move (t 28))]) k61x23
def k61x21 : AC := .mask 42
def k61x17 : AC := .seq (.block 3 (.seq (.ops false [
 o 5 (.move (.c (.bool false)))]) k61x22)) k61x21
def k61x16 : AC := .seq (.seq (.ops false [
 o 24 (.move (t 5))]) k61x18) k61x17
def k61x15 : AC := .mask 8
def k61x14 : AC := .seq (.block 2 (.loop 42 8 k61x16)) k61x15
def k61x38 : AC := .ret
def k61x37 : AC := .seq (.mask 4) k61x38
def k61x13 : AC := .seq (.ops false [
 o 55 (.move (t 3)),
 o 2 (.move (t 55))]) k61x37
def k61x2 : AC := .seq (.seq (.ops false [
 o 5 (.move (.c (.bool true)))]) k61x14) k61x13
def k61x1 : AC := .seq (.seq (.ops false [
 o 12 (.move (t 3)),
 o 13 (.lenSl (t 12)),
 o 14 (.move (c 0))]) k61x3) k61x2
def k61x0 : AC := .seq (.ops false [
 o 8 (.fieldAddr 3 (t 1)),
 o 9 (.load (.cell .sl) (t 8)),
 o 10 (.lenSl (t 9)),
 o 11 (.makeSl [(.sl .nil 0)] 24 (t 10) (t 10)),
 o 3 (.move (t 11))]) k61x1
def c61 : AFn := ⟨56, [.tmp 2],
 .seq (.ops false [
 o 1 (.boxL (t 0)),
 o 2 (.move (.c (.sl .nil 0)))]) k61x0⟩
theorem cf61 : cFn Try.prog 61 = some c61 := by kernel_rfl
def k62x9 : AC := .exit 0
def k62x8 : AC := .mask 14680194
def k62x19 : AC := .exit 2
def k62x18 : AC := .mask 7530872962
def k62x22 : AC := .ops true [
 o 37 (.move (t 7)),
 o 38 (.move (t 10)),
 o 39 (.move (t 7)),
 o 40 (.move (t 10)),
 o 41 (.indexAddr 1 (t 39) (t 40)),
 o 42 (.load (.cell .bool) (t 41)),
 o 43 (.move (t 42)),
 f 44 43 (.move (t 11)),
 o 45 (.pick (t 43) (.c (.bool true)) (t 44)),
 o 46 (.indexAddr 1 (t 37) (t 38)),
 u (.store 1 (t 46) (t 45))]
def k62x21 : AC := .mask 7530872962
def k62x20 : AC := .ops false [
 o 47 (.bin .other .add (t 32) (c 1)),
 o 32 (.move (t 47))]
def k62x17 : AC := .seq (.seq (.block 3 (.seq (.ops false [
 o 34 (.move (t 32)),
 o 35 (.indexAddr 1 (t 30) (t 32)),
 o 36 (.load (.cell .bool) (t 35)),
 o 10 (.move (t 34)),
 o 11 (.move (t 36))]) k62x22)) k62x21) k62x20
def k62x16 : AC := .seq (.seq (.cond (.tmp 33)
 (.skip)
 (.seq (.mask 14680194) k62x19)) k62x18) k62x17
def k62x15 : AC := .seq (.ops false [
 o 33 (.bin .other .lss (t 32) (t 31))]) k62x16
def k62x14 : AC := .mask 14680194
def k62x13 : AC := .seq (.block 2 (.loop 7530872962 14680194 k62x15)) k62x14
def k62x12 : AC := .seq (.ops false [
 o 27 (.move (t 1)),
 o 28 (.move (t 9)),
 o 29 (.indexAddr 1 (t 27) (t 28)),
 o 30 (.load (.cell .sl) (t 29)),
 o 31 (.lenSl (t 30)),
 o 32 (.move (c 0))]) k62x13
def k62x11 : AC := .mask 14680194
def k62x10 : AC := .ops false [
 o 48 (.bin .other .add (t 23) (c 1)),
 o 23 (.move (t 48))]
def k62x7 : AC := .seq (.seq (.block 1 (.seq (.ops false [
 o 25 (.indexAddr 1 (t 21) (t 23)),
 o 26 (.load I (t 25)),
 o 9 (.move (t 26))]) k62x12)) k62x11) k62x10
def k62x6 : AC := .seq (.seq (.cond (.tmp 24)
 (.skip)
 (.seq (.mask 128) k62x9)) k62x8) k62x7
def k62x5 : AC := .seq (.ops false [
 o 24 (.bin .other .lss (t 23) (t 22))]) k62x6
def k62x4 : AC := .mask 128
def k62x3 : AC := .seq (.block 0 (.loop 14680194 128 k62x5)) k62x4
def k62x24 : AC := .ret
def k62x23 : AC := .seq (.mask 64) k62x24
def k62x2 : AC := .seq (.ops false [
 o 49 (.move (t 7)),
 o 6 (.move (t 49))]) k62x23
def k62x1 : AC := .seq (.seq (.ops false [
 o 15 (.fieldAddr 3 (t 3)),
 o 16 (.load (.cell .sl) (t 15)),
 o 17 (.move (t 2)),
 o 18 (.indexAddr 7 (t 16) (t 17)),
 o 19 (.fieldAddr 1 (t 18)),
 o 20 (.fieldAddr 5 (t 19)),
 o 21 (.load (.cell .sl) (t 20)),
 o 22 (.lenSl (t 21)),
 o 23 (.move (c 0))]) k62x3) k62x2
def k62x0 : AC := .seq (.ops false [
 o 12 (.fieldAddr 2 (t 3)),
 o 13 (.load I (t 12)),
 o 14 (.makeSl [(.bool false)] 1 (t 13) (t 13)),
 o 7 (.move (t 14))]) k62x1
def c62 : AFn := ⟨50, [.tmp 6],
 .seq (.ops false [
 o 3 (.boxL (t 0)),
 o 6 (.move (.c (.sl .nil 0)))]) k62x0⟩
theorem cf62 : cFn Try.prog 62 = some c62 := by kernel_rfl
def k63x6 : AC := .ret
def k63x5 : AC := .seq (.mask 16) k63x6
def k63x4 : AC := .mask 35
def k63x3 : AC := .seq (.cond (.tmp 12)
 (.seq (.ops false [
 o 13 (.move (t 0)),
 o 4 (.move (t 13))]) k63x5)
  (.skip)) k63x4
def k63x14 : AC := .exit 0
def k63x13 : AC := .mask 99
def k63x12 : AC := .seq (.cond (.tmp 19)
 (.skip)
 (.seq (.mask 33) k63x14)) k63x13
def k63x20 : AC := .ops false [
 o 34 (.move (t 5)),
 o 35 (.bin .other .add (t 34) (c 1)),
 o 5 (.move (t 35))]
def k63x19 : AC := .join 99
def k63x18 : AC := .seq (.cond (.tmp 29)
 (.seq (.ops false [
 o 30 (.move (t 0)),
 o 31 (.move (t 5)),
 o 32 (.move (t 7)),
 o 33 (.indexAddr 1 (t 30) (t 31)),
 u (.store 1 (t 33) (t 32))]) k63x20)
  (.skip)) k63x19
def k63x17 : AC := .seq (.ops false [
 o 26 (.move (t 1)),
 o 27 (.move (t 7)),
 o 28 (.callV (t 26) [(t 27)] [(.cell .bool)] (.bool false)),
 o 29 (.un .not (t 28))]) k63x18
def k63x16 : AC := .mask 99
def k63x15 : AC := .ops false [
 o 20 (.move (t 6)),
 o 21 (.bin .other .add (t 20) (c 1)),
 o 6 (.move (t 21))]
def k63x11 : AC := .seq (.seq (.block 1 (.seq (.ops false [
 o 22 (.move (t 0)),
 o 23 (.move (t 6)),
 o 24 (.indexAddr 1 (t 22) (t 23)),
 o 25 (.load I (t 24)),
 o 7 (.move (t 25))]) k63x17)) k63x16) k63x15
def k63x10 : AC := .seq (.seq (.ops false [
 o 16 (.move (t 6)),
 o 17 (.move (t 0)),
 o 18 (.lenSl (t 17)),
 o 19 (.bin .other .lss (t 16) (t 18))]) k63x12) k63x11
def k63x9 : AC := .mask 33
def k63x8 : AC := .seq (.block 0 (.loop 99 33 k63x10)) k63x9
def k63x24 : AC := .ret
def k63x23 : AC := .seq (.mask 16) k63x24
def k63x22 : AC := .seq (.ops false [
 o 39 (.move (t 0)),
 o 40 (.move (t 5)),
 o 41 (.slice 1 (t 39) none (some (t 40))),
 o 4 (.move (t 41))]) k63x23
def k63x7 : AC := .seq (.ops false [
 o 36 (.move (t 0)),
 o 37 (.move (t 5)),
 o 38 (.slice 1 (t 36) (some (t 37)) none),
 u (.clear [(.int .i64 0)] (t 38))]) k63x22
def k63x2 : AC := .seq (.seq (.ops false [
 o 14 (.move (t 5)),
 o 15 (.bin .other .add (t 14) (c 1)),
 o 6 (.move (t 15))]) k63x8) k63x7
def k63x1 : AC := .seq (.seq (.ops false [
 o 11 (.move (t 5)),
 o 12 (.bin .other .eql (t 11) (c (-1)))]) k63x3) k63x2
def k63x0 : AC := .seq (.ops false [
 o 8 (.move (t 0)),
 o 9 (.move (t 1)),
 o 10 (.call 71 [(t 8), (t 9)] [I] (.int .i64 0)),
 o 5 (.move (t 10))]) k63x1
def c63 : AFn := ⟨42, [.tmp 4],
 .seq (.ops false [
 o 4 (.move (.c (.sl .nil 0)))]) k63x0⟩
theorem cf63 : cFn Try.prog 63 = some c63 := by kernel_rfl
def k64x2 : AC := .ret
def k64x1 : AC := .seq (.mask 4) k64x2
def k64x0 : AC := .seq (.ops false [
 o 3 (.move (t 0)),
 o 4 (.bin .other .eql (t 3) (c 0)),
 o 2 (.move (t 4))]) k64x1
def c64 : AFn := ⟨5, [.tmp 2],
 .seq (.ops false [
 o 2 (.move (.c (.bool false)))]) k64x0⟩
theorem cf64 : cFn Try.prog 64 = some c64 := by kernel_rfl
def k65x2 : AC := .ret
def k65x1 : AC := .seq (.mask 4) k65x2
def k65x0 : AC := .seq (.ops false [
 o 3 (.move (t 0)),
 o 4 (.bin .other .eql (t 3) (c 0)),
 o 2 (.move (t 4))]) k65x1
def c65 : AFn := ⟨5, [.tmp 2],
 .seq (.ops false [
 o 2 (.move (.c (.bool false)))]) k65x0⟩
theorem cf65 : cFn Try.prog 65 = some c65 := by kernel_rfl
def k89x18 : AC := .join 52
def k89x17 : AC := .seq (.cond (.tmp 5)
 (.skip)
 (.ops false [
 o 13 (.bin .other .eql (t 4) (c 15)),
 o 5 (.move (t 13))])) k89x18
def k89x16 : AC := .join 52
def k89x15 : AC := .seq (.cond (.tmp 5)
 (.skip)
 (.seq (.ops false [
 o 12 (.bin .other .eql (t 4) (c 7)),
 o 5 (.move (t 12))]) k89x17)) k89x16
def k89x14 : AC := .join 52
def k89x13 : AC := .seq (.cond (.tmp 5)
 (.skip)
 (.seq (.ops false [
 o 11 (.bin .other .eql (t 4) (c 6)),
 o 5 (.move (t 11))]) k89x15)) k89x14
def k89x12 : AC := .join 52
def k89x11 : AC := .seq (.cond (.tmp 5)
 (.skip)
 (.seq (.ops false [
 o 10 (.bin .other .eql (t 4) (c 5)),
 o 5 (.move (t 10))]) k89x13)) k89x12
def k89x10 : AC := .join 52
def k89x9 : AC := .seq (.cond (.tmp 5)
 (.skip)
 (.seq (.ops false [
 o 9 (.bin .other .eql (t 4) (c 4)),
 o 5 (.move (t 9))]) k89x11)) k89x10
def k89x8 : AC := .join 52
def k89x7 : AC := .seq (.cond (.tmp 5)
 (.skip)
 (.seq (.ops false [
 o 8 (.bin .other .eql (t 4) (c 3)),
 o 5 (.move (t 8))]) k89x9)) k89x8
def k89x6 : AC := .join 52
def k89x5 : AC := .seq (.cond (.tmp 5)
 (.skip)
 (.seq (.ops false [
 o 7 (.bin .other .eql (t 4) (c 2)),
 o 5 (.move (t 7))]) k89x7)) k89x6
def k89x28 : AC := .ret
def k89x27 : AC := .seq (.mask 12) k89x28
def k89x35 : AC := .join 32788
def k89x34 : AC := .seq (.cond (.tmp 15)
 (.skip)
 (.ops false [
 o 19 (.bin .other .eql (t 4) (c 12)),
 o 15 (.move (t 19))])) k89x35
def k89x33 : AC := .join 32788
def k89x32 : AC := .seq (.cond (.tmp 15)
 (.skip)
 (.seq (.ops false [
 o 18 (.bin .other .eql (t 4) (c 10)),
 o 15 (.move (t 18))]) k89x34)) k89x33
def k89x31 : AC := .join 32788
def k89x30 : AC := .seq (.cond (.tmp 15)
 (.skip)
 (.seq (.ops false [
 o 17 (.bin .other .eql (t 4) (c 9)),
 o 15 (.move (t 17))]) k89x32)) k89x31
def k89x41 : AC := .ret
def k89x40 : AC := .seq (.mask 12) k89x41
def k89x44 : AC := .join 2097172
def k89x43 : AC := .seq (.cond (.tmp 21)
 (.skip)
 (.ops false [
 o 23 (.bin .other .eql (t 4) (c 103)),
 o 21 (.move (t 23))])) k89x44
def k89x48 : AC := .ret
def k89x47 : AC := .seq (.mask 12) k89x48
def k89x52 : AC := .ret
def k89x51 : AC := .seq (.mask 12) k89x52
def k89x56 : AC := .ret
def k89x55 : AC := .seq (.mask 12) k89x56
def k89x60 : AC := .ret
def k89x59 : AC := .seq (.mask 12) k89x60
def k89x64 : AC := .ret
def k89x63 : AC := .seq (.mask 12) k89x64
def k89x68 : AC := .ret
def k89x67 : AC := .seq (.mask 12) k89x68
def k89x72 : AC := .ret
def k89x71 : AC := .seq (.mask 12) k89x72
def k89x70 : AC := .mask 4
def k89x69 : AC := .seq (.cond (.tmp 40)
 (.seq (.ops false [
 o 42 (.build [(.bool false), (.bool false), (.bool false), (.bool false), (.bool false)] [(0, 1, (.c (.bool true))), (1, 1, (.c (.bool true))), (4, 1, (.c (.bool true)))]),
 u (.store 5 (t 2) (t 42)),
 o 3 (.move (.c (.bool true)))]) k89x71)
  (.skip)) k89x70
def k89x66 : AC := .mask 4
def k89x65 : AC := .seq (.cond (.tmp 37)
 (.seq (.ops false [
 o 39 (.build [(.bool false), (.bool false), (.bool false), (.bool false), (.bool false)] [(0, 1, (.c (.bool true))), (3, 1, (.c (.bool true))), (4, 1, (.c (.bool true)))]),
 u (.store 5 (t 2) (t 39)),
 o 3 (.move (.c (.bool true)))]) k89x67)
  (.seq (.ops false [
 o 41 (.bin .other .eql (t 4) (c 102)),
 o 40 (.move (t 41))]) k89x69)) k89x66
def k89x62 : AC := .mask 4
def k89x61 : AC := .seq (.cond (.tmp 34)
 (.seq (.ops false [
 o 36 (.build [(.bool false), (.bool false), (.bool false), (.bool false), (.bool false)] [(0, 1, (.c (.bool true))), (1, 1, (.c (.bool true)))]),
 u (.store 5 (t 2) (t 36)),
 o 3 (.move (.c (.bool true)))]) k89x63)
  (.seq (.ops false [
 o 38 (.bin .other .eql (t 4) (c 101)),
 o 37 (.move (t 38))]) k89x65)) k89x62
def k89x58 : AC := .mask 4
def k89x57 : AC := .seq (.cond (.tmp 31)
 (.seq (.ops false [
 o 33 (.build [(.bool false), (.bool false), (.bool false), (.bool false), (.bool false)] [(1, 1, (.c (.bool true)))]),
 u (.store 5 (t 2) (t 33)),
 o 3 (.move (.c (.bool true)))]) k89x59)
  (.seq (.ops false [
 o 35 (.bin .other .eql (t 4) (c 100)),
 o 34 (.move (t 35))]) k89x61)) k89x58
def k89x54 : AC := .mask 4
def k89x53 : AC := .seq (.cond (.tmp 28)
 (.seq (.ops false [
 o 30 (.build [(.bool false), (.bool false), (.bool false), (.bool false), (.bool false)] [(0, 1, (.c (.bool true))), (2, 1, (.c (.bool true))), (3, 1, (.c (.bool true)))]),
 u (.store 5 (t 2) (t 30)),
 o 3 (.move (.c (.bool true)))]) k89x55)
  (.seq (.ops false [
 o 32 (.bin .other .eql (t 4) (c 23)),
 o 31 (.move (t 32))]) k89x57)) k89x54
def k89x50 : AC := .mask 4
def k89x49 : AC := .seq (.cond (.tmp 25)
 (.seq (.ops false [
 o 27 (.build [(.bool false), (.bool false), (.bool false), (.bool false), (.bool false)] [(1, 1, (.c (.bool true))), (2, 1, (.c (.bool true))), (3, 1, (.c (.bool true)))]),
 u (.store 5 (t 2) (t 27)),
 o 3 (.move (.c (.bool true)))]) k89x51)
  (.seq (.ops false [
 o 29 (.bin .other .eql (t 4) (c 14)),
 o 28 (.move (t 29))]) k89x53)) k89x50
def k89x46 : AC := .mask 4
def k89x42 : AC := .seq (.cond (.tmp 21)
 (.seq (.ops false [
 o 24 (.build [(.bool false), (.bool false), (.bool false), (.bool false), (.bool false)] [(0, 1, (.c (.bool true))), (3, 1, (.c (.bool true)))]),
 u (.store 5 (t 2) (t 24)),
 o 3 (.move (.c (.bool true)))]) k89x47)
  (.seq (.ops false [
 o 26 (.bin .other .eql (t 4) (c 13)),
 o 25 (.move (t 26))]) k89x49)) k89x46
def k89x39 : AC := .mask 4
def k89x29 : AC := .seq (.cond (.tmp 15)
 (.seq (.ops false [
 o 20 (.build [(.bool false), (.bool false), (.bool false), (.bool false), (.bool false)] [(0, 1, (.c (.bool true))), (1, 1, (.c (.bool true))), (3, 1, (.c (.bool true)))]),
 u (.store 5 (t 2) (t 20)),
 o 3 (.move (.c (.bool true)))]) k89x40)
  (.seq (.seq (.ops false [
 o 22 (.bin .other .eql (t 4) (c 11)),
 o 21 (.move (t 22))]) k89x43) k89x42)) k89x39
def k89x26 : AC := .mask 4
def k89x4 : AC := .seq (.cond (.tmp 5)
 (.seq (.ops false [
 o 14 (.build [(.bool false), (.bool false), (.bool false), (.bool false), (.bool false)] [(0, 1, (.c (.bool true))), (1, 1, (.c (.bool true))), (2, 1, (.c (.bool true)))]),
 u (.store 5 (t 2) (t 14)),
 o 3 (.move (.c (.bool true)))]) k89x27)
  (.seq (.seq (.ops false [
 o 16 (.bin .other .eql (t 4) (c 8)),
 o 15 (.move (t 16))]) k89x30) k89x29)) k89x26
def k89x3 : AC := .mask 4
def k89x2 : AC := .seq (.block 0 (.seq (.seq (.ops false [
 o 6 (.bin .other .eql (t 4) (c 1)),
 o 5 (.move (t 6))]) k89x5) k89x4)) k89x3
def k89x74 : AC := .ret
def k89x73 : AC := .seq (.mask 12) k89x74
def k89x1 : AC := .seq (.ops false [
 o 43 (.build [(.bool false), (.bool false), (.bool false), (.bool false), (.bool false)] []),
 u (.store 5 (t 2) (t 43)),
 o 3 (.move (.c (.bool false)))]) k89x73
def k89x0 : AC := .seq (.seq (.ops false [
 o 4 (.move (t 0))]) k89x2) k89x1
def c89 : AFn := ⟨44, [.cell 2 (.agg [.bool, .bool, .bool, .bool, .bool]), .tmp 3],
 .seq (.ops false [
 o 2 (.allocL [(.bool false), (.bool false), (.bool false), (.bool false), (.bool false)]),
 o 3 (.move (.c (.bool false)))]) k89x0⟩
theorem cf89 : cFn Try.prog 89 = some c89 := by kernel_rfl
def k90x8 : AC := .exit 0
def k90x7 : AC := .mask 14342
def k90x11 : AC := .ops false [
 o 17 (.move (t 1)),
 o 18 (.move (t 5)),
 o 19 (.indexAddr 1 (t 17) (t 18)),
 u (.store 1 (t 19) (.c (.bool true)))]
def k90x10 : AC := .mask 14342
def k90x9 : AC := .ops false [
 o 20 (.bin .other .add (t 13) (c 1)),
 o 13 (.move (t 20))]
def k90x6 : AC := .seq (.seq (.block 1 (.seq (.ops false [
 o 15 (.indexAddr 1 (t 11) (t 13)),
 o 16 (.load I (t 15)),
 o 5 (.move (t 16))]) k90x11)) k90x10) k90x9
def k90x5 : AC := .seq (.seq (.cond (.tmp 14)
 (.skip)
 (.seq (.mask 6) k90x8)) k90x7) k90x6
def k90x4 : AC := .seq (.ops false [
 o 14 (.bin .other .lss (t 13) (t 12))]) k90x5
def k90x3 : AC := .mask 6
def k90x2 : AC := .seq (.block 0 (.loop 14342 6 k90x4)) k90x3
def k90x19 : AC := .exit 2
def k90x18 : AC := .mask 70
def k90x17 : AC := .seq (.cond (.tmp 26)
 (.skip)
 (.seq (.mask 2) k90x19)) k90x18
def k90x29 : AC := .exit 4
def k90x28 : AC := .mask 30786325577798
def k90x32 : AC := .ops false [
 o 48 (.move (t 1)),
 o 49 (.move (t 8)),
 o 50 (.indexAddr 1 (t 48) (t 49)),
 u (.store 1 (t 50) (.c (.bool true)))]
def k90x31 : AC := .mask 30786325577798
def k90x30 : AC := .ops false [
 o 51 (.bin .other .add (t 44) (c 1)),
 o 44 (.move (t 51))]
def k90x27 : AC := .seq (.seq (.block 5 (.seq (.ops false [
 o 46 (.indexAddr 1 (t 42) (t 44)),
 o 47 (.load I (t 46)),
 o 8 (.move (t 47))]) k90x32)) k90x31) k90x30
def k90x26 : AC := .seq (.seq (.cond (.tmp 45)
 (.skip)
 (.seq (.mask 70) k90x29)) k90x28) k90x27
def k90x25 : AC := .seq (.ops false [
 o 45 (.bin .other .lss (t 44) (t 43))]) k90x26
def k90x24 : AC := .mask 70
def k90x23 : AC := .seq (.block 4 (.loop 30786325577798 70 k90x25)) k90x24
def k90x22 : AC := .seq (.ops false [
 o 37 (.fieldAddr 0 (t 2)),
 o 38 (.load (.cell .sl) (t 37)),
 o 39 (.move (t 6)),
 o 40 (.indexAddr 6 (t 38) (t 39)),
 o 41 (.load (.agg [(.int .i64), (.int .i64), (.int .i64), (.int .i64), (.int .i64), .sl]) (t 40)),
 o 42 (.call 29 [(t 41)] [(.cell .sl)] (.sl .nil 0)),
 o 43 (.lenSl (t 42)),
 o 44 (.move (c 0))]) k90x23
def k90x21 : AC := .mask 70
def k90x20 : AC := .ops false [
 o 27 (.move (t 6)),
 o 28 (.bin .other .sub (t 27) (c 1)),
 o 6 (.move (t 28))]
def k90x16 : AC := .seq (.seq (.block 3 (.seq (.ops false [
 o 29 (.move (t 1)),
 o 30 (.fieldAddr 0 (t 2)),
 o 31 (.load (.cell .sl) (t 30)),
 o 32 (.move (t 6)),
 o 33 (.indexAddr 6 (t 31) (t 32)),
 o 34 (.load (.agg [(.int .i64), (.int .i64), (.int .i64), (.int .i64), (.int .i64), .sl]) (t 33)),
 o 35 (.call 30 [(t 34)] [I] (.int .i64 0)),
 o 36 (.indexAddr 1 (t 29) (t 35)),
 u (.store 1 (t 36) (.c (.bool false)))]) k90x22)) k90x21) k90x20
def k90x15 : AC := .seq (.seq (.ops false [
 o 25 (.move (t 6)),
 o 26 (.bin .other .geq (t 25) (c 0))]) k90x17) k90x16
def k90x14 : AC := .mask 2
def k90x13 : AC := .seq (.block 2 (.loop 70 2 k90x15)) k90x14
def k90x12 : AC := .ops false [
 o 52 (.move (t 1)),
 o 53 (.indexAddr 1 (t 52) (c 0)),
 u (.store 1 (t 53) (.c (.bool false)))]
def k90x1 : AC := .seq (.seq (.ops false [
 o 21 (.fieldAddr 0 (t 2)),
 o 22 (.load (.cell .sl) (t 21)),
 o 23 (.lenSl (t 22)),
 o 24 (.bin .other .sub (t 23) (c 1)),
 o 6 (.move (t 24))]) k90x13) k90x12
def k90x0 : AC := .seq (.seq (.ops false [
 o 9 (.fieldAddr 1 (t 2)),
 o 10 (.load (.agg [(.int .i64), (.int .i64), (.int .i64), (.int .i64), (.int .i64), .sl]) (t 9)),
 o 11 (.call 31 [(t 10)] [(.cell .sl)] (.sl .nil 0)),
 o 12 (.lenSl (t 11)),
 o 13 (.move (c 0))]) k90x2) k90x1
def c90 : AFn := ⟨54, [],
 .seq (.ops false [
 o 2 (.boxL (t 0))]) k90x0⟩
theorem cf90 : cFn Try.prog 90 = some c90 := by kernel_rfl
def k91x5 : AC := .ret
def k91x4 : AC := .seq (.mask 16) k91x5
def k91x3 : AC := .mask 3
def k91x2 : AC := .seq (.cond (.tmp 10)
 (.seq (.ops false [
 o 4 (.move (.c (.bool false)))]) k91x4)
  (.skip)) k91x3
def k91x13 : AC := .exit 0
def k91x12 : AC := .mask 12291
def k91x20 : AC := .ret
def k91x19 : AC := .seq (.mask 16) k91x20
def k91x18 : AC := .mask 12291
def k91x17 : AC := .seq (.cond (.tmp 24)
 (.seq (.ops false [
 o 4 (.move (.c (.bool false)))]) k91x19)
  (.skip)) k91x18
def k91x16 : AC := .seq (.ops false [
 o 16 (.move (t 0)),
 o 17 (.move (t 5)),
 o 18 (.indexAddr 1 (t 16) (t 17)),
 o 19 (.load (.cell .bool) (t 18)),
 o 20 (.move (t 1)),
 o 21 (.move (t 5)),
 o 22 (.indexAddr 1 (t 20) (t 21)),
 o 23 (.load (.cell .bool) (t 22)),
 o 24 (.bin .bool .neq (t 19) (t 23))]) k91x17
def k91x15 : AC := .mask 12291
def k91x14 : AC := .ops false [
 o 25 (.bin .other .add (t 13) (c 1)),
 o 13 (.move (t 25))]
def k91x11 : AC := .seq (.seq (.block 1 (.seq (.ops false [
 o 15 (.move (t 13)),
 o 5 (.move (t 15))]) k91x16)) k91x15) k91x14
def k91x10 : AC := .seq (.seq (.cond (.tmp 14)
 (.skip)
 (.seq (.mask 0) k91x13)) k91x12) k91x11
def k91x9 : AC := .seq (.ops false [
 o 14 (.bin .other .lss (t 13) (t 12))]) k91x10
def k91x8 : AC := .mask 0
def k91x7 : AC := .seq (.block 0 (.loop 12291 0 k91x9)) k91x8
def k91x22 : AC := .ret
def k91x21 : AC := .seq (.mask 16) k91x22
def k91x6 : AC := .seq (.ops false [
 o 4 (.move (.c (.bool true)))]) k91x21
def k91x1 : AC := .seq (.seq (.ops false [
 o 11 (.move (t 0)),
 o 12 (.lenSl (t 11)),
 o 13 (.move (c 0))]) k91x7) k91x6
def k91x0 : AC := .seq (.seq (.ops false [
 o 6 (.move (t 0)),
 o 7 (.lenSl (t 6)),
 o 8 (.move (t 1)),
 o 9 (.lenSl (t 8)),
 o 10 (.bin .other .neq (t 7) (t 9))]) k91x2) k91x1
def c91 : AFn := ⟨26, [.tmp 4],
 .seq (.ops false [
 o 4 (.move (.c (.bool false)))]) k91x0⟩
theorem cf91 : cFn Try.prog 91 = some c91 := by kernel_rfl
def k28x6 : AC := .ret
def k28x5 : AC := .seq (.mask 28) k28x6
def k28x4 : AC := .mask 10
def k28x3 : AC := .seq (.cond (.tmp 10)
 (.seq (.ops false [
 o 11 (.move (t 5)),
 o 2 (.move (.c (.sl .nil 0))),
 o 3 (.move (.c (.sl .nil 0))),
 o 4 (.move (t 11))]) k28x5)
  (.skip)) k28x4
def k28x2 : AC := .seq (.ops false [
 o 9 (.move (t 5)),
 o 10 (.bin .other .neq (t 9) (c 0))]) k28x3
def k28x15 : AC := .exit 0
def k28x14 : AC := .mask 196622
def k28x18 : AC := .ops false [
 o 20 (.move (t 3)),
 o 21 (.load (.agg [(.int .i64), .sl, (.int .i64), .sl]) (t 1)),
 o 22 (.move (t 2)),
 o 23 (.move (t 6)),
 o 24 (.call 62 [(t 21), (t 22), (t 23)] [(.cell .sl)] (.sl .nil 0)),
 o 25 (.buildSl [(.sl .nil 0)] 1 [(0, (t 24))]),
 o 26 (.append [(.sl .nil 0)] 1 24 (t 20) (t 25)),
 o 3 (.move (t 26))]
def k28x17 : AC := .mask 196622
def k28x16 : AC := .ops false [
 o 27 (.bin .other .add (t 17) (c 1)),
 o 17 (.move (t 27))]
def k28x13 : AC := .seq (.seq (.block 1 (.seq (.ops false [
 o 19 (.move (t 17)),
 o 6 (.move (t 19))]) k28x18)) k28x17) k28x16
def k28x12 : AC := .seq (.seq (.cond (.tmp 18)
 (.skip)
 (.seq (.mask 12) k28x15)) k28x14) k28x13
def k28x11 : AC := .seq (.ops false [
 o 18 (.bin .other .lss (t 17) (t 16))]) k28x12
def k28x10 : AC := .mask 12
def k28x9 : AC := .seq (.block 0 (.loop 196622 12 k28x11)) k28x10
def k28x20 : AC := .ret
def k28x19 : AC := .seq (.mask 28) k28x20
def k28x8 : AC := .seq (.ops false [
 o 28 (.move (t 2)),
 o 29 (.move (t 3)),
 o 2 (.move (t 28)),
 o 3 (.move (t 29)),
 o 4 (.move (c 0))]) k28x19
def k28x7 : AC := .seq (.seq (.ops false [
 o 14 (.fieldAddr 3 (t 1)),
 o 15 (.load (.cell .sl) (t 14)),
 o 16 (.lenSl (t 15)),
 o 17 (.move (c 0))]) k28x9) k28x8
def k28x1 : AC := .seq (.ops false [
 o 12 (.load (.agg [(.int .i64), .sl, (.int .i64), .sl]) (t 1)),
 o 13 (.call 61 [(t 12)] [(.cell .sl)] (.sl .nil 0)),
 o 2 (.move (t 13))]) k28x7
def k28x0 : AC := .seq (.seq (.ops false [
 o 7 (.load (.agg [(.int .i64), .sl, (.int .i64), .sl]) (t 1)),
 o 8 (.call 26 [(t 7)] [I] (.int .i64 0)),
 o 5 (.move (t 8))]) k28x2) k28x1
def c28 : AFn := ⟨30, [.tmp 2, .tmp 3, .tmp 4],
 .seq (.ops false [
 o 1 (.boxL (t 0)),
 o 2 (.move (.c (.sl .nil 0))),
 o 3 (.move (.c (.sl .nil 0))),
 o 4 (.move (c 0))]) k28x0⟩
theorem cf28 : cFn Try.prog 28 = some c28 := by kernel_rfl
def k29x3 : AC := .ret
def k29x2 : AC := .seq (.mask 4) k29x3
def k29x1 : AC := .seq (.ops false [
 o 12 (.move (t 3)),
 o 13 (.call 63 [(t 12), (.c (.fn 64 [] []))] [(.cell .sl)] (.sl .nil 0)),
 o 2 (.move (t 13))]) k29x2
def k29x0 : AC := .seq (.ops false [
 o 4 (.fieldAddr 2 (t 1)),
 o 5 (.load I (t 4)),
 o 6 (.fieldAddr 3 (t 1)),
 o 7 (.load I (t 6)),
 o 8 (.buildSl [(.int .i64 0), (.int .i64 0)] 1 [(0, (t 5)), (1, (t 7))]),
 o 9 (.fieldAddr 5 (t 1)),
 o 10 (.load (.cell .sl) (t 9)),
 o 11 (.append [(.int .i64 0)] 1 8 (t 8) (t 10)),
 o 3 (.move (t 11))]) k29x1
def c29 : AFn := ⟨14, [.tmp 2],
 .seq (.ops false [
 o 1 (.boxL (t 0)),
 o 2 (.move (.c (.sl .nil 0)))]) k29x0⟩
theorem cf29 : cFn Try.prog 29 = some c29 := by kernel_rfl
def k30x5 : AC := .ret
def k30x4 : AC := .seq (.mask 4) k30x5
def k30x3 : AC := .mask 2
def k30x2 : AC := .seq (.cond (.tmp 10)
 (.seq (.ops false [
 o 2 (.move (c 0))]) k30x4)
  (.skip)) k30x3
def k30x7 : AC := .ret
def k30x6 : AC := .seq (.mask 4) k30x7
def k30x1 : AC := .seq (.ops false [
 o 11 (.fieldAddr 1 (t 1)),
 o 12 (.load I (t 11)),
 o 2 (.move (t 12))]) k30x6
def k30x0 : AC := .seq (.seq (.ops true [
 o 3 (.fieldAddr 0 (t 1)),
 o 4 (.load I (t 3)),
 o 5 (.bin .other .eql (t 4) (c 13)),
 o 6 (.move (t 5)),
 f 7 6 (.fieldAddr 0 (t 1)),
 f 8 6 (.load I (t 7)),
 f 9 6 (.bin .other .eql (t 8) (c 23)),
 o 10 (.pick (t 6) (.c (.bool true)) (t 9))]) k30x2) k30x1
def c30 : AFn := ⟨13, [.tmp 2],
 .seq (.ops false [
 o 1 (.boxL (t 0)),
 o 2 (.move (c 0))]) k30x0⟩
theorem cf30 : cFn Try.prog 30 = some c30 := by kernel_rfl
def k31x2 : AC := .ret
def k31x1 : AC := .seq (.mask 4) k31x2
def k31x0 : AC := .seq (.ops false [
 o 3 (.fieldAddr 2 (t 1)),
 o 4 (.load I (t 3)),
 o 5 (.fieldAddr 3 (t 1)),
 o 6 (.load I (t 5)),
 o 7 (.buildSl [(.int .i64 0), (.int .i64 0)] 1 [(0, (t 4)), (1, (t 6))]),
 o 8 (.call 63 [(t 7), (.c (.fn 65 [] []))] [(.cell .sl)] (.sl .nil 0)),
 o 2 (.move (t 8))]) k31x1
def c31 : AFn := ⟨9, [.tmp 2],
 .seq (.ops false [
 o 1 (.boxL (t 0)),
 o 2 (.move (.c (.sl .nil 0)))]) k31x0⟩
theorem cf31 : cFn Try.prog 31 = some c31 := by kernel_rfl
def k20x2 : AC := .ret
def k20x1 : AC := .seq (.mask 16) k20x2
def k20x0 : AC := .seq (.ops false [
 o 5 (.move (t 0)),
 o 6 (.move (t 1)),
 o 7 (.call 54 [(t 5), (t 6)] [I] (.int .i64 0)),
 o 8 (.bin .other .geq (t 7) (c 0)),
 o 4 (.move (t 8))]) k20x1
def c20 : AFn := ⟨9, [.tmp 4],
 .seq (.ops false [
 o 4 (.move (.c (.bool false)))]) k20x0⟩
theorem cf20 : cFn Try.prog 20 = some c20 := by kernel_rfl
def k54x8 : AC := .exit 0
def k54x7 : AC := .mask 387
def k54x15 : AC := .ret
def k54x14 : AC := .seq (.mask 16) k54x15
def k54x13 : AC := .mask 387
def k54x12 : AC := .seq (.cond (.tmp 16)
 (.seq (.ops false [
 o 17 (.move (t 5)),
 o 4 (.move (t 17))]) k54x14)
  (.skip)) k54x13
def k54x11 : AC := .seq (.ops false [
 o 11 (.move (t 1)),
 o 12 (.move (t 0)),
 o 13 (.move (t 5)),
 o 14 (.indexAddr 1 (t 12) (t 13)),
 o 15 (.load I (t 14)),
 o 16 (.bin .other .eql (t 11) (t 15))]) k54x12
def k54x10 : AC := .mask 387
def k54x9 : AC := .ops false [
 o 18 (.bin .other .add (t 8) (c 1)),
 o 8 (.move (t 18))]
def k54x6 : AC := .seq (.seq (.block 1 (.seq (.ops false [
 o 10 (.move (t 8)),
 o 5 (.move (t 10))]) k54x11)) k54x10) k54x9
def k54x5 : AC := .seq (.seq (.cond (.tmp 9)
 (.skip)
 (.seq (.mask 0) k54x8)) k54x7) k54x6
def k54x4 : AC := .seq (.ops false [
 o 9 (.bin .other .lss (t 8) (t 7))]) k54x5
def k54x3 : AC := .mask 0
def k54x2 : AC := .seq (.block 0 (.loop 387 0 k54x4)) k54x3
def k54x17 : AC := .ret
def k54x16 : AC := .seq (.mask 16) k54x17
def k54x1 : AC := .seq (.ops false [
 o 4 (.move (c (-1)))]) k54x16
def k54x0 : AC := .seq (.seq (.ops false [
 o 6 (.move (t 0)),
 o 7 (.lenSl (t 6)),
 o 8 (.move (c 0))]) k54x2) k54x1
def c54 : AFn := ⟨19, [.tmp 4],
 .seq (.ops false [
 o 4 (.move (c 0))]) k54x0⟩
theorem cf54 : cFn Try.prog 54 = some c54 := by kernel_rfl
def k14x6 : AC := .ret
def k14x5 : AC := .seq (.mask 48) k14x6
def k14x4 : AC := .mask 22
def k14x3 : AC := .seq (.cond (.tmp 19)
 (.seq (.ops false [
 o 20 (.build [(.sl .nil 0), (.sl .nil 0), (.int .i64 0)] []),
 o 21 (.move (t 6)),
 u (.store 3 (t 4) (t 20)),
 o 5 (.move (t 21))]) k14x5)
  (.skip)) k14x4
def k14x2 : AC := .seq (.ops false [
 o 18 (.move (t 6)),
 o 19 (.bin .other .neq (t 18) (c 0))]) k14x3
def k14x11 : AC := .ret
def k14x10 : AC := .seq (.mask 48) k14x11
def k14x9 : AC := .mask 22
def k14x8 : AC := .seq (.cond (.tmp 27)
 (.seq (.ops false [
 o 28 (.build [(.sl .nil 0), (.sl .nil 0), (.int .i64 0)] []),
 u (.store 3 (t 4) (t 28)),
 o 5 (.move (c 4))]) k14x10)
  (.skip)) k14x9
def k14x22 : AC := .exit 0
def k14x21 : AC := .mask 26388279067538
def k14x25 : AC := .ops false [
 o 47 (.fieldAddr 0 (t 9)),
 o 48 (.load (.cell .sl) (t 47)),
 o 49 (.move (t 10)),
 o 50 (.fieldAddr 1 (t 9)),
 o 51 (.load (.cell .sl) (t 50)),
 o 52 (.move (t 10)),
 o 53 (.indexAddr 1 (t 48) (t 49)),
  ⟨none, .store 1 (.tmp 53) (.c (.int .i64 (-1))), none, [.load 1 50 none]⟩,
 o 54 (.indexAddr 1 (t 51) (t 52)),
 u (.store 1 (t 54) (c (-1)))]
def k14x24 : AC := .mask 26388279067538
def k14x23 : AC := .ops false [
 o 55 (.bin .other .add (t 44) (c 1)),
 o 44 (.move (t 55))]
def k14x20 : AC := .seq (.seq (.block 1 (.seq (.ops false [
 o 46 (.move (t 44)),
 o 10 (.move (t 46))]) k14x25)) k14x24) k14x23
def k14x19 : AC := .seq (.seq (.cond (.tmp 45)
 (.skip)
 (.seq (.mask 914) k14x22)) k14x21) k14x20
def k14x18 : AC := .seq (.ops false [
 o 45 (.bin .other .lss (t 44) (t 43))]) k14x19
def k14x17 : AC := .mask 914
def k14x16 : AC := .seq (.block 0 (.loop 26388279067538 914 k14x18)) k14x17
def k14x33 : AC := .exit 2
def k14x32 : AC := .mask 2017612633061983122
def k14x39 : AC := .join 2017612633061983122
def k14x38 : AC := .seq (.cond (.tmp 71)
 (.ops false [
 o 72 (.fieldAddr 0 (t 9)),
 o 73 (.load (.cell .sl) (t 72)),
 o 74 (.move (t 12)),
 o 75 (.move (t 13)),
 o 76 (.indexAddr 1 (t 73) (t 74)),
 u (.store 1 (t 76) (t 75))])
  (.skip)) k14x39
def k14x37 : AC := .seq (.ops false [
 o 69 (.move (t 13)),
 o 70 (.move (t 1)),
 o 71 (.bin .other .leq (t 69) (t 70))]) k14x38
def k14x36 : AC := .seq (.ops false [
 o 64 (.move (t 7)),
 o 65 (.move (t 12)),
 o 66 (.fieldAddr 0 (t 9)),
 o 67 (.load (.cell .sl) (t 66)),
 o 68 (.call 43 [(t 64), (t 65), (c 1), (t 67)] [I] (.int .i64 0)),
 o 13 (.move (t 68))]) k14x37
def k14x35 : AC := .mask 2017612633061983122
def k14x34 : AC := .ops false [
 o 77 (.bin .other .add (t 60) (c 1)),
 o 60 (.move (t 77))]
def k14x31 : AC := .seq (.seq (.block 3 (.seq (.ops false [
 o 62 (.indexAddr 1 (t 58) (t 60)),
 o 63 (.load I (t 62)),
 o 12 (.move (t 63))]) k14x36)) k14x35) k14x34
def k14x30 : AC := .seq (.seq (.cond (.tmp 61)
 (.skip)
 (.seq (.mask 912) k14x33)) k14x32) k14x31
def k14x29 : AC := .seq (.ops false [
 o 61 (.bin .other .lss (t 60) (t 59))]) k14x30
def k14x28 : AC := .mask 912
def k14x27 : AC := .seq (.block 2 (.loop 2017612633061983122 912 k14x29)) k14x28
def k14x48 : AC := .exit 4
def k14x47 : AC := .mask 3626777458843887524119440
def k14x54 : AC := .ops false [
 o 108 (.fieldAddr 2 (t 9)),
 o 109 (.load I (t 108)),
 o 110 (.fieldAddr 1 (t 9)),
 o 111 (.load (.cell .sl) (t 110)),
 o 112 (.move (t 14)),
 o 113 (.indexAddr 1 (t 111) (t 112)),
 o 114 (.load I (t 113)),
 o 115 (.bin .other .add (t 114) (c 1)),
 o 116 (.mm true [(t 109), (t 115)]),
 o 117 (.fieldAddr 2 (t 9)),
 u (.store 1 (t 117) (t 116))]
def k14x53 : AC := .join 3626777458843887524119440
def k14x52 : AC := .seq (.cond (.tmp 98)
 (.seq (.ops false [
 o 99 (.fieldAddr 1 (t 9)),
 o 100 (.load (.cell .sl) (t 99)),
 o 101 (.move (t 14)),
 o 102 (.move (t 7)),
 o 103 (.move (t 14)),
 o 104 (.fieldAddr 1 (t 9)),
 o 105 (.load (.cell .sl) (t 104)),
      ⟨(some 106), .call 43 [(.tmp 102), (.tmp 103), (.c (.int .i64 0)), (.tmp 105)] [(.cell (.int .i64))] (.int .i64 0), none, [.load 1 99 none]⟩,
 o 107 (.indexAddr 1 (t 100) (t 101)),
 u (.store 1 (t 107) (t 106))]) k14x54)
  (.skip)) k14x53
def k14x51 : AC := .seq (.ops true [
 o 84 (.move (t 7)),
 o 85 (.nilCheck (t 84)),
 o 86 (.fieldAddr 2 (t 85)),
 o 87 (.load (.cell .sl) (t 86)),
 o 88 (.move (t 14)),
 o 89 (.indexAddr 1 (t 87) (t 88)),
 o 90 (.load (.cell .bool) (t 89)),
 o 91 (.move (t 90)),
 g 92 91 (.fieldAddr 0 (t 9)),
 g 93 91 (.load (.cell .sl) (t 92)),
 g 94 91 (.move (t 14)),
 g 95 91 (.indexAddr 1 (t 93) (t 94)),
 g 96 91 (.load I (t 95)),
 g 97 91 (.bin .other .lss (t 96) (c 0)),
 o 98 (.pick (t 91) (t 97) (.c (.bool false)))]) k14x52
def k14x50 : AC := .mask 3626777458843887524119440
def k14x49 : AC := .ops false [
 o 118 (.bin .other .add (t 81) (c 1)),
 o 81 (.move (t 118))]
def k14x46 : AC := .seq (.seq (.block 5 (.seq (.ops false [
 o 83 (.move (t 81)),
 o 14 (.move (t 83))]) k14x51)) k14x50) k14x49
def k14x45 : AC := .seq (.seq (.cond (.tmp 82)
 (.skip)
 (.seq (.mask 784) k14x48)) k14x47) k14x46
def k14x44 : AC := .seq (.ops false [
 o 82 (.bin .other .lss (t 81) (t 80))]) k14x45
def k14x43 : AC := .mask 784
def k14x42 : AC := .seq (.block 4 (.loop 3626777458843887524119440 784 k14x44)) k14x43
def k14x63 : AC := .exit 6
def k14x62 : AC := .mask 7975367974709495237422842361682068240
def k14x66 : AC := .ops false [
 o 125 (.fieldAddr 0 (t 9)),
 o 126 (.load (.cell .sl) (t 125)),
 o 127 (.move (t 15)),
 o 128 (.fieldAddr 1 (t 9)),
 o 129 (.load (.cell .sl) (t 128)),
 o 130 (.move (t 15)),
 o 131 (.fieldAddr 0 (t 9)),
 o 132 (.load (.cell .sl) (t 131)),
 o 133 (.move (t 8)),
 o 134 (.move (t 15)),
 o 138 (.fieldAddr 1 (t 9)),
 o 139 (.load (.cell .sl) (t 138)),
 o 140 (.move (t 8)),
 o 141 (.move (t 15)),
  ⟨(some 135), .call 44 [(.tmp 133), (.tmp 134)] [(.cell (.int .i64))] (.int .i64 0), none, [.load 1 125 none, .load 1 128 none, .load 1 131 none, .load 1 138 none]⟩,
 o 136 (.indexAddr 1 (t 132) (t 135)),
 o 137 (.load I (t 136)),
  ⟨(some 142), .call 44 [(.tmp 140), (.tmp 141)] [(.cell (.int .i64))] (.int .i64 0), none, [.load 1 125 none, .load 1 128 none, .load 1 131 none, .load 1 138 none, .load 1 136 none]⟩,
 o 143 (.indexAddr 1 (t 139) (t 142)),
 o 144 (.load I (t 143)),
 o 145 (.indexAddr 1 (t 126) (t 127)),
  ⟨none, .store 1 (.tmp 145) (.tmp 137), none, [.load 1 128 none]⟩,
 o 146 (.indexAddr 1 (t 129) (t 130)),
 u (.store 1 (t 146) (t 144))]
def k14x65 : AC := .mask 7975367974709495237422842361682068240
def k14x64 : AC := .ops false [
 o 147 (.bin .other .add (t 122) (c 1)),
 o 122 (.move (t 147))]
def k14x61 : AC := .seq (.seq (.block 7 (.seq (.ops false [
 o 124 (.move (t 122)),
 o 15 (.move (t 124))]) k14x66)) k14x65) k14x64
def k14x60 : AC := .seq (.seq (.cond (.tmp 123)
 (.skip)
 (.seq (.mask 528) k14x63)) k14x62) k14x61
def k14x59 : AC := .seq (.ops false [
 o 123 (.bin .other .lss (t 122) (t 121))]) k14x60
def k14x58 : AC := .mask 528
def k14x57 : AC := .seq (.block 6 (.loop 7975367974709495237422842361682068240 528 k14x59)) k14x58
def k14x68 : AC := .ret
def k14x67 : AC := .seq (.mask 48) k14x68
def k14x56 : AC := .seq (.ops false [
 o 148 (.load (.agg [.sl, .sl, (.int .i64)]) (t 9)),
 u (.store 3 (t 4) (t 148)),
 o 5 (.move (c 0))]) k14x67
def k14x41 : AC := .seq (.seq (.ops false [
 o 119 (.fieldAddr 0 (t 9)),
 o 120 (.load (.cell .sl) (t 119)),
 o 121 (.lenSl (t 120)),
 o 122 (.move (c 0))]) k14x57) k14x56
def k14x26 : AC := .seq (.seq (.ops false [
 o 78 (.fieldAddr 0 (t 9)),
 o 79 (.load (.cell .sl) (t 78)),
 o 80 (.lenSl (t 79)),
 o 81 (.move (c 0))]) k14x42) k14x41
def k14x15 : AC := .seq (.seq (.ops false [
 o 56 (.move (t 7)),
 o 57 (.move (t 1)),
 o 58 (.call 42 [(t 56), (t 57)] [(.cell .sl)] (.sl .nil 0)),
 o 59 (.lenSl (t 58)),
 o 60 (.move (c 0))]) k14x27) k14x26
def k14x14 : AC := .seq (.seq (.ops false [
 o 41 (.fieldAddr 0 (t 9)),
 o 42 (.load (.cell .sl) (t 41)),
 o 43 (.lenSl (t 42)),
 o 44 (.move (c 0))]) k14x16) k14x15
def k14x13 : AC := .seq (.ops false [
 o 34 (.fieldAddr 2 (t 2)),
 o 35 (.load I (t 34)),
 o 36 (.makeSl [(.int .i64 0)] 8 (t 35) (t 35)),
 o 37 (.fieldAddr 2 (t 2)),
 o 38 (.load I (t 37)),
 o 39 (.makeSl [(.int .i64 0)] 8 (t 38) (t 38)),
 o 40 (.build [(.sl .nil 0), (.sl .nil 0), (.int .i64 0)] [(0, 1, (t 36)), (1, 1, (t 39))]),
 o 9 (.allocL [(.sl .nil 0), (.sl .nil 0), (.int .i64 0)]),
 u (.store 3 (t 9) (t 40))]) k14x14
def k14x12 : AC := .seq (.ops false [
 o 31 (.move (t 7)),
 o 32 (.move (t 1)),
 o 33 (.call 41 [(t 31), (t 32)] [(.cell .sl)] (.sl .nil 0)),
 o 8 (.move (t 33))]) k14x13
def k14x7 : AC := .seq (.ops false [
 o 29 (.load (.agg [(.int .i64), .sl, (.int .i64), .sl]) (t 2)),
 o 30 (.call 40 [(t 29)] [(.cell .ptr)] (.ptr none)),
 o 7 (.move (t 30))]) k14x12
def k14x1 : AC := .seq (.seq (.ops true [
 o 22 (.move (t 1)),
 o 23 (.bin .other .lss (t 22) (c 1)),
 o 24 (.move (t 23)),
 f 25 24 (.move (t 1)),
 f 26 24 (.bin .other .gtr (t 25) (c 10)),
 o 27 (.pick (t 24) (.c (.bool true)) (t 26))]) k14x8) k14x7
def k14x0 : AC := .seq (.seq (.ops false [
 o 16 (.load (.agg [(.int .i64), .sl, (.int .i64), .sl]) (t 2)),
 o 17 (.call 26 [(t 16)] [I] (.int .i64 0)),
 o 6 (.move (t 17))]) k14x2) k14x1
def c14 : AFn := ⟨149, [.cell 4 (.agg [.sl, .sl, (.int .i64)]), .tmp 5],
 .seq (.ops false [
 o 2 (.boxL (t 0)),
 o 4 (.allocL [(.sl .nil 0), (.sl .nil 0), (.int .i64 0)]),
 o 5 (.move (c 0))]) k14x0⟩
theorem cf14 : cFn Try.prog 14 = some c14 := by kernel_rfl
def k40x9 : AC := .exit 0
def k40x8 : AC := .mask 3221225482
def k40x11 : AC := .mask 3221225482
def k40x10 : AC := .ops false [
 o 45 (.bin .other .add (t 31) (c 1)),
 o 31 (.move (t 45))]
def k40x7 : AC := .seq (.seq (.block 1 (.ops false [
 o 33 (.load (.cell .ptr) (t 3)),
 o 34 (.load (.cell .ptr) (t 3)),
 o 35 (.nilCheck (t 34)),
 o 36 (.fieldAddr 0 (t 35)),
 o 37 (.load (.cell .sl) (t 36)),
 o 38 (.fieldAddr 2 (t 1)),
 o 39 (.load I (t 38)),
 o 40 (.makeSl [(.bool false)] 1 (t 39) (t 39)),
 o 41 (.buildSl [(.sl .nil 0)] 1 [(0, (t 40))]),
  ⟨(some 42), .append [(.sl .nil 0)] 1 24 (.tmp 37) (.tmp 41), none, [.load 1 3 none]⟩,
 o 43 (.nilCheck (t 33)),
 o 44 (.fieldAddr 0 (t 43)),
 u (.store 1 (t 44) (t 42))])) k40x11) k40x10
def k40x6 : AC := .seq (.seq (.cond (.tmp 32)
 (.skip)
 (.seq (.mask 10) k40x9)) k40x8) k40x7
def k40x5 : AC := .seq (.ops false [
 o 32 (.bin .other .lss (t 31) (t 30))]) k40x6
def k40x4 : AC := .mask 10
def k40x3 : AC := .seq (.block 0 (.loop 3221225482 10 k40x5)) k40x4
def k40x20 : AC := .exit 2
def k40x19 : AC := .mask 63050394783187002
def k40x33 : AC := .exit 4
def k40x32 : AC := .mask 63050394783190842
def k40x31 : AC := .seq (.cond (.tmp 75)
 (.skip)
 (.seq (.mask 63050394783187002) k40x33)) k40x32
def k40x43 : AC := .join 63050394783219514
def k40x42 : AC := .seq (.cond (.tmp 102)
 (.ops false [
 o 103 (.load (.cell .ptr) (t 3)),
 o 104 (.load (.cell .ptr) (t 3)),
 o 105 (.nilCheck (t 104)),
 o 106 (.fieldAddr 3 (t 105)),
 o 107 (.load (.cell .sl) (t 106)),
 o 108 (.move (t 13)),
 o 109 (.fieldAddr 2 (t 12)),
 o 110 (.load I (t 109)),
 o 111 (.build [(.int .i64 0), (.int .i64 0)] [(0, 1, (t 108)), (1, 1, (t 110))]),
 o 112 (.buildSl [(.int .i64 0), (.int .i64 0)] 2 [(0, (t 111))]),
      ⟨(some 113), .append [(.int .i64 0), (.int .i64 0)] 2 16 (.tmp 107) (.tmp 112), none, [.load 1 3 none]⟩,
 o 114 (.nilCheck (t 103)),
 o 115 (.fieldAddr 3 (t 114)),
 u (.store 1 (t 115) (t 113))])
  (.skip)) k40x43
def k40x41 : AC := .seq (.ops true [
 o 90 (.fieldAddr 2 (t 12)),
 o 91 (.load I (t 90)),
 o 92 (.bin .other .neq (t 91) (c 0)),
 o 93 (.move (t 92)),
 g 94 93 (.move (t 13)),
 g 95 93 (.bin .other .neq (t 94) (c 0)),
 o 96 (.pick (t 93) (t 95) (.c (.bool false))),
 o 97 (.move (t 96)),
 g 98 97 (.fieldAddr 2 (t 12)),
 g 99 97 (.load I (t 98)),
 g 100 97 (.move (t 13)),
 g 101 97 (.bin .other .neq (t 99) (t 100)),
 o 102 (.pick (t 97) (t 101) (.c (.bool false)))]) k40x42
def k40x40 : AC := .join 63050394783219514
def k40x39 : AC := .seq (.cond (.tmp 87)
 (.seq (.ops false [
 o 88 (.fieldAddr 2 (t 12)),
 o 89 (.load I (t 88)),
 o 14 (.move (t 89))]) k40x41)
  (.skip)) k40x40
def k40x57 : AC := .exit 6
def k40x56 : AC := .mask 76223250190290215815795975115110862561082
def k40x60 : AC := .ops true [
 o 140 (.load (.cell .ptr) (t 3)),
 o 141 (.nilCheck (t 140)),
 o 142 (.fieldAddr 1 (t 141)),
 o 143 (.load (.cell .sl) (t 142)),
 o 144 (.move (t 15)),
 o 145 (.load (.cell .ptr) (t 3)),
 o 146 (.nilCheck (t 145)),
 o 147 (.fieldAddr 1 (t 146)),
 o 148 (.load (.cell .sl) (t 147)),
 o 149 (.move (t 15)),
 o 150 (.indexAddr 1 (t 148) (t 149)),
 o 151 (.load (.cell .bool) (t 150)),
 o 152 (.move (t 151)),
 f 153 152 (.move (t 16)),
 o 154 (.pick (t 152) (.c (.bool true)) (t 153)),
 o 155 (.indexAddr 1 (t 143) (t 144)),
 u (.store 1 (t 155) (t 154))]
def k40x59 : AC := .mask 76223250190290215815795975115110862561082
def k40x58 : AC := .ops false [
 o 156 (.bin .other .add (t 135) (c 1)),
 o 135 (.move (t 156))]
def k40x55 : AC := .seq (.seq (.block 7 (.seq (.ops false [
 o 137 (.move (t 135)),
 o 138 (.indexAddr 1 (t 133) (t 135)),
 o 139 (.load (.cell .bool) (t 138)),
 o 15 (.move (t 137)),
 o 16 (.move (t 139))]) k40x60)) k40x59) k40x58
def k40x54 : AC := .seq (.seq (.cond (.tmp 136)
 (.skip)
 (.seq (.mask 63050394783194938) k40x57)) k40x56) k40x55
def k40x53 : AC := .seq (.ops false [
 o 136 (.bin .other .lss (t 135) (t 134))]) k40x54
def k40x52 : AC := .mask 63050394783194938
def k40x51 : AC := .seq (.block 6 (.loop 76223250190290215815795975115110862561082 63050394783194938 k40x53)) k40x52
def k40x50 : AC := .join 63050394783194938
def k40x49 : AC := .seq (.cond (.tmp 132)
 (.seq (.ops false [
 o 133 (.load (.cell .sl) (t 9)),
 o 134 (.lenSl (t 133)),
 o 135 (.move (c 0))]) k40x51)
  (.skip)) k40x50
def k40x48 : AC := .ops false [
 o 157 (.move (t 10)),
 o 158 (.load (.agg [(.int .i64), (.int .i64), (.int .i64), (.int .i64), (.int .i64), .sl]) (t 12)),
 o 159 (.call 29 [(t 158)] [(.cell .sl)] (.sl .nil 0)),
 o 160 (.callV (t 157) [(t 159)] [] .opq)]
def k40x47 : AC := .seq (.seq (.ops false [
 o 130 (.fieldAddr 0 (t 12)),
 o 131 (.load I (t 130)),
 o 132 (.call 21 [(t 131)] [(.cell .bool)] (.bool false))]) k40x49) k40x48
def k40x46 : AC := .seq (.ops false [
 o 121 (.load (.cell .ptr) (t 3)),
 o 122 (.nilCheck (t 121)),
 o 123 (.fieldAddr 2 (t 122)),
 o 124 (.load (.cell .sl) (t 123)),
 o 125 (.move (t 13)),
 o 126 (.load (.cell .sl) (t 9)),
 o 127 (.move (t 13)),
 o 128 (.indexAddr 1 (t 124) (t 125)),
  ⟨none, .store 1 (.tmp 128) (.c (.bool true)), none, [.load 1 9 none]⟩,
 o 129 (.indexAddr 1 (t 126) (t 127)),
 u (.store 1 (t 129) (.c (.bool false)))]) k40x47
def k40x38 : AC := .seq (.ops false [
 o 116 (.load (.cell .ptr) (t 3)),
 o 117 (.move (t 13)),
 o 118 (.move (t 14)),
 o 119 (.load (.cell .sl) (t 9)),
 o 120 (.call 78 [(t 116), (t 117), (t 118), (t 119)] [] .opq)]) k40x46
def k40x37 : AC := .seq (.seq (.ops false [
 o 85 (.fieldAddr 0 (t 12)),
 o 86 (.load I (t 85)),
 o 87 (.bin .other .eql (t 86) (c 100))]) k40x39) k40x38
def k40x36 : AC := .seq (.ops false [
 o 83 (.load (.agg [(.int .i64), (.int .i64), (.int .i64), (.int .i64), (.int .i64), .sl]) (t 12)),
 o 84 (.call 30 [(t 83)] [I] (.int .i64 0)),
 o 13 (.move (t 84)),
 o 14 (.move (c 0))]) k40x37
def k40x35 : AC := .mask 63050394783190842
def k40x34 : AC := .ops false [
 o 76 (.move (t 11)),
 o 77 (.bin .other .sub (t 76) (c 1)),
 o 11 (.move (t 77))]
def k40x30 : AC := .seq (.seq (.block 5 (.seq (.ops false [
 o 78 (.fieldAddr 0 (t 8)),
 o 79 (.load (.cell .sl) (t 78)),
 o 80 (.move (t 11)),
 o 81 (.indexAddr 6 (t 79) (t 80)),
 o 82 (.load (.agg [(.int .i64), (.int .i64), (.int .i64), (.int .i64), (.int .i64), .sl]) (t 81)),
 o 12 (.allocL [(.int .i64 0), (.int .i64 0), (.int .i64 0), (.int .i64 0), (.int .i64 0), (.sl .nil 0)]),
 u (.store 6 (t 12) (t 82))]) k40x36)) k40x35) k40x34
def k40x29 : AC := .seq (.seq (.ops false [
 o 74 (.move (t 11)),
 o 75 (.bin .other .geq (t 74) (c 0))]) k40x31) k40x30
def k40x28 : AC := .mask 63050394783187002
def k40x27 : AC := .seq (.block 4 (.loop 63050394783190842 63050394783187002 k40x29)) k40x28
def k40x26 : AC := .seq (.ops false [
 o 70 (.fieldAddr 0 (t 8)),
 o 71 (.load (.cell .sl) (t 70)),
 o 72 (.lenSl (t 71)),
 o 73 (.bin .other .sub (t 72) (c 1)),
 o 11 (.move (t 73))]) k40x27
def k40x25 : AC := .seq (.ops false [
 o 65 (.move (t 10)),
 o 66 (.fieldAddr 1 (t 8)),
 o 67 (.load (.agg [(.int .i64), (.int .i64), (.int .i64), (.int .i64), (.int .i64), .sl]) (t 66)),
 o 68 (.call 31 [(t 67)] [(.cell .sl)] (.sl .nil 0)),
 o 69 (.callV (t 65) [(t 68)] [] .opq)]) k40x26
def k40x24 : AC := .seq (.ops false [
 o 64 (.makeFn 77 [] [(t 9), (t 3)]),
 o 10 (.move (t 64))]) k40x25
def k40x23 : AC := .seq (.ops false [
 o 60 (.move (t 5)),
 o 61 (.move (t 7)),
 o 62 (.indexAddr 1 (t 60) (t 61)),
 o 63 (.load (.cell .sl) (t 62)),
 o 9 (.allocH [(.sl .nil 0)]),
 u (.store 1 (t 9) (t 63))]) k40x24
def k40x22 : AC := .mask 63050394783187002
def k40x21 : AC := .ops false [
 o 161 (.bin .other .add (t 55) (c 1)),
 o 55 (.move (t 161))]
def k40x18 : AC := .seq (.seq (.block 3 (.seq (.ops false [
 o 57 (.move (t 55)),
 o 58 (.indexAddr 7 (t 53) (t 55)),
 o 59 (.load (.agg [.sl, (.int .i64), (.int .i64), (.int .i64), (.int .i64), (.int .i64), .sl]) (t 58)),
 o 8 (.allocL [(.sl .nil 0), (.int .i64 0), (.int .i64 0), (.int .i64 0), (.int .i64 0), (.int .i64 0), (.sl .nil 0)]),
 o 7 (.move (t 57)),
 u (.store 7 (t 8) (t 59))]) k40x23)) k40x22) k40x21
def k40x17 : AC := .seq (.seq (.cond (.tmp 56)
 (.skip)
 (.seq (.mask 26) k40x20)) k40x19) k40x18
def k40x16 : AC := .seq (.ops false [
 o 56 (.bin .other .lss (t 55) (t 54))]) k40x17
def k40x15 : AC := .mask 26
def k40x14 : AC := .seq (.block 2 (.loop 63050394783187002 26 k40x16)) k40x15
def k40x69 : AC := .exit 8
def k40x68 : AC := .mask 81844091690530563419406350632111849100732222406682
def k40x81 : AC := .exit 10
def k40x80 : AC := .mask 5363816237122301534817634001376714254514687659865276442
def k40x84 : AC := .ops false [
 o 185 (.load (.cell .ptr) (t 3)),
 o 186 (.move (t 18)),
 o 187 (.move (t 20)),
 o 188 (.call 79 [(t 185), (t 186), (t 187)] [] .opq)]
def k40x83 : AC := .mask 5363816237122301534817634001376714254514687659865276442
def k40x82 : AC := .ops false [
 o 189 (.bin .other .add (t 181) (c 1)),
 o 181 (.move (t 189))]
def k40x79 : AC := .seq (.seq (.block 11 (.seq (.ops false [
 o 183 (.indexAddr 1 (t 179) (t 181)),
 o 184 (.load I (t 183)),
 o 20 (.move (t 184))]) k40x84)) k40x83) k40x82
def k40x78 : AC := .seq (.seq (.cond (.tmp 182)
 (.skip)
 (.seq (.mask 81844091690530563419406350632111849100732222668826) k40x81)) k40x80) k40x79
def k40x77 : AC := .seq (.ops false [
 o 182 (.bin .other .lss (t 181) (t 180))]) k40x78
def k40x76 : AC := .mask 81844091690530563419406350632111849100732222668826
def k40x75 : AC := .seq (.block 10 (.loop 5363816237122301534817634001376714254514687659865276442 81844091690530563419406350632111849100732222668826 k40x77)) k40x76
def k40x74 : AC := .ops false [
 o 190 (.load (.cell .ptr) (t 3)),
 o 191 (.move (t 18)),
 o 192 (.move (t 4)),
 o 193 (.indexAddr 1 (t 192) (c 0)),
 o 194 (.load (.cell .sl) (t 193)),
 o 195 (.call 78 [(t 190), (t 191), (c 0), (t 194)] [] .opq)]
def k40x73 : AC := .seq (.seq (.ops false [
 o 176 (.fieldAddr 1 (t 1)),
 o 177 (.load (.cell .sl) (t 176)),
 o 178 (.move (t 17)),
 o 179 (.slice 1 (t 177) none (some (t 178))),
 o 180 (.lenSl (t 179)),
 o 181 (.move (c 0))]) k40x75) k40x74
def k40x72 : AC := .seq (.ops false [
 o 170 (.load (.cell .ptr) (t 3)),
 o 171 (.nilCheck (t 170)),
 o 172 (.fieldAddr 2 (t 171)),
 o 173 (.load (.cell .sl) (t 172)),
 o 174 (.move (t 18)),
 o 175 (.indexAddr 1 (t 173) (t 174)),
 u (.store 1 (t 175) (.c (.bool true)))]) k40x73
def k40x71 : AC := .mask 81844091690530563419406350632111849100732222406682
def k40x70 : AC := .ops false [
 o 196 (.bin .other .add (t 165) (c 1)),
 o 165 (.move (t 196))]
def k40x67 : AC := .seq (.seq (.block 9 (.seq (.ops false [
 o 167 (.move (t 165)),
 o 168 (.indexAddr 1 (t 163) (t 165)),
 o 169 (.load I (t 168)),
 o 17 (.move (t 167)),
 o 18 (.move (t 169))]) k40x72)) k40x71) k40x70
def k40x66 : AC := .seq (.seq (.cond (.tmp 166)
 (.skip)
 (.seq (.mask 8) k40x69)) k40x68) k40x67
def k40x65 : AC := .seq (.ops false [
 o 166 (.bin .other .lss (t 165) (t 164))]) k40x66
def k40x64 : AC := .mask 8
def k40x63 : AC := .seq (.block 8 (.loop 81844091690530563419406350632111849100732222406682 8 k40x65)) k40x64
def k40x87 : AC := .ret
def k40x86 : AC := .seq (.mask 4) k40x87
def k40x85 : AC := .seq (.ops false [
 o 202 (.load (.cell .ptr) (t 3)),
 o 2 (.move (t 202))]) k40x86
def k40x62 : AC := .seq (.ops false [
 o 197 (.load (.cell .ptr) (t 3)),
 o 198 (.nilCheck (t 197)),
 o 199 (.fieldAddr 2 (t 198)),
 o 200 (.load (.cell .sl) (t 199)),
 o 201 (.indexAddr 1 (t 200) (c 0)),
 u (.store 1 (t 201) (.c (.bool false)))]) k40x85
def k40x13 : AC := .seq (.seq (.ops false [
 o 162 (.fieldAddr 1 (t 1)),
 o 163 (.load (.cell .sl) (t 162)),
 o 164 (.lenSl (t 163)),
 o 165 (.move (c 0))]) k40x63) k40x62
def k40x12 : AC := .seq (.seq (.ops false [
 o 52 (.fieldAddr 3 (t 1)),
 o 53 (.load (.cell .sl) (t 52)),
 o 54 (.lenSl (t 53)),
 o 55 (.move (c 0))]) k40x14) k40x13
def k40x2 : AC := .seq (.ops false [
 o 47 (.load (.agg [(.int .i64), .sl, (.int .i64), .sl]) (t 1)),
 o 48 (.call 28 [(t 47)] [(.cell .sl), (.cell .sl), I] .opq),
 o 46 (.move (t 48)),
 o 49 (.extract (t 46) 0),
 o 50 (.extract (t 46) 1),
 o 51 (.extract (t 46) 2),
 o 4 (.move (t 49)),
 o 5 (.move (t 50)),
 o 6 (.move (t 51))]) k40x12
def k40x1 : AC := .seq (.seq (.ops false [
 o 29 (.fieldAddr 2 (t 1)),
 o 30 (.load I (t 29)),
 o 31 (.move (c 0))]) k40x3) k40x2
def k40x0 : AC := .seq (.ops false [
 o 21 (.fieldAddr 2 (t 1)),
 o 22 (.load I (t 21)),
 o 23 (.makeSl [(.bool false)] 1 (t 22) (t 22)),
 o 24 (.fieldAddr 2 (t 1)),
 o 25 (.load I (t 24)),
 o 26 (.makeSl [(.bool false)] 1 (t 25) (t 25)),
 o 27 (.build [(.sl .nil 0), (.sl .nil 0), (.sl .nil 0), (.sl .nil 0)] [(1, 1, (t 23)), (2, 1, (t 26))]),
 o 28 (.boxH (t 27)),
 o 3 (.allocH [(.ptr none)]),
 u (.store 1 (t 3) (t 28))]) k40x1
def c40 : AFn := ⟨203, [.tmp 2],
 .seq (.ops false [
 o 1 (.boxL (t 0)),
 o 2 (.move (.c (.ptr none)))]) k40x0⟩
theorem cf40 : cFn Try.prog 40 = some c40 := by kernel_rfl
def k41x9 : AC := .exit 0
def k41x8 : AC := .mask 201326627
def k41x12 : AC := .ops false [
 o 30 (.move (t 5)),
 o 31 (.move (t 6)),
 o 32 (.move (t 6)),
 o 33 (.indexAddr 1 (t 30) (t 31)),
 u (.store 1 (t 33) (t 32))]
def k41x11 : AC := .mask 201326627
def k41x10 : AC := .ops false [
 o 34 (.bin .other .add (t 27) (c 1)),
 o 27 (.move (t 34))]
def k41x7 : AC := .seq (.seq (.block 1 (.seq (.ops false [
 o 29 (.move (t 27)),
 o 6 (.move (t 29))]) k41x12)) k41x11) k41x10
def k41x6 : AC := .seq (.seq (.cond (.tmp 28)
 (.skip)
 (.seq (.mask 35) k41x9)) k41x8) k41x7
def k41x5 : AC := .seq (.ops false [
 o 28 (.bin .other .lss (t 27) (t 26))]) k41x6
def k41x4 : AC := .mask 35
def k41x3 : AC := .seq (.block 0 (.loop 201326627 35 k41x5)) k41x4
def k41x20 : AC := .exit 2
def k41x19 : AC := .mask 1924145348643
def k41x28 : AC := .exit 3
def k41x27 : AC := .mask 1924145350179
def k41x26 : AC := .seq (.cond (.tmp 89)
 (.seq (.mask 1924145348643) k41x28)
 (.skip)) k41x27
def k41x37 : AC := .exit 4
def k41x36 : AC := .mask 141976867225561692969554904354339
def k41x42 : AC := .join 141976867225561692969554904354339
def k41x41 : AC := .seq (.cond (.tmp 111)
 (.ops false [
 o 112 (.move (t 0)),
 o 113 (.move (t 9)),
 o 114 (.move (t 12)),
 o 115 (.call 79 [(t 112), (t 113), (t 114)] [] .opq)])
  (.skip)) k41x42
def k41x40 : AC := .seq (.ops false [
 o 111 (.move (t 13))]) k41x41
def k41x39 : AC := .mask 141976867225561692969554904354339
def k41x38 : AC := .ops false [
 o 116 (.bin .other .add (t 106) (c 1)),
 o 106 (.move (t 116))]
def k41x35 : AC := .seq (.seq (.block 5 (.seq (.ops false [
 o 108 (.move (t 106)),
 o 109 (.indexAddr 1 (t 104) (t 106)),
 o 110 (.load (.cell .bool) (t 109)),
 o 12 (.move (t 108)),
 o 13 (.move (t 110))]) k41x40)) k41x39) k41x38
def k41x34 : AC := .seq (.seq (.cond (.tmp 107)
 (.skip)
 (.seq (.mask 1924145352227) k41x37)) k41x36) k41x35
def k41x33 : AC := .seq (.ops false [
 o 107 (.bin .other .lss (t 106) (t 105))]) k41x34
def k41x32 : AC := .mask 1924145352227
def k41x31 : AC := .seq (.block 4 (.loop 141976867225561692969554904354339 1924145352227 k41x33)) k41x32
def k41x55 : AC := .exit 6
def k41x54 : AC := .mask 78052608194857180995375013954271189416282659
def k41x60 : AC := .join 78052608194857180995375013954271189416282659
def k41x59 : AC := .seq (.cond (.tmp 157)
 (.ops false [
 o 158 (.move (t 0)),
 o 159 (.nilCheck (t 158)),
 o 160 (.fieldAddr 0 (t 159)),
 o 161 (.load (.cell .sl) (t 160)),
 o 162 (.move (t 9)),
 o 163 (.indexAddr 1 (t 161) (t 162)),
 o 164 (.load (.cell .sl) (t 163)),
 o 165 (.move (t 16)),
 o 166 (.move (t 0)),
 o 167 (.nilCheck (t 166)),
 o 168 (.fieldAddr 0 (t 167)),
 o 169 (.load (.cell .sl) (t 168)),
 o 170 (.move (t 16)),
 o 171 (.indexAddr 1 (t 169) (t 170)),
 o 172 (.load (.cell .sl) (t 171)),
 o 173 (.move (t 9)),
 o 174 (.indexAddr 1 (t 164) (t 165)),
 u (.store 1 (t 174) (.c (.bool false))),
 o 175 (.indexAddr 1 (t 172) (t 173)),
 u (.store 1 (t 175) (.c (.bool false)))])
  (.skip)) k41x60
def k41x58 : AC := .seq (.ops true [
 o 150 (.move (t 17)),
 o 151 (.move (t 150)),
 g 152 151 (.move (t 11)),
 g 153 151 (.move (t 16)),
 g 154 151 (.indexAddr 1 (t 152) (t 153)),
 g 155 151 (.load (.cell .bool) (t 154)),
 g 156 151 (.un .not (t 155)),
 o 157 (.pick (t 151) (t 156) (.c (.bool false)))]) k41x59
def k41x57 : AC := .mask 78052608194857180995375013954271189416282659
def k41x56 : AC := .ops false [
 o 176 (.bin .other .add (t 145) (c 1)),
 o 145 (.move (t 176))]
def k41x53 : AC := .seq (.seq (.block 7 (.seq (.ops false [
 o 147 (.move (t 145)),
 o 148 (.indexAddr 1 (t 143) (t 145)),
 o 149 (.load (.cell .bool) (t 148)),
 o 16 (.move (t 147)),
 o 17 (.move (t 149))]) k41x58)) k41x57) k41x56
def k41x52 : AC := .seq (.seq (.cond (.tmp 146)
 (.skip)
 (.seq (.mask 1924145348643) k41x55)) k41x54) k41x53
def k41x51 : AC := .seq (.ops false [
 o 146 (.bin .other .lss (t 145) (t 144))]) k41x52
def k41x50 : AC := .mask 1924145348643
def k41x49 : AC := .seq (.block 6 (.loop 78052608194857180995375013954271189416282659 1924145348643 k41x51)) k41x50
def k41x62 : AC := .exit 3
def k41x48 : AC := .seq (.mask 1924145348643) k41x62
def k41x47 : AC := .mask 1924145350179
def k41x46 : AC := .seq (.cond (.tmp 136)
 (.seq (.seq (.ops false [
 o 137 (.move (t 0)),
 o 138 (.nilCheck (t 137)),
 o 139 (.fieldAddr 0 (t 138)),
 o 140 (.load (.cell .sl) (t 139)),
 o 141 (.move (t 9)),
 o 142 (.indexAddr 1 (t 140) (t 141)),
 o 143 (.load (.cell .sl) (t 142)),
 o 144 (.lenSl (t 143)),
 o 145 (.move (c 0))]) k41x49) k41x48)
  (.skip)) k41x47
def k41x45 : AC := .seq (.ops true [
 o 124 (.move (t 15)),
 o 125 (.move (t 1)),
 o 126 (.bin .other .geq (t 124) (t 125)),
 o 127 (.move (t 126)),
 g 128 127 (.move (t 0)),
 g 129 127 (.nilCheck (t 128)),
 g 130 127 (.fieldAddr 1 (t 129)),
 g 131 127 (.load (.cell .sl) (t 130)),
 g 132 127 (.move (t 9)),
 g 133 127 (.indexAddr 1 (t 131) (t 132)),
 g 134 127 (.load (.cell .bool) (t 133)),
 g 135 127 (.un .not (t 134)),
 o 136 (.pick (t 127) (t 135) (.c (.bool false)))]) k41x46
def k41x70 : AC := .exit 8
def k41x69 : AC := .mask 73559785961562665201200657303214840813699479788958254627
def k41x73 : AC := .ops false [
 o 188 (.move (t 0)),
 o 189 (.nilCheck (t 188)),
 o 190 (.fieldAddr 0 (t 189)),
 o 191 (.load (.cell .sl) (t 190)),
 o 192 (.move (t 10)),
 o 193 (.indexAddr 1 (t 191) (t 192)),
 o 194 (.load (.cell .sl) (t 193)),
 o 195 (.move (t 18)),
 o 196 (.move (t 0)),
 o 197 (.nilCheck (t 196)),
 o 198 (.fieldAddr 0 (t 197)),
 o 199 (.load (.cell .sl) (t 198)),
 o 200 (.move (t 18)),
 o 201 (.indexAddr 1 (t 199) (t 200)),
 o 202 (.load (.cell .sl) (t 201)),
 o 203 (.move (t 10)),
 o 204 (.indexAddr 1 (t 194) (t 195)),
 u (.store 1 (t 204) (.c (.bool false))),
 o 205 (.indexAddr 1 (t 202) (t 203)),
 u (.store 1 (t 205) (.c (.bool false)))]
def k41x72 : AC := .mask 73559785961562665201200657303214840813699479788958254627
def k41x71 : AC := .ops false [
 o 206 (.bin .other .add (t 185) (c 1)),
 o 185 (.move (t 206))]
def k41x68 : AC := .seq (.seq (.block 9 (.seq (.ops false [
 o 187 (.move (t 185)),
 o 18 (.move (t 187))]) k41x73)) k41x72) k41x71
def k41x67 : AC := .seq (.seq (.cond (.tmp 186)
 (.skip)
 (.seq (.mask 1924145350179) k41x70)) k41x69) k41x68
def k41x66 : AC := .seq (.ops false [
 o 186 (.bin .other .lss (t 185) (t 184))]) k41x67
def k41x65 : AC := .mask 1924145350179
def k41x64 : AC := .seq (.block 8 (.loop 73559785961562665201200657303214840813699479788958254627 1924145350179 k41x66)) k41x65
def k41x74 : AC := .ops false [
 o 211 (.move (t 0)),
 o 212 (.nilCheck (t 211)),
 o 213 (.fieldAddr 2 (t 212)),
 o 214 (.load (.cell .sl) (t 213)),
 o 215 (.move (t 10)),
 o 216 (.indexAddr 1 (t 214) (t 215)),
 u (.store 1 (t 216) (.c (.bool false)))]
def k41x63 : AC := .seq (.ops false [
 o 207 (.move (t 5)),
 o 208 (.move (t 10)),
 o 209 (.move (t 9)),
 o 210 (.indexAddr 1 (t 207) (t 208)),
 u (.store 1 (t 210) (t 209))]) k41x74
def k41x44 : AC := .seq (.seq (.ops false [
 o 177 (.move (t 0)),
 o 178 (.nilCheck (t 177)),
 o 179 (.fieldAddr 0 (t 178)),
 o 180 (.load (.cell .sl) (t 179)),
 o 181 (.move (t 10)),
 o 182 (.indexAddr 1 (t 180) (t 181)),
 o 183 (.load (.cell .sl) (t 182)),
 o 184 (.lenSl (t 183)),
 o 185 (.move (c 0))]) k41x64) k41x63
def k41x30 : AC := .seq (.seq (.ops false [
 o 118 (.move (t 0)),
 o 119 (.move (t 9)),
 o 120 (.move (t 1)),
 o 121 (.call 81 [(t 118), (t 119), (t 120)] [I, I] .opq),
 o 117 (.move (t 121)),
 o 122 (.extract (t 117) 0),
 o 123 (.extract (t 117) 1),
 o 14 (.move (t 122)),
 o 15 (.move (t 123))]) k41x45) k41x44
def k41x29 : AC := .seq (.seq (.ops false [
 o 98 (.move (t 0)),
 o 99 (.nilCheck (t 98)),
 o 100 (.fieldAddr 0 (t 99)),
 o 101 (.load (.cell .sl) (t 100)),
 o 102 (.move (t 10)),
 o 103 (.indexAddr 1 (t 101) (t 102)),
 o 104 (.load (.cell .sl) (t 103)),
 o 105 (.lenSl (t 104)),
 o 106 (.move (c 0))]) k41x31) k41x30
def k41x25 : AC := .seq (.ops false [
 o 90 (.move (t 0)),
 o 91 (.nilCheck (t 90)),
 o 92 (.fieldAddr 0 (t 91)),
 o 93 (.load (.cell .sl) (t 92)),
 o 94 (.move (t 9)),
 o 95 (.indexAddr 1 (t 93) (t 94)),
 o 96 (.load (.cell .sl) (t 95)),
 o 97 (.call 80 [(t 96)] [(.cell .sl)] (.sl .nil 0)),
 o 11 (.move (t 97))]) k41x29
def k41x24 : AC := .seq (.seq (.ops true [
 o 58 (.move (t 9)),
 o 59 (.move (t 10)),
 o 60 (.bin .other .eql (t 58) (t 59)),
 o 61 (.move (t 60)),
 f 62 61 (.move (t 0)),
 f 63 61 (.nilCheck (t 62)),
 f 64 61 (.fieldAddr 0 (t 63)),
 f 65 61 (.load (.cell .sl) (t 64)),
 f 66 61 (.move (t 9)),
 f 67 61 (.indexAddr 1 (t 65) (t 66)),
 f 68 61 (.load (.cell .sl) (t 67)),
 f 69 61 (.move (t 10)),
 f 70 61 (.indexAddr 1 (t 68) (t 69)),
 f 71 61 (.load (.cell .bool) (t 70)),
 o 72 (.pick (t 61) (.c (.bool true)) (t 71)),
 o 73 (.move (t 72)),
 f 74 73 (.move (t 0)),
 f 75 73 (.nilCheck (t 74)),
 f 76 73 (.fieldAddr 1 (t 75)),
 f 77 73 (.load (.cell .sl) (t 76)),
 f 78 73 (.move (t 9)),
 f 79 73 (.indexAddr 1 (t 77) (t 78)),
 f 80 73 (.load (.cell .bool) (t 79)),
 f 81 73 (.move (t 0)),
 f 82 73 (.nilCheck (t 81)),
 f 83 73 (.fieldAddr 1 (t 82)),
 f 84 73 (.load (.cell .sl) (t 83)),
 f 85 73 (.move (t 10)),
 f 86 73 (.indexAddr 1 (t 84) (t 85)),
 f 87 73 (.load (.cell .bool) (t 86)),
 f 88 73 (.bin .bool .neq (t 80) (t 87)),
 o 89 (.pick (t 73) (.c (.bool true)) (t 88))]) k41x26) k41x25
def k41x23 : AC := .seq (.ops false [
 o 44 (.move (t 5)),
 o 45 (.indexArr 2 1 (t 8) (c 0)),
 o 46 (.load I (t 45)),
 o 47 (.indexArr 2 1 (t 8) (c 1)),
 o 48 (.load I (t 47)),
 o 49 (.mm false [(t 46), (t 48)]),
 o 51 (.move (t 5)),
 o 52 (.indexArr 2 1 (t 8) (c 0)),
 o 53 (.load I (t 52)),
 o 54 (.indexArr 2 1 (t 8) (c 1)),
 o 55 (.load I (t 54)),
 o 56 (.mm true [(t 53), (t 55)]),
  ⟨(some 50), .call 44 [(.tmp 44), (.tmp 49)] [(.cell (.int .i64))] (.int .i64 0), none, [.load 1 52 none, .load 1 54 none]⟩,
 o 57 (.call 44 [(t 51), (t 56)] [I] (.int .i64 0)),
 o 9 (.move (t 50)),
 o 10 (.move (t 57))]) k41x24
def k41x22 : AC := .join 1924145348643
def k41x21 : AC := .ops false [
 o 217 (.bin .other .add (t 40) (c 1)),
 o 40 (.move (t 217))]
def k41x18 : AC := .seq (.seq (.block 3 (.seq (.ops false [
 o 42 (.indexAddr 2 (t 38) (t 40)),
 o 43 (.load (.agg [(.int .i64), (.int .i64)]) (t 42)),
 o 8 (.allocL [(.int .i64 0), (.int .i64 0)]),
 u (.store 2 (t 8) (t 43))]) k41x23)) k41x22) k41x21
def k41x17 : AC := .seq (.seq (.cond (.tmp 41)
 (.skip)
 (.seq (.mask 32) k41x20)) k41x19) k41x18
def k41x16 : AC := .seq (.ops false [
 o 41 (.bin .other .lss (t 40) (t 39))]) k41x17
def k41x15 : AC := .mask 32
def k41x14 : AC := .seq (.block 2 (.loop 1924145348643 32 k41x16)) k41x15
def k41x77 : AC := .ret
def k41x76 : AC := .seq (.mask 16) k41x77
def k41x13 : AC := .seq (.ops false [
 o 218 (.move (t 5)),
 o 4 (.move (t 218))]) k41x76
def k41x2 : AC := .seq (.seq (.ops false [
 o 35 (.move (t 0)),
 o 36 (.nilCheck (t 35)),
 o 37 (.fieldAddr 3 (t 36)),
 o 38 (.load (.cell .sl) (t 37)),
 o 39 (.lenSl (t 38)),
 o 40 (.move (c 0))]) k41x14) k41x13
def k41x1 : AC := .seq (.seq (.ops false [
 o 25 (.move (t 5)),
 o 26 (.lenSl (t 25)),
 o 27 (.move (c 0))]) k41x3) k41x2
def k41x0 : AC := .seq (.ops false [
 o 19 (.move (t 0)),
 o 20 (.nilCheck (t 19)),
 o 21 (.fieldAddr 0 (t 20)),
 o 22 (.load (.cell .sl) (t 21)),
 o 23 (.lenSl (t 22)),
 o 24 (.makeSl [(.int .i64 0)] 8 (t 23) (t 23)),
 o 5 (.move (t 24))]) k41x1
def c41 : AFn := ⟨219, [.tmp 4],
 .seq (.ops false [
 o 4 (.move (.c (.sl .nil 0)))]) k41x0⟩
theorem cf41 : cFn Try.prog 41 = some c41 := by kernel_rfl
def k42x11 : AC := .exit 0
def k42x10 : AC := .mask 103079215331
def k42x17 : AC := .join 103079215331
def k42x16 : AC := .seq (.cond (.tmp 62)
 (.ops false [
 o 63 (.move (t 7)),
 o 64 (.bin .other .add (t 63) (c 1)),
 o 7 (.move (t 64))])
  (.skip)) k42x17
def k42x15 : AC := .seq (.ops false [
 o 59 (.move (t 5)),
 o 60 (.move (t 8)),
 o 61 (.indexAddr 1 (t 59) (t 60)),
 o 62 (.load (.cell .bool) (t 61))]) k42x16
def k42x14 : AC := .seq (.ops true [
 o 39 (.move (t 5)),
 o 40 (.move (t 8)),
 o 41 (.move (t 0)),
 o 42 (.nilCheck (t 41)),
 o 43 (.fieldAddr 2 (t 42)),
 o 44 (.load (.cell .sl) (t 43)),
 o 45 (.move (t 8)),
 o 46 (.indexAddr 1 (t 44) (t 45)),
 o 47 (.load (.cell .bool) (t 46)),
 o 48 (.move (t 47)),
 g 49 48 (.move (t 0)),
 g 50 48 (.nilCheck (t 49)),
 g 51 48 (.fieldAddr 1 (t 50)),
 g 52 48 (.load (.cell .sl) (t 51)),
 g 53 48 (.move (t 8)),
 g 54 48 (.indexAddr 1 (t 52) (t 53)),
 g 55 48 (.load (.cell .bool) (t 54)),
 g 56 48 (.un .not (t 55)),
 o 57 (.pick (t 48) (t 56) (.c (.bool false))),
 o 58 (.indexAddr 1 (t 39) (t 40)),
 u (.store 1 (t 58) (t 57))]) k42x15
def k42x13 : AC := .mask 103079215331
def k42x12 : AC := .ops false [
 o 65 (.bin .other .add (t 36) (c 1)),
 o 36 (.move (t 65))]
def k42x9 : AC := .seq (.seq (.block 1 (.seq (.ops false [
 o 38 (.move (t 36)),
 o 8 (.move (t 38))]) k42x14)) k42x13) k42x12
def k42x8 : AC := .seq (.seq (.cond (.tmp 37)
 (.skip)
 (.seq (.mask 227) k42x11)) k42x10) k42x9
def k42x7 : AC := .seq (.ops false [
 o 37 (.bin .other .lss (t 36) (t 35))]) k42x8
def k42x6 : AC := .mask 227
def k42x5 : AC := .seq (.block 0 (.loop 103079215331 227 k42x7)) k42x6
def k42x26 : AC := .exit 2
def k42x25 : AC := .mask 4132070672510939562211
def k42x36 : AC := .exit 4
def k42x35 : AC := .mask 533037116753911203496675
def k42x41 : AC := .join 533037116753911203496675
def k42x40 : AC := .seq (.cond (.tmp 89)
 (.ops false [
 o 90 (.move (t 6)),
 o 91 (.move (t 9)),
 o 92 (.indexAddr 1 (t 90) (t 91)),
 o 93 (.load I (t 92)),
 o 94 (.bin .other .add (t 93) (c 1)),
 o 95 (.indexAddr 1 (t 90) (t 91)),
 u (.store 1 (t 95) (t 94))])
  (.skip)) k42x41
def k42x39 : AC := .seq (.ops true [
 o 83 (.move (t 12)),
 o 84 (.move (t 83)),
 g 85 84 (.move (t 5)),
 g 86 84 (.move (t 11)),
 g 87 84 (.indexAddr 1 (t 85) (t 86)),
 g 88 84 (.load (.cell .bool) (t 87)),
 o 89 (.pick (t 84) (t 88) (.c (.bool false)))]) k42x40
def k42x38 : AC := .mask 533037116753911203496675
def k42x37 : AC := .ops false [
 o 96 (.bin .other .add (t 78) (c 1)),
 o 78 (.move (t 96))]
def k42x34 : AC := .seq (.seq (.block 5 (.seq (.ops false [
 o 80 (.move (t 78)),
 o 81 (.indexAddr 1 (t 76) (t 78)),
 o 82 (.load (.cell .bool) (t 81)),
 o 11 (.move (t 80)),
 o 12 (.move (t 82))]) k42x39)) k42x38) k42x37
def k42x33 : AC := .seq (.seq (.cond (.tmp 79)
 (.skip)
 (.seq (.mask 4132070672510939562211) k42x36)) k42x35) k42x34
def k42x32 : AC := .seq (.ops false [
 o 79 (.bin .other .lss (t 78) (t 77))]) k42x33
def k42x31 : AC := .mask 4132070672510939562211
def k42x30 : AC := .seq (.block 4 (.loop 533037116753911203496675 4132070672510939562211 k42x32)) k42x31
def k42x29 : AC := .seq (.ops false [
 o 76 (.move (t 10)),
 o 77 (.lenSl (t 76)),
 o 78 (.move (c 0))]) k42x30
def k42x28 : AC := .mask 4132070672510939562211
def k42x27 : AC := .ops false [
 o 97 (.bin .other .add (t 71) (c 1)),
 o 71 (.move (t 97))]
def k42x24 : AC := .seq (.seq (.block 3 (.seq (.ops false [
 o 73 (.move (t 71)),
 o 74 (.indexAddr 1 (t 69) (t 71)),
 o 75 (.load (.cell .sl) (t 74)),
 o 9 (.move (t 73)),
 o 10 (.move (t 75))]) k42x29)) k42x28) k42x27
def k42x23 : AC := .seq (.seq (.cond (.tmp 72)
 (.skip)
 (.seq (.mask 227) k42x26)) k42x25) k42x24
def k42x22 : AC := .seq (.ops false [
 o 72 (.bin .other .lss (t 71) (t 70))]) k42x23
def k42x21 : AC := .mask 227
def k42x20 : AC := .seq (.block 2 (.loop 4132070672510939562211 227 k42x22)) k42x21
def k42x51 : AC := .exit 6
def k42x50 : AC := .mask 950737950171172051122527412323
def k42x62 : AC := .exit 8
def k42x61 : AC := .mask 18697846353366383672076372303971
def k42x69 : AC := .exit 9
def k42x68 : AC := .mask 18697846353366383672076372336739
def k42x67 : AC := .seq (.cond (.tmp 109)
 (.seq (.mask 18697846353366383672076372303971) k42x69)
 (.skip)) k42x68
def k42x74 : AC := .exit 8
def k42x73 : AC := .seq (.mask 950737950171172051122527428707) k42x74
def k42x72 : AC := .mask 18697846353366383672076372336739
def k42x71 : AC := .seq (.cond (.tmp 115)
 (.seq (.ops false [
 o 116 (.move (t 15)),
 o 14 (.move (t 116))]) k42x73)
  (.skip)) k42x72
def k42x76 : AC := .join 18697846353366383672076372303971
def k42x75 : AC := .seq (.cond (.tmp 129)
 (.ops false [
 o 130 (.move (t 15)),
 o 14 (.move (t 130))])
  (.skip)) k42x76
def k42x70 : AC := .seq (.ops true [
 o 117 (.move (t 14)),
 o 118 (.bin .other .lss (t 117) (c 0)),
 o 119 (.move (t 118)),
 f 120 119 (.move (t 6)),
 f 121 119 (.move (t 15)),
 f 122 119 (.indexAddr 1 (t 120) (t 121)),
 f 123 119 (.load I (t 122)),
 f 124 119 (.move (t 6)),
 f 125 119 (.move (t 14)),
 f 126 119 (.indexAddr 1 (t 124) (t 125)),
 f 127 119 (.load I (t 126)),
 f 128 119 (.bin .other .gtr (t 123) (t 127)),
 o 129 (.pick (t 119) (.c (.bool true)) (t 128))]) k42x75
def k42x66 : AC := .seq (.seq (.ops false [
 o 110 (.move (t 6)),
 o 111 (.move (t 15)),
 o 112 (.indexAddr 1 (t 110) (t 111)),
 o 113 (.load I (t 112)),
 o 114 (.move (t 1)),
 o 115 (.bin .other .lss (t 113) (t 114))]) k42x71) k42x70
def k42x65 : AC := .seq (.seq (.ops false [
 o 108 (.move (t 16)),
 o 109 (.un .not (t 108))]) k42x67) k42x66
def k42x64 : AC := .join 18697846353366383672076372303971
def k42x63 : AC := .ops false [
 o 131 (.bin .other .add (t 103) (c 1)),
 o 103 (.move (t 131))]
def k42x60 : AC := .seq (.seq (.block 9 (.seq (.ops false [
 o 105 (.move (t 103)),
 o 106 (.indexAddr 1 (t 101) (t 103)),
 o 107 (.load (.cell .bool) (t 106)),
 o 15 (.move (t 105)),
 o 16 (.move (t 107))]) k42x65)) k42x64) k42x63
def k42x59 : AC := .seq (.seq (.cond (.tmp 104)
 (.skip)
 (.seq (.mask 950737950171172051122527428707) k42x62)) k42x61) k42x60
def k42x58 : AC := .seq (.ops false [
 o 104 (.bin .other .lss (t 103) (t 102))]) k42x59
def k42x57 : AC := .join 950737950171172051122527428707
def k42x56 : AC := .seq (.block 8 (.loop 18697846353366383672076372303971 950737950171172051122527428707 k42x58)) k42x57
def k42x88 : AC := .exit 10
def k42x87 : AC := .mask 312210432779429674719450226989128183611138147
def k42x93 : AC := .join 312210432779429674719450226989128183611138147
def k42x92 : AC := .seq (.cond (.tmp 152)
 (.ops false [
 o 153 (.move (t 6)),
 o 154 (.move (t 17)),
 o 155 (.indexAddr 1 (t 153) (t 154)),
 o 156 (.load I (t 155)),
 o 157 (.bin .other .sub (t 156) (c 1)),
 o 158 (.indexAddr 1 (t 153) (t 154)),
 u (.store 1 (t 158) (t 157))])
  (.skip)) k42x93
def k42x91 : AC := .seq (.ops false [
 o 152 (.move (t 18))]) k42x92
def k42x90 : AC := .mask 312210432779429674719450226989128183611138147
def k42x89 : AC := .ops false [
 o 159 (.bin .other .add (t 147) (c 1)),
 o 147 (.move (t 159))]
def k42x86 : AC := .seq (.seq (.block 11 (.seq (.ops false [
 o 149 (.move (t 147)),
 o 150 (.indexAddr 1 (t 145) (t 147)),
 o 151 (.load (.cell .bool) (t 150)),
 o 17 (.move (t 149)),
 o 18 (.move (t 151))]) k42x91)) k42x90) k42x89
def k42x85 : AC := .seq (.seq (.cond (.tmp 148)
 (.skip)
 (.seq (.mask 950737950171172051122527412323) k42x88)) k42x87) k42x86
def k42x84 : AC := .seq (.ops false [
 o 148 (.bin .other .lss (t 147) (t 146))]) k42x85
def k42x83 : AC := .mask 950737950171172051122527412323
def k42x82 : AC := .seq (.block 10 (.loop 312210432779429674719450226989128183611138147 950737950171172051122527412323 k42x84)) k42x83
def k42x81 : AC := .seq (.ops false [
 o 139 (.move (t 0)),
 o 140 (.nilCheck (t 139)),
 o 141 (.fieldAddr 0 (t 140)),
 o 142 (.load (.cell .sl) (t 141)),
 o 143 (.move (t 14)),
 o 144 (.indexAddr 1 (t 142) (t 143)),
 o 145 (.load (.cell .sl) (t 144)),
 o 146 (.lenSl (t 145)),
 o 147 (.move (c 0))]) k42x82
def k42x80 : AC := .seq (.ops false [
 o 135 (.move (t 13)),
 o 136 (.move (t 14)),
 o 137 (.buildSl [(.int .i64 0)] 1 [(0, (t 136))]),
 o 138 (.append [(.int .i64 0)] 1 8 (t 135) (t 137)),
 o 13 (.move (t 138))]) k42x81
def k42x55 : AC := .seq (.ops false [
 o 132 (.move (t 5)),
 o 133 (.move (t 14)),
 o 134 (.indexAddr 1 (t 132) (t 133)),
 u (.store 1 (t 134) (.c (.bool false)))]) k42x80
def k42x54 : AC := .seq (.seq (.ops false [
 o 101 (.move (t 5)),
 o 102 (.lenSl (t 101)),
 o 103 (.move (c 0))]) k42x56) k42x55
def k42x53 : AC := .mask 950737950171172051122527412323
def k42x52 : AC := .ops false [
 o 160 (.bin .other .add (t 99) (c 1)),
 o 99 (.move (t 160))]
def k42x49 : AC := .seq (.seq (.block 7 (.seq (.ops false [
 o 14 (.move (c (-1)))]) k42x54)) k42x53) k42x52
def k42x48 : AC := .seq (.seq (.cond (.tmp 100)
 (.skip)
 (.seq (.mask 8192) k42x51)) k42x50) k42x49
def k42x47 : AC := .seq (.ops false [
 o 100 (.bin .other .lss (t 99) (t 98))]) k42x48
def k42x46 : AC := .mask 8192
def k42x45 : AC := .seq (.block 6 (.loop 950737950171172051122527412323 8192 k42x47)) k42x46
def k42x97 : AC := .ret
def k42x96 : AC := .seq (.mask 16) k42x97
def k42x95 : AC := .seq (.ops false [
 o 163 (.move (t 13)),
 o 4 (.move (t 163))]) k42x96
def k42x44 : AC := .seq (.ops false [
 o 161 (.move (t 13)),
 o 162 (.call 82 [(t 161)] [] .opq)]) k42x95
def k42x43 : AC := .seq (.seq (.ops false [
 o 98 (.move (t 7)),
 o 99 (.move (c 0))]) k42x45) k42x44
def k42x19 : AC := .seq (.ops false [
 o 13 (.move (.c (.sl .nil 0)))]) k42x43
def k42x4 : AC := .seq (.seq (.ops false [
 o 66 (.move (t 0)),
 o 67 (.nilCheck (t 66)),
 o 68 (.fieldAddr 0 (t 67)),
 o 69 (.load (.cell .sl) (t 68)),
 o 70 (.lenSl (t 69)),
 o 71 (.move (c 0))]) k42x20) k42x19
def k42x3 : AC := .seq (.seq (.ops false [
 o 31 (.move (t 0)),
 o 32 (.nilCheck (t 31)),
 o 33 (.fieldAddr 0 (t 32)),
 o 34 (.load (.cell .sl) (t 33)),
 o 35 (.lenSl (t 34)),
 o 36 (.move (c 0))]) k42x5) k42x4
def k42x2 : AC := .seq (.ops false [
 o 7 (.move (c 0))]) k42x3
def k42x1 : AC := .seq (.ops false [
 o 25 (.move (t 0)),
 o 26 (.nilCheck (t 25)),
 o 27 (.fieldAddr 0 (t 26)),
 o 28 (.load (.cell .sl) (t 27)),
 o 29 (.lenSl (t 28)),
 o 30 (.makeSl [(.int .i64 0)] 8 (t 29) (t 29)),
 o 6 (.move (t 30))]) k42x2
def k42x0 : AC := .seq (.ops false [
 o 19 (.move (t 0)),
 o 20 (.nilCheck (t 19)),
 o 21 (.fieldAddr 0 (t 20)),
 o 22 (.load (.cell .sl) (t 21)),
 o 23 (.lenSl (t 22)),
 o 24 (.makeSl [(.bool false)] 1 (t 23) (t 23)),
 o 5 (.move (t 24))]) k42x1
def c42 : AFn := ⟨164, [.tmp 4],
 .seq (.ops false [
 o 4 (.move (.c (.sl .nil 0)))]) k42x0⟩
theorem cf42 : cFn Try.prog 42 = some c42 := by kernel_rfl
def k43x9 : AC := .exit 0
def k43x8 : AC := .mask 523
def k43x7 : AC := .seq (.cond (.tmp 14)
 (.skip)
 (.seq (.mask 512) k43x9)) k43x8
def k43x18 : AC := .exit 2
def k43x17 : AC := .mask 14681611
def k43x24 : AC := .ops false [
 o 10 (.move (.c (.bool true)))]
def k43x23 : AC := .join 14681611
def k43x22 : AC := .seq (.cond (.tmp 36)
 (.seq (.ops false [
 o 37 (.move (t 9)),
 o 38 (.bin .other .add (t 37) (c 1)),
 o 9 (.move (t 38))]) k43x24)
  (.skip)) k43x23
def k43x21 : AC := .seq (.ops true [
 o 28 (.move (t 12)),
 o 29 (.move (t 28)),
 g 30 29 (.move (t 3)),
 g 31 29 (.move (t 11)),
 g 32 29 (.indexAddr 1 (t 30) (t 31)),
 g 33 29 (.load I (t 32)),
 g 34 29 (.move (t 9)),
 g 35 29 (.bin .other .eql (t 33) (t 34)),
 o 36 (.pick (t 29) (t 35) (.c (.bool false)))]) k43x22
def k43x20 : AC := .mask 14681611
def k43x19 : AC := .ops false [
 o 39 (.bin .other .add (t 23) (c 1)),
 o 23 (.move (t 39))]
def k43x16 : AC := .seq (.seq (.block 3 (.seq (.ops false [
 o 25 (.move (t 23)),
 o 26 (.indexAddr 1 (t 21) (t 23)),
 o 27 (.load (.cell .bool) (t 26)),
 o 11 (.move (t 25)),
 o 12 (.move (t 27))]) k43x21)) k43x20) k43x19
def k43x15 : AC := .seq (.seq (.cond (.tmp 24)
 (.skip)
 (.seq (.mask 1547) k43x18)) k43x17) k43x16
def k43x14 : AC := .seq (.ops false [
 o 24 (.bin .other .lss (t 23) (t 22))]) k43x15
def k43x13 : AC := .mask 1547
def k43x12 : AC := .seq (.block 2 (.loop 14681611 1547 k43x14)) k43x13
def k43x11 : AC := .seq (.ops false [
 o 15 (.move (t 0)),
 o 16 (.nilCheck (t 15)),
 o 17 (.fieldAddr 0 (t 16)),
 o 18 (.load (.cell .sl) (t 17)),
 o 19 (.move (t 1)),
 o 20 (.indexAddr 1 (t 18) (t 19)),
 o 21 (.load (.cell .sl) (t 20)),
 o 22 (.lenSl (t 21)),
 o 23 (.move (c 0))]) k43x12
def k43x10 : AC := .mask 1547
def k43x6 : AC := .seq (.block 1 (.seq (.ops false [
 o 10 (.move (.c (.bool false)))]) k43x11)) k43x10
def k43x5 : AC := .seq (.seq (.ops false [
 o 14 (.move (t 10))]) k43x7) k43x6
def k43x4 : AC := .mask 512
def k43x3 : AC := .seq (.block 0 (.loop 1547 512 k43x5)) k43x4
def k43x27 : AC := .ret
def k43x26 : AC := .seq (.mask 256) k43x27
def k43x2 : AC := .seq (.ops false [
 o 40 (.move (t 9)),
 o 8 (.move (t 40))]) k43x26
def k43x1 : AC := .seq (.seq (.ops false [
 o 10 (.move (.c (.bool true)))]) k43x3) k43x2
def k43x0 : AC := .seq (.ops false [
 o 13 (.move (t 2)),
 o 9 (.move (t 13))]) k43x1
def c43 : AFn := ⟨41, [.tmp 8],
 .seq (.ops false [
 o 8 (.move (c 0))]) k43x0⟩
theorem cf43 : cFn Try.prog 43 = some c43 := by kernel_rfl
def k44x7 : AC := .exit 0
def k44x6 : AC := .mask 3
def k44x5 : AC := .seq (.cond (.tmp 10)
 (.skip)
 (.seq (.mask 2) k44x7)) k44x6
def k44x8 : AC := .mask 3
def k44x4 : AC := .seq (.block 1 (.ops false [
 o 11 (.move (t 0)),
 o 12 (.move (t 1)),
 o 13 (.indexAddr 1 (t 11) (t 12)),
 o 14 (.load I (t 13)),
 o 1 (.move (t 14))])) k44x8
def k44x3 : AC := .seq (.seq (.ops false [
 o 5 (.move (t 0)),
 o 6 (.move (t 1)),
 o 7 (.indexAddr 1 (t 5) (t 6)),
 o 8 (.load I (t 7)),
 o 9 (.move (t 1)),
 o 10 (.bin .other .neq (t 8) (t 9))]) k44x5) k44x4
def k44x2 : AC := .mask 2
def k44x10 : AC := .ret
def k44x9 : AC := .seq (.mask 16) k44x10
def k44x1 : AC := .seq (.ops false [
 o 15 (.move (t 1)),
 o 4 (.move (t 15))]) k44x9
def k44x0 : AC := .seq (.seq (.block 0 (.loop 3 2 k44x3)) k44x2) k44x1
def c44 : AFn := ⟨16, [.tmp 4],
 .seq (.ops false [
 o 4 (.move (c 0))]) k44x0⟩
theorem cf44 : cFn Try.prog 44 = some c44 := by kernel_rfl
def k77x6 : AC := .exit 0
def k77x5 : AC := .mask 454
def k77x9 : AC := .ops false [
 o 12 (.load (.cell .sl) (t 1)),
 o 13 (.move (t 5)),
 o 14 (.load (.cell .ptr) (t 2)),
 o 15 (.nilCheck (t 14)),
 o 16 (.fieldAddr 2 (t 15)),
 o 17 (.load (.cell .sl) (t 16)),
 o 18 (.move (t 5)),
 o 19 (.indexAddr 1 (t 12) (t 13)),
 u (.store 1 (t 19) (.c (.bool true))),
 o 20 (.indexAddr 1 (t 17) (t 18)),
 u (.store 1 (t 20) (.c (.bool true)))]
def k77x8 : AC := .mask 454
def k77x7 : AC := .ops false [
 o 21 (.bin .other .add (t 8) (c 1)),
 o 8 (.move (t 21))]
def k77x4 : AC := .seq (.seq (.block 1 (.seq (.ops false [
 o 10 (.indexAddr 1 (t 6) (t 8)),
 o 11 (.load I (t 10)),
 o 5 (.move (t 11))]) k77x9)) k77x8) k77x7
def k77x3 : AC := .seq (.seq (.cond (.tmp 9)
 (.skip)
 (.seq (.mask 0) k77x6)) k77x5) k77x4
def k77x2 : AC := .seq (.ops false [
 o 9 (.bin .other .lss (t 8) (t 7))]) k77x3
def k77x1 : AC := .mask 0
def k77x0 : AC := .seq (.block 0 (.loop 454 0 k77x2)) k77x1
def c77 : AFn := ⟨22, [],
 .seq (.ops false [
 o 6 (.move (t 0)),
 o 7 (.lenSl (t 6)),
 o 8 (.move (c 0))]) k77x0⟩
theorem cf77 : cFn Try.prog 77 = some c77 := by kernel_rfl
def k78x6 : AC := .exit 0
def k78x5 : AC := .mask 7175
def k78x11 : AC := .join 7175
def k78x10 : AC := .seq (.cond (.tmp 22)
 (.ops false [
 o 23 (.move (t 0)),
 o 24 (.move (t 1)),
 o 25 (.move (t 8)),
 o 26 (.call 79 [(t 23), (t 24), (t 25)] [] .opq)])
  (.skip)) k78x11
def k78x9 : AC := .seq (.ops true [
 o 17 (.move (t 9)),
 o 18 (.move (t 17)),
 g 19 18 (.move (t 8)),
 g 20 18 (.move (t 2)),
 g 21 18 (.bin .other .neq (t 19) (t 20)),
 o 22 (.pick (t 18) (t 21) (.c (.bool false)))]) k78x10
def k78x8 : AC := .mask 7175
def k78x7 : AC := .ops false [
 o 27 (.bin .other .add (t 12) (c 1)),
 o 12 (.move (t 27))]
def k78x4 : AC := .seq (.seq (.block 1 (.seq (.ops false [
 o 14 (.move (t 12)),
 o 15 (.indexAddr 1 (t 10) (t 12)),
 o 16 (.load (.cell .bool) (t 15)),
 o 8 (.move (t 14)),
 o 9 (.move (t 16))]) k78x9)) k78x8) k78x7
def k78x3 : AC := .seq (.seq (.cond (.tmp 13)
 (.skip)
 (.seq (.mask 0) k78x6)) k78x5) k78x4
def k78x2 : AC := .seq (.ops false [
 o 13 (.bin .other .lss (t 12) (t 11))]) k78x3
def k78x1 : AC := .mask 0
def k78x0 : AC := .seq (.block 0 (.loop 7175 0 k78x2)) k78x1
def c78 : AFn := ⟨28, [],
 .seq (.ops false [
 o 10 (.move (t 3)),
 o 11 (.lenSl (t 10)),
 o 12 (.move (c 0))]) k78x0⟩
theorem cf78 : cFn Try.prog 78 = some c78 := by kernel_rfl
def k79x1 : AC := .join 0
def k79x0 : AC := .seq (.cond (.tmp 16)
 (.ops false [
 o 17 (.move (t 0)),
 o 18 (.nilCheck (t 17)),
 o 19 (.fieldAddr 0 (t 18)),
 o 20 (.load (.cell .sl) (t 19)),
 o 21 (.move (t 1)),
 o 22 (.indexAddr 1 (t 20) (t 21)),
 o 23 (.load (.cell .sl) (t 22)),
 o 24 (.move (t 2)),
 o 25 (.move (t 0)),
 o 26 (.nilCheck (t 25)),
 o 27 (.fieldAddr 0 (t 26)),
 o 28 (.load (.cell .sl) (t 27)),
 o 29 (.move (t 2)),
 o 30 (.indexAddr 1 (t 28) (t 29)),
 o 31 (.load (.cell .sl) (t 30)),
 o 32 (.move (t 1)),
 o 33 (.indexAddr 1 (t 23) (t 24)),
 u (.store 1 (t 33) (.c (.bool true))),
 o 34 (.indexAddr 1 (t 31) (t 32)),
 u (.store 1 (t 34) (.c (.bool true)))])
  (.skip)) k79x1
def c79 : AFn := ⟨35, [],
 .seq (.ops true [
 o 6 (.move (t 1)),
 o 7 (.move (t 2)),
 o 8 (.bin .other .neq (t 6) (t 7)),
 o 9 (.move (t 8)),
 g 10 9 (.move (t 1)),
 g 11 9 (.bin .other .neq (t 10) (c 0)),
 o 12 (.pick (t 9) (t 11) (.c (.bool false))),
 o 13 (.move (t 12)),
 g 14 13 (.move (t 2)),
 g 15 13 (.bin .other .neq (t 14) (c 0)),
 o 16 (.pick (t 13) (t 15) (.c (.bool false)))]) k79x0⟩
theorem cf79 : cFn Try.prog 79 = some c79 := by kernel_rfl
def k80x5 : AC := .ret
def k80x4 : AC := .seq (.mask 4) k80x5
def k80x3 : AC := .mask 1
def k80x2 : AC := .seq (.cond (.tmp 4)
 (.seq (.ops false [
 o 2 (.move (.c (.sl .nil 0)))]) k80x4)
  (.skip)) k80x3
def k80x7 : AC := .ret
def k80x6 : AC := .seq (.mask 4) k80x7
def k80x1 : AC := .seq (.ops false [
 o 5 (.buildSl [] 1 []),
 o 6 (.move (t 0)),
 o 7 (.append [(.bool false)] 1 1 (t 5) (t 6)),
 o 2 (.move (t 7))]) k80x6
def k80x0 : AC := .seq (.seq (.ops false [
 o 3 (.move (t 0)),
 o 4 (.bin .sl .eql (t 3) (.c (.sl .nil 0)))]) k80x2) k80x1
def c80 : AFn := ⟨8, [.tmp 2],
 .seq (.ops false [
 o 2 (.move (.c (.sl .nil 0)))]) k80x0⟩
theorem cf80 : cFn Try.prog 80 = some c80 := by kernel_rfl
def k82x6 : AC := .exit 0
def k82x5 : AC := .mask 13
def k82x4 : AC := .seq (.cond (.tmp 9)
 (.skip)
 (.seq (.mask 0) k82x6)) k82x5
def k82x8 : AC := .mask 13
def k82x7 : AC := .ops false [
 o 10 (.move (t 2)),
 o 11 (.bin .other .add (t 10) (c 1)),
 o 12 (.move (t 3)),
 o 13 (.bin .other .sub (t 12) (c 1)),
 o 2 (.move (t 11)),
 o 3 (.move (t 13))]
def k82x3 : AC := .seq (.seq (.block 1 (.ops false [
 o 14 (.move (t 0)),
 o 15 (.move (t 2)),
 o 16 (.move (t 0)),
 o 17 (.move (t 3)),
 o 18 (.move (t 0)),
 o 19 (.move (t 3)),
 o 20 (.indexAddr 1 (t 18) (t 19)),
 o 21 (.load I (t 20)),
 o 22 (.move (t 0)),
 o 23 (.move (t 2)),
 o 24 (.indexAddr 1 (t 22) (t 23)),
 o 25 (.load I (t 24)),
 o 26 (.indexAddr 1 (t 14) (t 15)),
 u (.store 1 (t 26) (t 21)),
 o 27 (.indexAddr 1 (t 16) (t 17)),
 u (.store 1 (t 27) (t 25))])) k82x8) k82x7
def k82x2 : AC := .seq (.seq (.ops false [
 o 7 (.move (t 2)),
 o 8 (.move (t 3)),
 o 9 (.bin .other .lss (t 7) (t 8))]) k82x4) k82x3
def k82x1 : AC := .mask 0
def k82x0 : AC := .seq (.block 0 (.loop 13 0 k82x2)) k82x1
def c82 : AFn := ⟨28, [],
 .seq (.ops false [
 o 4 (.move (t 0)),
 o 5 (.lenSl (t 4)),
 o 6 (.bin .other .sub (t 5) (c 1)),
 o 2 (.move (c 0)),
 o 3 (.move (t 6))]) k82x0⟩
theorem cf82 : cFn Try.prog 82 = some c82 := by kernel_rfl
def k21x2 : AC := .ret
def k21x1 : AC := .seq (.mask 4) k21x2
def k21x0 : AC := .seq (.ops true [
 o 3 (.move (t 0)),
 o 4 (.bin .other .eql (t 3) (c 101)),
 o 5 (.move (t 4)),
 f 6 5 (.move (t 0)),
 f 7 5 (.bin .other .eql (t 6) (c 102)),
 o 8 (.pick (t 5) (.c (.bool true)) (t 7)),
 o 2 (.move (t 8))]) k21x1
def c21 : AFn := ⟨9, [.tmp 2],
 .seq (.ops false [
 o 2 (.move (.c (.bool false)))]) k21x0⟩
theorem cf21 : cFn Try.prog 21 = some c21 := by kernel_rfl
def k9x6 : AC := .ret
def k9x5 : AC := .seq (.mask 12) k9x6
def k9x4 : AC := .mask 2
def k9x3 : AC := .seq (.cond (.tmp 29)
 (.seq (.ops false [
 o 30 (.move (t 4)),
 o 2 (.move (.c (.sl .nil 0))),
 o 3 (.move (t 30))]) k9x5)
  (.skip)) k9x4
def k9x2 : AC := .seq (.ops false [
 o 28 (.move (t 4)),
 o 29 (.bin .other .neq (t 28) (c 0))]) k9x3
def k9x15 : AC := .exit 0
def k9x14 : AC := .mask 103079215138
def k9x18 : AC := .ops false [
 o 39 (.load (.cell .sl) (t 5)),
 o 40 (.move (t 6)),
 o 41 (.move (t 6)),
 o 42 (.build [(.int .i64 0), (.int .i64 0), (.int .i64 0), (.bool false)] [(0, 1, (t 41)), (1, 1, (c (-1)))]),
 o 43 (.indexAddr 4 (t 39) (t 40)),
 u (.store 4 (t 43) (t 42))]
def k9x17 : AC := .mask 103079215138
def k9x16 : AC := .ops false [
 o 44 (.bin .other .add (t 36) (c 1)),
 o 36 (.move (t 44))]
def k9x13 : AC := .seq (.seq (.block 1 (.seq (.ops false [
 o 38 (.move (t 36)),
 o 6 (.move (t 38))]) k9x18)) k9x17) k9x16
def k9x12 : AC := .seq (.seq (.cond (.tmp 37)
 (.skip)
 (.seq (.mask 34) k9x15)) k9x14) k9x13
def k9x11 : AC := .seq (.ops false [
 o 37 (.bin .other .lss (t 36) (t 35))]) k9x12
def k9x10 : AC := .mask 34
def k9x9 : AC := .seq (.block 0 (.loop 103079215138 34 k9x11)) k9x10
def k9x29 : AC := .exit 2
def k9x28 : AC := .mask 63050394783189922
def k9x40 : AC := .exit 4
def k9x39 : AC := .mask 64626654652766632866
def k9x45 : AC := .join 64626654652766632866
def k9x44 : AC := .seq (.cond (.tmp 70)
 (.ops false [
 o 71 (.move (t 7)),
 o 72 (.move (t 14)),
 o 73 (.move (t 11)),
 o 74 (.callV (t 71) [(t 72), (t 73)] [] .opq)])
  (.skip)) k9x45
def k9x43 : AC := .seq (.ops false [
 o 70 (.move (t 15))]) k9x44
def k9x42 : AC := .mask 64626654652766632866
def k9x41 : AC := .ops false [
 o 75 (.bin .other .add (t 65) (c 1)),
 o 65 (.move (t 75))]
def k9x38 : AC := .seq (.seq (.block 5 (.seq (.ops false [
 o 67 (.move (t 65)),
 o 68 (.indexAddr 1 (t 63) (t 65)),
 o 69 (.load (.cell .bool) (t 68)),
 o 14 (.move (t 67)),
 o 15 (.move (t 69))]) k9x43)) k9x42) k9x41
def k9x37 : AC := .seq (.seq (.cond (.tmp 66)
 (.skip)
 (.seq (.mask 63050394783202210) k9x40)) k9x39) k9x38
def k9x36 : AC := .seq (.ops false [
 o 66 (.bin .other .lss (t 65) (t 64))]) k9x37
def k9x35 : AC := .mask 63050394783202210
def k9x34 : AC := .seq (.block 4 (.loop 64626654652766632866 63050394783202210 k9x36)) k9x35
def k9x54 : AC := .exit 6
def k9x53 : AC := .mask 1057810155213195311070114
def k9x65 : AC := .exit 8
def k9x64 : AC := .mask 136457501952051662878292898
def k9x68 : AC := .ops false [
 o 90 (.move (t 7)),
 o 91 (.move (t 19)),
 o 92 (.move (t 11)),
 o 93 (.callV (t 90) [(t 91), (t 92)] [] .opq)]
def k9x67 : AC := .mask 136457501952051662878292898
def k9x66 : AC := .ops false [
 o 94 (.bin .other .add (t 86) (c 1)),
 o 86 (.move (t 94))]
def k9x63 : AC := .seq (.seq (.block 9 (.seq (.ops false [
 o 88 (.indexAddr 1 (t 84) (t 86)),
 o 89 (.load I (t 88)),
 o 19 (.move (t 89))]) k9x68)) k9x67) k9x66
def k9x62 : AC := .seq (.seq (.cond (.tmp 87)
 (.skip)
 (.seq (.mask 1057810155213195311201186) k9x65)) k9x64) k9x63
def k9x61 : AC := .seq (.ops false [
 o 87 (.bin .other .lss (t 86) (t 85))]) k9x62
def k9x60 : AC := .mask 1057810155213195311201186
def k9x59 : AC := .seq (.block 8 (.loop 136457501952051662878292898 1057810155213195311201186 k9x61)) k9x60
def k9x69 : AC := .ops false [
 o 101 (.move (t 11)),
 o 102 (.bin .other .add (t 101) (c 2)),
 o 11 (.move (t 102))]
def k9x58 : AC := .seq (.ops false [
 o 95 (.move (t 7)),
 o 96 (.load (.agg [(.int .i64), (.int .i64), (.int .i64), (.int .i64), (.int .i64), .sl]) (t 17)),
 o 97 (.call 30 [(t 96)] [I] (.int .i64 0)),
 o 98 (.move (t 11)),
 o 99 (.bin .other .add (t 98) (c 1)),
 o 100 (.callV (t 95) [(t 97), (t 99)] [] .opq)]) k9x69
def k9x57 : AC := .seq (.seq (.ops false [
 o 83 (.load (.agg [(.int .i64), (.int .i64), (.int .i64), (.int .i64), (.int .i64), .sl]) (t 17)),
 o 84 (.call 29 [(t 83)] [(.cell .sl)] (.sl .nil 0)),
 o 85 (.lenSl (t 84)),
 o 86 (.move (c 0))]) k9x59) k9x58
def k9x56 : AC := .mask 1057810155213195311070114
def k9x55 : AC := .ops false [
 o 103 (.bin .other .add (t 79) (c 1)),
 o 79 (.move (t 103))]
def k9x52 : AC := .seq (.seq (.block 7 (.seq (.ops false [
 o 81 (.indexAddr 6 (t 77) (t 79)),
 o 82 (.load (.agg [(.int .i64), (.int .i64), (.int .i64), (.int .i64), (.int .i64), .sl]) (t 81)),
 o 17 (.allocL [(.int .i64 0), (.int .i64 0), (.int .i64 0), (.int .i64 0), (.int .i64 0), (.sl .nil 0)]),
 u (.store 6 (t 17) (t 82))]) k9x57)) k9x56) k9x55
def k9x51 : AC := .seq (.seq (.cond (.tmp 80)
 (.skip)
 (.seq (.mask 63050394783202210) k9x54)) k9x53) k9x52
def k9x50 : AC := .seq (.ops false [
 o 80 (.bin .other .lss (t 79) (t 78))]) k9x51
def k9x49 : AC := .mask 63050394783202210
def k9x48 : AC := .seq (.block 6 (.loop 1057810155213195311070114 63050394783202210 k9x50)) k9x49
def k9x77 : AC := .exit 10
def k9x76 : AC := .mask 567907468902246834920917819202466
def k9x80 : AC := .ops false [
 o 112 (.move (t 7)),
 o 113 (.move (t 21)),
 o 114 (.move (t 11)),
 o 115 (.callV (t 112) [(t 113), (t 114)] [] .opq)]
def k9x79 : AC := .mask 567907468902246834920917819202466
def k9x78 : AC := .ops false [
 o 116 (.bin .other .add (t 108) (c 1)),
 o 108 (.move (t 116))]
def k9x75 : AC := .seq (.seq (.block 11 (.seq (.ops false [
 o 110 (.indexAddr 1 (t 106) (t 108)),
 o 111 (.load I (t 110)),
 o 21 (.move (t 111))]) k9x80)) k9x79) k9x78
def k9x74 : AC := .seq (.seq (.cond (.tmp 109)
 (.skip)
 (.seq (.mask 63050394783194018) k9x77)) k9x76) k9x75
def k9x73 : AC := .seq (.ops false [
 o 109 (.bin .other .lss (t 108) (t 107))]) k9x74
def k9x72 : AC := .mask 63050394783194018
def k9x71 : AC := .seq (.block 10 (.loop 567907468902246834920917819202466 63050394783194018 k9x73)) k9x72
def k9x88 : AC := .exit 12
def k9x87 : AC := .mask 9304595970494411110389699816745601954
def k9x93 : AC := .join 9304595970494411110389699816745601954
def k9x92 : AC := .seq (.cond (.tmp 127)
 (.ops false [
 o 128 (.move (t 7)),
 o 129 (.move (t 22)),
 o 130 (.move (t 11)),
 o 131 (.bin .other .add (t 130) (c 1)),
 o 132 (.callV (t 128) [(t 129), (t 131)] [] .opq)])
  (.skip)) k9x93
def k9x91 : AC := .seq (.ops false [
 o 127 (.move (t 23))]) k9x92
def k9x90 : AC := .mask 9304595970494411110389699816745601954
def k9x89 : AC := .ops false [
 o 133 (.bin .other .add (t 122) (c 1)),
 o 122 (.move (t 133))]
def k9x86 : AC := .seq (.seq (.block 13 (.seq (.ops false [
 o 124 (.move (t 122)),
 o 125 (.indexAddr 1 (t 120) (t 122)),
 o 126 (.load (.cell .bool) (t 125)),
 o 22 (.move (t 124)),
 o 23 (.move (t 126))]) k9x91)) k9x90) k9x89
def k9x85 : AC := .seq (.seq (.cond (.tmp 123)
 (.skip)
 (.seq (.mask 63050394783189922) k9x88)) k9x87) k9x86
def k9x84 : AC := .seq (.ops false [
 o 123 (.bin .other .lss (t 122) (t 121))]) k9x85
def k9x83 : AC := .mask 63050394783189922
def k9x82 : AC := .seq (.block 12 (.loop 9304595970494411110389699816745601954 63050394783189922 k9x84)) k9x83
def k9x81 : AC := .ops false [
 o 134 (.move (t 11)),
 o 135 (.bin .other .add (t 134) (c 2)),
 o 11 (.move (t 135))]
def k9x70 : AC := .seq (.seq (.ops false [
 o 117 (.move (t 9)),
 o 118 (.move (t 12)),
 o 119 (.indexAddr 1 (t 117) (t 118)),
 o 120 (.load (.cell .sl) (t 119)),
 o 121 (.lenSl (t 120)),
 o 122 (.move (c 0))]) k9x82) k9x81
def k9x47 : AC := .seq (.seq (.ops false [
 o 104 (.fieldAddr 1 (t 13)),
 o 105 (.load (.agg [(.int .i64), (.int .i64), (.int .i64), (.int .i64), (.int .i64), .sl]) (t 104)),
 o 106 (.call 31 [(t 105)] [(.cell .sl)] (.sl .nil 0)),
 o 107 (.lenSl (t 106)),
 o 108 (.move (c 0))]) k9x71) k9x70
def k9x33 : AC := .seq (.seq (.ops false [
 o 76 (.fieldAddr 0 (t 13)),
 o 77 (.load (.cell .sl) (t 76)),
 o 78 (.lenSl (t 77)),
 o 79 (.move (c 0))]) k9x48) k9x47
def k9x32 : AC := .seq (.seq (.ops false [
 o 60 (.move (t 8)),
 o 61 (.move (t 12)),
 o 62 (.indexAddr 1 (t 60) (t 61)),
 o 63 (.load (.cell .sl) (t 62)),
 o 64 (.lenSl (t 63)),
 o 65 (.move (c 0))]) k9x34) k9x33
def k9x31 : AC := .mask 63050394783189922
def k9x30 : AC := .ops false [
 o 136 (.bin .other .add (t 55) (c 1)),
 o 55 (.move (t 136))]
def k9x27 : AC := .seq (.seq (.block 3 (.seq (.ops false [
 o 57 (.move (t 55)),
 o 58 (.indexAddr 7 (t 53) (t 55)),
 o 59 (.load (.agg [.sl, (.int .i64), (.int .i64), (.int .i64), (.int .i64), (.int .i64), .sl]) (t 58)),
 o 13 (.allocL [(.sl .nil 0), (.int .i64 0), (.int .i64 0), (.int .i64 0), (.int .i64 0), (.int .i64 0), (.sl .nil 0)]),
 o 12 (.move (t 57)),
 u (.store 7 (t 13) (t 59))]) k9x32)) k9x31) k9x30
def k9x26 : AC := .seq (.seq (.cond (.tmp 56)
 (.skip)
 (.seq (.mask 162) k9x29)) k9x28) k9x27
def k9x25 : AC := .seq (.ops false [
 o 56 (.bin .other .lss (t 55) (t 54))]) k9x26
def k9x24 : AC := .mask 162
def k9x23 : AC := .seq (.block 2 (.loop 63050394783189922 162 k9x25)) k9x24
def k9x102 : AC := .exit 14
def k9x101 : AC := .mask 2439144006089286906105469186070914539716770
def k9x105 : AC := .ops false [
 o 144 (.move (t 7)),
 o 145 (.move (t 25)),
 o 146 (.callV (t 144) [(t 145), (c 0)] [] .opq)]
def k9x104 : AC := .mask 2439144006089286906105469186070914539716770
def k9x103 : AC := .ops false [
 o 147 (.bin .other .add (t 140) (c 1)),
 o 140 (.move (t 147))]
def k9x100 : AC := .seq (.seq (.block 15 (.seq (.ops false [
 o 142 (.indexAddr 1 (t 138) (t 140)),
 o 143 (.load I (t 142)),
 o 25 (.move (t 143))]) k9x105)) k9x104) k9x103
def k9x99 : AC := .seq (.seq (.cond (.tmp 141)
 (.skip)
 (.seq (.mask 34) k9x102)) k9x101) k9x100
def k9x98 : AC := .seq (.ops false [
 o 141 (.bin .other .lss (t 140) (t 139))]) k9x99
def k9x97 : AC := .mask 34
def k9x96 : AC := .seq (.block 14 (.loop 2439144006089286906105469186070914539716770 34 k9x98)) k9x97
def k9x107 : AC := .ret
def k9x106 : AC := .seq (.mask 12) k9x107
def k9x95 : AC := .seq (.ops false [
 o 148 (.load (.agg [(.int .i64), .sl, (.int .i64), .sl]) (t 1)),
 o 149 (.load (.cell .sl) (t 5)),
 o 150 (.call 32 [(t 148), (t 149)] [(.cell .sl)] (.sl .nil 0)),
 o 2 (.move (t 150)),
 o 3 (.move (c 0))]) k9x106
def k9x22 : AC := .seq (.seq (.ops false [
 o 137 (.fieldAddr 1 (t 1)),
 o 138 (.load (.cell .sl) (t 137)),
 o 139 (.lenSl (t 138)),
 o 140 (.move (c 0))]) k9x96) k9x95
def k9x21 : AC := .seq (.seq (.ops false [
 o 52 (.fieldAddr 3 (t 1)),
 o 53 (.load (.cell .sl) (t 52)),
 o 54 (.lenSl (t 53)),
 o 55 (.move (c 0))]) k9x23) k9x22
def k9x20 : AC := .seq (.ops false [
 o 11 (.move (c 0))]) k9x21
def k9x19 : AC := .seq (.ops false [
 o 47 (.load (.agg [(.int .i64), .sl, (.int .i64), .sl]) (t 1)),
 o 48 (.call 28 [(t 47)] [(.cell .sl), (.cell .sl), I] .opq),
 o 46 (.move (t 48)),
 o 49 (.extract (t 46) 0),
 o 50 (.extract (t 46) 1),
 o 51 (.extract (t 46) 2),
 o 8 (.move (t 49)),
 o 9 (.move (t 50)),
 o 10 (.move (t 51))]) k9x20
def k9x8 : AC := .seq (.ops false [
 o 45 (.makeFn 27 [] [(t 5)]),
 o 7 (.move (t 45))]) k9x19
def k9x7 : AC := .seq (.seq (.ops false [
 o 34 (.load (.cell .sl) (t 5)),
 o 35 (.lenSl (t 34)),
 o 36 (.move (c 0))]) k9x9) k9x8
def k9x1 : AC := .seq (.ops false [
 o 31 (.fieldAddr 2 (t 1)),
 o 32 (.load I (t 31)),
 o 33 (.makeSl [(.int .i64 0), (.int .i64 0), (.int .i64 0), (.bool false)] 32 (t 32) (t 32)),
 o 5 (.allocH [(.sl .nil 0)]),
 u (.store 1 (t 5) (t 33))]) k9x7
def k9x0 : AC := .seq (.seq (.ops false [
 o 26 (.load (.agg [(.int .i64), .sl, (.int .i64), .sl]) (t 1)),
 o 27 (.call 26 [(t 26)] [I] (.int .i64 0)),
 o 4 (.move (t 27))]) k9x2) k9x1
def c9 : AFn := ⟨151, [.tmp 2, .tmp 3],
 .seq (.ops false [
 o 1 (.boxL (t 0)),
 o 2 (.move (.c (.sl .nil 0))),
 o 3 (.move (c 0))]) k9x0⟩
theorem cf9 : cFn Try.prog 9 = some c9 := by kernel_rfl
def k27x3 : AC := .join 34
def k27x2 : AC := .seq (.cond (.tmp 13)
 (.ops false [
 o 14 (.move (t 5)),
 o 15 (.move (t 5)),
 o 16 (.move (t 1)),
 o 17 (.move (t 1)),
 o 18 (.nilCheck (t 14)),
 o 19 (.fieldAddr 1 (t 18)),
 u (.store 1 (t 19) (t 16)),
 o 20 (.nilCheck (t 15)),
 o 21 (.fieldAddr 2 (t 20)),
 u (.store 1 (t 21) (t 17))])
  (.skip)) k27x3
def k27x1 : AC := .ops false [
 o 22 (.move (t 5)),
 o 23 (.move (t 5)),
 o 24 (.move (t 5)),
 o 25 (.nilCheck (t 24)),
 o 26 (.fieldAddr 1 (t 25)),
 o 27 (.load I (t 26)),
 o 28 (.move (t 1)),
 o 29 (.mm false [(t 27), (t 28)]),
 o 30 (.move (t 5)),
 o 31 (.nilCheck (t 30)),
 o 32 (.fieldAddr 2 (t 31)),
 o 33 (.load I (t 32)),
 o 34 (.move (t 1)),
 o 35 (.mm true [(t 33), (t 34)]),
 o 36 (.nilCheck (t 22)),
 o 37 (.fieldAddr 1 (t 36)),
 u (.store 1 (t 37) (t 29)),
 o 38 (.nilCheck (t 23)),
 o 39 (.fieldAddr 2 (t 38)),
 u (.store 1 (t 39) (t 35))]
def k27x0 : AC := .seq (.seq (.ops false [
 o 9 (.move (t 5)),
 o 10 (.nilCheck (t 9)),
 o 11 (.fieldAddr 1 (t 10)),
 o 12 (.load I (t 11)),
 o 13 (.bin .other .lss (t 12) (c 0))]) k27x2) k27x1
def c27 : AFn := ⟨40, [],
 .seq (.ops false [
 o 6 (.load (.cell .sl) (t 2)),
 o 7 (.move (t 0)),
 o 8 (.indexAddr 4 (t 6) (t 7)),
 o 5 (.move (t 8))]) k27x0⟩
theorem cf27 : cFn Try.prog 27 = some c27 := by kernel_rfl
def k32x9 : AC := .exit 0
def k32x8 : AC := .mask 57378
def k32x20 : AC := .exit 2
def k32x19 : AC := .mask 7397410
def k32x33 : AC := .exit 4
def k32x32 : AC := .mask 3228622882
def k32x38 : AC := .join 3228622882
def k32x37 : AC := .seq (.cond (.tmp 57)
 (.ops false [
 o 58 (.move (t 1)),
 o 59 (.move (t 10)),
 o 60 (.indexAddr 4 (t 58) (t 59)),
 o 61 (.fieldAddr 3 (t 60)),
 u (.store 1 (t 61) (.c (.bool true)))])
  (.skip)) k32x38
def k32x36 : AC := .seq (.ops true [
 o 34 (.move (t 1)),
 o 35 (.move (t 10)),
 o 36 (.indexAddr 4 (t 34) (t 35)),
 o 37 (.fieldAddr 1 (t 36)),
 o 38 (.load I (t 37)),
 o 39 (.bin .other .geq (t 38) (c 0)),
 o 40 (.move (t 39)),
 g 41 40 (.move (t 1)),
 g 42 40 (.move (t 10)),
 g 43 40 (.indexAddr 4 (t 41) (t 42)),
 g 44 40 (.fieldAddr 1 (t 43)),
 g 45 40 (.load I (t 44)),
 g 46 40 (.move (t 5)),
 g 47 40 (.bin .other .leq (t 45) (t 46)),
 o 48 (.pick (t 40) (t 47) (.c (.bool false))),
 o 49 (.move (t 48)),
 g 50 49 (.move (t 1)),
 g 51 49 (.move (t 10)),
 g 52 49 (.indexAddr 4 (t 50) (t 51)),
 g 53 49 (.fieldAddr 2 (t 52)),
 g 54 49 (.load I (t 53)),
 g 55 49 (.move (t 5)),
 g 56 49 (.bin .other .gtr (t 54) (t 55)),
 o 57 (.pick (t 49) (t 56) (.c (.bool false)))]) k32x37
def k32x35 : AC := .mask 3228622882
def k32x34 : AC := .ops false [
 o 62 (.bin .other .add (t 31) (c 1)),
 o 31 (.move (t 62))]
def k32x31 : AC := .seq (.seq (.block 5 (.seq (.ops false [
 o 33 (.move (t 31)),
 o 10 (.move (t 33))]) k32x36)) k32x35) k32x34
def k32x30 : AC := .seq (.seq (.cond (.tmp 32)
 (.skip)
 (.seq (.mask 7397410) k32x33)) k32x32) k32x31
def k32x29 : AC := .seq (.ops false [
 o 32 (.bin .other .lss (t 31) (t 30))]) k32x30
def k32x28 : AC := .mask 7397410
def k32x27 : AC := .seq (.block 4 (.loop 3228622882 7397410 k32x29)) k32x28
def k32x26 : AC := .join 7397410
def k32x25 : AC := .seq (.cond (.tmp 28)
 (.seq (.ops false [
 o 29 (.move (t 1)),
 o 30 (.lenSl (t 29)),
 o 31 (.move (c 0))]) k32x27)
  (.skip)) k32x26
def k32x24 : AC := .ops false [
 o 63 (.move (t 5)),
 o 64 (.bin .other .add (t 63) (c 2)),
 o 5 (.move (t 64))]
def k32x23 : AC := .seq (.seq (.ops false [
 o 26 (.fieldAddr 0 (t 9)),
 o 27 (.load I (t 26)),
 o 28 (.call 21 [(t 27)] [(.cell .bool)] (.bool false))]) k32x25) k32x24
def k32x22 : AC := .mask 7397410
def k32x21 : AC := .ops false [
 o 65 (.bin .other .add (t 22) (c 1)),
 o 22 (.move (t 65))]
def k32x18 : AC := .seq (.seq (.block 3 (.seq (.ops false [
 o 24 (.indexAddr 6 (t 20) (t 22)),
 o 25 (.load (.agg [(.int .i64), (.int .i64), (.int .i64), (.int .i64), (.int .i64), .sl]) (t 24)),
 o 9 (.allocL [(.int .i64 0), (.int .i64 0), (.int .i64 0), (.int .i64 0), (.int .i64 0), (.sl .nil 0)]),
 u (.store 6 (t 9) (t 25))]) k32x23)) k32x22) k32x21
def k32x17 : AC := .seq (.seq (.cond (.tmp 23)
 (.skip)
 (.seq (.mask 57378) k32x20)) k32x19) k32x18
def k32x16 : AC := .seq (.ops false [
 o 23 (.bin .other .lss (t 22) (t 21))]) k32x17
def k32x15 : AC := .mask 57378
def k32x14 : AC := .seq (.block 2 (.loop 7397410 57378 k32x16)) k32x15
def k32x13 : AC := .ops false [
 o 66 (.move (t 5)),
 o 67 (.bin .other .add (t 66) (c 2)),
 o 5 (.move (t 67))]
def k32x12 : AC := .seq (.seq (.ops false [
 o 19 (.fieldAddr 0 (t 7)),
 o 20 (.load (.cell .sl) (t 19)),
 o 21 (.lenSl (t 20)),
 o 22 (.move (c 0))]) k32x14) k32x13
def k32x11 : AC := .mask 57378
def k32x10 : AC := .ops false [
 o 68 (.bin .other .add (t 15) (c 1)),
 o 15 (.move (t 68))]
def k32x7 : AC := .seq (.seq (.block 1 (.seq (.ops false [
 o 17 (.indexAddr 7 (t 13) (t 15)),
 o 18 (.load (.agg [.sl, (.int .i64), (.int .i64), (.int .i64), (.int .i64), (.int .i64), .sl]) (t 17)),
 o 7 (.allocL [(.sl .nil 0), (.int .i64 0), (.int .i64 0), (.int .i64 0), (.int .i64 0), (.int .i64 0), (.sl .nil 0)]),
 u (.store 7 (t 7) (t 18))]) k32x12)) k32x11) k32x10
def k32x6 : AC := .seq (.seq (.cond (.tmp 16)
 (.skip)
 (.seq (.mask 2) k32x9)) k32x8) k32x7
def k32x5 : AC := .seq (.ops false [
 o 16 (.bin .other .lss (t 15) (t 14))]) k32x6
def k32x4 : AC := .mask 2
def k32x3 : AC := .seq (.block 0 (.loop 57378 2 k32x5)) k32x4
def k32x44 : AC := .ret
def k32x43 : AC := .seq (.mask 16) k32x44
def k32x42 : AC := .seq (.ops false [
 o 73 (.move (t 11)),
 o 4 (.move (t 73))]) k32x43
def k32x41 : AC := .seq (.ops false [
 o 71 (.move (t 11)),
 o 72 (.call 67 [(t 71), (.c (.fn 68 [] []))] [] .opq)]) k32x42
def k32x2 : AC := .seq (.ops false [
 o 69 (.move (t 1)),
 o 70 (.call 34 [(t 69), (.c (.fn 66 [] []))] [(.cell .sl)] (.sl .nil 0)),
 o 11 (.move (t 70))]) k32x41
def k32x1 : AC := .seq (.seq (.ops false [
 o 12 (.fieldAddr 3 (t 2)),
 o 13 (.load (.cell .sl) (t 12)),
 o 14 (.lenSl (t 13)),
 o 15 (.move (c 0))]) k32x3) k32x2
def k32x0 : AC := .seq (.ops false [
 o 5 (.move (c 0))]) k32x1
def c32 : AFn := ⟨74, [.tmp 4],
 .seq (.ops false [
 o 2 (.boxL (t 0)),
 o 4 (.move (.c (.sl .nil 0)))]) k32x0⟩
theorem cf32 : cFn Try.prog 32 = some c32 := by kernel_rfl
def k66x2 : AC := .ret
def k66x1 : AC := .seq (.mask 4) k66x2
def k66x0 : AC := .seq (.ops true [
 o 3 (.fieldAddr 1 (t 1)),
 o 4 (.load I (t 3)),
 o 5 (.bin .other .lss (t 4) (c 0)),
 o 6 (.move (t 5)),
 f 7 6 (.fieldAddr 0 (t 1)),
 f 8 6 (.load I (t 7)),
 f 9 6 (.bin .other .eql (t 8) (c 0)),
 o 10 (.pick (t 6) (.c (.bool true)) (t 9)),
 o 2 (.move (t 10))]) k66x1
def c66 : AFn := ⟨11, [.tmp 2],
 .seq (.ops false [
 o 1 (.boxL (t 0)),
 o 2 (.move (.c (.bool false)))]) k66x0⟩
theorem cf66 : cFn Try.prog 66 = some c66 := by kernel_rfl
def c67 : AFn := ⟨9, [],
 .ops false [
 o 4 (.move (t 0)),
 o 5 (.move (t 0)),
 o 6 (.lenSl (t 5)),
 o 7 (.move (t 1)),
 o 8 (.call 92 [(t 4), (t 6), (t 7)] [] .opq)]⟩
theorem cf67 : cFn Try.prog 67 = some c67 := by kernel_rfl
def k68x2 : AC := .ret
def k68x1 : AC := .seq (.mask 16) k68x2
def k68x0 : AC := .seq (.ops false [
 o 5 (.fieldAddr 1 (t 2)),
 o 6 (.load I (t 5)),
 o 7 (.fieldAddr 1 (t 3)),
 o 8 (.load I (t 7)),
 o 9 (.call 69 [(t 6), (t 8)] [I] (.int .i64 0)),
 o 4 (.move (t 9))]) k68x1
def c68 : AFn := ⟨10, [.tmp 4],
 .seq (.ops false [
 o 2 (.boxL (t 0)),
 o 3 (.boxL (t 1)),
 o 4 (.move (c 0))]) k68x0⟩
theorem cf68 : cFn Try.prog 68 = some c68 := by kernel_rfl
def k92x8 : AC := .exit 0
def k92x7 : AC := .mask 455
def k92x6 : AC := .seq (.cond (.tmp 13)
 (.skip)
 (.seq (.mask 199) k92x8)) k92x7
def k92x11 : AC := .ops false [
 o 20 (.move (t 8)),
 o 21 (.move (t 6)),
 o 22 (.bin .other .add (t 20) (t 21)),
 o 8 (.move (t 22))]
def k92x10 : AC := .seq (.ops false [
 o 19 (.move (t 8)),
 o 7 (.move (t 19))]) k92x11
def k92x9 : AC := .mask 455
def k92x5 : AC := .seq (.block 1 (.seq (.ops false [
 o 14 (.move (t 0)),
 o 15 (.move (t 7)),
 o 16 (.move (t 8)),
 o 17 (.move (t 2)),
 o 18 (.call 97 [(t 14), (t 15), (t 16), (t 17)] [] .opq)]) k92x10)) k92x9
def k92x4 : AC := .seq (.seq (.ops false [
 o 11 (.move (t 8)),
 o 12 (.move (t 1)),
 o 13 (.bin .other .leq (t 11) (t 12))]) k92x6) k92x5
def k92x3 : AC := .mask 199
def k92x18 : AC := .exit 2
def k92x17 : AC := .mask 71
def k92x16 : AC := .seq (.cond (.tmp 30)
 (.skip)
 (.seq (.mask 0) k92x18)) k92x17
def k92x27 : AC := .exit 4
def k92x26 : AC := .mask 455
def k92x25 : AC := .seq (.cond (.tmp 35)
 (.skip)
 (.seq (.mask 199) k92x27)) k92x26
def k92x30 : AC := .ops false [
 o 45 (.move (t 8)),
 o 46 (.move (t 6)),
 o 47 (.bin .other .mul (c 2) (t 46)),
 o 48 (.bin .other .add (t 45) (t 47)),
 o 8 (.move (t 48))]
def k92x29 : AC := .seq (.ops false [
 o 44 (.move (t 8)),
 o 7 (.move (t 44))]) k92x30
def k92x28 : AC := .mask 455
def k92x24 : AC := .seq (.block 5 (.seq (.ops false [
 o 36 (.move (t 0)),
 o 37 (.move (t 7)),
 o 38 (.move (t 7)),
 o 39 (.move (t 6)),
 o 40 (.bin .other .add (t 38) (t 39)),
 o 41 (.move (t 8)),
 o 42 (.move (t 2)),
 o 43 (.call 98 [(t 36), (t 37), (t 40), (t 41), (t 42)] [] .opq)]) k92x29)) k92x28
def k92x23 : AC := .seq (.seq (.ops false [
 o 33 (.move (t 8)),
 o 34 (.move (t 1)),
 o 35 (.bin .other .leq (t 33) (t 34))]) k92x25) k92x24
def k92x22 : AC := .mask 199
def k92x34 : AC := .join 71
def k92x33 : AC := .seq (.cond (.tmp 54)
 (.ops false [
 o 55 (.move (t 0)),
 o 56 (.move (t 7)),
 o 57 (.move (t 9)),
 o 58 (.move (t 1)),
 o 59 (.move (t 2)),
 o 60 (.call 98 [(t 55), (t 56), (t 57), (t 58), (t 59)] [] .opq)])
  (.skip)) k92x34
def k92x32 : AC := .seq (.ops false [
 o 52 (.move (t 9)),
 o 53 (.move (t 1)),
 o 54 (.bin .other .lss (t 52) (t 53))]) k92x33
def k92x31 : AC := .ops false [
 o 61 (.move (t 6)),
 o 62 (.bin .other .mul (t 61) (c 2)),
 o 6 (.move (t 62))]
def k92x21 : AC := .seq (.seq (.ops false [
 o 49 (.move (t 7)),
 o 50 (.move (t 6)),
 o 51 (.bin .other .add (t 49) (t 50)),
 o 9 (.move (t 51))]) k92x32) k92x31
def k92x20 : AC := .seq (.seq (.block 4 (.loop 455 199 k92x23)) k92x22) k92x21
def k92x19 : AC := .mask 71
def k92x15 : AC := .seq (.block 3 (.seq (.ops false [
 o 31 (.move (t 6)),
 o 32 (.bin .other .mul (c 2) (t 31)),
 o 7 (.move (c 0)),
 o 8 (.move (t 32))]) k92x20)) k92x19
def k92x14 : AC := .seq (.seq (.ops false [
 o 28 (.move (t 6)),
 o 29 (.move (t 1)),
 o 30 (.bin .other .lss (t 28) (t 29))]) k92x16) k92x15
def k92x13 : AC := .mask 0
def k92x12 : AC := .seq (.block 2 (.loop 71 0 k92x14)) k92x13
def k92x2 : AC := .seq (.ops false [
 o 23 (.move (t 0)),
 o 24 (.move (t 7)),
 o 25 (.move (t 1)),
 o 26 (.move (t 2)),
 o 27 (.call 97 [(t 23), (t 24), (t 25), (t 26)] [] .opq)]) k92x12
def k92x1 : AC := .seq (.seq (.block 0 (.loop 455 199 k92x4)) k92x3) k92x2
def k92x0 : AC := .seq (.ops false [
 o 10 (.move (t 6)),
 o 7 (.move (c 0)),
 o 8 (.move (t 10))]) k92x1
def c92 : AFn := ⟨63, [],
 .seq (.ops false [
 o 6 (.move (c 20))]) k92x0⟩
theorem cf92 : cFn Try.prog 92 = some c92 := by kernel_rfl
def k97x6 : AC := .exit 0
def k97x5 : AC := .mask 271
def k97x4 : AC := .seq (.cond (.tmp 14)
 (.skip)
 (.seq (.mask 0) k97x6)) k97x5
def k97x15 : AC := .exit 2
def k97x14 : AC := .mask 783
def k97x13 : AC := .seq (.cond (.tmp 34)
 (.skip)
 (.seq (.mask 271) k97x15)) k97x14
def k97x17 : AC := .mask 783
def k97x16 : AC := .ops false [
 o 35 (.move (t 9)),
 o 36 (.bin .other .sub (t 35) (c 1)),
 o 9 (.move (t 36))]
def k97x12 : AC := .seq (.seq (.block 3 (.ops false [
 o 37 (.move (t 0)),
 o 38 (.move (t 9)),
 o 39 (.move (t 0)),
 o 40 (.move (t 9)),
 o 41 (.bin .other .sub (t 40) (c 1)),
 o 42 (.move (t 0)),
 o 43 (.move (t 9)),
 o 44 (.bin .other .sub (t 43) (c 1)),
 o 45 (.indexAddr 4 (t 42) (t 44)),
 o 46 (.load (.agg [(.int .i64), (.int .i64), (.int .i64), .bool]) (t 45)),
 o 47 (.move (t 0)),
 o 48 (.move (t 9)),
 o 49 (.indexAddr 4 (t 47) (t 48)),
 o 50 (.load (.agg [(.int .i64), (.int .i64), (.int .i64), .bool]) (t 49)),
 o 51 (.indexAddr 4 (t 37) (t 38)),
 u (.store 4 (t 51) (t 46)),
 o 52 (.indexAddr 4 (t 39) (t 41)),
 u (.store 4 (t 52) (t 50))])) k97x17) k97x16
def k97x11 : AC := .seq (.seq (.ops true [
 o 18 (.move (t 9)),
 o 19 (.move (t 1)),
 o 20 (.bin .other .gtr (t 18) (t 19)),
 o 21 (.move (t 20)),
 g 22 21 (.move (t 3)),
 g 23 21 (.move (t 0)),
 g 24 21 (.move (t 9)),
 g 25 21 (.indexAddr 4 (t 23) (t 24)),
 g 26 21 (.load (.agg [(.int .i64), (.int .i64), (.int .i64), .bool]) (t 25)),
 g 27 21 (.move (t 0)),
 g 28 21 (.move (t 9)),
 g 29 21 (.bin .other .sub (t 28) (c 1)),
 g 30 21 (.indexAddr 4 (t 27) (t 29)),
 g 31 21 (.load (.agg [(.int .i64), (.int .i64), (.int .i64), .bool]) (t 30)),
 g 32 21 (.callV (t 22) [(t 26), (t 31)] [I] (.int .i64 0)),
 g 33 21 (.bin .other .lss (t 32) (c 0)),
 o 34 (.pick (t 21) (t 33) (.c (.bool false)))]) k97x13) k97x12
def k97x10 : AC := .mask 271
def k97x9 : AC := .seq (.block 2 (.loop 783 271 k97x11)) k97x10
def k97x8 : AC := .mask 271
def k97x7 : AC := .ops false [
 o 15 (.move (t 8)),
 o 16 (.bin .other .add (t 15) (c 1)),
 o 8 (.move (t 16))]
def k97x3 : AC := .seq (.seq (.block 1 (.seq (.ops false [
 o 17 (.move (t 8)),
 o 9 (.move (t 17))]) k97x9)) k97x8) k97x7
def k97x2 : AC := .seq (.seq (.ops false [
 o 12 (.move (t 8)),
 o 13 (.move (t 2)),
 o 14 (.bin .other .lss (t 12) (t 13))]) k97x4) k97x3
def k97x1 : AC := .mask 0
def k97x0 : AC := .seq (.block 0 (.loop 271 0 k97x2)) k97x1
def c97 : AFn := ⟨53, [],
 .seq (.ops false [
 o 10 (.move (t 1)),
 o 11 (.bin .other .add (t 10) (c 1)),
 o 8 (.move (t 11))]) k97x0⟩
theorem cf97 : cFn Try.prog 97 = some c97 := by kernel_rfl
def k34x6 : AC := .ret
def k34x5 : AC := .seq (.mask 16) k34x6
def k34x4 : AC := .mask 35
def k34x3 : AC := .seq (.cond (.tmp 12)
 (.seq (.ops false [
 o 13 (.move (t 0)),
 o 4 (.move (t 13))]) k34x5)
  (.skip)) k34x4
def k34x14 : AC := .exit 0
def k34x13 : AC := .mask 99
def k34x12 : AC := .seq (.cond (.tmp 19)
 (.skip)
 (.seq (.mask 33) k34x14)) k34x13
def k34x20 : AC := .ops false [
 o 34 (.move (t 5)),
 o 35 (.bin .other .add (t 34) (c 1)),
 o 5 (.move (t 35))]
def k34x19 : AC := .join 99
def k34x18 : AC := .seq (.cond (.tmp 29)
 (.seq (.ops false [
 o 30 (.move (t 0)),
 o 31 (.move (t 5)),
 o 32 (.load (.agg [(.int .i64), (.int .i64), (.int .i64), .bool]) (t 7)),
 o 33 (.indexAddr 4 (t 30) (t 31)),
 u (.store 4 (t 33) (t 32))]) k34x20)
  (.skip)) k34x19
def k34x17 : AC := .seq (.ops false [
 o 26 (.move (t 1)),
 o 27 (.load (.agg [(.int .i64), (.int .i64), (.int .i64), .bool]) (t 7)),
 o 28 (.callV (t 26) [(t 27)] [(.cell .bool)] (.bool false)),
 o 29 (.un .not (t 28))]) k34x18
def k34x16 : AC := .mask 99
def k34x15 : AC := .ops false [
 o 20 (.move (t 6)),
 o 21 (.bin .other .add (t 20) (c 1)),
 o 6 (.move (t 21))]
def k34x11 : AC := .seq (.seq (.block 1 (.seq (.ops false [
 o 22 (.move (t 0)),
 o 23 (.move (t 6)),
 o 24 (.indexAddr 4 (t 22) (t 23)),
 o 25 (.load (.agg [(.int .i64), (.int .i64), (.int .i64), .bool]) (t 24)),
 o 7 (.allocL [(.int .i64 0), (.int .i64 0), (.int .i64 0), (.bool false)]),
 u (.store 4 (t 7) (t 25))]) k34x17)) k34x16) k34x15
def k34x10 : AC := .seq (.seq (.ops false [
 o 16 (.move (t 6)),
 o 17 (.move (t 0)),
 o 18 (.lenSl (t 17)),
 o 19 (.bin .other .lss (t 16) (t 18))]) k34x12) k34x11
def k34x9 : AC := .mask 33
def k34x8 : AC := .seq (.block 0 (.loop 99 33 k34x10)) k34x9
def k34x24 : AC := .ret
def k34x23 : AC := .seq (.mask 16) k34x24
def k34x22 : AC := .seq (.ops false [
 o 39 (.move (t 0)),
 o 40 (.move (t 5)),
 o 41 (.slice 4 (t 39) none (some (t 40))),
 o 4 (.move (t 41))]) k34x23
def k34x7 : AC := .seq (.ops false [
 o 36 (.move (t 0)),
 o 37 (.move (t 5)),
 o 38 (.slice 4 (t 36) (some (t 37)) none),
 u (.clear [(.int .i64 0), (.int .i64 0), (.int .i64 0), (.bool false)] (t 38))]) k34x22
def k34x2 : AC := .seq (.seq (.ops false [
 o 14 (.move (t 5)),
 o 15 (.bin .other .add (t 14) (c 1)),
 o 6 (.move (t 15))]) k34x8) k34x7
def k34x1 : AC := .seq (.seq (.ops false [
 o 11 (.move (t 5)),
 o 12 (.bin .other .eql (t 11) (c (-1)))]) k34x3) k34x2
def k34x0 : AC := .seq (.ops false [
 o 8 (.move (t 0)),
 o 9 (.move (t 1)),
 o 10 (.call 70 [(t 8), (t 9)] [I] (.int .i64 0)),
 o 5 (.move (t 10))]) k34x1
def c34 : AFn := ⟨42, [.tmp 4],
 .seq (.ops false [
 o 4 (.move (.c (.sl .nil 0)))]) k34x0⟩
theorem cf34 : cFn Try.prog 34 = some c34 := by kernel_rfl
def k70x8 : AC := .exit 0
def k70x7 : AC := .mask 387
def k70x15 : AC := .ret
def k70x14 : AC := .seq (.mask 16) k70x15
def k70x13 : AC := .mask 387
def k70x12 : AC := .seq (.cond (.tmp 16)
 (.seq (.ops false [
 o 17 (.move (t 5)),
 o 4 (.move (t 17))]) k70x14)
  (.skip)) k70x13
def k70x11 : AC := .seq (.ops false [
 o 11 (.move (t 1)),
 o 12 (.move (t 0)),
 o 13 (.move (t 5)),
 o 14 (.indexAddr 4 (t 12) (t 13)),
 o 15 (.load (.agg [(.int .i64), (.int .i64), (.int .i64), .bool]) (t 14)),
 o 16 (.callV (t 11) [(t 15)] [(.cell .bool)] (.bool false))]) k70x12
def k70x10 : AC := .mask 387
def k70x9 : AC := .ops false [
 o 18 (.bin .other .add (t 8) (c 1)),
 o 8 (.move (t 18))]
def k70x6 : AC := .seq (.seq (.block 1 (.seq (.ops false [
 o 10 (.move (t 8)),
 o 5 (.move (t 10))]) k70x11)) k70x10) k70x9
def k70x5 : AC := .seq (.seq (.cond (.tmp 9)
 (.skip)
 (.seq (.mask 0) k70x8)) k70x7) k70x6
def k70x4 : AC := .seq (.ops false [
 o 9 (.bin .other .lss (t 8) (t 7))]) k70x5
def k70x3 : AC := .mask 0
def k70x2 : AC := .seq (.block 0 (.loop 387 0 k70x4)) k70x3
def k70x17 : AC := .ret
def k70x16 : AC := .seq (.mask 16) k70x17
def k70x1 : AC := .seq (.ops false [
 o 4 (.move (c (-1)))]) k70x16
def k70x0 : AC := .seq (.seq (.ops false [
 o 6 (.move (t 0)),
 o 7 (.lenSl (t 6)),
 o 8 (.move (c 0))]) k70x2) k70x1
def c70 : AFn := ⟨19, [.tmp 4],
 .seq (.ops false [
 o 4 (.move (c 0))]) k70x0⟩
theorem cf70 : cFn Try.prog 70 = some c70 := by kernel_rfl
def k71x8 : AC := .exit 0
def k71x7 : AC := .mask 387
def k71x15 : AC := .ret
def k71x14 : AC := .seq (.mask 16) k71x15
def k71x13 : AC := .mask 387
def k71x12 : AC := .seq (.cond (.tmp 16)
 (.seq (.ops false [
 o 17 (.move (t 5)),
 o 4 (.move (t 17))]) k71x14)
  (.skip)) k71x13
def k71x11 : AC := .seq (.ops false [
 o 11 (.move (t 1)),
 o 12 (.move (t 0)),
 o 13 (.move (t 5)),
 o 14 (.indexAddr 1 (t 12) (t 13)),
 o 15 (.load I (t 14)),
 o 16 (.callV (t 11) [(t 15)] [(.cell .bool)] (.bool false))]) k71x12
def k71x10 : AC := .mask 387
def k71x9 : AC := .ops false [
 o 18 (.bin .other .add (t 8) (c 1)),
 o 8 (.move (t 18))]
def k71x6 : AC := .seq (.seq (.block 1 (.seq (.ops false [
 o 10 (.move (t 8)),
 o 5 (.move (t 10))]) k71x11)) k71x10) k71x9
def k71x5 : AC := .seq (.seq (.cond (.tmp 9)
 (.skip)
 (.seq (.mask 0) k71x8)) k71x7) k71x6
def k71x4 : AC := .seq (.ops false [
 o 9 (.bin .other .lss (t 8) (t 7))]) k71x5
def k71x3 : AC := .mask 0
def k71x2 : AC := .seq (.block 0 (.loop 387 0 k71x4)) k71x3
def k71x17 : AC := .ret
def k71x16 : AC := .seq (.mask 16) k71x17
def k71x1 : AC := .seq (.ops false [
 o 4 (.move (c (-1)))]) k71x16
def k71x0 : AC := .seq (.seq (.ops false [
 o 6 (.move (t 0)),
 o 7 (.lenSl (t 6)),
 o 8 (.move (c 0))]) k71x2) k71x1
def c71 : AFn := ⟨19, [.tmp 4],
 .seq (.ops false [
 o 4 (.move (c 0))]) k71x0⟩
theorem cf71 : cFn Try.prog 71 = some c71 := by kernel_rfl
def k73x2 : AC := .ret
def k73x1 : AC := .seq (.mask 16) k73x2
def k73x0 : AC := .seq (.ops false [
 o 5 (.move (t 0)),
 o 6 (.move (t 1)),
 o 7 (.call 70 [(t 5), (t 6)] [I] (.int .i64 0)),
 o 8 (.bin .other .geq (t 7) (c 0)),
 o 4 (.move (t 8))]) k73x1
def c73 : AFn := ⟨9, [.tmp 4],
 .seq (.ops false [
 o 4 (.move (.c (.bool false)))]) k73x0⟩
theorem cf73 : cFn Try.prog 73 = some c73 := by kernel_rfl
def k74x2 : AC := .ret
def k74x1 : AC := .seq (.mask 16) k74x2
def k74x0 : AC := .seq (.ops false [
 o 5 (.load (.cell .ptr) (t 1)),
 o 6 (.nilCheck (t 5)),
 o 7 (.fieldAddr 0 (t 6)),
 o 8 (.fieldAddr 0 (t 7)),
 o 9 (.load (.cell .sl) (t 8)),
 o 10 (.fieldAddr 0 (t 3)),
 o 11 (.load I (t 10)),
 o 12 (.indexAddr 1 (t 9) (t 11)),
 o 13 (.load I (t 12)),
 o 14 (.load I (t 2)),
 o 15 (.bin .other .eql (t 13) (t 14)),
 o 4 (.move (t 15))]) k74x1
def c74 : AFn := ⟨16, [.tmp 4],
 .seq (.ops false [
 o 3 (.boxL (t 0)),
 o 4 (.move (.c (.bool false)))]) k74x0⟩
theorem cf74 : cFn Try.prog 74 = some c74 := by kernel_rfl
def k75x2 : AC := .ret
def k75x1 : AC := .seq (.mask 8) k75x2
def k75x0 : AC := .seq (.ops false [
 o 4 (.fieldAddr 2 (t 2)),
 o 5 (.load I (t 4)),
 o 6 (.fieldAddr 2 (t 1)),
 o 7 (.load I (t 6)),
 o 8 (.bin .other .gtr (t 5) (t 7)),
 o 3 (.move (t 8))]) k75x1
def c75 : AFn := ⟨9, [.tmp 3],
 .seq (.ops false [
 o 2 (.boxL (t 0)),
 o 3 (.move (.c (.bool false)))]) k75x0⟩
theorem cf75 : cFn Try.prog 75 = some c75 := by kernel_rfl
def k76x7 : AC := .ret
def k76x6 : AC := .seq (.mask 64) k76x7
def k76x5 : AC := .mask 135
def k76x4 : AC := .seq (.cond (.tmp 16)
 (.seq (.ops false [
 o 17 (.move (t 0)),
 o 6 (.move (t 17))]) k76x6)
  (.skip)) k76x5
def k76x13 : AC := .ret
def k76x12 : AC := .seq (.mask 64) k76x13
def k76x11 : AC := .mask 391
def k76x10 : AC := .seq (.cond (.tmp 22)
 (.seq (.ops false [
 o 23 (.move (t 0)),
 o 24 (.move (t 2)),
 o 25 (.append [(.int .i64 0), (.int .i64 0), (.int .i64 0), (.bool false)] 4 32 (t 23) (t 24)),
 o 6 (.move (t 25))]) k76x12)
  (.skip)) k76x11
def k76x21 : AC := .ret
def k76x20 : AC := .seq (.mask 64) k76x21
def k76x19 : AC := .seq (.ops false [
 o 55 (.move (t 9)),
 o 6 (.move (t 55))]) k76x20
def k76x18 : AC := .seq (.ops false [
 o 46 (.move (t 9)),
 o 47 (.move (t 1)),
 o 48 (.move (t 7)),
 o 49 (.bin .other .add (t 47) (t 48)),
 o 50 (.slice 4 (t 46) (some (t 49)) none),
 o 51 (.move (t 0)),
 o 52 (.move (t 1)),
 o 53 (.slice 4 (t 51) (some (t 52)) none),
 o 54 (.copy 4 (t 50) (t 53))]) k76x19
def k76x17 : AC := .seq (.ops false [
 o 41 (.move (t 9)),
 o 42 (.move (t 1)),
 o 43 (.slice 4 (t 41) (some (t 42)) none),
 o 44 (.move (t 2)),
 o 45 (.copy 4 (t 43) (t 44))]) k76x18
def k76x16 : AC := .mask 391
def k76x15 : AC := .seq (.cond (.tmp 31)
 (.seq (.bad) k76x17)
 (.skip)) k76x16
def k76x29 : AC := .ret
def k76x28 : AC := .seq (.mask 64) k76x29
def k76x27 : AC := .seq (.ops false [
 o 83 (.move (t 0)),
 o 6 (.move (t 83))]) k76x28
def k76x26 : AC := .seq (.ops false [
 o 78 (.move (t 0)),
 o 79 (.move (t 1)),
 o 80 (.slice 4 (t 78) (some (t 79)) none),
 o 81 (.move (t 2)),
 o 82 (.copy 4 (t 80) (t 81))]) k76x27
def k76x25 : AC := .mask 391
def k76x24 : AC := .seq (.cond (.tmp 68)
 (.seq (.ops false [
 o 69 (.move (t 0)),
 o 70 (.move (t 1)),
 o 71 (.move (t 7)),
 o 72 (.bin .other .add (t 70) (t 71)),
 o 73 (.slice 4 (t 69) (some (t 72)) none),
 o 74 (.move (t 0)),
 o 75 (.move (t 1)),
 o 76 (.slice 4 (t 74) (some (t 75)) none),
 o 77 (.copy 4 (t 73) (t 76))]) k76x26)
  (.skip)) k76x25
def k76x33 : AC := .ret
def k76x32 : AC := .seq (.mask 64) k76x33
def k76x31 : AC := .seq (.ops false [
 o 94 (.move (t 0)),
 o 6 (.move (t 94))]) k76x32
def k76x30 : AC := .seq (.ops false [
 o 89 (.move (t 0)),
 o 90 (.move (t 1)),
 o 91 (.slice 4 (t 89) (some (t 90)) none),
 o 92 (.move (t 7)),
 o 93 (.call 95 [(t 91), (t 92)] [] .opq)]) k76x31
def k76x23 : AC := .seq (.ops false [
 o 84 (.move (t 0)),
 o 85 (.move (t 8)),
 o 86 (.slice 4 (t 84) (some (t 85)) none),
 o 87 (.move (t 2)),
 o 88 (.copy 4 (t 86) (t 87))]) k76x30
def k76x22 : AC := .seq (.seq (.ops false [
 o 61 (.move (t 2)),
 o 62 (.move (t 0)),
 o 63 (.move (t 1)),
 o 64 (.move (t 7)),
 o 65 (.bin .other .add (t 63) (t 64)),
 o 66 (.slice 4 (t 62) (some (t 65)) none),
 o 67 (.call 94 [(t 61), (t 66)] [(.cell .bool)] (.bool false)),
 o 68 (.un .not (t 67))]) k76x24) k76x23
def k76x14 : AC := .seq (.ops false [
 o 56 (.move (t 0)),
 o 57 (.move (t 8)),
 o 58 (.move (t 7)),
 o 59 (.bin .other .add (t 57) (t 58)),
 o 60 (.slice 4 (t 56) none (some (t 59))),
 o 0 (.move (t 60))]) k76x22
def k76x9 : AC := .seq (.seq (.bad) k76x15) k76x14
def k76x8 : AC := .seq (.seq (.ops false [
 o 20 (.move (t 1)),
 o 21 (.move (t 8)),
 o 22 (.bin .other .eql (t 20) (t 21))]) k76x10) k76x9
def k76x3 : AC := .seq (.ops false [
 o 18 (.move (t 0)),
 o 19 (.lenSl (t 18)),
 o 8 (.move (t 19))]) k76x8
def k76x2 : AC := .seq (.seq (.ops false [
 o 15 (.move (t 7)),
 o 16 (.bin .other .eql (t 15) (c 0))]) k76x4) k76x3
def k76x1 : AC := .seq (.ops false [
 o 13 (.move (t 2)),
 o 14 (.lenSl (t 13)),
 o 7 (.move (t 14))]) k76x2
def k76x0 : AC := .seq (.ops false [
 o 10 (.move (t 0)),
 o 11 (.move (t 1)),
 o 12 (.slice 4 (t 10) (some (t 11)) none)]) k76x1
def c76 : AFn := ⟨95, [.tmp 6],
 .seq (.ops false [
 o 6 (.move (.c (.sl .nil 0)))]) k76x0⟩
theorem cf76 : cFn Try.prog 76 = some c76 := by kernel_rfl
def k12x6 : AC := .ret
def k12x5 : AC := .seq (.mask 48) k12x6
def k12x4 : AC := .mask 86
def k12x3 : AC := .seq (.cond (.tmp 21)
 (.seq (.ops false [
 o 22 (.build [(.sl .nil 0), (.sl .nil 0), (.int .i64 0)] []),
 o 23 (.move (t 7)),
 u (.store 3 (t 4) (t 22)),
 o 5 (.move (t 23))]) k12x5)
  (.skip)) k12x4
def k12x11 : AC := .ret
def k12x10 : AC := .seq (.mask 48) k12x11
def k12x9 : AC := .mask 86
def k12x8 : AC := .seq (.cond (.tmp 29)
 (.seq (.ops false [
 o 30 (.build [(.sl .nil 0), (.sl .nil 0), (.int .i64 0)] []),
 u (.store 3 (t 4) (t 30)),
 o 5 (.move (c 4))]) k12x10)
  (.skip)) k12x9
def k12x20 : AC := .exit 0
def k12x19 : AC := .mask 105553116266834
def k12x23 : AC := .ops false [
 o 49 (.move (t 8)),
 o 50 (.nilCheck (t 49)),
 o 51 (.fieldAddr 0 (t 50)),
 o 52 (.fieldAddr 0 (t 51)),
 o 53 (.load (.cell .sl) (t 52)),
 o 54 (.move (t 9)),
 o 55 (.move (t 8)),
 o 56 (.nilCheck (t 55)),
 o 57 (.fieldAddr 0 (t 56)),
 o 58 (.fieldAddr 1 (t 57)),
 o 59 (.load (.cell .sl) (t 58)),
 o 60 (.move (t 9)),
 o 61 (.indexAddr 1 (t 53) (t 54)),
 u (.store 1 (t 61) (c (-1))),
 o 62 (.indexAddr 1 (t 59) (t 60)),
 u (.store 1 (t 62) (c (-1)))]
def k12x22 : AC := .mask 105553116266834
def k12x21 : AC := .ops false [
 o 63 (.bin .other .add (t 46) (c 1)),
 o 46 (.move (t 63))]
def k12x18 : AC := .seq (.seq (.block 1 (.seq (.ops false [
 o 48 (.move (t 46)),
 o 9 (.move (t 48))]) k12x23)) k12x22) k12x21
def k12x17 : AC := .seq (.seq (.cond (.tmp 47)
 (.skip)
 (.seq (.mask 338) k12x20)) k12x19) k12x18
def k12x16 : AC := .seq (.ops false [
 o 47 (.bin .other .lss (t 46) (t 45))]) k12x17
def k12x15 : AC := .mask 338
def k12x14 : AC := .seq (.block 0 (.loop 105553116266834 338 k12x16)) k12x15
def k12x31 : AC := .exit 2
def k12x30 : AC := .mask 129127208515966861586
def k12x40 : AC := .exit 3
def k12x39 : AC := .seq (.mask 129127208515966861586) k12x40
def k12x38 : AC := .mask 129127208515966863634
def k12x37 : AC := .seq (.cond (.tmp 80)
 (.seq (.ops false [
 o 81 (.move (t 8)),
 o 82 (.load (.agg [(.int .i64), (.int .i64), (.int .i64), .bool]) (t 11)),
 o 83 (.call 36 [(t 81), (t 82)] [] .opq)]) k12x39)
  (.skip)) k12x38
def k12x46 : AC := .exit 3
def k12x45 : AC := .seq (.mask 129127208515966861586) k12x46
def k12x44 : AC := .mask 129127208515966863634
def k12x43 : AC := .seq (.cond (.tmp 88)
 (.seq (.ops false [
 o 89 (.move (t 8)),
 o 90 (.load (.agg [(.int .i64), (.int .i64), (.int .i64), .bool]) (t 11)),
 o 91 (.move (t 12)),
 o 92 (.call 38 [(t 89), (t 90), (t 91)] [] .opq)]) k12x45)
  (.skip)) k12x44
def k12x42 : AC := .seq (.ops false [
 o 87 (.move (t 12)),
 o 88 (.bin .other .gtr (t 87) (c 0))]) k12x43
def k12x52 : AC := .exit 3
def k12x51 : AC := .seq (.mask 129127208515966861586) k12x52
def k12x50 : AC := .mask 129127208515966871826
def k12x49 : AC := .seq (.cond (.tmp 109)
 (.seq (.ops false [
 o 110 (.move (t 8)),
 o 111 (.load (.agg [(.int .i64), (.int .i64), (.int .i64), .bool]) (t 11)),
 o 112 (.call 36 [(t 110), (t 111)] [] .opq)]) k12x51)
  (.skip)) k12x50
def k12x55 : AC := .ops false [
 o 139 (.move (t 8)),
 o 140 (.load (.agg [(.int .i64), (.int .i64), (.int .i64), .bool]) (t 11)),
 o 141 (.move (t 14)),
 o 142 (.call 38 [(t 139), (t 140), (t 141)] [] .opq)]
def k12x54 : AC := .seq (.ops false [
 o 136 (.move (t 8)),
 o 137 (.load (.agg [(.int .i64), (.int .i64), (.int .i64), .bool]) (t 13)),
 o 138 (.call 39 [(t 136), (t 137)] [] .opq)]) k12x55
def k12x53 : AC := .seq (.ops false [
 o 127 (.move (t 8)),
 o 128 (.nilCheck (t 127)),
 o 129 (.fieldAddr 0 (t 128)),
 o 130 (.fieldAddr 0 (t 129)),
 o 131 (.load (.cell .sl) (t 130)),
 o 132 (.fieldAddr 0 (t 13)),
 o 133 (.load I (t 132)),
 o 134 (.indexAddr 1 (t 131) (t 133)),
 o 135 (.load I (t 134)),
 o 14 (.move (t 135))]) k12x54
def k12x48 : AC := .seq (.ops false [
 o 113 (.move (t 8)),
 o 114 (.move (t 8)),
 o 115 (.nilCheck (t 114)),
 o 116 (.fieldAddr 3 (t 115)),
 o 117 (.load (.cell .sl) (t 116)),
 o 118 (.move (t 8)),
 o 119 (.nilCheck (t 118)),
 o 120 (.fieldAddr 3 (t 119)),
 o 121 (.load (.cell .sl) (t 120)),
 o 122 (.lenSl (t 121)),
 o 123 (.bin .other .sub (t 122) (c 1)),
 o 124 (.slice 4 (t 117) none (some (t 123))),
 o 125 (.nilCheck (t 113)),
 o 126 (.fieldAddr 3 (t 125)),
 u (.store 1 (t 126) (t 124))]) k12x53
def k12x47 : AC := .seq (.seq (.ops false [
 o 105 (.fieldAddr 2 (t 13)),
 o 106 (.load I (t 105)),
 o 107 (.fieldAddr 2 (t 11)),
 o 108 (.load I (t 107)),
 o 109 (.bin .other .leq (t 106) (t 108))]) k12x49) k12x48
def k12x41 : AC := .seq (.ops false [
 o 93 (.move (t 8)),
 o 94 (.nilCheck (t 93)),
 o 95 (.fieldAddr 3 (t 94)),
 o 96 (.load (.cell .sl) (t 95)),
 o 97 (.move (t 8)),
 o 98 (.nilCheck (t 97)),
 o 99 (.fieldAddr 3 (t 98)),
 o 100 (.load (.cell .sl) (t 99)),
 o 101 (.lenSl (t 100)),
 o 102 (.bin .other .sub (t 101) (c 1)),
 o 103 (.indexAddr 4 (t 96) (t 102)),
 o 104 (.load (.agg [(.int .i64), (.int .i64), (.int .i64), .bool]) (t 103)),
 o 13 (.allocL [(.int .i64 0), (.int .i64 0), (.int .i64 0), (.bool false)]),
 u (.store 4 (t 13) (t 104))]) k12x47
def k12x36 : AC := .seq (.seq (.ops false [
 o 84 (.move (t 8)),
 o 85 (.move (t 1)),
 o 86 (.call 37 [(t 84), (t 85)] [I] (.int .i64 0)),
 o 12 (.move (t 86))]) k12x42) k12x41
def k12x35 : AC := .seq (.seq (.ops false [
 o 79 (.fieldAddr 3 (t 11)),
 o 80 (.load (.cell .bool) (t 79))]) k12x37) k12x36
def k12x34 : AC := .seq (.ops false [
 o 70 (.move (t 8)),
 o 71 (.move (t 8)),
 o 72 (.nilCheck (t 71)),
 o 73 (.fieldAddr 3 (t 72)),
 o 74 (.load (.cell .sl) (t 73)),
 o 75 (.makeFn 35 [] [(t 11)]),
 o 76 (.call 34 [(t 74), (t 75)] [(.cell .sl)] (.sl .nil 0)),
 o 77 (.nilCheck (t 70)),
 o 78 (.fieldAddr 3 (t 77)),
 u (.store 1 (t 78) (t 76))]) k12x35
def k12x33 : AC := .join 129127208515966861586
def k12x32 : AC := .ops false [
 o 143 (.bin .other .add (t 66) (c 1)),
 o 66 (.move (t 143))]
def k12x29 : AC := .seq (.seq (.block 3 (.seq (.ops false [
 o 68 (.indexAddr 4 (t 64) (t 66)),
 o 69 (.load (.agg [(.int .i64), (.int .i64), (.int .i64), .bool]) (t 68)),
 o 11 (.allocH [(.int .i64 0), (.int .i64 0), (.int .i64 0), (.bool false)]),
 u (.store 4 (t 11) (t 69))]) k12x34)) k12x33) k12x32
def k12x28 : AC := .seq (.seq (.cond (.tmp 67)
 (.skip)
 (.seq (.mask 272) k12x31)) k12x30) k12x29
def k12x27 : AC := .seq (.ops false [
 o 67 (.bin .other .lss (t 66) (t 65))]) k12x28
def k12x26 : AC := .mask 272
def k12x25 : AC := .seq (.block 2 (.loop 129127208515966861586 272 k12x27)) k12x26
def k12x59 : AC := .ret
def k12x58 : AC := .seq (.mask 48) k12x59
def k12x57 : AC := .seq (.ops false [
 o 153 (.move (t 8)),
 o 154 (.nilCheck (t 153)),
 o 155 (.fieldAddr 0 (t 154)),
 o 156 (.load (.agg [.sl, .sl, (.int .i64)]) (t 155)),
 u (.store 3 (t 4) (t 156)),
 o 5 (.move (c 0))]) k12x58
def k12x24 : AC := .seq (.ops false [
 o 144 (.move (t 8)),
 o 145 (.move (t 8)),
 o 146 (.nilCheck (t 145)),
 o 147 (.fieldAddr 4 (t 146)),
 o 148 (.load (.cell .sl) (t 147)),
 o 149 (.lenSl (t 148)),
 o 150 (.nilCheck (t 144)),
 o 151 (.fieldAddr 0 (t 150)),
 o 152 (.fieldAddr 2 (t 151)),
 u (.store 1 (t 152) (t 149))]) k12x57
def k12x13 : AC := .seq (.seq (.ops false [
 o 64 (.move (t 6)),
 o 65 (.lenSl (t 64)),
 o 66 (.move (c 0))]) k12x25) k12x24
def k12x12 : AC := .seq (.seq (.ops false [
 o 40 (.move (t 8)),
 o 41 (.nilCheck (t 40)),
 o 42 (.fieldAddr 0 (t 41)),
 o 43 (.fieldAddr 0 (t 42)),
 o 44 (.load (.cell .sl) (t 43)),
 o 45 (.lenSl (t 44)),
 o 46 (.move (c 0))]) k12x14) k12x13
def k12x7 : AC := .seq (.ops false [
 o 31 (.fieldAddr 2 (t 2)),
 o 32 (.load I (t 31)),
 o 33 (.makeSl [(.int .i64 0)] 8 (t 32) (t 32)),
 o 34 (.fieldAddr 2 (t 2)),
 o 35 (.load I (t 34)),
 o 36 (.makeSl [(.int .i64 0)] 8 (t 35) (t 35)),
 o 37 (.build [(.sl .nil 0), (.sl .nil 0), (.int .i64 0)] [(0, 1, (t 33)), (1, 1, (t 36))]),
 o 38 (.build [(.sl .nil 0), (.sl .nil 0), (.int .i64 0), (.sl .nil 0), (.sl .nil 0)] [(0, 3, (t 37))]),
 o 39 (.boxH (t 38)),
 o 8 (.move (t 39))]) k12x12
def k12x2 : AC := .seq (.seq (.ops true [
 o 24 (.move (t 1)),
 o 25 (.bin .other .lss (t 24) (c 1)),
 o 26 (.move (t 25)),
 f 27 26 (.move (t 1)),
 f 28 26 (.bin .other .gtr (t 27) (c 10)),
 o 29 (.pick (t 26) (.c (.bool true)) (t 28))]) k12x8) k12x7
def k12x1 : AC := .seq (.seq (.ops false [
 o 20 (.move (t 7)),
 o 21 (.bin .other .neq (t 20) (c 0))]) k12x3) k12x2
def k12x0 : AC := .seq (.ops false [
 o 16 (.load (.agg [(.int .i64), .sl, (.int .i64), .sl]) (t 2)),
 o 17 (.call 9 [(t 16)] [(.cell .sl), I] .opq),
 o 15 (.move (t 17)),
 o 18 (.extract (t 15) 0),
 o 19 (.extract (t 15) 1),
 o 6 (.move (t 18)),
 o 7 (.move (t 19))]) k12x1
def c12 : AFn := ⟨157, [.cell 4 (.agg [.sl, .sl, (.int .i64)]), .tmp 5],
 .seq (.ops false [
 o 2 (.boxL (t 0)),
 o 4 (.allocL [(.sl .nil 0), (.sl .nil 0), (.int .i64 0)]),
 o 5 (.move (c 0))]) k12x0⟩
theorem cf12 : cFn Try.prog 12 = some c12 := by kernel_rfl
def k35x2 : AC := .ret
def k35x1 : AC := .seq (.mask 8) k35x2
def k35x0 : AC := .seq (.ops false [
 o 4 (.fieldAddr 2 (t 2)),
 o 5 (.load I (t 4)),
 o 6 (.fieldAddr 1 (t 1)),
 o 7 (.load I (t 6)),
 o 8 (.bin .other .lss (t 5) (t 7)),
 o 3 (.move (t 8))]) k35x1
def c35 : AFn := ⟨9, [.tmp 3],
 .seq (.ops false [
 o 2 (.boxL (t 0)),
 o 3 (.move (.c (.bool false)))]) k35x0⟩
theorem cf35 : cFn Try.prog 35 = some c35 := by kernel_rfl
def k37x8 : AC := .exit 0
def k37x7 : AC := .mask 38
def k37x6 : AC := .seq (.cond (.tmp 8)
 (.skip)
 (.seq (.mask 0) k37x8)) k37x7
def k37x14 : AC := .ret
def k37x13 : AC := .seq (.mask 16) k37x14
def k37x12 : AC := .mask 38
def k37x11 : AC := .seq (.cond (.tmp 17)
 (.seq (.ops false [
 o 18 (.load I (t 5)),
 o 4 (.move (t 18))]) k37x13)
  (.skip)) k37x12
def k37x10 : AC := .mask 38
def k37x16 : AC := .ops false [
 o 5 (.allocH [(.int .i64 0)]),
 u (.store 1 (t 5) (t 19))]
def k37x15 : AC := .ops false [
 o 9 (.load I (t 5)),
 o 10 (.bin .other .add (t 9) (c 1)),
 u (.store 1 (t 5) (t 10))]
def k37x9 : AC := .seq (.seq (.ops false [
 o 19 (.load I (t 5))]) k37x16) k37x15
def k37x5 : AC := .seq (.seq (.block 1 (.seq (.ops false [
 o 11 (.load (.cell .ptr) (t 2)),
 o 12 (.nilCheck (t 11)),
 o 13 (.fieldAddr 3 (t 12)),
 o 14 (.load (.cell .sl) (t 13)),
 o 15 (.makeFn 74 [] [(t 2), (t 5)]),
 o 16 (.call 73 [(t 14), (t 15)] [(.cell .bool)] (.bool false)),
 o 17 (.un .not (t 16))]) k37x11)) k37x10) k37x9
def k37x4 : AC := .seq (.seq (.ops false [
 o 6 (.load I (t 5)),
 o 7 (.move (t 1)),
 o 8 (.bin .other .leq (t 6) (t 7))]) k37x6) k37x5
def k37x3 : AC := .mask 0
def k37x2 : AC := .seq (.block 0 (.loop 38 0 k37x4)) k37x3
def k37x18 : AC := .ret
def k37x17 : AC := .seq (.mask 16) k37x18
def k37x1 : AC := .seq (.ops false [
 o 4 (.move (c 0))]) k37x17
def k37x0 : AC := .seq (.seq (.ops false [
 o 5 (.allocH [(.int .i64 0)]),
 u (.store 1 (t 5) (c 1))]) k37x2) k37x1
def c37 : AFn := ⟨20, [.tmp 4],
 .seq (.ops false [
 o 2 (.boxH (t 0)),
 o 4 (.move (c 0))]) k37x0⟩
theorem cf37 : cFn Try.prog 37 = some c37 := by kernel_rfl
def k38x5 : AC := .join 81
def k38x4 : AC := .seq (.cond (.tmp 31)
 (.ops false [
 o 32 (.move (t 0)),
 o 33 (.nilCheck (t 32)),
 o 34 (.fieldAddr 3 (t 33)),
 o 35 (.load (.cell .sl) (t 34)),
 o 36 (.lenSl (t 35)),
 o 6 (.move (t 36))])
  (.skip)) k38x5
def k38x3 : AC := .ops false [
 o 37 (.move (t 0)),
 o 38 (.move (t 0)),
 o 39 (.nilCheck (t 38)),
 o 40 (.fieldAddr 3 (t 39)),
 o 41 (.load (.cell .sl) (t 40)),
 o 42 (.move (t 6)),
 o 43 (.load (.agg [(.int .i64), (.int .i64), (.int .i64), .bool]) (t 4)),
 o 44 (.buildSl [(.int .i64 0), (.int .i64 0), (.int .i64 0), (.bool false)] 4 [(0, (t 43))]),
 o 45 (.call 76 [(t 41), (t 42), (t 44)] [(.cell .sl)] (.sl .nil 0)),
 o 46 (.nilCheck (t 37)),
 o 47 (.fieldAddr 3 (t 46)),
 u (.store 1 (t 47) (t 45))]
def k38x2 : AC := .seq (.seq (.ops false [
 o 30 (.move (t 6)),
 o 31 (.bin .other .lss (t 30) (c 0))]) k38x4) k38x3
def k38x1 : AC := .seq (.ops false [
 o 24 (.move (t 0)),
 o 25 (.nilCheck (t 24)),
 o 26 (.fieldAddr 3 (t 25)),
 o 27 (.load (.cell .sl) (t 26)),
 o 28 (.makeFn 75 [] [(t 4)]),
 o 29 (.call 70 [(t 27), (t 28)] [I] (.int .i64 0)),
 o 6 (.move (t 29))]) k38x2
def k38x0 : AC := .seq (.ops false [
 o 7 (.move (t 0)),
 o 8 (.nilCheck (t 7)),
 o 9 (.fieldAddr 0 (t 8)),
 o 10 (.fieldAddr 0 (t 9)),
 o 11 (.load (.cell .sl) (t 10)),
 o 12 (.fieldAddr 0 (t 4)),
 o 13 (.load I (t 12)),
 o 14 (.move (t 0)),
 o 15 (.nilCheck (t 14)),
 o 16 (.fieldAddr 0 (t 15)),
 o 17 (.fieldAddr 1 (t 16)),
 o 18 (.load (.cell .sl) (t 17)),
 o 19 (.fieldAddr 0 (t 4)),
 o 20 (.load I (t 19)),
 o 21 (.move (t 2)),
 o 22 (.indexAddr 1 (t 11) (t 13)),
  ⟨none, .store 1 (.tmp 22) (.tmp 21), none, [.load 1 19 none]⟩,
 o 23 (.indexAddr 1 (t 18) (t 20)),
 u (.store 1 (t 23) (c (-1)))]) k38x1
def c38 : AFn := ⟨48, [],
 .seq (.ops false [
 o 4 (.boxH (t 1))]) k38x0⟩
theorem cf38 : cFn Try.prog 38 = some c38 := by kernel_rfl
def code : FuncId → Option AFn
 | 8 => some c8
 | 25 => some c25
 | 26 => some c26
 | 58 => some c58
 | 59 => some c59
 | 60 => some c60
 | 61 => some c61
 | 62 => some c62
 | 63 => some c63
 | 64 => some c64
 | 65 => some c65
 | 89 => some c89
 | 90 => some c90
 | 91 => some c91
 | 28 => some c28
 | 29 => some c29
 | 30 => some c30
 | 31 => some c31
 | 20 => some c20
 | 54 => some c54
 | 14 => some c14
 | 40 => some c40
 | 41 => some c41
 | 42 => some c42
 | 43 => some c43
 | 44 => some c44
 | 77 => some c77
 | 78 => some c78
 | 79 => some c79
 | 80 => some c80
 | 82 => some c82
 | 21 => some c21
 | 9 => some c9
 | 27 => some c27
 | 32 => some c32
 | 66 => some c66
 | 67 => some c67
 | 68 => some c68
 | 92 => some c92
 | 97 => some c97
 | 34 => some c34
 | 70 => some c70
 | 71 => some c71
 | 73 => some c73
 | 74 => some c74
 | 75 => some c75
 | 76 => some c76
 | 12 => some c12
 | 35 => some c35
 | 37 => some c37
 | 38 => some c38
 | _ => none
theorem code_ok (f : FuncId) (c : AFn) (h : code f = some c) : cFn Try.prog f = some c := by
 unfold code at h
 split at h
 · cases h; exact cf8
 · cases h; exact cf25
 · cases h; exact cf26
 · cases h; exact cf58
 · cases h; exact cf59
 · cases h; exact cf60
 · cases h; exact cf61
 · cases h; exact cf62
 · cases h; exact cf63
 · cases h; exact cf64
 · cases h; exact cf65
 · cases h; exact cf89
 · cases h; exact cf90
 · cases h; exact cf91
 · cases h; exact cf28
 · cases h; exact cf29
 · cases h; exact cf30
 · cases h; exact cf31
 · cases h; exact cf20
 · cases h; exact cf54
 · cases h; exact cf14
 · cases h; exact cf40
 · cases h; exact cf41
 · cases h; exact cf42
 · cases h; exact cf43
 · cases h; exact cf44
 · cases h; exact cf77
 · cases h; exact cf78
 · cases h; exact cf79
 · cases h; exact cf80
 · cases h; exact cf82
 · cases h; exact cf21
 · cases h; exact cf9
 · cases h; exact cf27
 · cases h; exact cf32
 · cases h; exact cf66
 · cases h; exact cf67
 · cases h; exact cf68
 · cases h; exact cf92
 · cases h; exact cf97
 · cases h; exact cf34
 · cases h; exact cf70
 · cases h; exact cf71
 · cases h; exact cf73
 · cases h; exact cf74
 · cases h; exact cf75
 · cases h; exact cf76
 · cases h; exact cf12
 · cases h; exact cf35
 · cases h; exact cf37
 · cases h; exact cf38
 · cases h
end Go.Proofs.Ytnmdadadjneaiaa.D
