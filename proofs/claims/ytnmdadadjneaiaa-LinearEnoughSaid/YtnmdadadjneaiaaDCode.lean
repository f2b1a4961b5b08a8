/- The code of functions, as constants. -/
import Derived.Test.YtnmdadadjneaiaaLibE
import Derived.Test.YtnmdadadjneaiaaProg
import Derived.KernelRfl
set_option linter.unusedVariables false
set_option maxRecDepth 100000
namespace Go.Proofs.Ytnmdadadjneaiaa.D
open Go Go.Proofs.Ytnmdadadjneaiaa.Abs Abs.Sh Go.Proofs
noncomputable section
def k8x4:=AC.ret
def k8x3:=sq (.mask 1) k8x4
def k8x2:=sq (ot [
 mv 15 2,
 bc 16 .eql 15 0,
 mv 17 16,
 g 18 17 (.move (t 4)),
 g 19 17 (.bin .other .eql (t 18) (c 0)),
 o 20 (.pick (t 17) (t 19) (.c (.bool false))),
 mv 21 20,
 g 22 21 (.fieldAddr 0 (t 1)),
 g 23 21 (.load (.cell .sl) (t 22)),
 g 24 21 (.lenSl (t 23)),
 g 25 21 (.bin .other .eql (t 24) (c 2)),
 o 26 (.pick (t 21) (t 25) (.c (.bool false))),
 mv 27 26,
 g 28 27 (.fieldAddr 0 (t 1)),
 g 29 27 (.load (.cell .sl) (t 28)),
 g 30 27 (.indexAddr 1 (t 29) (c 1)),
 g 31 27 (.load I (t 30)),
 g 32 27 (.bin .other .eql (t 31) (c 1)),
 o 33 (.pick (t 27) (t 32) (.c (.bool false))),
 mv 34 33,
 g 35 34 (.fieldAddr 0 (t 3)),
 g 36 34 (.load (.cell .sl) (t 35)),
 g 37 34 (.lenSl (t 36)),
 g 38 34 (.bin .other .eql (t 37) (c 2)),
 o 39 (.pick (t 34) (t 38) (.c (.bool false))),
 mv 40 39,
 g 41 40 (.fieldAddr 0 (t 3)),
 g 42 40 (.load (.cell .sl) (t 41)),
 g 43 40 (.indexAddr 1 (t 42) (c 1)),
 g 44 40 (.load I (t 43)),
 g 45 40 (.bin .other .eql (t 44) (c 1)),
 o 46 (.pick (t 40) (t 45) (.c (.bool false))),
 mv 0 46]) k8x3
def k8x1:=sq (of [
 o 11 (.call 25 [] [(.agg [(.int .i64), .sl, (.int .i64), .sl])] (.agg [(.int .i64 0), (.sl .nil 0), (.int .i64 0), (.sl .nil 0)])),
 o 12 (.call 12 [(t 11), (c 1)] [(.agg [.sl, .sl, (.int .i64)]), I] .opq),
 mv 10 12,
 o 13 (.extract (t 10) 0),
 o 14 (.extract (t 10) 1),
 o 3 (.allocL [(.sl .nil 0), (.sl .nil 0), (.int .i64 0)]),
 u (.store 3 (t 3) (t 13)),
 mv 4 14]) k8x2
def k8x0:=sq (of [
 o 6 (.call 25 [] [(.agg [(.int .i64), .sl, (.int .i64), .sl])] (.agg [(.int .i64 0), (.sl .nil 0), (.int .i64 0), (.sl .nil 0)])),
 o 7 (.call 14 [(t 6), (c 1)] [(.agg [.sl, .sl, (.int .i64)]), I] .opq),
 mv 5 7,
 o 8 (.extract (t 5) 0),
 o 9 (.extract (t 5) 1),
 o 1 (.allocL [(.sl .nil 0), (.sl .nil 0), (.int .i64 0)]),
 u (.store 3 (t 1) (t 8)),
 mv 2 9]) k8x1
end
noncomputable section
def c8 : AFn := ⟨47, [.tmp 0],
 .seq (of [
 o 0 (.move (.c (.bool false)))]) k8x0⟩
theorem cf8 : cFn Try.prog 8 = some c8 := by kernel_rfl
end
noncomputable section
def k25x2:=AC.ret
def k25x1:=sq (.mask 1) k25x2
def k25x0:=sq (of [
 o 1 (.buildSl [(.int .i64 0)] 1 [(0, (c 1))]),
 o 2 (.build [(.int .i64 0), (.int .i64 0), (.int .i64 0), (.int .i64 0), (.int .i64 0), (.sl .nil 0)] [(0, 1, (c 0)), (2, 1, (c 1))]),
 o 3 (.build [(.sl .nil 0), (.int .i64 0), (.int .i64 0), (.int .i64 0), (.int .i64 0), (.int .i64 0), (.sl .nil 0)] [(1, 6, (t 2))]),
 o 4 (.buildSl [(.sl .nil 0), (.int .i64 0), (.int .i64 0), (.int .i64 0), (.int .i64 0), (.int .i64 0), (.sl .nil 0)] 7 [(0, (t 3))]),
 o 5 (.build [(.int .i64 0), (.sl .nil 0), (.int .i64 0), (.sl .nil 0)] [(1, 1, (t 1)), (2, 1, (c 2)), (3, 1, (t 4))]),
 u (.store 4 (t 0) (t 5))]) k25x1
end
noncomputable section
def c25 : AFn := ⟨6, [.cell 0 (.agg [(.int .i64), .sl, (.int .i64), .sl])],
 .seq (of [
 o 0 (.allocL [(.int .i64 0), (.sl .nil 0), (.int .i64 0), (.sl .nil 0)])]) k25x0⟩
theorem cf25 : cFn Try.prog 25 = some c25 := by kernel_rfl
end
noncomputable section
def k26x5:=AC.ret
def k26x4:=sq (.mask 4) k26x5
def k26x3:=AC.mask 2
def k26x2:=sq (.cond (.tmp 29)
 (.seq (of [
 o 2 (.move (c 2))]) k26x4)
  (.skip)) k26x3
def k26x10:=AC.ret
def k26x9:=sq (.mask 4) k26x10
def k26x8:=AC.mask 2
def k26x7:=sq (.cond (.tmp 33)
 (.seq (of [
 o 2 (.move (c 3))]) k26x9)
  (.skip)) k26x8
def k26x18:=AC.exit 0
def k26x17:=AC.mask 240518168578
def k26x26:=AC.ret
def k26x25:=sq (.mask 4) k26x26
def k26x24:=AC.mask 240518168602
def k26x23:=sq (.cond (.tmp 47)
 (.seq (of [
 o 2 (.move (c 6))]) k26x25)
  (.skip)) k26x24
def k26x30:=AC.ret
def k26x29:=sq (.mask 4) k26x30
def k26x28:=AC.mask 240518168578
def k26x27:=sq (.cond (.tmp 53)
 (.seq (of [
 o 2 (.move (c 7))]) k26x29)
  (.skip)) k26x28
def k26x22:=sq (of [
 fa 48 1 1,
 ls 49 48,
 mv 50 3,
 o 51 (.slice 1 (t 49) none (some (t 50))),
 mv 52 4,
 o 53 (.call 20 [(t 51), (t 52)] [(.cell .bool)] (.bool false))]) k26x27
def k26x21:=sq (.seq (of [
 mv 42 4,
 fa 43 2 1,
 li 44 43,
 bc 45 .sub 44 1,
 o 46 (.call 58 [(t 42), (c 1), (t 45)] [(.cell .bool)] (.bool false)),
 o 47 (.un .not (t 46))]) k26x23) k26x22
def k26x20:=AC.mask 240518168578
def k26x19:=of [
 bc 54 .add 37 1,
 mv 37 54]
def k26x16:=sq (.seq (.block 1 (.seq (of [
 mv 39 37,
 ia 40 1 35 37,
 li 41 40,
 mv 3 39,
 mv 4 41]) k26x21)) k26x20) k26x19
def k26x15:=sq (.seq (.cond (.tmp 38)
 (.skip)
 (.seq (.mask 2) k26x18)) k26x17) k26x16
def k26x14:=sq (of [
 bt 38 .lss 37 36]) k26x15
def k26x13:=AC.mask 2
def k26x12:=sq (.block 0 (.loop 240518168578 2 k26x14)) k26x13
def k26x39:=AC.exit 2
def k26x38:=AC.mask 504403158265495586
def k26x48:=AC.ret
def k26x47:=sq (.mask 4) k26x48
def k26x46:=AC.mask 504403158265495714
def k26x45:=sq (.cond (.tmp 68)
 (.seq (of [
 o 2 (.move (c 2))]) k26x47)
  (.skip)) k26x46
def k26x44:=sq (of [
 mv 67 5,
 bc 68 .gtr 67 4096]) k26x45
def k26x56:=AC.exit 4
def k26x55:=AC.mask 8264645748180144619682
def k26x64:=AC.ret
def k26x63:=sq (.mask 4) k26x64
def k26x62:=AC.mask 8264645748180144619682
def k26x61:=sq (.cond (.tmp 81)
 (.seq (of [
 mv 82 10,
 mv 2 82]) k26x63)
  (.skip)) k26x62
def k26x60:=sq (of [
 mv 80 10,
 bc 81 .neq 80 0]) k26x61
def k26x59:=sq (of [
 o 76 (.load (.agg [(.int .i64), (.int .i64), (.int .i64), (.int .i64), (.int .i64), .sl]) (t 9)),
 fa 77 2 1,
 li 78 77,
 o 79 (.call 59 [(t 76), (t 78)] [I] (.int .i64 0)),
 mv 10 79]) k26x60
def k26x58:=AC.mask 8264645748180144619682
def k26x57:=of [
 bc 83 .add 72 1,
 mv 72 83]
def k26x54:=sq (.seq (.block 5 (.seq (of [
 ia 74 6 70 72,
 o 75 (.load (.agg [(.int .i64), (.int .i64), (.int .i64), (.int .i64), (.int .i64), .sl]) (t 74)),
 o 9 (.allocL [(.int .i64 0), (.int .i64 0), (.int .i64 0), (.int .i64 0), (.int .i64 0), (.sl .nil 0)]),
 u (.store 6 (t 9) (t 75))]) k26x59)) k26x58) k26x57
def k26x53:=sq (.seq (.cond (.tmp 73)
 (.skip)
 (.seq (.mask 504403158265495714) k26x56)) k26x55) k26x54
def k26x52:=sq (of [
 bt 73 .lss 72 71]) k26x53
def k26x51:=AC.mask 504403158265495714
def k26x50:=sq (.block 4 (.loop 8264645748180144619682 504403158265495714 k26x52)) k26x51
def k26x69:=AC.ret
def k26x68:=sq (.mask 4) k26x69
def k26x67:=AC.mask 504403158265495586
def k26x66:=sq (.cond (.tmp 93)
 (.seq (of [
 mv 94 11,
 mv 2 94]) k26x68)
  (.skip)) k26x67
def k26x65:=sq (of [
 mv 92 11,
 bc 93 .neq 92 0]) k26x66
def k26x49:=sq (of [
 fa 84 1 7,
 o 85 (.load (.agg [(.int .i64), (.int .i64), (.int .i64), (.int .i64), (.int .i64), .sl]) (t 84)),
 fa 86 2 1,
 li 87 86,
 fa 88 3 1,
 ls 89 88,
 ln 90 89,
 o 91 (.call 60 [(t 85), (t 87), (t 90)] [I] (.int .i64 0)),
 mv 11 91]) k26x65
def k26x43:=sq (.seq (of [
 fa 69 0 7,
 ls 70 69,
 ln 71 70,
 o 72 (.move (c 0))]) k26x50) k26x49
def k26x42:=sq (.seq (of [
 mv 62 5,
 fa 63 0 7,
 ls 64 63,
 ln 65 64,
 bt 66 .add 62 65,
 mv 5 66]) k26x44) k26x43
def k26x41:=AC.mask 504403158265495586
def k26x40:=of [
 bc 95 .add 58 1,
 mv 58 95]
def k26x37:=sq (.seq (.block 3 (.seq (of [
 ia 60 7 56 58,
 o 61 (.load (.agg [.sl, (.int .i64), (.int .i64), (.int .i64), (.int .i64), (.int .i64), .sl]) (t 60)),
 o 7 (.allocL [(.sl .nil 0), (.int .i64 0), (.int .i64 0), (.int .i64 0), (.int .i64 0), (.int .i64 0), (.sl .nil 0)]),
 u (.store 7 (t 7) (t 61))]) k26x42)) k26x41) k26x40
def k26x36:=sq (.seq (.cond (.tmp 59)
 (.skip)
 (.seq (.mask 2) k26x39)) k26x38) k26x37
def k26x35:=sq (of [
 bt 59 .lss 58 57]) k26x36
def k26x34:=AC.mask 2
def k26x33:=sq (.block 2 (.loop 504403158265495586 2 k26x35)) k26x34
def k26x78:=AC.exit 6
def k26x77:=AC.mask 12290
def k26x76:=sq (.cond (.tmp 101)
 (.skip)
 (.seq (.mask 0) k26x78)) k26x77
def k26x84:=AC.ret
def k26x83:=sq (.mask 4) k26x84
def k26x82:=AC.mask 12290
def k26x81:=sq (.cond (.tmp 116)
 (.seq (of [
 o 2 (.move (c 12))]) k26x83)
  (.skip)) k26x82
def k26x80:=AC.mask 12290
def k26x79:=of [
 mv 102 13,
 bc 103 .add 102 1,
 mv 13 103]
def k26x75:=sq (.seq (.block 7 (.seq (ot [
 mv 104 12,
 o 105 (.indexAddr 1 (t 104) (c 0)),
 ls 106 105,
 mv 107 13,
 ia 108 1 106 107,
 lb 109 108,
 mv 110 109,
 g 111 110 (.fieldAddr 1 (t 1)),
 g 112 110 (.load (.cell .sl) (t 111)),
 g 113 110 (.move (t 13)),
 g 114 110 (.call 20 [(t 112), (t 113)] [(.cell .bool)] (.bool false)),
 g 115 110 (.un .not (t 114)),
 o 116 (.pick (t 110) (t 115) (.c (.bool false)))]) k26x81)) k26x80) k26x79
def k26x74:=sq (.seq (of [
 mv 98 13,
 fa 99 2 1,
 li 100 99,
 bt 101 .lss 98 100]) k26x76) k26x75
def k26x73:=AC.mask 0
def k26x72:=sq (.block 6 (.loop 12290 0 k26x74)) k26x73
def k26x86:=AC.ret
def k26x85:=sq (.mask 4) k26x86
def k26x71:=sq (of [
 o 2 (.move (c 0))]) k26x85
def k26x70:=sq (.seq (of [
 o 13 (.move (c 1))]) k26x72) k26x71
def k26x32:=sq (of [
 o 96 (.load (.agg [(.int .i64), .sl, (.int .i64), .sl]) (t 1)),
 o 97 (.call 61 [(t 96)] [(.cell .sl)] (.sl .nil 0)),
 mv 12 97]) k26x70
def k26x31:=sq (.seq (of [
 fa 55 3 1,
 ls 56 55,
 ln 57 56,
 o 58 (.move (c 0))]) k26x33) k26x32
def k26x11:=sq (of [
 o 5 (.move (c 0))]) k26x31
def k26x6:=sq (.seq (of [
 fa 34 1 1,
 ls 35 34,
 ln 36 35,
 o 37 (.move (c 0))]) k26x12) k26x11
def k26x1:=sq (.seq (of [
 fa 30 3 1,
 ls 31 30,
 ln 32 31,
 bc 33 .eql 32 0]) k26x7) k26x6
def k26x0:=sq (.seq (ot [
 fa 14 1 1,
 ls 15 14,
 ln 16 15,
 bc 17 .gtr 16 6,
 mv 18 17,
 f 19 18 (.fieldAddr 3 (t 1)),
 f 20 18 (.load (.cell .sl) (t 19)),
 f 21 18 (.lenSl (t 20)),
 f 22 18 (.bin .other .gtr (t 21) (c 4096)),
 o 23 (.pick (t 18) (.c (.bool true)) (t 22)),
 mv 24 23,
 f 25 24 (.fieldAddr 2 (t 1)),
 f 26 24 (.load I (t 25)),
 f 27 24 (.call 58 [(t 26), (c 1), (c 8192)] [(.cell .bool)] (.bool false)),
 f 28 24 (.un .not (t 27)),
 o 29 (.pick (t 24) (.c (.bool true)) (t 28))]) k26x2) k26x1
end
noncomputable section
def c26 : AFn := ⟨117, [.tmp 2],
 .seq (of [
 o 1 (.boxL (t 0)),
 o 2 (.move (c 0))]) k26x0⟩
theorem cf26 : cFn Try.prog 26 = some c26 := by kernel_rfl
end
noncomputable section
def k58x2:=AC.ret
def k58x1:=sq (.mask 64) k58x2
def k58x0:=sq (ot [
 mv 7 0,
 mv 8 1,
 bt 9 .geq 7 8,
 mv 10 9,
 g 11 10 (.move (t 0)),
 g 12 10 (.move (t 2)),
 g 13 10 (.bin .other .leq (t 11) (t 12)),
 o 14 (.pick (t 10) (t 13) (.c (.bool false))),
 mv 6 14]) k58x1
end
noncomputable section
def c58 : AFn := ⟨15, [.tmp 6],
 .seq (of [
 o 6 (.move (.c (.bool false)))]) k58x0⟩
theorem cf58 : cFn Try.prog 58 = some c58 := by kernel_rfl
end
noncomputable section
def k59x6:=AC.ret
def k59x5:=sq (.mask 16) k59x6
def k59x4:=AC.mask 38
def k59x3:=sq (.cond (.tmp 16)
 (.seq (of [
 o 4 (.move (c 1))]) k59x5)
  (.skip)) k59x4
def k59x11:=AC.ret
def k59x10:=sq (.mask 16) k59x11
def k59x9:=AC.mask 6
def k59x8:=sq (.cond (.tmp 65)
 (.seq (of [
 o 4 (.move (c 3))]) k59x10)
  (.skip)) k59x9
def k59x16:=AC.ret
def k59x15:=sq (.mask 16) k59x16
def k59x14:=AC.mask 6
def k59x13:=sq (.cond (.tmp 118)
 (.seq (of [
 o 4 (.move (c 4))]) k59x15)
  (.skip)) k59x14
def k59x24:=AC.exit 0
def k59x23:=AC.mask 2381976568446569244243622252022377480194
def k59x31:=AC.ret
def k59x30:=sq (.mask 16) k59x31
def k59x29:=AC.mask 2381976568446569244243622252022377480194
def k59x28:=sq (.cond (.tmp 138)
 (.seq (of [
 o 4 (.move (c 6))]) k59x30)
  (.skip)) k59x29
def k59x27:=sq (of [
 mv 134 8,
 mv 135 1,
 bc 136 .sub 135 1,
 o 137 (.call 58 [(t 134), (c 0), (t 136)] [(.cell .bool)] (.bool false)),
 o 138 (.un .not (t 137))]) k59x28
def k59x26:=AC.mask 2381976568446569244243622252022377480194
def k59x25:=of [
 bc 139 .add 130 1,
 mv 130 139]
def k59x22:=sq (.seq (.block 1 (.seq (of [
 ia 132 1 128 130,
 li 133 132,
 mv 8 133]) k59x27)) k59x26) k59x25
def k59x21:=sq (.seq (.cond (.tmp 131)
 (.skip)
 (.seq (.mask 0) k59x24)) k59x23) k59x22
def k59x20:=sq (of [
 bt 131 .lss 130 129]) k59x21
def k59x19:=AC.mask 0
def k59x18:=sq (.block 0 (.loop 2381976568446569244243622252022377480194 0 k59x20)) k59x19
def k59x33:=AC.ret
def k59x32:=sq (.mask 16) k59x33
def k59x17:=sq (of [
 o 4 (.move (c 0))]) k59x32
def k59x12:=sq (.seq (of [
 fa 119 1 2,
 li 120 119,
 fa 121 2 2,
 li 122 121,
 fa 123 3 2,
 li 124 123,
 o 125 (.buildSl [(.int .i64 0), (.int .i64 0), (.int .i64 0)] 1 [(0, (t 120)), (1, (t 122)), (2, (t 124))]),
 fa 126 5 2,
 ls 127 126,
 o 128 (.append [(.int .i64 0)] 1 8 (t 125) (t 127)),
 ln 129 128,
 o 130 (.move (c 0))]) k59x18) k59x17
def k59x7:=sq (.seq (ot [
 fa 66 5 2,
 ls 67 66,
 ln 68 67,
 bc 69 .gtr 68 6,
 mv 70 69,
 f 71 70 (.fieldAddr 4 (t 2)),
 f 72 70 (.load I (t 71)),
 f 73 70 (.call 58 [(t 72), (c (-2147483648)), (c 2147483647)] [(.cell .bool)] (.bool false)),
 f 74 70 (.un .not (t 73)),
 o 75 (.pick (t 70) (.c (.bool true)) (t 74)),
 mv 76 75,
 f 77 76 (.fieldAddr 0 (t 2)),
 f 78 76 (.load I (t 77)),
 f 79 76 (.bin .other .eql (t 78) (c 101)),
 f 80 76 (.move (t 79)),
 f 81 80 (.fieldAddr 0 (t 2)),
 f 82 80 (.load I (t 81)),
 f 83 80 (.bin .other .eql (t 82) (c 103)),
 f 84 76 (.pick (t 80) (.c (.bool true)) (t 83)),
 f 85 76 (.move (t 84)),
 g 86 85 (.fieldAddr 4 (t 2)),
 g 87 85 (.load I (t 86)),
 g 88 85 (.call 58 [(t 87), (c 0), (c 255)] [(.cell .bool)] (.bool false)),
 g 89 85 (.un .not (t 88)),
 f 90 76 (.pick (t 85) (t 89) (.c (.bool false))),
 o 91 (.pick (t 76) (.c (.bool true)) (t 90)),
 mv 92 91,
 f 93 92 (.fieldAddr 0 (t 2)),
 f 94 92 (.load I (t 93)),
 f 95 92 (.bin .other .eql (t 94) (c 9)),
 f 96 92 (.move (t 95)),
 f 97 96 (.fieldAddr 0 (t 2)),
 f 98 96 (.load I (t 97)),
 f 99 96 (.bin .other .eql (t 98) (c 10)),
 f 100 92 (.pick (t 96) (.c (.bool true)) (t 99)),
 f 101 92 (.move (t 100)),
 g 102 101 (.fieldAddr 4 (t 2)),
 g 103 101 (.load I (t 102)),
 g 104 101 (.call 58 [(t 103), (c 0), (c 31)] [(.cell .bool)] (.bool false)),
 g 105 101 (.un .not (t 104)),
 f 106 92 (.pick (t 101) (t 105) (.c (.bool false))),
 o 107 (.pick (t 92) (.c (.bool true)) (t 106)),
 mv 108 107,
 f 109 108 (.fieldAddr 0 (t 2)),
 f 110 108 (.load I (t 109)),
 f 111 108 (.bin .other .eql (t 110) (c 14)),
 f 112 108 (.move (t 111)),
 g 113 112 (.fieldAddr 4 (t 2)),
 g 114 112 (.load I (t 113)),
 g 115 112 (.call 58 [(t 114), (c 0), (c 4095)] [(.cell .bool)] (.bool false)),
 g 116 112 (.un .not (t 115)),
 f 117 108 (.pick (t 112) (t 116) (.c (.bool false))),
 o 118 (.pick (t 108) (.c (.bool true)) (t 117))]) k59x13) k59x12
def k59x2:=sq (.seq (ot [
 fa 17 0 5,
 lb 18 17,
 o 19 (.un .not (t 18)),
 mv 20 19,
 g 21 20 (.fieldAddr 1 (t 2)),
 g 22 20 (.load I (t 21)),
 g 23 20 (.bin .other .neq (t 22) (c 0)),
 o 24 (.pick (t 20) (t 23) (.c (.bool false))),
 mv 25 24,
 f 26 25 (.fieldAddr 1 (t 5)),
 f 27 25 (.load (.cell .bool) (t 26)),
 f 28 25 (.un .not (t 27)),
 f 29 25 (.move (t 28)),
 g 30 29 (.fieldAddr 2 (t 2)),
 g 31 29 (.load I (t 30)),
 g 32 29 (.bin .other .neq (t 31) (c 0)),
 f 33 25 (.pick (t 29) (t 32) (.c (.bool false))),
 o 34 (.pick (t 25) (.c (.bool true)) (t 33)),
 mv 35 34,
 f 36 35 (.fieldAddr 2 (t 5)),
 f 37 35 (.load (.cell .bool) (t 36)),
 f 38 35 (.un .not (t 37)),
 f 39 35 (.move (t 38)),
 g 40 39 (.fieldAddr 3 (t 2)),
 g 41 39 (.load I (t 40)),
 g 42 39 (.bin .other .neq (t 41) (c 0)),
 f 43 35 (.pick (t 39) (t 42) (.c (.bool false))),
 o 44 (.pick (t 35) (.c (.bool true)) (t 43)),
 mv 45 44,
 f 46 45 (.fieldAddr 3 (t 5)),
 f 47 45 (.load (.cell .bool) (t 46)),
 f 48 45 (.un .not (t 47)),
 f 49 45 (.move (t 48)),
 g 50 49 (.fieldAddr 4 (t 2)),
 g 51 49 (.load I (t 50)),
 g 52 49 (.bin .other .neq (t 51) (c 0)),
 f 53 45 (.pick (t 49) (t 52) (.c (.bool false))),
 o 54 (.pick (t 45) (.c (.bool true)) (t 53)),
 mv 55 54,
 f 56 55 (.fieldAddr 4 (t 5)),
 f 57 55 (.load (.cell .bool) (t 56)),
 f 58 55 (.un .not (t 57)),
 f 59 55 (.move (t 58)),
 g 60 59 (.fieldAddr 5 (t 2)),
 g 61 59 (.load (.cell .sl) (t 60)),
 g 62 59 (.lenSl (t 61)),
 g 63 59 (.bin .other .gtr (t 62) (c 0)),
 f 64 55 (.pick (t 59) (t 63) (.c (.bool false))),
 o 65 (.pick (t 55) (.c (.bool true)) (t 64))]) k59x8) k59x7
def k59x1:=sq (.seq (of [
 mv 15 6,
 o 16 (.un .not (t 15))]) k59x3) k59x2
def k59x0:=sq (of [
 fa 10 0 2,
 li 11 10,
 o 12 (.call 89 [(t 11)] [(.agg [.bool, .bool, .bool, .bool, .bool]), (.cell .bool)] .opq),
 mv 9 12,
 o 13 (.extract (t 9) 0),
 o 14 (.extract (t 9) 1),
 o 5 (.allocL [(.bool false), (.bool false), (.bool false), (.bool false), (.bool false)]),
 u (.store 5 (t 5) (t 13)),
 mv 6 14]) k59x1
end
noncomputable section
def c59 : AFn := ⟨140, [.tmp 4],
 .seq (of [
 o 2 (.boxL (t 0)),
 o 4 (.move (c 0))]) k59x0⟩
theorem cf59 : cFn Try.prog 59 = some c59 := by kernel_rfl
end
noncomputable section
def k60x14:=AC.ret
def k60x13:=sq (.mask 64) k60x14
def k60x12:=AC.mask 398
def k60x11:=sq (.cond (.tmp 68)
 (ot [
 fa 70 1 3,
 li 71 70,
 bc 72 .eql 71 0,
 mv 73 72,
 g 74 73 (.fieldAddr 2 (t 3)),
 g 75 73 (.load I (t 74)),
 g 76 73 (.bin .other .eql (t 75) (c 0)),
 o 77 (.pick (t 73) (t 76) (.c (.bool false))),
 mv 78 77,
 g 79 78 (.fieldAddr 3 (t 3)),
 g 80 78 (.load I (t 79)),
 g 81 78 (.bin .other .eql (t 80) (c 0)),
 o 82 (.pick (t 78) (t 81) (.c (.bool false))),
 mv 83 82,
 g 84 83 (.fieldAddr 4 (t 3)),
 g 85 83 (.load I (t 84)),
 g 86 83 (.call 58 [(t 85), (c 1), (c 6)] [(.cell .bool)] (.bool false)),
 o 87 (.pick (t 83) (t 86) (.c (.bool false))),
 mv 8 87])
  (.seq (of [
 o 6 (.move (c 1))]) k60x13)) k60x12
def k60x10:=AC.join 398
def k60x9:=sq (.cond (.tmp 48)
 (ot [
 fa 50 1 3,
 li 51 50,
 bc 52 .eql 51 16,
 mv 53 52,
 f 54 53 (.fieldAddr 1 (t 3)),
 f 55 53 (.load I (t 54)),
 f 56 53 (.bin .other .eql (t 55) (c 17)),
 o 57 (.pick (t 53) (.c (.bool true)) (t 56)),
 mv 58 57,
 f 59 58 (.fieldAddr 1 (t 3)),
 f 60 58 (.load I (t 59)),
 f 61 58 (.bin .other .eql (t 60) (c 18)),
 o 62 (.pick (t 58) (.c (.bool true)) (t 61)),
 mv 63 62,
 g 64 63 (.fieldAddr 4 (t 3)),
 g 65 63 (.load I (t 64)),
 g 66 63 (.bin .other .eql (t 65) (c 0)),
 o 67 (.pick (t 63) (t 66) (.c (.bool false))),
 o 7 (.move (c 2)),
 mv 8 67])
  (.seq (of [
 bc 69 .eql 12 3,
 mv 68 69]) k60x11)) k60x10
def k60x8:=AC.join 398
def k60x7:=sq (.cond (.tmp 28)
 (ot [
 fa 30 1 3,
 li 31 30,
 bc 32 .eql 31 0,
 mv 33 32,
 g 34 33 (.fieldAddr 2 (t 3)),
 g 35 33 (.load I (t 34)),
 g 36 33 (.bin .other .eql (t 35) (c 0)),
 o 37 (.pick (t 33) (t 36) (.c (.bool false))),
 mv 38 37,
 g 39 38 (.fieldAddr 3 (t 3)),
 g 40 38 (.load I (t 39)),
 g 41 38 (.bin .other .eql (t 40) (c 0)),
 o 42 (.pick (t 38) (t 41) (.c (.bool false))),
 mv 43 42,
 g 44 43 (.fieldAddr 4 (t 3)),
 g 45 43 (.load I (t 44)),
 g 46 43 (.bin .other .eql (t 45) (c 0)),
 o 47 (.pick (t 43) (t 46) (.c (.bool false))),
 o 7 (.move (c 1)),
 mv 8 47])
  (.seq (of [
 bc 49 .eql 12 2,
 mv 48 49]) k60x9)) k60x8
def k60x6:=AC.join 398
def k60x5:=sq (.cond (.tmp 13)
 (ot [
 fa 15 1 3,
 li 16 15,
 bc 17 .eql 16 0,
 mv 18 17,
 g 19 18 (.fieldAddr 3 (t 3)),
 g 20 18 (.load I (t 19)),
 g 21 18 (.bin .other .eql (t 20) (c 0)),
 o 22 (.pick (t 18) (t 21) (.c (.bool false))),
 mv 23 22,
 g 24 23 (.fieldAddr 4 (t 3)),
 g 25 23 (.load I (t 24)),
 g 26 23 (.bin .other .eql (t 25) (c 0)),
 o 27 (.pick (t 23) (t 26) (.c (.bool false))),
 mv 8 27])
  (.seq (of [
 bc 29 .eql 12 1,
 mv 28 29]) k60x7)) k60x6
def k60x4:=AC.mask 398
def k60x3:=sq (.block 0 (.seq (of [
 bc 14 .eql 12 0,
 mv 13 14]) k60x5)) k60x4
def k60x22:=AC.ret
def k60x21:=sq (.mask 64) k60x22
def k60x20:=AC.mask 14
def k60x19:=sq (.cond (.tmp 96)
 (.seq (of [
 o 6 (.move (c 3))]) k60x21)
  (.skip)) k60x20
def k60x27:=AC.ret
def k60x26:=sq (.mask 64) k60x27
def k60x25:=AC.mask 12
def k60x24:=sq (.cond (.tmp 110)
 (.seq (of [
 o 6 (.move (c 6))]) k60x26)
  (.skip)) k60x25
def k60x35:=AC.exit 1
def k60x34:=AC.mask 36346078009743793399713474304540676
def k60x42:=AC.ret
def k60x41:=sq (.mask 64) k60x42
def k60x40:=AC.mask 36346078009743793399713474304540676
def k60x39:=sq (.cond (.tmp 122)
 (.seq (of [
 o 6 (.move (c 4))]) k60x41)
  (.skip)) k60x40
def k60x38:=sq (of [
 mv 118 10,
 mv 119 2,
 bc 120 .sub 119 1,
 o 121 (.call 58 [(t 118), (c 1), (t 120)] [(.cell .bool)] (.bool false)),
 o 122 (.un .not (t 121))]) k60x39
def k60x37:=AC.mask 36346078009743793399713474304540676
def k60x36:=of [
 bc 123 .add 114 1,
 mv 114 123]
def k60x33:=sq (.seq (.block 2 (.seq (of [
 ia 116 1 112 114,
 li 117 116,
 mv 10 117]) k60x38)) k60x37) k60x36
def k60x32:=sq (.seq (.cond (.tmp 115)
 (.skip)
 (.seq (.mask 0) k60x35)) k60x34) k60x33
def k60x31:=sq (of [
 bt 115 .lss 114 113]) k60x32
def k60x30:=AC.mask 0
def k60x29:=sq (.block 1 (.loop 36346078009743793399713474304540676 0 k60x31)) k60x30
def k60x44:=AC.ret
def k60x43:=sq (.mask 64) k60x44
def k60x28:=sq (of [
 o 6 (.move (c 0))]) k60x43
def k60x23:=sq (.seq (of [
 fa 111 5 3,
 ls 112 111,
 ln 113 112,
 o 114 (.move (c 0))]) k60x29) k60x28
def k60x18:=sq (.seq (ot [
 fa 97 2 3,
 li 98 97,
 mv 99 1,
 bc 100 .sub 99 1,
 o 101 (.call 58 [(t 98), (c 0), (t 100)] [(.cell .bool)] (.bool false)),
 o 102 (.un .not (t 101)),
 mv 103 102,
 f 104 103 (.fieldAddr 3 (t 3)),
 f 105 103 (.load I (t 104)),
 f 106 103 (.move (t 1)),
 f 107 103 (.bin .other .sub (t 106) (c 1)),
 f 108 103 (.call 58 [(t 105), (c 0), (t 107)] [(.cell .bool)] (.bool false)),
 f 109 103 (.un .not (t 108)),
 o 110 (.pick (t 103) (.c (.bool true)) (t 109))]) k60x24) k60x23
def k60x2:=sq (.seq (ot [
 mv 88 8,
 o 89 (.un .not (t 88)),
 mv 90 89,
 f 91 90 (.fieldAddr 5 (t 3)),
 f 92 90 (.load (.cell .sl) (t 91)),
 f 93 90 (.lenSl (t 92)),
 f 94 90 (.move (t 7)),
 f 95 90 (.bin .other .neq (t 93) (t 94)),
 o 96 (.pick (t 90) (.c (.bool true)) (t 95))]) k60x19) k60x18
def k60x1:=sq (.seq (of [
 fa 11 0 3,
 li 12 11]) k60x3) k60x2
def k60x0:=sq (of [
 o 7 (.move (c 0)),
 o 8 (.move (.c (.bool false)))]) k60x1
end
noncomputable section
def c60 : AFn := ⟨124, [.tmp 6],
 .seq (of [
 o 3 (.boxL (t 0)),
 o 6 (.move (c 0))]) k60x0⟩
theorem cf60 : cFn Try.prog 60 = some c60 := by kernel_rfl
end
noncomputable section
def k61x9:=AC.exit 0
def k61x8:=AC.mask 24586
def k61x12:=of [
 mv 17 3,
 mv 18 4,
 fa 19 2 1,
 li 20 19,
 o 21 (.makeSl [(.bool false)] 1 (t 20) (t 20)),
 ia 22 1 17 18,
 u (.store 1 (t 22) (t 21))]
def k61x11:=AC.mask 24586
def k61x10:=of [
 bc 23 .add 14 1,
 mv 14 23]
def k61x7:=sq (.seq (.block 1 (.seq (of [
 mv 16 14,
 mv 4 16]) k61x12)) k61x11) k61x10
def k61x6:=sq (.seq (.cond (.tmp 15)
 (.skip)
 (.seq (.mask 10) k61x9)) k61x8) k61x7
def k61x5:=sq (of [
 bt 15 .lss 14 13]) k61x6
def k61x4:=AC.mask 10
def k61x3:=sq (.block 0 (.loop 24586 10 k61x5)) k61x4
def k61x20:=AC.exit 2
def k61x19:=AC.mask 10
def k61x18:=sq (.cond (.tmp 24)
 (.skip)
 (.seq (.mask 8) k61x20)) k61x19
def k61x29:=AC.exit 4
def k61x28:=AC.mask 106
def k61x27:=sq (.cond (.tmp 30)
 (.skip)
 (.seq (.mask 42) k61x29)) k61x28
def k61x35:=AC.join 106
def k61x34:=sq (.cond (.tmp 50)
 (of [
 mv 51 3,
 mv 52 6,
 mv 53 7,
 ia 54 1 51 52,
 u (.store 1 (t 54) (t 53)),
 o 5 (.move (.c (.bool true)))])
  (.skip)) k61x35
def k61x33:=sq (of [
 mv 44 7,
 mv 45 3,
 mv 46 6,
 ia 47 1 45 46,
 ls 48 47,
 o 49 (.call 91 [(t 44), (t 48)] [(.cell .bool)] (.bool false)),
 o 50 (.un .not (t 49))]) k61x34
def k61x32:=sq (of [
 fa 37 3 1,
 ls 38 37,
 mv 39 6,
 ia 40 7 38 39,
 o 41 (.load (.agg [.sl, (.int .i64), (.int .i64), (.int .i64), (.int .i64), (.int .i64), .sl]) (t 40)),
 mv 42 7,
 o 43 (.call 90 [(t 41), (t 42)] [] .opq)]) k61x33
def k61x31:=AC.mask 106
def k61x30:=of [
 mv 31 6,
 bc 32 .sub 31 1,
 mv 6 32]
def k61x26:=sq (.seq (.block 5 (.seq (of [
 o 33 (.load (.agg [(.int .i64), .sl, (.int .i64), .sl]) (t 1)),
 mv 34 3,
 mv 35 6,
 o 36 (.call 62 [(t 33), (t 34), (t 35)] [(.cell .sl)] (.sl .nil 0)),
 mv 7 36]) k61x32)) k61x31) k61x30
def k61x25:=sq (.seq (of [
 mv 29 6,
 bc 30 .geq 29 0]) k61x27) k61x26
def k61x24:=AC.mask 42
def k61x23:=sq (.block 4 (.loop 106 42 k61x25)) k61x24
def k61x22:=sq (of [
 fa 25 3 1,
 ls 26 25,
 ln 27 26,
 bc 28 .sub 27 1,
 mv 6 28]) k61x23
def k61x21:=AC.mask 42
def k61x17:=sq (.block 3 (.seq (of [
 o 5 (.move (.c (.bool false)))]) k61x22)) k61x21
def k61x16:=sq (.seq (of [
 mv 24 5]) k61x18) k61x17
def k61x15:=AC.mask 8
def k61x14:=sq (.block 2 (.loop 42 8 k61x16)) k61x15
def k61x38:=AC.ret
def k61x37:=sq (.mask 4) k61x38
def k61x13:=sq (of [
 mv 55 3,
 mv 2 55]) k61x37
def k61x2:=sq (.seq (of [
 o 5 (.move (.c (.bool true)))]) k61x14) k61x13
def k61x1:=sq (.seq (of [
 mv 12 3,
 ln 13 12,
 o 14 (.move (c 0))]) k61x3) k61x2
def k61x0:=sq (of [
 fa 8 3 1,
 ls 9 8,
 ln 10 9,
 o 11 (.makeSl [(.sl .nil 0)] 24 (t 10) (t 10)),
 mv 3 11]) k61x1
end
noncomputable section
def c61 : AFn := ⟨56, [.tmp 2],
 .seq (of [
 o 1 (.boxL (t 0)),
 o 2 (.move (.c (.sl .nil 0)))]) k61x0⟩
theorem cf61 : cFn Try.prog 61 = some c61 := by kernel_rfl
end
noncomputable section
def k62x9:=AC.exit 0
def k62x8:=AC.mask 14680194
def k62x19:=AC.exit 2
def k62x18:=AC.mask 7530872962
def k62x22:=ot [
 mv 37 7,
 mv 38 10,
 mv 39 7,
 mv 40 10,
 ia 41 1 39 40,
 lb 42 41,
 mv 43 42,
 f 44 43 (.move (t 11)),
 o 45 (.pick (t 43) (.c (.bool true)) (t 44)),
 ia 46 1 37 38,
 u (.store 1 (t 46) (t 45))]
def k62x21:=AC.mask 7530872962
def k62x20:=of [
 bc 47 .add 32 1,
 mv 32 47]
def k62x17:=sq (.seq (.block 3 (.seq (of [
 mv 34 32,
 ia 35 1 30 32,
 lb 36 35,
 mv 10 34,
 mv 11 36]) k62x22)) k62x21) k62x20
def k62x16:=sq (.seq (.cond (.tmp 33)
 (.skip)
 (.seq (.mask 14680194) k62x19)) k62x18) k62x17
def k62x15:=sq (of [
 bt 33 .lss 32 31]) k62x16
def k62x14:=AC.mask 14680194
def k62x13:=sq (.block 2 (.loop 7530872962 14680194 k62x15)) k62x14
def k62x12:=sq (of [
 mv 27 1,
 mv 28 9,
 ia 29 1 27 28,
 ls 30 29,
 ln 31 30,
 o 32 (.move (c 0))]) k62x13
def k62x11:=AC.mask 14680194
def k62x10:=of [
 bc 48 .add 23 1,
 mv 23 48]
def k62x7:=sq (.seq (.block 1 (.seq (of [
 ia 25 1 21 23,
 li 26 25,
 mv 9 26]) k62x12)) k62x11) k62x10
def k62x6:=sq (.seq (.cond (.tmp 24)
 (.skip)
 (.seq (.mask 128) k62x9)) k62x8) k62x7
def k62x5:=sq (of [
 bt 24 .lss 23 22]) k62x6
def k62x4:=AC.mask 128
def k62x3:=sq (.block 0 (.loop 14680194 128 k62x5)) k62x4
def k62x24:=AC.ret
def k62x23:=sq (.mask 64) k62x24
def k62x2:=sq (of [
 mv 49 7,
 mv 6 49]) k62x23
def k62x1:=sq (.seq (of [
 fa 15 3 3,
 ls 16 15,
 mv 17 2,
 ia 18 7 16 17,
 fa 19 1 18,
 fa 20 5 19,
 ls 21 20,
 ln 22 21,
 o 23 (.move (c 0))]) k62x3) k62x2
def k62x0:=sq (of [
 fa 12 2 3,
 li 13 12,
 o 14 (.makeSl [(.bool false)] 1 (t 13) (t 13)),
 mv 7 14]) k62x1
end
noncomputable section
def c62 : AFn := ⟨50, [.tmp 6],
 .seq (of [
 o 3 (.boxL (t 0)),
 o 6 (.move (.c (.sl .nil 0)))]) k62x0⟩
theorem cf62 : cFn Try.prog 62 = some c62 := by kernel_rfl
end
noncomputable section
def k63x6:=AC.ret
def k63x5:=sq (.mask 16) k63x6
def k63x4:=AC.mask 35
def k63x3:=sq (.cond (.tmp 12)
 (.seq (of [
 mv 13 0,
 mv 4 13]) k63x5)
  (.skip)) k63x4
def k63x14:=AC.exit 0
def k63x13:=AC.mask 99
def k63x12:=sq (.cond (.tmp 19)
 (.skip)
 (.seq (.mask 33) k63x14)) k63x13
def k63x20:=of [
 mv 34 5,
 bc 35 .add 34 1,
 mv 5 35]
def k63x19:=AC.join 99
def k63x18:=sq (.cond (.tmp 29)
 (.seq (of [
 mv 30 0,
 mv 31 5,
 mv 32 7,
 ia 33 1 30 31,
 u (.store 1 (t 33) (t 32))]) k63x20)
  (.skip)) k63x19
def k63x17:=sq (of [
 mv 26 1,
 mv 27 7,
 o 28 (.callV (t 26) [(t 27)] [(.cell .bool)] (.bool false)),
 o 29 (.un .not (t 28))]) k63x18
def k63x16:=AC.mask 99
def k63x15:=of [
 mv 20 6,
 bc 21 .add 20 1,
 mv 6 21]
def k63x11:=sq (.seq (.block 1 (.seq (of [
 mv 22 0,
 mv 23 6,
 ia 24 1 22 23,
 li 25 24,
 mv 7 25]) k63x17)) k63x16) k63x15
def k63x10:=sq (.seq (of [
 mv 16 6,
 mv 17 0,
 ln 18 17,
 bt 19 .lss 16 18]) k63x12) k63x11
def k63x9:=AC.mask 33
def k63x8:=sq (.block 0 (.loop 99 33 k63x10)) k63x9
def k63x24:=AC.ret
def k63x23:=sq (.mask 16) k63x24
def k63x22:=sq (of [
 mv 39 0,
 mv 40 5,
 o 41 (.slice 1 (t 39) none (some (t 40))),
 mv 4 41]) k63x23
def k63x7:=sq (of [
 mv 36 0,
 mv 37 5,
 o 38 (.slice 1 (t 36) (some (t 37)) none),
 u (.clear [(.int .i64 0)] (t 38))]) k63x22
def k63x2:=sq (.seq (of [
 mv 14 5,
 bc 15 .add 14 1,
 mv 6 15]) k63x8) k63x7
def k63x1:=sq (.seq (of [
 mv 11 5,
 bc 12 .eql 11 (-1)]) k63x3) k63x2
def k63x0:=sq (of [
 mv 8 0,
 mv 9 1,
 o 10 (.call 71 [(t 8), (t 9)] [I] (.int .i64 0)),
 mv 5 10]) k63x1
end
noncomputable section
def c63 : AFn := ⟨42, [.tmp 4],
 .seq (of [
 o 4 (.move (.c (.sl .nil 0)))]) k63x0⟩
theorem cf63 : cFn Try.prog 63 = some c63 := by kernel_rfl
end
noncomputable section
def k64x2:=AC.ret
def k64x1:=sq (.mask 4) k64x2
def k64x0:=sq (of [
 mv 3 0,
 bc 4 .eql 3 0,
 mv 2 4]) k64x1
end
noncomputable section
def c64 : AFn := ⟨5, [.tmp 2],
 .seq (of [
 o 2 (.move (.c (.bool false)))]) k64x0⟩
theorem cf64 : cFn Try.prog 64 = some c64 := by kernel_rfl
end
noncomputable section
def k65x2:=AC.ret
def k65x1:=sq (.mask 4) k65x2
def k65x0:=sq (of [
 mv 3 0,
 bc 4 .eql 3 0,
 mv 2 4]) k65x1
end
noncomputable section
def c65 : AFn := ⟨5, [.tmp 2],
 .seq (of [
 o 2 (.move (.c (.bool false)))]) k65x0⟩
theorem cf65 : cFn Try.prog 65 = some c65 := by kernel_rfl
end
noncomputable section
def k89x18:=AC.join 52
def k89x17:=sq (.cond (.tmp 5)
 (.skip)
 (of [
 bc 13 .eql 4 15,
 mv 5 13])) k89x18
def k89x16:=AC.join 52
def k89x15:=sq (.cond (.tmp 5)
 (.skip)
 (.seq (of [
 bc 12 .eql 4 7,
 mv 5 12]) k89x17)) k89x16
def k89x14:=AC.join 52
def k89x13:=sq (.cond (.tmp 5)
 (.skip)
 (.seq (of [
 bc 11 .eql 4 6,
 mv 5 11]) k89x15)) k89x14
def k89x12:=AC.join 52
def k89x11:=sq (.cond (.tmp 5)
 (.skip)
 (.seq (of [
 bc 10 .eql 4 5,
 mv 5 10]) k89x13)) k89x12
def k89x10:=AC.join 52
def k89x9:=sq (.cond (.tmp 5)
 (.skip)
 (.seq (of [
 bc 9 .eql 4 4,
 mv 5 9]) k89x11)) k89x10
def k89x8:=AC.join 52
def k89x7:=sq (.cond (.tmp 5)
 (.skip)
 (.seq (of [
 bc 8 .eql 4 3,
 mv 5 8]) k89x9)) k89x8
def k89x6:=AC.join 52
def k89x5:=sq (.cond (.tmp 5)
 (.skip)
 (.seq (of [
 bc 7 .eql 4 2,
 mv 5 7]) k89x7)) k89x6
def k89x28:=AC.ret
def k89x27:=sq (.mask 12) k89x28
def k89x35:=AC.join 32788
def k89x34:=sq (.cond (.tmp 15)
 (.skip)
 (of [
 bc 19 .eql 4 12,
 mv 15 19])) k89x35
def k89x33:=AC.join 32788
def k89x32:=sq (.cond (.tmp 15)
 (.skip)
 (.seq (of [
 bc 18 .eql 4 10,
 mv 15 18]) k89x34)) k89x33
def k89x31:=AC.join 32788
def k89x30:=sq (.cond (.tmp 15)
 (.skip)
 (.seq (of [
 bc 17 .eql 4 9,
 mv 15 17]) k89x32)) k89x31
def k89x41:=AC.ret
def k89x40:=sq (.mask 12) k89x41
def k89x44:=AC.join 2097172
def k89x43:=sq (.cond (.tmp 21)
 (.skip)
 (of [
 bc 23 .eql 4 103,
 mv 21 23])) k89x44
def k89x48:=AC.ret
def k89x47:=sq (.mask 12) k89x48
def k89x52:=AC.ret
def k89x51:=sq (.mask 12) k89x52
def k89x56:=AC.ret
def k89x55:=sq (.mask 12) k89x56
def k89x60:=AC.ret
def k89x59:=sq (.mask 12) k89x60
def k89x64:=AC.ret
def k89x63:=sq (.mask 12) k89x64
def k89x68:=AC.ret
def k89x67:=sq (.mask 12) k89x68
def k89x72:=AC.ret
def k89x71:=sq (.mask 12) k89x72
def k89x70:=AC.mask 4
def k89x69:=sq (.cond (.tmp 40)
 (.seq (of [
 o 42 (.build [(.bool false), (.bool false), (.bool false), (.bool false), (.bool false)] [(0, 1, (.c (.bool true))), (1, 1, (.c (.bool true))), (4, 1, (.c (.bool true)))]),
 u (.store 5 (t 2) (t 42)),
 o 3 (.move (.c (.bool true)))]) k89x71)
  (.skip)) k89x70
def k89x66:=AC.mask 4
def k89x65:=sq (.cond (.tmp 37)
 (.seq (of [
 o 39 (.build [(.bool false), (.bool false), (.bool false), (.bool false), (.bool false)] [(0, 1, (.c (.bool true))), (3, 1, (.c (.bool true))), (4, 1, (.c (.bool true)))]),
 u (.store 5 (t 2) (t 39)),
 o 3 (.move (.c (.bool true)))]) k89x67)
  (.seq (of [
 bc 41 .eql 4 102,
 mv 40 41]) k89x69)) k89x66
def k89x62:=AC.mask 4
def k89x61:=sq (.cond (.tmp 34)
 (.seq (of [
 o 36 (.build [(.bool false), (.bool false), (.bool false), (.bool false), (.bool false)] [(0, 1, (.c (.bool true))), (1, 1, (.c (.bool true)))]),
 u (.store 5 (t 2) (t 36)),
 o 3 (.move (.c (.bool true)))]) k89x63)
  (.seq (of [
 bc 38 .eql 4 101,
 mv 37 38]) k89x65)) k89x62
def k89x58:=AC.mask 4
def k89x57:=sq (.cond (.tmp 31)
 (.seq (of [
 o 33 (.build [(.bool false), (.bool false), (.bool false), (.bool false), (.bool false)] [(1, 1, (.c (.bool true)))]),
 u (.store 5 (t 2) (t 33)),
 o 3 (.move (.c (.bool true)))]) k89x59)
  (.seq (of [
 bc 35 .eql 4 100,
 mv 34 35]) k89x61)) k89x58
def k89x54:=AC.mask 4
def k89x53:=sq (.cond (.tmp 28)
 (.seq (of [
 o 30 (.build [(.bool false), (.bool false), (.bool false), (.bool false), (.bool false)] [(0, 1, (.c (.bool true))), (2, 1, (.c (.bool true))), (3, 1, (.c (.bool true)))]),
 u (.store 5 (t 2) (t 30)),
 o 3 (.move (.c (.bool true)))]) k89x55)
  (.seq (of [
 bc 32 .eql 4 23,
 mv 31 32]) k89x57)) k89x54
def k89x50:=AC.mask 4
def k89x49:=sq (.cond (.tmp 25)
 (.seq (of [
 o 27 (.build [(.bool false), (.bool false), (.bool false), (.bool false), (.bool false)] [(1, 1, (.c (.bool true))), (2, 1, (.c (.bool true))), (3, 1, (.c (.bool true)))]),
 u (.store 5 (t 2) (t 27)),
 o 3 (.move (.c (.bool true)))]) k89x51)
  (.seq (of [
 bc 29 .eql 4 14,
 mv 28 29]) k89x53)) k89x50
def k89x46:=AC.mask 4
def k89x42:=sq (.cond (.tmp 21)
 (.seq (of [
 o 24 (.build [(.bool false), (.bool false), (.bool false), (.bool false), (.bool false)] [(0, 1, (.c (.bool true))), (3, 1, (.c (.bool true)))]),
 u (.store 5 (t 2) (t 24)),
 o 3 (.move (.c (.bool true)))]) k89x47)
  (.seq (of [
 bc 26 .eql 4 13,
 mv 25 26]) k89x49)) k89x46
def k89x39:=AC.mask 4
def k89x29:=sq (.cond (.tmp 15)
 (.seq (of [
 o 20 (.build [(.bool false), (.bool false), (.bool false), (.bool false), (.bool false)] [(0, 1, (.c (.bool true))), (1, 1, (.c (.bool true))), (3, 1, (.c (.bool true)))]),
 u (.store 5 (t 2) (t 20)),
 o 3 (.move (.c (.bool true)))]) k89x40)
  (.seq (.seq (of [
 bc 22 .eql 4 11,
 mv 21 22]) k89x43) k89x42)) k89x39
def k89x26:=AC.mask 4
def k89x4:=sq (.cond (.tmp 5)
 (.seq (of [
 o 14 (.build [(.bool false), (.bool false), (.bool false), (.bool false), (.bool false)] [(0, 1, (.c (.bool true))), (1, 1, (.c (.bool true))), (2, 1, (.c (.bool true)))]),
 u (.store 5 (t 2) (t 14)),
 o 3 (.move (.c (.bool true)))]) k89x27)
  (.seq (.seq (of [
 bc 16 .eql 4 8,
 mv 15 16]) k89x30) k89x29)) k89x26
def k89x3:=AC.mask 4
def k89x2:=sq (.block 0 (.seq (.seq (of [
 bc 6 .eql 4 1,
 mv 5 6]) k89x5) k89x4)) k89x3
def k89x74:=AC.ret
def k89x73:=sq (.mask 12) k89x74
def k89x1:=sq (of [
 o 43 (.build [(.bool false), (.bool false), (.bool false), (.bool false), (.bool false)] []),
 u (.store 5 (t 2) (t 43)),
 o 3 (.move (.c (.bool false)))]) k89x73
def k89x0:=sq (.seq (of [
 mv 4 0]) k89x2) k89x1
end
noncomputable section
def c89 : AFn := ⟨44, [.cell 2 (.agg [.bool, .bool, .bool, .bool, .bool]), .tmp 3],
 .seq (of [
 o 2 (.allocL [(.bool false), (.bool false), (.bool false), (.bool false), (.bool false)]),
 o 3 (.move (.c (.bool false)))]) k89x0⟩
theorem cf89 : cFn Try.prog 89 = some c89 := by kernel_rfl
end
noncomputable section
def k90x8:=AC.exit 0
def k90x7:=AC.mask 14342
def k90x11:=of [
 mv 17 1,
 mv 18 5,
 ia 19 1 17 18,
 u (.store 1 (t 19) (.c (.bool true)))]
def k90x10:=AC.mask 14342
def k90x9:=of [
 bc 20 .add 13 1,
 mv 13 20]
def k90x6:=sq (.seq (.block 1 (.seq (of [
 ia 15 1 11 13,
 li 16 15,
 mv 5 16]) k90x11)) k90x10) k90x9
def k90x5:=sq (.seq (.cond (.tmp 14)
 (.skip)
 (.seq (.mask 6) k90x8)) k90x7) k90x6
def k90x4:=sq (of [
 bt 14 .lss 13 12]) k90x5
def k90x3:=AC.mask 6
def k90x2:=sq (.block 0 (.loop 14342 6 k90x4)) k90x3
def k90x19:=AC.exit 2
def k90x18:=AC.mask 70
def k90x17:=sq (.cond (.tmp 26)
 (.skip)
 (.seq (.mask 2) k90x19)) k90x18
def k90x29:=AC.exit 4
def k90x28:=AC.mask 30786325577798
def k90x32:=of [
 mv 48 1,
 mv 49 8,
 ia 50 1 48 49,
 u (.store 1 (t 50) (.c (.bool true)))]
def k90x31:=AC.mask 30786325577798
def k90x30:=of [
 bc 51 .add 44 1,
 mv 44 51]
def k90x27:=sq (.seq (.block 5 (.seq (of [
 ia 46 1 42 44,
 li 47 46,
 mv 8 47]) k90x32)) k90x31) k90x30
def k90x26:=sq (.seq (.cond (.tmp 45)
 (.skip)
 (.seq (.mask 70) k90x29)) k90x28) k90x27
def k90x25:=sq (of [
 bt 45 .lss 44 43]) k90x26
def k90x24:=AC.mask 70
def k90x23:=sq (.block 4 (.loop 30786325577798 70 k90x25)) k90x24
def k90x22:=sq (of [
 fa 37 0 2,
 ls 38 37,
 mv 39 6,
 ia 40 6 38 39,
 o 41 (.load (.agg [(.int .i64), (.int .i64), (.int .i64), (.int .i64), (.int .i64), .sl]) (t 40)),
 o 42 (.call 29 [(t 41)] [(.cell .sl)] (.sl .nil 0)),
 ln 43 42,
 o 44 (.move (c 0))]) k90x23
def k90x21:=AC.mask 70
def k90x20:=of [
 mv 27 6,
 bc 28 .sub 27 1,
 mv 6 28]
def k90x16:=sq (.seq (.block 3 (.seq (of [
 mv 29 1,
 fa 30 0 2,
 ls 31 30,
 mv 32 6,
 ia 33 6 31 32,
 o 34 (.load (.agg [(.int .i64), (.int .i64), (.int .i64), (.int .i64), (.int .i64), .sl]) (t 33)),
 o 35 (.call 30 [(t 34)] [I] (.int .i64 0)),
 ia 36 1 29 35,
 u (.store 1 (t 36) (.c (.bool false)))]) k90x22)) k90x21) k90x20
def k90x15:=sq (.seq (of [
 mv 25 6,
 bc 26 .geq 25 0]) k90x17) k90x16
def k90x14:=AC.mask 2
def k90x13:=sq (.block 2 (.loop 70 2 k90x15)) k90x14
def k90x12:=of [
 mv 52 1,
 o 53 (.indexAddr 1 (t 52) (c 0)),
 u (.store 1 (t 53) (.c (.bool false)))]
def k90x1:=sq (.seq (of [
 fa 21 0 2,
 ls 22 21,
 ln 23 22,
 bc 24 .sub 23 1,
 mv 6 24]) k90x13) k90x12
def k90x0:=sq (.seq (of [
 fa 9 1 2,
 o 10 (.load (.agg [(.int .i64), (.int .i64), (.int .i64), (.int .i64), (.int .i64), .sl]) (t 9)),
 o 11 (.call 31 [(t 10)] [(.cell .sl)] (.sl .nil 0)),
 ln 12 11,
 o 13 (.move (c 0))]) k90x2) k90x1
end
noncomputable section
def c90 : AFn := ⟨54, [],
 .seq (of [
 o 2 (.boxL (t 0))]) k90x0⟩
theorem cf90 : cFn Try.prog 90 = some c90 := by kernel_rfl
end
noncomputable section
def k91x5:=AC.ret
def k91x4:=sq (.mask 16) k91x5
def k91x3:=AC.mask 3
def k91x2:=sq (.cond (.tmp 10)
 (.seq (of [
 o 4 (.move (.c (.bool false)))]) k91x4)
  (.skip)) k91x3
def k91x13:=AC.exit 0
def k91x12:=AC.mask 12291
def k91x20:=AC.ret
def k91x19:=sq (.mask 16) k91x20
def k91x18:=AC.mask 12291
def k91x17:=sq (.cond (.tmp 24)
 (.seq (of [
 o 4 (.move (.c (.bool false)))]) k91x19)
  (.skip)) k91x18
def k91x16:=sq (of [
 mv 16 0,
 mv 17 5,
 ia 18 1 16 17,
 lb 19 18,
 mv 20 1,
 mv 21 5,
 ia 22 1 20 21,
 lb 23 22,
 o 24 (.bin .bool .neq (t 19) (t 23))]) k91x17
def k91x15:=AC.mask 12291
def k91x14:=of [
 bc 25 .add 13 1,
 mv 13 25]
def k91x11:=sq (.seq (.block 1 (.seq (of [
 mv 15 13,
 mv 5 15]) k91x16)) k91x15) k91x14
def k91x10:=sq (.seq (.cond (.tmp 14)
 (.skip)
 (.seq (.mask 0) k91x13)) k91x12) k91x11
def k91x9:=sq (of [
 bt 14 .lss 13 12]) k91x10
def k91x8:=AC.mask 0
def k91x7:=sq (.block 0 (.loop 12291 0 k91x9)) k91x8
def k91x22:=AC.ret
def k91x21:=sq (.mask 16) k91x22
def k91x6:=sq (of [
 o 4 (.move (.c (.bool true)))]) k91x21
def k91x1:=sq (.seq (of [
 mv 11 0,
 ln 12 11,
 o 13 (.move (c 0))]) k91x7) k91x6
def k91x0:=sq (.seq (of [
 mv 6 0,
 ln 7 6,
 mv 8 1,
 ln 9 8,
 bt 10 .neq 7 9]) k91x2) k91x1
end
noncomputable section
def c91 : AFn := ⟨26, [.tmp 4],
 .seq (of [
 o 4 (.move (.c (.bool false)))]) k91x0⟩
theorem cf91 : cFn Try.prog 91 = some c91 := by kernel_rfl
end
noncomputable section
def k28x6:=AC.ret
def k28x5:=sq (.mask 28) k28x6
def k28x4:=AC.mask 10
def k28x3:=sq (.cond (.tmp 10)
 (.seq (of [
 mv 11 5,
 o 2 (.move (.c (.sl .nil 0))),
 o 3 (.move (.c (.sl .nil 0))),
 mv 4 11]) k28x5)
  (.skip)) k28x4
def k28x2:=sq (of [
 mv 9 5,
 bc 10 .neq 9 0]) k28x3
def k28x15:=AC.exit 0
def k28x14:=AC.mask 196622
def k28x18:=of [
 mv 20 3,
 o 21 (.load (.agg [(.int .i64), .sl, (.int .i64), .sl]) (t 1)),
 mv 22 2,
 mv 23 6,
 o 24 (.call 62 [(t 21), (t 22), (t 23)] [(.cell .sl)] (.sl .nil 0)),
 o 25 (.buildSl [(.sl .nil 0)] 1 [(0, (t 24))]),
 o 26 (.append [(.sl .nil 0)] 1 24 (t 20) (t 25)),
 mv 3 26]
def k28x17:=AC.mask 196622
def k28x16:=of [
 bc 27 .add 17 1,
 mv 17 27]
def k28x13:=sq (.seq (.block 1 (.seq (of [
 mv 19 17,
 mv 6 19]) k28x18)) k28x17) k28x16
def k28x12:=sq (.seq (.cond (.tmp 18)
 (.skip)
 (.seq (.mask 12) k28x15)) k28x14) k28x13
def k28x11:=sq (of [
 bt 18 .lss 17 16]) k28x12
def k28x10:=AC.mask 12
def k28x9:=sq (.block 0 (.loop 196622 12 k28x11)) k28x10
def k28x20:=AC.ret
def k28x19:=sq (.mask 28) k28x20
def k28x8:=sq (of [
 mv 28 2,
 mv 29 3,
 mv 2 28,
 mv 3 29,
 o 4 (.move (c 0))]) k28x19
def k28x7:=sq (.seq (of [
 fa 14 3 1,
 ls 15 14,
 ln 16 15,
 o 17 (.move (c 0))]) k28x9) k28x8
def k28x1:=sq (of [
 o 12 (.load (.agg [(.int .i64), .sl, (.int .i64), .sl]) (t 1)),
 o 13 (.call 61 [(t 12)] [(.cell .sl)] (.sl .nil 0)),
 mv 2 13]) k28x7
def k28x0:=sq (.seq (of [
 o 7 (.load (.agg [(.int .i64), .sl, (.int .i64), .sl]) (t 1)),
 o 8 (.call 26 [(t 7)] [I] (.int .i64 0)),
 mv 5 8]) k28x2) k28x1
end
noncomputable section
def c28 : AFn := ⟨30, [.tmp 2, .tmp 3, .tmp 4],
 .seq (of [
 o 1 (.boxL (t 0)),
 o 2 (.move (.c (.sl .nil 0))),
 o 3 (.move (.c (.sl .nil 0))),
 o 4 (.move (c 0))]) k28x0⟩
theorem cf28 : cFn Try.prog 28 = some c28 := by kernel_rfl
end
noncomputable section
def k29x3:=AC.ret
def k29x2:=sq (.mask 4) k29x3
def k29x1:=sq (of [
 mv 12 3,
 o 13 (.call 63 [(t 12), (.c (.fn 64 [] []))] [(.cell .sl)] (.sl .nil 0)),
 mv 2 13]) k29x2
def k29x0:=sq (of [
 fa 4 2 1,
 li 5 4,
 fa 6 3 1,
 li 7 6,
 o 8 (.buildSl [(.int .i64 0), (.int .i64 0)] 1 [(0, (t 5)), (1, (t 7))]),
 fa 9 5 1,
 ls 10 9,
 o 11 (.append [(.int .i64 0)] 1 8 (t 8) (t 10)),
 mv 3 11]) k29x1
end
noncomputable section
def c29 : AFn := ⟨14, [.tmp 2],
 .seq (of [
 o 1 (.boxL (t 0)),
 o 2 (.move (.c (.sl .nil 0)))]) k29x0⟩
theorem cf29 : cFn Try.prog 29 = some c29 := by kernel_rfl
end
noncomputable section
def k30x5:=AC.ret
def k30x4:=sq (.mask 4) k30x5
def k30x3:=AC.mask 2
def k30x2:=sq (.cond (.tmp 10)
 (.seq (of [
 o 2 (.move (c 0))]) k30x4)
  (.skip)) k30x3
def k30x7:=AC.ret
def k30x6:=sq (.mask 4) k30x7
def k30x1:=sq (of [
 fa 11 1 1,
 li 12 11,
 mv 2 12]) k30x6
def k30x0:=sq (.seq (ot [
 fa 3 0 1,
 li 4 3,
 bc 5 .eql 4 13,
 mv 6 5,
 f 7 6 (.fieldAddr 0 (t 1)),
 f 8 6 (.load I (t 7)),
 f 9 6 (.bin .other .eql (t 8) (c 23)),
 o 10 (.pick (t 6) (.c (.bool true)) (t 9))]) k30x2) k30x1
end
noncomputable section
def c30 : AFn := ⟨13, [.tmp 2],
 .seq (of [
 o 1 (.boxL (t 0)),
 o 2 (.move (c 0))]) k30x0⟩
theorem cf30 : cFn Try.prog 30 = some c30 := by kernel_rfl
end
noncomputable section
def k31x2:=AC.ret
def k31x1:=sq (.mask 4) k31x2
def k31x0:=sq (of [
 fa 3 2 1,
 li 4 3,
 fa 5 3 1,
 li 6 5,
 o 7 (.buildSl [(.int .i64 0), (.int .i64 0)] 1 [(0, (t 4)), (1, (t 6))]),
 o 8 (.call 63 [(t 7), (.c (.fn 65 [] []))] [(.cell .sl)] (.sl .nil 0)),
 mv 2 8]) k31x1
end
noncomputable section
def c31 : AFn := ⟨9, [.tmp 2],
 .seq (of [
 o 1 (.boxL (t 0)),
 o 2 (.move (.c (.sl .nil 0)))]) k31x0⟩
theorem cf31 : cFn Try.prog 31 = some c31 := by kernel_rfl
end
noncomputable section
def k20x2:=AC.ret
def k20x1:=sq (.mask 16) k20x2
def k20x0:=sq (of [
 mv 5 0,
 mv 6 1,
 o 7 (.call 54 [(t 5), (t 6)] [I] (.int .i64 0)),
 bc 8 .geq 7 0,
 mv 4 8]) k20x1
end
noncomputable section
def c20 : AFn := ⟨9, [.tmp 4],
 .seq (of [
 o 4 (.move (.c (.bool false)))]) k20x0⟩
theorem cf20 : cFn Try.prog 20 = some c20 := by kernel_rfl
end
noncomputable section
def k54x8:=AC.exit 0
def k54x7:=AC.mask 387
def k54x15:=AC.ret
def k54x14:=sq (.mask 16) k54x15
def k54x13:=AC.mask 387
def k54x12:=sq (.cond (.tmp 16)
 (.seq (of [
 mv 17 5,
 mv 4 17]) k54x14)
  (.skip)) k54x13
def k54x11:=sq (of [
 mv 11 1,
 mv 12 0,
 mv 13 5,
 ia 14 1 12 13,
 li 15 14,
 bt 16 .eql 11 15]) k54x12
def k54x10:=AC.mask 387
def k54x9:=of [
 bc 18 .add 8 1,
 mv 8 18]
def k54x6:=sq (.seq (.block 1 (.seq (of [
 mv 10 8,
 mv 5 10]) k54x11)) k54x10) k54x9
def k54x5:=sq (.seq (.cond (.tmp 9)
 (.skip)
 (.seq (.mask 0) k54x8)) k54x7) k54x6
def k54x4:=sq (of [
 bt 9 .lss 8 7]) k54x5
def k54x3:=AC.mask 0
def k54x2:=sq (.block 0 (.loop 387 0 k54x4)) k54x3
def k54x17:=AC.ret
def k54x16:=sq (.mask 16) k54x17
def k54x1:=sq (of [
 o 4 (.move (c (-1)))]) k54x16
def k54x0:=sq (.seq (of [
 mv 6 0,
 ln 7 6,
 o 8 (.move (c 0))]) k54x2) k54x1
end
noncomputable section
def c54 : AFn := ⟨19, [.tmp 4],
 .seq (of [
 o 4 (.move (c 0))]) k54x0⟩
theorem cf54 : cFn Try.prog 54 = some c54 := by kernel_rfl
end
noncomputable section
def k14x6:=AC.ret
def k14x5:=sq (.mask 48) k14x6
def k14x4:=AC.mask 22
def k14x3:=sq (.cond (.tmp 19)
 (.seq (of [
 o 20 (.build [(.sl .nil 0), (.sl .nil 0), (.int .i64 0)] []),
 mv 21 6,
 u (.store 3 (t 4) (t 20)),
 mv 5 21]) k14x5)
  (.skip)) k14x4
def k14x2:=sq (of [
 mv 18 6,
 bc 19 .neq 18 0]) k14x3
def k14x11:=AC.ret
def k14x10:=sq (.mask 48) k14x11
def k14x9:=AC.mask 22
def k14x8:=sq (.cond (.tmp 27)
 (.seq (of [
 o 28 (.build [(.sl .nil 0), (.sl .nil 0), (.int .i64 0)] []),
 u (.store 3 (t 4) (t 28)),
 o 5 (.move (c 4))]) k14x10)
  (.skip)) k14x9
def k14x22:=AC.exit 0
def k14x21:=AC.mask 26388279067538
def k14x25:=of [
 fa 47 0 9,
 ls 48 47,
 mv 49 10,
 fa 50 1 9,
 ls 51 50,
 mv 52 10,
 ia 53 1 48 49,
  ⟨none, .store 1 (.tmp 53) (.c (.int .i64 (-1))), none, [.load 1 50 none]⟩,
 ia 54 1 51 52,
 u (.store 1 (t 54) (c (-1)))]
def k14x24:=AC.mask 26388279067538
def k14x23:=of [
 bc 55 .add 44 1,
 mv 44 55]
def k14x20:=sq (.seq (.block 1 (.seq (of [
 mv 46 44,
 mv 10 46]) k14x25)) k14x24) k14x23
def k14x19:=sq (.seq (.cond (.tmp 45)
 (.skip)
 (.seq (.mask 914) k14x22)) k14x21) k14x20
def k14x18:=sq (of [
 bt 45 .lss 44 43]) k14x19
def k14x17:=AC.mask 914
def k14x16:=sq (.block 0 (.loop 26388279067538 914 k14x18)) k14x17
def k14x33:=AC.exit 2
def k14x32:=AC.mask 2017612633061983122
def k14x39:=AC.join 2017612633061983122
def k14x38:=sq (.cond (.tmp 71)
 (of [
 fa 72 0 9,
 ls 73 72,
 mv 74 12,
 mv 75 13,
 ia 76 1 73 74,
 u (.store 1 (t 76) (t 75))])
  (.skip)) k14x39
def k14x37:=sq (of [
 mv 69 13,
 mv 70 1,
 bt 71 .leq 69 70]) k14x38
def k14x36:=sq (of [
 mv 64 7,
 mv 65 12,
 fa 66 0 9,
 ls 67 66,
 o 68 (.call 43 [(t 64), (t 65), (c 1), (t 67)] [I] (.int .i64 0)),
 mv 13 68]) k14x37
def k14x35:=AC.mask 2017612633061983122
def k14x34:=of [
 bc 77 .add 60 1,
 mv 60 77]
def k14x31:=sq (.seq (.block 3 (.seq (of [
 ia 62 1 58 60,
 li 63 62,
 mv 12 63]) k14x36)) k14x35) k14x34
def k14x30:=sq (.seq (.cond (.tmp 61)
 (.skip)
 (.seq (.mask 912) k14x33)) k14x32) k14x31
def k14x29:=sq (of [
 bt 61 .lss 60 59]) k14x30
def k14x28:=AC.mask 912
def k14x27:=sq (.block 2 (.loop 2017612633061983122 912 k14x29)) k14x28
def k14x48:=AC.exit 4
def k14x47:=AC.mask 3626777458843887524119440
def k14x54:=of [
 fa 108 2 9,
 li 109 108,
 fa 110 1 9,
 ls 111 110,
 mv 112 14,
 ia 113 1 111 112,
 li 114 113,
 bc 115 .add 114 1,
 o 116 (.mm true [(t 109), (t 115)]),
 fa 117 2 9,
 u (.store 1 (t 117) (t 116))]
def k14x53:=AC.join 3626777458843887524119440
def k14x52:=sq (.cond (.tmp 98)
 (.seq (of [
 fa 99 1 9,
 ls 100 99,
 mv 101 14,
 mv 102 7,
 mv 103 14,
 fa 104 1 9,
 ls 105 104,
      ⟨(some 106), .call 43 [(.tmp 102), (.tmp 103), (.c (.int .i64 0)), (.tmp 105)] [(.cell (.int .i64))] (.int .i64 0), none, [.load 1 99 none]⟩,
 ia 107 1 100 101,
 u (.store 1 (t 107) (t 106))]) k14x54)
  (.skip)) k14x53
def k14x51:=sq (ot [
 mv 84 7,
 nc 85 84,
 fa 86 2 85,
 ls 87 86,
 mv 88 14,
 ia 89 1 87 88,
 lb 90 89,
 mv 91 90,
 g 92 91 (.fieldAddr 0 (t 9)),
 g 93 91 (.load (.cell .sl) (t 92)),
 g 94 91 (.move (t 14)),
 g 95 91 (.indexAddr 1 (t 93) (t 94)),
 g 96 91 (.load I (t 95)),
 g 97 91 (.bin .other .lss (t 96) (c 0)),
 o 98 (.pick (t 91) (t 97) (.c (.bool false)))]) k14x52
def k14x50:=AC.mask 3626777458843887524119440
def k14x49:=of [
 bc 118 .add 81 1,
 mv 81 118]
def k14x46:=sq (.seq (.block 5 (.seq (of [
 mv 83 81,
 mv 14 83]) k14x51)) k14x50) k14x49
def k14x45:=sq (.seq (.cond (.tmp 82)
 (.skip)
 (.seq (.mask 784) k14x48)) k14x47) k14x46
def k14x44:=sq (of [
 bt 82 .lss 81 80]) k14x45
def k14x43:=AC.mask 784
def k14x42:=sq (.block 4 (.loop 3626777458843887524119440 784 k14x44)) k14x43
def k14x63:=AC.exit 6
def k14x62:=AC.mask 7975367974709495237422842361682068240
def k14x66:=of [
 fa 125 0 9,
 ls 126 125,
 mv 127 15,
 fa 128 1 9,
 ls 129 128,
 mv 130 15,
 fa 131 0 9,
 ls 132 131,
 mv 133 8,
 mv 134 15,
 fa 138 1 9,
 ls 139 138,
 mv 140 8,
 mv 141 15,
  ⟨(some 135), .call 44 [(.tmp 133), (.tmp 134)] [(.cell (.int .i64))] (.int .i64 0), none, [.load 1 125 none, .load 1 128 none, .load 1 131 none, .load 1 138 none]⟩,
 ia 136 1 132 135,
 li 137 136,
  ⟨(some 142), .call 44 [(.tmp 140), (.tmp 141)] [(.cell (.int .i64))] (.int .i64 0), none, [.load 1 125 none, .load 1 128 none, .load 1 131 none, .load 1 138 none, .load 1 136 none]⟩,
 ia 143 1 139 142,
 li 144 143,
 ia 145 1 126 127,
  ⟨none, .store 1 (.tmp 145) (.tmp 137), none, [.load 1 128 none]⟩,
 ia 146 1 129 130,
 u (.store 1 (t 146) (t 144))]
def k14x65:=AC.mask 7975367974709495237422842361682068240
def k14x64:=of [
 bc 147 .add 122 1,
 mv 122 147]
def k14x61:=sq (.seq (.block 7 (.seq (of [
 mv 124 122,
 mv 15 124]) k14x66)) k14x65) k14x64
def k14x60:=sq (.seq (.cond (.tmp 123)
 (.skip)
 (.seq (.mask 528) k14x63)) k14x62) k14x61
def k14x59:=sq (of [
 bt 123 .lss 122 121]) k14x60
def k14x58:=AC.mask 528
def k14x57:=sq (.block 6 (.loop 7975367974709495237422842361682068240 528 k14x59)) k14x58
def k14x68:=AC.ret
def k14x67:=sq (.mask 48) k14x68
def k14x56:=sq (of [
 o 148 (.load (.agg [.sl, .sl, (.int .i64)]) (t 9)),
 u (.store 3 (t 4) (t 148)),
 o 5 (.move (c 0))]) k14x67
def k14x41:=sq (.seq (of [
 fa 119 0 9,
 ls 120 119,
 ln 121 120,
 o 122 (.move (c 0))]) k14x57) k14x56
def k14x26:=sq (.seq (of [
 fa 78 0 9,
 ls 79 78,
 ln 80 79,
 o 81 (.move (c 0))]) k14x42) k14x41
def k14x15:=sq (.seq (of [
 mv 56 7,
 mv 57 1,
 o 58 (.call 42 [(t 56), (t 57)] [(.cell .sl)] (.sl .nil 0)),
 ln 59 58,
 o 60 (.move (c 0))]) k14x27) k14x26
def k14x14:=sq (.seq (of [
 fa 41 0 9,
 ls 42 41,
 ln 43 42,
 o 44 (.move (c 0))]) k14x16) k14x15
def k14x13:=sq (of [
 fa 34 2 2,
 li 35 34,
 o 36 (.makeSl [(.int .i64 0)] 8 (t 35) (t 35)),
 fa 37 2 2,
 li 38 37,
 o 39 (.makeSl [(.int .i64 0)] 8 (t 38) (t 38)),
 o 40 (.build [(.sl .nil 0), (.sl .nil 0), (.int .i64 0)] [(0, 1, (t 36)), (1, 1, (t 39))]),
 o 9 (.allocL [(.sl .nil 0), (.sl .nil 0), (.int .i64 0)]),
 u (.store 3 (t 9) (t 40))]) k14x14
def k14x12:=sq (of [
 mv 31 7,
 mv 32 1,
 o 33 (.call 41 [(t 31), (t 32)] [(.cell .sl)] (.sl .nil 0)),
 mv 8 33]) k14x13
def k14x7:=sq (of [
 o 29 (.load (.agg [(.int .i64), .sl, (.int .i64), .sl]) (t 2)),
 o 30 (.call 40 [(t 29)] [(.cell .ptr)] (.ptr none)),
 mv 7 30]) k14x12
def k14x1:=sq (.seq (ot [
 mv 22 1,
 bc 23 .lss 22 1,
 mv 24 23,
 f 25 24 (.move (t 1)),
 f 26 24 (.bin .other .gtr (t 25) (c 10)),
 o 27 (.pick (t 24) (.c (.bool true)) (t 26))]) k14x8) k14x7
def k14x0:=sq (.seq (of [
 o 16 (.load (.agg [(.int .i64), .sl, (.int .i64), .sl]) (t 2)),
 o 17 (.call 26 [(t 16)] [I] (.int .i64 0)),
 mv 6 17]) k14x2) k14x1
end
noncomputable section
def c14 : AFn := ⟨149, [.cell 4 (.agg [.sl, .sl, (.int .i64)]), .tmp 5],
 .seq (of [
 o 2 (.boxL (t 0)),
 o 4 (.allocL [(.sl .nil 0), (.sl .nil 0), (.int .i64 0)]),
 o 5 (.move (c 0))]) k14x0⟩
theorem cf14 : cFn Try.prog 14 = some c14 := by kernel_rfl
end
noncomputable section
def k40x9:=AC.exit 0
def k40x8:=AC.mask 3221225482
def k40x11:=AC.mask 3221225482
def k40x10:=of [
 bc 45 .add 31 1,
 mv 31 45]
def k40x7:=sq (.seq (.block 1 (of [
 o 33 (.load (.cell .ptr) (t 3)),
 o 34 (.load (.cell .ptr) (t 3)),
 nc 35 34,
 fa 36 0 35,
 ls 37 36,
 fa 38 2 1,
 li 39 38,
 o 40 (.makeSl [(.bool false)] 1 (t 39) (t 39)),
 o 41 (.buildSl [(.sl .nil 0)] 1 [(0, (t 40))]),
  ⟨(some 42), .append [(.sl .nil 0)] 1 24 (.tmp 37) (.tmp 41), none, [.load 1 3 none]⟩,
 nc 43 33,
 fa 44 0 43,
 u (.store 1 (t 44) (t 42))])) k40x11) k40x10
def k40x6:=sq (.seq (.cond (.tmp 32)
 (.skip)
 (.seq (.mask 10) k40x9)) k40x8) k40x7
def k40x5:=sq (of [
 bt 32 .lss 31 30]) k40x6
def k40x4:=AC.mask 10
def k40x3:=sq (.block 0 (.loop 3221225482 10 k40x5)) k40x4
def k40x20:=AC.exit 2
def k40x19:=AC.mask 63050394783187002
def k40x33:=AC.exit 4
def k40x32:=AC.mask 63050394783190842
def k40x31:=sq (.cond (.tmp 75)
 (.skip)
 (.seq (.mask 63050394783187002) k40x33)) k40x32
def k40x43:=AC.join 63050394783219514
def k40x42:=sq (.cond (.tmp 102)
 (of [
 o 103 (.load (.cell .ptr) (t 3)),
 o 104 (.load (.cell .ptr) (t 3)),
 nc 105 104,
 fa 106 3 105,
 ls 107 106,
 mv 108 13,
 fa 109 2 12,
 li 110 109,
 o 111 (.build [(.int .i64 0), (.int .i64 0)] [(0, 1, (t 108)), (1, 1, (t 110))]),
 o 112 (.buildSl [(.int .i64 0), (.int .i64 0)] 2 [(0, (t 111))]),
      ⟨(some 113), .append [(.int .i64 0), (.int .i64 0)] 2 16 (.tmp 107) (.tmp 112), none, [.load 1 3 none]⟩,
 nc 114 103,
 fa 115 3 114,
 u (.store 1 (t 115) (t 113))])
  (.skip)) k40x43
def k40x41:=sq (ot [
 fa 90 2 12,
 li 91 90,
 bc 92 .neq 91 0,
 mv 93 92,
 g 94 93 (.move (t 13)),
 g 95 93 (.bin .other .neq (t 94) (c 0)),
 o 96 (.pick (t 93) (t 95) (.c (.bool false))),
 mv 97 96,
 g 98 97 (.fieldAddr 2 (t 12)),
 g 99 97 (.load I (t 98)),
 g 100 97 (.move (t 13)),
 g 101 97 (.bin .other .neq (t 99) (t 100)),
 o 102 (.pick (t 97) (t 101) (.c (.bool false)))]) k40x42
def k40x40:=AC.join 63050394783219514
def k40x39:=sq (.cond (.tmp 87)
 (.seq (of [
 fa 88 2 12,
 li 89 88,
 mv 14 89]) k40x41)
  (.skip)) k40x40
def k40x57:=AC.exit 6
def k40x56:=AC.mask 76223250190290215815795975115110862561082
def k40x60:=ot [
 o 140 (.load (.cell .ptr) (t 3)),
 nc 141 140,
 fa 142 1 141,
 ls 143 142,
 mv 144 15,
 o 145 (.load (.cell .ptr) (t 3)),
 nc 146 145,
 fa 147 1 146,
 ls 148 147,
 mv 149 15,
 ia 150 1 148 149,
 lb 151 150,
 mv 152 151,
 f 153 152 (.move (t 16)),
 o 154 (.pick (t 152) (.c (.bool true)) (t 153)),
 ia 155 1 143 144,
 u (.store 1 (t 155) (t 154))]
def k40x59:=AC.mask 76223250190290215815795975115110862561082
def k40x58:=of [
 bc 156 .add 135 1,
 mv 135 156]
def k40x55:=sq (.seq (.block 7 (.seq (of [
 mv 137 135,
 ia 138 1 133 135,
 lb 139 138,
 mv 15 137,
 mv 16 139]) k40x60)) k40x59) k40x58
def k40x54:=sq (.seq (.cond (.tmp 136)
 (.skip)
 (.seq (.mask 63050394783194938) k40x57)) k40x56) k40x55
def k40x53:=sq (of [
 bt 136 .lss 135 134]) k40x54
def k40x52:=AC.mask 63050394783194938
def k40x51:=sq (.block 6 (.loop 76223250190290215815795975115110862561082 63050394783194938 k40x53)) k40x52
def k40x50:=AC.join 63050394783194938
def k40x49:=sq (.cond (.tmp 132)
 (.seq (of [
 ls 133 9,
 ln 134 133,
 o 135 (.move (c 0))]) k40x51)
  (.skip)) k40x50
def k40x48:=of [
 mv 157 10,
 o 158 (.load (.agg [(.int .i64), (.int .i64), (.int .i64), (.int .i64), (.int .i64), .sl]) (t 12)),
 o 159 (.call 29 [(t 158)] [(.cell .sl)] (.sl .nil 0)),
 o 160 (.callV (t 157) [(t 159)] [] .opq)]
def k40x47:=sq (.seq (of [
 fa 130 0 12,
 li 131 130,
 o 132 (.call 21 [(t 131)] [(.cell .bool)] (.bool false))]) k40x49) k40x48
def k40x46:=sq (of [
 o 121 (.load (.cell .ptr) (t 3)),
 nc 122 121,
 fa 123 2 122,
 ls 124 123,
 mv 125 13,
 ls 126 9,
 mv 127 13,
 ia 128 1 124 125,
  ⟨none, .store 1 (.tmp 128) (.c (.bool true)), none, [.load 1 9 none]⟩,
 ia 129 1 126 127,
 u (.store 1 (t 129) (.c (.bool false)))]) k40x47
def k40x38:=sq (of [
 o 116 (.load (.cell .ptr) (t 3)),
 mv 117 13,
 mv 118 14,
 ls 119 9,
 o 120 (.call 78 [(t 116), (t 117), (t 118), (t 119)] [] .opq)]) k40x46
def k40x37:=sq (.seq (of [
 fa 85 0 12,
 li 86 85,
 bc 87 .eql 86 100]) k40x39) k40x38
def k40x36:=sq (of [
 o 83 (.load (.agg [(.int .i64), (.int .i64), (.int .i64), (.int .i64), (.int .i64), .sl]) (t 12)),
 o 84 (.call 30 [(t 83)] [I] (.int .i64 0)),
 mv 13 84,
 o 14 (.move (c 0))]) k40x37
def k40x35:=AC.mask 63050394783190842
def k40x34:=of [
 mv 76 11,
 bc 77 .sub 76 1,
 mv 11 77]
def k40x30:=sq (.seq (.block 5 (.seq (of [
 fa 78 0 8,
 ls 79 78,
 mv 80 11,
 ia 81 6 79 80,
 o 82 (.load (.agg [(.int .i64), (.int .i64), (.int .i64), (.int .i64), (.int .i64), .sl]) (t 81)),
 o 12 (.allocL [(.int .i64 0), (.int .i64 0), (.int .i64 0), (.int .i64 0), (.int .i64 0), (.sl .nil 0)]),
 u (.store 6 (t 12) (t 82))]) k40x36)) k40x35) k40x34
def k40x29:=sq (.seq (of [
 mv 74 11,
 bc 75 .geq 74 0]) k40x31) k40x30
def k40x28:=AC.mask 63050394783187002
def k40x27:=sq (.block 4 (.loop 63050394783190842 63050394783187002 k40x29)) k40x28
def k40x26:=sq (of [
 fa 70 0 8,
 ls 71 70,
 ln 72 71,
 bc 73 .sub 72 1,
 mv 11 73]) k40x27
def k40x25:=sq (of [
 mv 65 10,
 fa 66 1 8,
 o 67 (.load (.agg [(.int .i64), (.int .i64), (.int .i64), (.int .i64), (.int .i64), .sl]) (t 66)),
 o 68 (.call 31 [(t 67)] [(.cell .sl)] (.sl .nil 0)),
 o 69 (.callV (t 65) [(t 68)] [] .opq)]) k40x26
def k40x24:=sq (of [
 o 64 (.makeFn 77 [] [(t 9), (t 3)]),
 mv 10 64]) k40x25
def k40x23:=sq (of [
 mv 60 5,
 mv 61 7,
 ia 62 1 60 61,
 ls 63 62,
 o 9 (.allocH [(.sl .nil 0)]),
 u (.store 1 (t 9) (t 63))]) k40x24
def k40x22:=AC.mask 63050394783187002
def k40x21:=of [
 bc 161 .add 55 1,
 mv 55 161]
def k40x18:=sq (.seq (.block 3 (.seq (of [
 mv 57 55,
 ia 58 7 53 55,
 o 59 (.load (.agg [.sl, (.int .i64), (.int .i64), (.int .i64), (.int .i64), (.int .i64), .sl]) (t 58)),
 o 8 (.allocL [(.sl .nil 0), (.int .i64 0), (.int .i64 0), (.int .i64 0), (.int .i64 0), (.int .i64 0), (.sl .nil 0)]),
 mv 7 57,
 u (.store 7 (t 8) (t 59))]) k40x23)) k40x22) k40x21
def k40x17:=sq (.seq (.cond (.tmp 56)
 (.skip)
 (.seq (.mask 26) k40x20)) k40x19) k40x18
def k40x16:=sq (of [
 bt 56 .lss 55 54]) k40x17
def k40x15:=AC.mask 26
def k40x14:=sq (.block 2 (.loop 63050394783187002 26 k40x16)) k40x15
def k40x69:=AC.exit 8
def k40x68:=AC.mask 81844091690530563419406350632111849100732222406682
def k40x81:=AC.exit 10
def k40x80:=AC.mask 5363816237122301534817634001376714254514687659865276442
def k40x84:=of [
 o 185 (.load (.cell .ptr) (t 3)),
 mv 186 18,
 mv 187 20,
 o 188 (.call 79 [(t 185), (t 186), (t 187)] [] .opq)]
def k40x83:=AC.mask 5363816237122301534817634001376714254514687659865276442
def k40x82:=of [
 bc 189 .add 181 1,
 mv 181 189]
def k40x79:=sq (.seq (.block 11 (.seq (of [
 ia 183 1 179 181,
 li 184 183,
 mv 20 184]) k40x84)) k40x83) k40x82
def k40x78:=sq (.seq (.cond (.tmp 182)
 (.skip)
 (.seq (.mask 81844091690530563419406350632111849100732222668826) k40x81)) k40x80) k40x79
def k40x77:=sq (of [
 bt 182 .lss 181 180]) k40x78
def k40x76:=AC.mask 81844091690530563419406350632111849100732222668826
def k40x75:=sq (.block 10 (.loop 5363816237122301534817634001376714254514687659865276442 81844091690530563419406350632111849100732222668826 k40x77)) k40x76
def k40x74:=of [
 o 190 (.load (.cell .ptr) (t 3)),
 mv 191 18,
 mv 192 4,
 o 193 (.indexAddr 1 (t 192) (c 0)),
 ls 194 193,
 o 195 (.call 78 [(t 190), (t 191), (c 0), (t 194)] [] .opq)]
def k40x73:=sq (.seq (of [
 fa 176 1 1,
 ls 177 176,
 mv 178 17,
 o 179 (.slice 1 (t 177) none (some (t 178))),
 ln 180 179,
 o 181 (.move (c 0))]) k40x75) k40x74
def k40x72:=sq (of [
 o 170 (.load (.cell .ptr) (t 3)),
 nc 171 170,
 fa 172 2 171,
 ls 173 172,
 mv 174 18,
 ia 175 1 173 174,
 u (.store 1 (t 175) (.c (.bool true)))]) k40x73
def k40x71:=AC.mask 81844091690530563419406350632111849100732222406682
def k40x70:=of [
 bc 196 .add 165 1,
 mv 165 196]
def k40x67:=sq (.seq (.block 9 (.seq (of [
 mv 167 165,
 ia 168 1 163 165,
 li 169 168,
 mv 17 167,
 mv 18 169]) k40x72)) k40x71) k40x70
def k40x66:=sq (.seq (.cond (.tmp 166)
 (.skip)
 (.seq (.mask 8) k40x69)) k40x68) k40x67
def k40x65:=sq (of [
 bt 166 .lss 165 164]) k40x66
def k40x64:=AC.mask 8
def k40x63:=sq (.block 8 (.loop 81844091690530563419406350632111849100732222406682 8 k40x65)) k40x64
def k40x87:=AC.ret
def k40x86:=sq (.mask 4) k40x87
def k40x85:=sq (of [
 o 202 (.load (.cell .ptr) (t 3)),
 mv 2 202]) k40x86
def k40x62:=sq (of [
 o 197 (.load (.cell .ptr) (t 3)),
 nc 198 197,
 fa 199 2 198,
 ls 200 199,
 o 201 (.indexAddr 1 (t 200) (c 0)),
 u (.store 1 (t 201) (.c (.bool false)))]) k40x85
def k40x13:=sq (.seq (of [
 fa 162 1 1,
 ls 163 162,
 ln 164 163,
 o 165 (.move (c 0))]) k40x63) k40x62
def k40x12:=sq (.seq (of [
 fa 52 3 1,
 ls 53 52,
 ln 54 53,
 o 55 (.move (c 0))]) k40x14) k40x13
def k40x2:=sq (of [
 o 47 (.load (.agg [(.int .i64), .sl, (.int .i64), .sl]) (t 1)),
 o 48 (.call 28 [(t 47)] [(.cell .sl), (.cell .sl), I] .opq),
 mv 46 48,
 o 49 (.extract (t 46) 0),
 o 50 (.extract (t 46) 1),
 o 51 (.extract (t 46) 2),
 mv 4 49,
 mv 5 50,
 mv 6 51]) k40x12
def k40x1:=sq (.seq (of [
 fa 29 2 1,
 li 30 29,
 o 31 (.move (c 0))]) k40x3) k40x2
def k40x0:=sq (of [
 fa 21 2 1,
 li 22 21,
 o 23 (.makeSl [(.bool false)] 1 (t 22) (t 22)),
 fa 24 2 1,
 li 25 24,
 o 26 (.makeSl [(.bool false)] 1 (t 25) (t 25)),
 o 27 (.build [(.sl .nil 0), (.sl .nil 0), (.sl .nil 0), (.sl .nil 0)] [(1, 1, (t 23)), (2, 1, (t 26))]),
 o 28 (.boxH (t 27)),
 o 3 (.allocH [(.ptr none)]),
 u (.store 1 (t 3) (t 28))]) k40x1
end
noncomputable section
def c40 : AFn := ⟨203, [.tmp 2],
 .seq (of [
 o 1 (.boxL (t 0)),
 o 2 (.move (.c (.ptr none)))]) k40x0⟩
theorem cf40 : cFn Try.prog 40 = some c40 := by kernel_rfl
end
noncomputable section
def k41x9:=AC.exit 0
def k41x8:=AC.mask 201326627
def k41x12:=of [
 mv 30 5,
 mv 31 6,
 mv 32 6,
 ia 33 1 30 31,
 u (.store 1 (t 33) (t 32))]
def k41x11:=AC.mask 201326627
def k41x10:=of [
 bc 34 .add 27 1,
 mv 27 34]
def k41x7:=sq (.seq (.block 1 (.seq (of [
 mv 29 27,
 mv 6 29]) k41x12)) k41x11) k41x10
def k41x6:=sq (.seq (.cond (.tmp 28)
 (.skip)
 (.seq (.mask 35) k41x9)) k41x8) k41x7
def k41x5:=sq (of [
 bt 28 .lss 27 26]) k41x6
def k41x4:=AC.mask 35
def k41x3:=sq (.block 0 (.loop 201326627 35 k41x5)) k41x4
def k41x20:=AC.exit 2
def k41x19:=AC.mask 1924145348643
def k41x28:=AC.exit 3
def k41x27:=AC.mask 1924145350179
def k41x26:=sq (.cond (.tmp 89)
 (.seq (.mask 1924145348643) k41x28)
 (.skip)) k41x27
def k41x37:=AC.exit 4
def k41x36:=AC.mask 141976867225561692969554904354339
def k41x42:=AC.join 141976867225561692969554904354339
def k41x41:=sq (.cond (.tmp 111)
 (of [
 mv 112 0,
 mv 113 9,
 mv 114 12,
 o 115 (.call 79 [(t 112), (t 113), (t 114)] [] .opq)])
  (.skip)) k41x42
def k41x40:=sq (of [
 mv 111 13]) k41x41
def k41x39:=AC.mask 141976867225561692969554904354339
def k41x38:=of [
 bc 116 .add 106 1,
 mv 106 116]
def k41x35:=sq (.seq (.block 5 (.seq (of [
 mv 108 106,
 ia 109 1 104 106,
 lb 110 109,
 mv 12 108,
 mv 13 110]) k41x40)) k41x39) k41x38
def k41x34:=sq (.seq (.cond (.tmp 107)
 (.skip)
 (.seq (.mask 1924145352227) k41x37)) k41x36) k41x35
def k41x33:=sq (of [
 bt 107 .lss 106 105]) k41x34
def k41x32:=AC.mask 1924145352227
def k41x31:=sq (.block 4 (.loop 141976867225561692969554904354339 1924145352227 k41x33)) k41x32
def k41x55:=AC.exit 6
def k41x54:=AC.mask 78052608194857180995375013954271189416282659
def k41x60:=AC.join 78052608194857180995375013954271189416282659
def k41x59:=sq (.cond (.tmp 157)
 (of [
 mv 158 0,
 nc 159 158,
 fa 160 0 159,
 ls 161 160,
 mv 162 9,
 ia 163 1 161 162,
 ls 164 163,
 mv 165 16,
 mv 166 0,
 nc 167 166,
 fa 168 0 167,
 ls 169 168,
 mv 170 16,
 ia 171 1 169 170,
 ls 172 171,
 mv 173 9,
 ia 174 1 164 165,
 u (.store 1 (t 174) (.c (.bool false))),
 ia 175 1 172 173,
 u (.store 1 (t 175) (.c (.bool false)))])
  (.skip)) k41x60
def k41x58:=sq (ot [
 mv 150 17,
 mv 151 150,
 g 152 151 (.move (t 11)),
 g 153 151 (.move (t 16)),
 g 154 151 (.indexAddr 1 (t 152) (t 153)),
 g 155 151 (.load (.cell .bool) (t 154)),
 g 156 151 (.un .not (t 155)),
 o 157 (.pick (t 151) (t 156) (.c (.bool false)))]) k41x59
def k41x57:=AC.mask 78052608194857180995375013954271189416282659
def k41x56:=of [
 bc 176 .add 145 1,
 mv 145 176]
def k41x53:=sq (.seq (.block 7 (.seq (of [
 mv 147 145,
 ia 148 1 143 145,
 lb 149 148,
 mv 16 147,
 mv 17 149]) k41x58)) k41x57) k41x56
def k41x52:=sq (.seq (.cond (.tmp 146)
 (.skip)
 (.seq (.mask 1924145348643) k41x55)) k41x54) k41x53
def k41x51:=sq (of [
 bt 146 .lss 145 144]) k41x52
def k41x50:=AC.mask 1924145348643
def k41x49:=sq (.block 6 (.loop 78052608194857180995375013954271189416282659 1924145348643 k41x51)) k41x50
def k41x62:=AC.exit 3
def k41x48:=sq (.mask 1924145348643) k41x62
def k41x47:=AC.mask 1924145350179
def k41x46:=sq (.cond (.tmp 136)
 (.seq (.seq (of [
 mv 137 0,
 nc 138 137,
 fa 139 0 138,
 ls 140 139,
 mv 141 9,
 ia 142 1 140 141,
 ls 143 142,
 ln 144 143,
 o 145 (.move (c 0))]) k41x49) k41x48)
  (.skip)) k41x47
def k41x45:=sq (ot [
 mv 124 15,
 mv 125 1,
 bt 126 .geq 124 125,
 mv 127 126,
 g 128 127 (.move (t 0)),
 g 129 127 (.nilCheck (t 128)),
 g 130 127 (.fieldAddr 1 (t 129)),
 g 131 127 (.load (.cell .sl) (t 130)),
 g 132 127 (.move (t 9)),
 g 133 127 (.indexAddr 1 (t 131) (t 132)),
 g 134 127 (.load (.cell .bool) (t 133)),
 g 135 127 (.un .not (t 134)),
 o 136 (.pick (t 127) (t 135) (.c (.bool false)))]) k41x46
def k41x70:=AC.exit 8
def k41x69:=AC.mask 73559785961562665201200657303214840813699479788958254627
def k41x73:=of [
 mv 188 0,
 nc 189 188,
 fa 190 0 189,
 ls 191 190,
 mv 192 10,
 ia 193 1 191 192,
 ls 194 193,
 mv 195 18,
 mv 196 0,
 nc 197 196,
 fa 198 0 197,
 ls 199 198,
 mv 200 18,
 ia 201 1 199 200,
 ls 202 201,
 mv 203 10,
 ia 204 1 194 195,
 u (.store 1 (t 204) (.c (.bool false))),
 ia 205 1 202 203,
 u (.store 1 (t 205) (.c (.bool false)))]
def k41x72:=AC.mask 73559785961562665201200657303214840813699479788958254627
def k41x71:=of [
 bc 206 .add 185 1,
 mv 185 206]
def k41x68:=sq (.seq (.block 9 (.seq (of [
 mv 187 185,
 mv 18 187]) k41x73)) k41x72) k41x71
def k41x67:=sq (.seq (.cond (.tmp 186)
 (.skip)
 (.seq (.mask 1924145350179) k41x70)) k41x69) k41x68
def k41x66:=sq (of [
 bt 186 .lss 185 184]) k41x67
def k41x65:=AC.mask 1924145350179
def k41x64:=sq (.block 8 (.loop 73559785961562665201200657303214840813699479788958254627 1924145350179 k41x66)) k41x65
def k41x74:=of [
 mv 211 0,
 nc 212 211,
 fa 213 2 212,
 ls 214 213,
 mv 215 10,
 ia 216 1 214 215,
 u (.store 1 (t 216) (.c (.bool false)))]
def k41x63:=sq (of [
 mv 207 5,
 mv 208 10,
 mv 209 9,
 ia 210 1 207 208,
 u (.store 1 (t 210) (t 209))]) k41x74
def k41x44:=sq (.seq (of [
 mv 177 0,
 nc 178 177,
 fa 179 0 178,
 ls 180 179,
 mv 181 10,
 ia 182 1 180 181,
 ls 183 182,
 ln 184 183,
 o 185 (.move (c 0))]) k41x64) k41x63
def k41x30:=sq (.seq (of [
 mv 118 0,
 mv 119 9,
 mv 120 1,
 o 121 (.call 81 [(t 118), (t 119), (t 120)] [I, I] .opq),
 mv 117 121,
 o 122 (.extract (t 117) 0),
 o 123 (.extract (t 117) 1),
 mv 14 122,
 mv 15 123]) k41x45) k41x44
def k41x29:=sq (.seq (of [
 mv 98 0,
 nc 99 98,
 fa 100 0 99,
 ls 101 100,
 mv 102 10,
 ia 103 1 101 102,
 ls 104 103,
 ln 105 104,
 o 106 (.move (c 0))]) k41x31) k41x30
def k41x25:=sq (of [
 mv 90 0,
 nc 91 90,
 fa 92 0 91,
 ls 93 92,
 mv 94 9,
 ia 95 1 93 94,
 ls 96 95,
 o 97 (.call 80 [(t 96)] [(.cell .sl)] (.sl .nil 0)),
 mv 11 97]) k41x29
def k41x24:=sq (.seq (ot [
 mv 58 9,
 mv 59 10,
 bt 60 .eql 58 59,
 mv 61 60,
 f 62 61 (.move (t 0)),
 f 63 61 (.nilCheck (t 62)),
 f 64 61 (.fieldAddr 0 (t 63)),
 f 65 61 (.load (.cell .sl) (t 64)),
 f 66 61 (.move (t 9)),
 f 67 61 (.indexAddr 1 (t 65) (t 66)),
 f 68 61 (.load (.cell .sl) (t 67)),
 f 69 61 (.move (t 10)),
 f 70 61 (.indexAddr 1 (t 68) (t 69)),
 f 71 61 (.load (.cell .bool) (t 70)),
 o 72 (.pick (t 61) (.c (.bool true)) (t 71)),
 mv 73 72,
 f 74 73 (.move (t 0)),
 f 75 73 (.nilCheck (t 74)),
 f 76 73 (.fieldAddr 1 (t 75)),
 f 77 73 (.load (.cell .sl) (t 76)),
 f 78 73 (.move (t 9)),
 f 79 73 (.indexAddr 1 (t 77) (t 78)),
 f 80 73 (.load (.cell .bool) (t 79)),
 f 81 73 (.move (t 0)),
 f 82 73 (.nilCheck (t 81)),
 f 83 73 (.fieldAddr 1 (t 82)),
 f 84 73 (.load (.cell .sl) (t 83)),
 f 85 73 (.move (t 10)),
 f 86 73 (.indexAddr 1 (t 84) (t 85)),
 f 87 73 (.load (.cell .bool) (t 86)),
 f 88 73 (.bin .bool .neq (t 80) (t 87)),
 o 89 (.pick (t 73) (.c (.bool true)) (t 88))]) k41x26) k41x25
def k41x23:=sq (of [
 mv 44 5,
 o 45 (.indexArr 2 1 (t 8) (c 0)),
 li 46 45,
 o 47 (.indexArr 2 1 (t 8) (c 1)),
 li 48 47,
 o 49 (.mm false [(t 46), (t 48)]),
 mv 51 5,
 o 52 (.indexArr 2 1 (t 8) (c 0)),
 li 53 52,
 o 54 (.indexArr 2 1 (t 8) (c 1)),
 li 55 54,
 o 56 (.mm true [(t 53), (t 55)]),
  ⟨(some 50), .call 44 [(.tmp 44), (.tmp 49)] [(.cell (.int .i64))] (.int .i64 0), none, [.load 1 52 none, .load 1 54 none]⟩,
 o 57 (.call 44 [(t 51), (t 56)] [I] (.int .i64 0)),
 mv 9 50,
 mv 10 57]) k41x24
def k41x22:=AC.join 1924145348643
def k41x21:=of [
 bc 217 .add 40 1,
 mv 40 217]
def k41x18:=sq (.seq (.block 3 (.seq (of [
 ia 42 2 38 40,
 o 43 (.load (.agg [(.int .i64), (.int .i64)]) (t 42)),
 o 8 (.allocL [(.int .i64 0), (.int .i64 0)]),
 u (.store 2 (t 8) (t 43))]) k41x23)) k41x22) k41x21
def k41x17:=sq (.seq (.cond (.tmp 41)
 (.skip)
 (.seq (.mask 32) k41x20)) k41x19) k41x18
def k41x16:=sq (of [
 bt 41 .lss 40 39]) k41x17
def k41x15:=AC.mask 32
def k41x14:=sq (.block 2 (.loop 1924145348643 32 k41x16)) k41x15
def k41x77:=AC.ret
def k41x76:=sq (.mask 16) k41x77
def k41x13:=sq (of [
 mv 218 5,
 mv 4 218]) k41x76
def k41x2:=sq (.seq (of [
 mv 35 0,
 nc 36 35,
 fa 37 3 36,
 ls 38 37,
 ln 39 38,
 o 40 (.move (c 0))]) k41x14) k41x13
def k41x1:=sq (.seq (of [
 mv 25 5,
 ln 26 25,
 o 27 (.move (c 0))]) k41x3) k41x2
def k41x0:=sq (of [
 mv 19 0,
 nc 20 19,
 fa 21 0 20,
 ls 22 21,
 ln 23 22,
 o 24 (.makeSl [(.int .i64 0)] 8 (t 23) (t 23)),
 mv 5 24]) k41x1
end
noncomputable section
def c41 : AFn := ⟨219, [.tmp 4],
 .seq (of [
 o 4 (.move (.c (.sl .nil 0)))]) k41x0⟩
theorem cf41 : cFn Try.prog 41 = some c41 := by kernel_rfl
end
noncomputable section
def k42x11:=AC.exit 0
def k42x10:=AC.mask 103079215331
def k42x17:=AC.join 103079215331
def k42x16:=sq (.cond (.tmp 62)
 (of [
 mv 63 7,
 bc 64 .add 63 1,
 mv 7 64])
  (.skip)) k42x17
def k42x15:=sq (of [
 mv 59 5,
 mv 60 8,
 ia 61 1 59 60,
 lb 62 61]) k42x16
def k42x14:=sq (ot [
 mv 39 5,
 mv 40 8,
 mv 41 0,
 nc 42 41,
 fa 43 2 42,
 ls 44 43,
 mv 45 8,
 ia 46 1 44 45,
 lb 47 46,
 mv 48 47,
 g 49 48 (.move (t 0)),
 g 50 48 (.nilCheck (t 49)),
 g 51 48 (.fieldAddr 1 (t 50)),
 g 52 48 (.load (.cell .sl) (t 51)),
 g 53 48 (.move (t 8)),
 g 54 48 (.indexAddr 1 (t 52) (t 53)),
 g 55 48 (.load (.cell .bool) (t 54)),
 g 56 48 (.un .not (t 55)),
 o 57 (.pick (t 48) (t 56) (.c (.bool false))),
 ia 58 1 39 40,
 u (.store 1 (t 58) (t 57))]) k42x15
def k42x13:=AC.mask 103079215331
def k42x12:=of [
 bc 65 .add 36 1,
 mv 36 65]
def k42x9:=sq (.seq (.block 1 (.seq (of [
 mv 38 36,
 mv 8 38]) k42x14)) k42x13) k42x12
def k42x8:=sq (.seq (.cond (.tmp 37)
 (.skip)
 (.seq (.mask 227) k42x11)) k42x10) k42x9
def k42x7:=sq (of [
 bt 37 .lss 36 35]) k42x8
def k42x6:=AC.mask 227
def k42x5:=sq (.block 0 (.loop 103079215331 227 k42x7)) k42x6
def k42x26:=AC.exit 2
def k42x25:=AC.mask 4132070672510939562211
def k42x36:=AC.exit 4
def k42x35:=AC.mask 533037116753911203496675
def k42x41:=AC.join 533037116753911203496675
def k42x40:=sq (.cond (.tmp 89)
 (of [
 mv 90 6,
 mv 91 9,
 ia 92 1 90 91,
 li 93 92,
 bc 94 .add 93 1,
 ia 95 1 90 91,
 u (.store 1 (t 95) (t 94))])
  (.skip)) k42x41
def k42x39:=sq (ot [
 mv 83 12,
 mv 84 83,
 g 85 84 (.move (t 5)),
 g 86 84 (.move (t 11)),
 g 87 84 (.indexAddr 1 (t 85) (t 86)),
 g 88 84 (.load (.cell .bool) (t 87)),
 o 89 (.pick (t 84) (t 88) (.c (.bool false)))]) k42x40
def k42x38:=AC.mask 533037116753911203496675
def k42x37:=of [
 bc 96 .add 78 1,
 mv 78 96]
def k42x34:=sq (.seq (.block 5 (.seq (of [
 mv 80 78,
 ia 81 1 76 78,
 lb 82 81,
 mv 11 80,
 mv 12 82]) k42x39)) k42x38) k42x37
def k42x33:=sq (.seq (.cond (.tmp 79)
 (.skip)
 (.seq (.mask 4132070672510939562211) k42x36)) k42x35) k42x34
def k42x32:=sq (of [
 bt 79 .lss 78 77]) k42x33
def k42x31:=AC.mask 4132070672510939562211
def k42x30:=sq (.block 4 (.loop 533037116753911203496675 4132070672510939562211 k42x32)) k42x31
def k42x29:=sq (of [
 mv 76 10,
 ln 77 76,
 o 78 (.move (c 0))]) k42x30
def k42x28:=AC.mask 4132070672510939562211
def k42x27:=of [
 bc 97 .add 71 1,
 mv 71 97]
def k42x24:=sq (.seq (.block 3 (.seq (of [
 mv 73 71,
 ia 74 1 69 71,
 ls 75 74,
 mv 9 73,
 mv 10 75]) k42x29)) k42x28) k42x27
def k42x23:=sq (.seq (.cond (.tmp 72)
 (.skip)
 (.seq (.mask 227) k42x26)) k42x25) k42x24
def k42x22:=sq (of [
 bt 72 .lss 71 70]) k42x23
def k42x21:=AC.mask 227
def k42x20:=sq (.block 2 (.loop 4132070672510939562211 227 k42x22)) k42x21
def k42x51:=AC.exit 6
def k42x50:=AC.mask 950737950171172051122527412323
def k42x62:=AC.exit 8
def k42x61:=AC.mask 18697846353366383672076372303971
def k42x69:=AC.exit 9
def k42x68:=AC.mask 18697846353366383672076372336739
def k42x67:=sq (.cond (.tmp 109)
 (.seq (.mask 18697846353366383672076372303971) k42x69)
 (.skip)) k42x68
def k42x74:=AC.exit 8
def k42x73:=sq (.mask 950737950171172051122527428707) k42x74
def k42x72:=AC.mask 18697846353366383672076372336739
def k42x71:=sq (.cond (.tmp 115)
 (.seq (of [
 mv 116 15,
 mv 14 116]) k42x73)
  (.skip)) k42x72
def k42x76:=AC.join 18697846353366383672076372303971
def k42x75:=sq (.cond (.tmp 129)
 (of [
 mv 130 15,
 mv 14 130])
  (.skip)) k42x76
def k42x70:=sq (ot [
 mv 117 14,
 bc 118 .lss 117 0,
 mv 119 118,
 f 120 119 (.move (t 6)),
 f 121 119 (.move (t 15)),
 f 122 119 (.indexAddr 1 (t 120) (t 121)),
 f 123 119 (.load I (t 122)),
 f 124 119 (.move (t 6)),
 f 125 119 (.move (t 14)),
 f 126 119 (.indexAddr 1 (t 124) (t 125)),
 f 127 119 (.load I (t 126)),
 f 128 119 (.bin .other .gtr (t 123) (t 127)),
 o 129 (.pick (t 119) (.c (.bool true)) (t 128))]) k42x75
def k42x66:=sq (.seq (of [
 mv 110 6,
 mv 111 15,
 ia 112 1 110 111,
 li 113 112,
 mv 114 1,
 bt 115 .lss 113 114]) k42x71) k42x70
def k42x65:=sq (.seq (of [
 mv 108 16,
 o 109 (.un .not (t 108))]) k42x67) k42x66
def k42x64:=AC.join 18697846353366383672076372303971
def k42x63:=of [
 bc 131 .add 103 1,
 mv 103 131]
def k42x60:=sq (.seq (.block 9 (.seq (of [
 mv 105 103,
 ia 106 1 101 103,
 lb 107 106,
 mv 15 105,
 mv 16 107]) k42x65)) k42x64) k42x63
def k42x59:=sq (.seq (.cond (.tmp 104)
 (.skip)
 (.seq (.mask 950737950171172051122527428707) k42x62)) k42x61) k42x60
def k42x58:=sq (of [
 bt 104 .lss 103 102]) k42x59
def k42x57:=AC.join 950737950171172051122527428707
def k42x56:=sq (.block 8 (.loop 18697846353366383672076372303971 950737950171172051122527428707 k42x58)) k42x57
def k42x88:=AC.exit 10
def k42x87:=AC.mask 312210432779429674719450226989128183611138147
def k42x93:=AC.join 312210432779429674719450226989128183611138147
def k42x92:=sq (.cond (.tmp 152)
 (of [
 mv 153 6,
 mv 154 17,
 ia 155 1 153 154,
 li 156 155,
 bc 157 .sub 156 1,
 ia 158 1 153 154,
 u (.store 1 (t 158) (t 157))])
  (.skip)) k42x93
def k42x91:=sq (of [
 mv 152 18]) k42x92
def k42x90:=AC.mask 312210432779429674719450226989128183611138147
def k42x89:=of [
 bc 159 .add 147 1,
 mv 147 159]
def k42x86:=sq (.seq (.block 11 (.seq (of [
 mv 149 147,
 ia 150 1 145 147,
 lb 151 150,
 mv 17 149,
 mv 18 151]) k42x91)) k42x90) k42x89
def k42x85:=sq (.seq (.cond (.tmp 148)
 (.skip)
 (.seq (.mask 950737950171172051122527412323) k42x88)) k42x87) k42x86
def k42x84:=sq (of [
 bt 148 .lss 147 146]) k42x85
def k42x83:=AC.mask 950737950171172051122527412323
def k42x82:=sq (.block 10 (.loop 312210432779429674719450226989128183611138147 950737950171172051122527412323 k42x84)) k42x83
def k42x81:=sq (of [
 mv 139 0,
 nc 140 139,
 fa 141 0 140,
 ls 142 141,
 mv 143 14,
 ia 144 1 142 143,
 ls 145 144,
 ln 146 145,
 o 147 (.move (c 0))]) k42x82
def k42x80:=sq (of [
 mv 135 13,
 mv 136 14,
 o 137 (.buildSl [(.int .i64 0)] 1 [(0, (t 136))]),
 o 138 (.append [(.int .i64 0)] 1 8 (t 135) (t 137)),
 mv 13 138]) k42x81
def k42x55:=sq (of [
 mv 132 5,
 mv 133 14,
 ia 134 1 132 133,
 u (.store 1 (t 134) (.c (.bool false)))]) k42x80
def k42x54:=sq (.seq (of [
 mv 101 5,
 ln 102 101,
 o 103 (.move (c 0))]) k42x56) k42x55
def k42x53:=AC.mask 950737950171172051122527412323
def k42x52:=of [
 bc 160 .add 99 1,
 mv 99 160]
def k42x49:=sq (.seq (.block 7 (.seq (of [
 o 14 (.move (c (-1)))]) k42x54)) k42x53) k42x52
def k42x48:=sq (.seq (.cond (.tmp 100)
 (.skip)
 (.seq (.mask 8192) k42x51)) k42x50) k42x49
def k42x47:=sq (of [
 bt 100 .lss 99 98]) k42x48
def k42x46:=AC.mask 8192
def k42x45:=sq (.block 6 (.loop 950737950171172051122527412323 8192 k42x47)) k42x46
def k42x97:=AC.ret
def k42x96:=sq (.mask 16) k42x97
def k42x95:=sq (of [
 mv 163 13,
 mv 4 163]) k42x96
def k42x44:=sq (of [
 mv 161 13,
 o 162 (.call 82 [(t 161)] [] .opq)]) k42x95
def k42x43:=sq (.seq (of [
 mv 98 7,
 o 99 (.move (c 0))]) k42x45) k42x44
def k42x19:=sq (of [
 o 13 (.move (.c (.sl .nil 0)))]) k42x43
def k42x4:=sq (.seq (of [
 mv 66 0,
 nc 67 66,
 fa 68 0 67,
 ls 69 68,
 ln 70 69,
 o 71 (.move (c 0))]) k42x20) k42x19
def k42x3:=sq (.seq (of [
 mv 31 0,
 nc 32 31,
 fa 33 0 32,
 ls 34 33,
 ln 35 34,
 o 36 (.move (c 0))]) k42x5) k42x4
def k42x2:=sq (of [
 o 7 (.move (c 0))]) k42x3
def k42x1:=sq (of [
 mv 25 0,
 nc 26 25,
 fa 27 0 26,
 ls 28 27,
 ln 29 28,
 o 30 (.makeSl [(.int .i64 0)] 8 (t 29) (t 29)),
 mv 6 30]) k42x2
def k42x0:=sq (of [
 mv 19 0,
 nc 20 19,
 fa 21 0 20,
 ls 22 21,
 ln 23 22,
 o 24 (.makeSl [(.bool false)] 1 (t 23) (t 23)),
 mv 5 24]) k42x1
end
noncomputable section
def c42 : AFn := ⟨164, [.tmp 4],
 .seq (of [
 o 4 (.move (.c (.sl .nil 0)))]) k42x0⟩
theorem cf42 : cFn Try.prog 42 = some c42 := by kernel_rfl
end
noncomputable section
def k43x9:=AC.exit 0
def k43x8:=AC.mask 523
def k43x7:=sq (.cond (.tmp 14)
 (.skip)
 (.seq (.mask 512) k43x9)) k43x8
def k43x18:=AC.exit 2
def k43x17:=AC.mask 14681611
def k43x24:=of [
 o 10 (.move (.c (.bool true)))]
def k43x23:=AC.join 14681611
def k43x22:=sq (.cond (.tmp 36)
 (.seq (of [
 mv 37 9,
 bc 38 .add 37 1,
 mv 9 38]) k43x24)
  (.skip)) k43x23
def k43x21:=sq (ot [
 mv 28 12,
 mv 29 28,
 g 30 29 (.move (t 3)),
 g 31 29 (.move (t 11)),
 g 32 29 (.indexAddr 1 (t 30) (t 31)),
 g 33 29 (.load I (t 32)),
 g 34 29 (.move (t 9)),
 g 35 29 (.bin .other .eql (t 33) (t 34)),
 o 36 (.pick (t 29) (t 35) (.c (.bool false)))]) k43x22
def k43x20:=AC.mask 14681611
def k43x19:=of [
 bc 39 .add 23 1,
 mv 23 39]
def k43x16:=sq (.seq (.block 3 (.seq (of [
 mv 25 23,
 ia 26 1 21 23,
 lb 27 26,
 mv 11 25,
 mv 12 27]) k43x21)) k43x20) k43x19
def k43x15:=sq (.seq (.cond (.tmp 24)
 (.skip)
 (.seq (.mask 1547) k43x18)) k43x17) k43x16
def k43x14:=sq (of [
 bt 24 .lss 23 22]) k43x15
def k43x13:=AC.mask 1547
def k43x12:=sq (.block 2 (.loop 14681611 1547 k43x14)) k43x13
def k43x11:=sq (of [
 mv 15 0,
 nc 16 15,
 fa 17 0 16,
 ls 18 17,
 mv 19 1,
 ia 20 1 18 19,
 ls 21 20,
 ln 22 21,
 o 23 (.move (c 0))]) k43x12
def k43x10:=AC.mask 1547
def k43x6:=sq (.block 1 (.seq (of [
 o 10 (.move (.c (.bool false)))]) k43x11)) k43x10
def k43x5:=sq (.seq (of [
 mv 14 10]) k43x7) k43x6
def k43x4:=AC.mask 512
def k43x3:=sq (.block 0 (.loop 1547 512 k43x5)) k43x4
def k43x27:=AC.ret
def k43x26:=sq (.mask 256) k43x27
def k43x2:=sq (of [
 mv 40 9,
 mv 8 40]) k43x26
def k43x1:=sq (.seq (of [
 o 10 (.move (.c (.bool true)))]) k43x3) k43x2
def k43x0:=sq (of [
 mv 13 2,
 mv 9 13]) k43x1
end
noncomputable section
def c43 : AFn := ⟨41, [.tmp 8],
 .seq (of [
 o 8 (.move (c 0))]) k43x0⟩
theorem cf43 : cFn Try.prog 43 = some c43 := by kernel_rfl
end
noncomputable section
def k44x7:=AC.exit 0
def k44x6:=AC.mask 3
def k44x5:=sq (.cond (.tmp 10)
 (.skip)
 (.seq (.mask 2) k44x7)) k44x6
def k44x8:=AC.mask 3
def k44x4:=sq (.block 1 (of [
 mv 11 0,
 mv 12 1,
 ia 13 1 11 12,
 li 14 13,
 mv 1 14])) k44x8
def k44x3:=sq (.seq (of [
 mv 5 0,
 mv 6 1,
 ia 7 1 5 6,
 li 8 7,
 mv 9 1,
 bt 10 .neq 8 9]) k44x5) k44x4
def k44x2:=AC.mask 2
def k44x10:=AC.ret
def k44x9:=sq (.mask 16) k44x10
def k44x1:=sq (of [
 mv 15 1,
 mv 4 15]) k44x9
def k44x0:=sq (.seq (.block 0 (.loop 3 2 k44x3)) k44x2) k44x1
end
noncomputable section
def c44 : AFn := ⟨16, [.tmp 4],
 .seq (of [
 o 4 (.move (c 0))]) k44x0⟩
theorem cf44 : cFn Try.prog 44 = some c44 := by kernel_rfl
end
noncomputable section
def k77x6:=AC.exit 0
def k77x5:=AC.mask 454
def k77x9:=of [
 ls 12 1,
 mv 13 5,
 o 14 (.load (.cell .ptr) (t 2)),
 nc 15 14,
 fa 16 2 15,
 ls 17 16,
 mv 18 5,
 ia 19 1 12 13,
 u (.store 1 (t 19) (.c (.bool true))),
 ia 20 1 17 18,
 u (.store 1 (t 20) (.c (.bool true)))]
def k77x8:=AC.mask 454
def k77x7:=of [
 bc 21 .add 8 1,
 mv 8 21]
def k77x4:=sq (.seq (.block 1 (.seq (of [
 ia 10 1 6 8,
 li 11 10,
 mv 5 11]) k77x9)) k77x8) k77x7
def k77x3:=sq (.seq (.cond (.tmp 9)
 (.skip)
 (.seq (.mask 0) k77x6)) k77x5) k77x4
def k77x2:=sq (of [
 bt 9 .lss 8 7]) k77x3
def k77x1:=AC.mask 0
def k77x0:=sq (.block 0 (.loop 454 0 k77x2)) k77x1
end
noncomputable section
def c77 : AFn := ⟨22, [],
 .seq (of [
 mv 6 0,
 ln 7 6,
 o 8 (.move (c 0))]) k77x0⟩
theorem cf77 : cFn Try.prog 77 = some c77 := by kernel_rfl
end
noncomputable section
def k78x6:=AC.exit 0
def k78x5:=AC.mask 7175
def k78x11:=AC.join 7175
def k78x10:=sq (.cond (.tmp 22)
 (of [
 mv 23 0,
 mv 24 1,
 mv 25 8,
 o 26 (.call 79 [(t 23), (t 24), (t 25)] [] .opq)])
  (.skip)) k78x11
def k78x9:=sq (ot [
 mv 17 9,
 mv 18 17,
 g 19 18 (.move (t 8)),
 g 20 18 (.move (t 2)),
 g 21 18 (.bin .other .neq (t 19) (t 20)),
 o 22 (.pick (t 18) (t 21) (.c (.bool false)))]) k78x10
def k78x8:=AC.mask 7175
def k78x7:=of [
 bc 27 .add 12 1,
 mv 12 27]
def k78x4:=sq (.seq (.block 1 (.seq (of [
 mv 14 12,
 ia 15 1 10 12,
 lb 16 15,
 mv 8 14,
 mv 9 16]) k78x9)) k78x8) k78x7
def k78x3:=sq (.seq (.cond (.tmp 13)
 (.skip)
 (.seq (.mask 0) k78x6)) k78x5) k78x4
def k78x2:=sq (of [
 bt 13 .lss 12 11]) k78x3
def k78x1:=AC.mask 0
def k78x0:=sq (.block 0 (.loop 7175 0 k78x2)) k78x1
end
noncomputable section
def c78 : AFn := ⟨28, [],
 .seq (of [
 mv 10 3,
 ln 11 10,
 o 12 (.move (c 0))]) k78x0⟩
theorem cf78 : cFn Try.prog 78 = some c78 := by kernel_rfl
end
noncomputable section
def k79x1:=AC.join 0
def k79x0:=sq (.cond (.tmp 16)
 (of [
 mv 17 0,
 nc 18 17,
 fa 19 0 18,
 ls 20 19,
 mv 21 1,
 ia 22 1 20 21,
 ls 23 22,
 mv 24 2,
 mv 25 0,
 nc 26 25,
 fa 27 0 26,
 ls 28 27,
 mv 29 2,
 ia 30 1 28 29,
 ls 31 30,
 mv 32 1,
 ia 33 1 23 24,
 u (.store 1 (t 33) (.c (.bool true))),
 ia 34 1 31 32,
 u (.store 1 (t 34) (.c (.bool true)))])
  (.skip)) k79x1
end
noncomputable section
def c79 : AFn := ⟨35, [],
 .seq (ot [
 mv 6 1,
 mv 7 2,
 bt 8 .neq 6 7,
 mv 9 8,
 g 10 9 (.move (t 1)),
 g 11 9 (.bin .other .neq (t 10) (c 0)),
 o 12 (.pick (t 9) (t 11) (.c (.bool false))),
 mv 13 12,
 g 14 13 (.move (t 2)),
 g 15 13 (.bin .other .neq (t 14) (c 0)),
 o 16 (.pick (t 13) (t 15) (.c (.bool false)))]) k79x0⟩
theorem cf79 : cFn Try.prog 79 = some c79 := by kernel_rfl
end
noncomputable section
def k80x5:=AC.ret
def k80x4:=sq (.mask 4) k80x5
def k80x3:=AC.mask 1
def k80x2:=sq (.cond (.tmp 4)
 (.seq (of [
 o 2 (.move (.c (.sl .nil 0)))]) k80x4)
  (.skip)) k80x3
def k80x7:=AC.ret
def k80x6:=sq (.mask 4) k80x7
def k80x1:=sq (of [
 o 5 (.buildSl [] 1 []),
 mv 6 0,
 o 7 (.append [(.bool false)] 1 1 (t 5) (t 6)),
 mv 2 7]) k80x6
def k80x0:=sq (.seq (of [
 mv 3 0,
 o 4 (.bin .sl .eql (t 3) (.c (.sl .nil 0)))]) k80x2) k80x1
end
noncomputable section
def c80 : AFn := ⟨8, [.tmp 2],
 .seq (of [
 o 2 (.move (.c (.sl .nil 0)))]) k80x0⟩
theorem cf80 : cFn Try.prog 80 = some c80 := by kernel_rfl
end
noncomputable section
def k82x6:=AC.exit 0
def k82x5:=AC.mask 13
def k82x4:=sq (.cond (.tmp 9)
 (.skip)
 (.seq (.mask 0) k82x6)) k82x5
def k82x8:=AC.mask 13
def k82x7:=of [
 mv 10 2,
 bc 11 .add 10 1,
 mv 12 3,
 bc 13 .sub 12 1,
 mv 2 11,
 mv 3 13]
def k82x3:=sq (.seq (.block 1 (of [
 mv 14 0,
 mv 15 2,
 mv 16 0,
 mv 17 3,
 mv 18 0,
 mv 19 3,
 ia 20 1 18 19,
 li 21 20,
 mv 22 0,
 mv 23 2,
 ia 24 1 22 23,
 li 25 24,
 ia 26 1 14 15,
 u (.store 1 (t 26) (t 21)),
 ia 27 1 16 17,
 u (.store 1 (t 27) (t 25))])) k82x8) k82x7
def k82x2:=sq (.seq (of [
 mv 7 2,
 mv 8 3,
 bt 9 .lss 7 8]) k82x4) k82x3
def k82x1:=AC.mask 0
def k82x0:=sq (.block 0 (.loop 13 0 k82x2)) k82x1
end
noncomputable section
def c82 : AFn := ⟨28, [],
 .seq (of [
 mv 4 0,
 ln 5 4,
 bc 6 .sub 5 1,
 o 2 (.move (c 0)),
 mv 3 6]) k82x0⟩
theorem cf82 : cFn Try.prog 82 = some c82 := by kernel_rfl
end
noncomputable section
def k21x2:=AC.ret
def k21x1:=sq (.mask 4) k21x2
def k21x0:=sq (ot [
 mv 3 0,
 bc 4 .eql 3 101,
 mv 5 4,
 f 6 5 (.move (t 0)),
 f 7 5 (.bin .other .eql (t 6) (c 102)),
 o 8 (.pick (t 5) (.c (.bool true)) (t 7)),
 mv 2 8]) k21x1
end
noncomputable section
def c21 : AFn := ⟨9, [.tmp 2],
 .seq (of [
 o 2 (.move (.c (.bool false)))]) k21x0⟩
theorem cf21 : cFn Try.prog 21 = some c21 := by kernel_rfl
end
noncomputable section
def k9x6:=AC.ret
def k9x5:=sq (.mask 12) k9x6
def k9x4:=AC.mask 2
def k9x3:=sq (.cond (.tmp 29)
 (.seq (of [
 mv 30 4,
 o 2 (.move (.c (.sl .nil 0))),
 mv 3 30]) k9x5)
  (.skip)) k9x4
def k9x2:=sq (of [
 mv 28 4,
 bc 29 .neq 28 0]) k9x3
def k9x15:=AC.exit 0
def k9x14:=AC.mask 103079215138
def k9x18:=of [
 ls 39 5,
 mv 40 6,
 mv 41 6,
 o 42 (.build [(.int .i64 0), (.int .i64 0), (.int .i64 0), (.bool false)] [(0, 1, (t 41)), (1, 1, (c (-1)))]),
 ia 43 4 39 40,
 u (.store 4 (t 43) (t 42))]
def k9x17:=AC.mask 103079215138
def k9x16:=of [
 bc 44 .add 36 1,
 mv 36 44]
def k9x13:=sq (.seq (.block 1 (.seq (of [
 mv 38 36,
 mv 6 38]) k9x18)) k9x17) k9x16
def k9x12:=sq (.seq (.cond (.tmp 37)
 (.skip)
 (.seq (.mask 34) k9x15)) k9x14) k9x13
def k9x11:=sq (of [
 bt 37 .lss 36 35]) k9x12
def k9x10:=AC.mask 34
def k9x9:=sq (.block 0 (.loop 103079215138 34 k9x11)) k9x10
def k9x29:=AC.exit 2
def k9x28:=AC.mask 63050394783189922
def k9x40:=AC.exit 4
def k9x39:=AC.mask 64626654652766632866
def k9x45:=AC.join 64626654652766632866
def k9x44:=sq (.cond (.tmp 70)
 (of [
 mv 71 7,
 mv 72 14,
 mv 73 11,
 o 74 (.callV (t 71) [(t 72), (t 73)] [] .opq)])
  (.skip)) k9x45
def k9x43:=sq (of [
 mv 70 15]) k9x44
def k9x42:=AC.mask 64626654652766632866
def k9x41:=of [
 bc 75 .add 65 1,
 mv 65 75]
def k9x38:=sq (.seq (.block 5 (.seq (of [
 mv 67 65,
 ia 68 1 63 65,
 lb 69 68,
 mv 14 67,
 mv 15 69]) k9x43)) k9x42) k9x41
def k9x37:=sq (.seq (.cond (.tmp 66)
 (.skip)
 (.seq (.mask 63050394783202210) k9x40)) k9x39) k9x38
def k9x36:=sq (of [
 bt 66 .lss 65 64]) k9x37
def k9x35:=AC.mask 63050394783202210
def k9x34:=sq (.block 4 (.loop 64626654652766632866 63050394783202210 k9x36)) k9x35
def k9x54:=AC.exit 6
def k9x53:=AC.mask 1057810155213195311070114
def k9x65:=AC.exit 8
def k9x64:=AC.mask 136457501952051662878292898
def k9x68:=of [
 mv 90 7,
 mv 91 19,
 mv 92 11,
 o 93 (.callV (t 90) [(t 91), (t 92)] [] .opq)]
def k9x67:=AC.mask 136457501952051662878292898
def k9x66:=of [
 bc 94 .add 86 1,
 mv 86 94]
def k9x63:=sq (.seq (.block 9 (.seq (of [
 ia 88 1 84 86,
 li 89 88,
 mv 19 89]) k9x68)) k9x67) k9x66
def k9x62:=sq (.seq (.cond (.tmp 87)
 (.skip)
 (.seq (.mask 1057810155213195311201186) k9x65)) k9x64) k9x63
def k9x61:=sq (of [
 bt 87 .lss 86 85]) k9x62
def k9x60:=AC.mask 1057810155213195311201186
def k9x59:=sq (.block 8 (.loop 136457501952051662878292898 1057810155213195311201186 k9x61)) k9x60
def k9x69:=of [
 mv 101 11,
 bc 102 .add 101 2,
 mv 11 102]
def k9x58:=sq (of [
 mv 95 7,
 o 96 (.load (.agg [(.int .i64), (.int .i64), (.int .i64), (.int .i64), (.int .i64), .sl]) (t 17)),
 o 97 (.call 30 [(t 96)] [I] (.int .i64 0)),
 mv 98 11,
 bc 99 .add 98 1,
 o 100 (.callV (t 95) [(t 97), (t 99)] [] .opq)]) k9x69
def k9x57:=sq (.seq (of [
 o 83 (.load (.agg [(.int .i64), (.int .i64), (.int .i64), (.int .i64), (.int .i64), .sl]) (t 17)),
 o 84 (.call 29 [(t 83)] [(.cell .sl)] (.sl .nil 0)),
 ln 85 84,
 o 86 (.move (c 0))]) k9x59) k9x58
def k9x56:=AC.mask 1057810155213195311070114
def k9x55:=of [
 bc 103 .add 79 1,
 mv 79 103]
def k9x52:=sq (.seq (.block 7 (.seq (of [
 ia 81 6 77 79,
 o 82 (.load (.agg [(.int .i64), (.int .i64), (.int .i64), (.int .i64), (.int .i64), .sl]) (t 81)),
 o 17 (.allocL [(.int .i64 0), (.int .i64 0), (.int .i64 0), (.int .i64 0), (.int .i64 0), (.sl .nil 0)]),
 u (.store 6 (t 17) (t 82))]) k9x57)) k9x56) k9x55
def k9x51:=sq (.seq (.cond (.tmp 80)
 (.skip)
 (.seq (.mask 63050394783202210) k9x54)) k9x53) k9x52
def k9x50:=sq (of [
 bt 80 .lss 79 78]) k9x51
def k9x49:=AC.mask 63050394783202210
def k9x48:=sq (.block 6 (.loop 1057810155213195311070114 63050394783202210 k9x50)) k9x49
def k9x77:=AC.exit 10
def k9x76:=AC.mask 567907468902246834920917819202466
def k9x80:=of [
 mv 112 7,
 mv 113 21,
 mv 114 11,
 o 115 (.callV (t 112) [(t 113), (t 114)] [] .opq)]
def k9x79:=AC.mask 567907468902246834920917819202466
def k9x78:=of [
 bc 116 .add 108 1,
 mv 108 116]
def k9x75:=sq (.seq (.block 11 (.seq (of [
 ia 110 1 106 108,
 li 111 110,
 mv 21 111]) k9x80)) k9x79) k9x78
def k9x74:=sq (.seq (.cond (.tmp 109)
 (.skip)
 (.seq (.mask 63050394783194018) k9x77)) k9x76) k9x75
def k9x73:=sq (of [
 bt 109 .lss 108 107]) k9x74
def k9x72:=AC.mask 63050394783194018
def k9x71:=sq (.block 10 (.loop 567907468902246834920917819202466 63050394783194018 k9x73)) k9x72
def k9x88:=AC.exit 12
def k9x87:=AC.mask 9304595970494411110389699816745601954
def k9x93:=AC.join 9304595970494411110389699816745601954
def k9x92:=sq (.cond (.tmp 127)
 (of [
 mv 128 7,
 mv 129 22,
 mv 130 11,
 bc 131 .add 130 1,
 o 132 (.callV (t 128) [(t 129), (t 131)] [] .opq)])
  (.skip)) k9x93
def k9x91:=sq (of [
 mv 127 23]) k9x92
def k9x90:=AC.mask 9304595970494411110389699816745601954
def k9x89:=of [
 bc 133 .add 122 1,
 mv 122 133]
def k9x86:=sq (.seq (.block 13 (.seq (of [
 mv 124 122,
 ia 125 1 120 122,
 lb 126 125,
 mv 22 124,
 mv 23 126]) k9x91)) k9x90) k9x89
def k9x85:=sq (.seq (.cond (.tmp 123)
 (.skip)
 (.seq (.mask 63050394783189922) k9x88)) k9x87) k9x86
def k9x84:=sq (of [
 bt 123 .lss 122 121]) k9x85
def k9x83:=AC.mask 63050394783189922
def k9x82:=sq (.block 12 (.loop 9304595970494411110389699816745601954 63050394783189922 k9x84)) k9x83
def k9x81:=of [
 mv 134 11,
 bc 135 .add 134 2,
 mv 11 135]
def k9x70:=sq (.seq (of [
 mv 117 9,
 mv 118 12,
 ia 119 1 117 118,
 ls 120 119,
 ln 121 120,
 o 122 (.move (c 0))]) k9x82) k9x81
def k9x47:=sq (.seq (of [
 fa 104 1 13,
 o 105 (.load (.agg [(.int .i64), (.int .i64), (.int .i64), (.int .i64), (.int .i64), .sl]) (t 104)),
 o 106 (.call 31 [(t 105)] [(.cell .sl)] (.sl .nil 0)),
 ln 107 106,
 o 108 (.move (c 0))]) k9x71) k9x70
def k9x33:=sq (.seq (of [
 fa 76 0 13,
 ls 77 76,
 ln 78 77,
 o 79 (.move (c 0))]) k9x48) k9x47
def k9x32:=sq (.seq (of [
 mv 60 8,
 mv 61 12,
 ia 62 1 60 61,
 ls 63 62,
 ln 64 63,
 o 65 (.move (c 0))]) k9x34) k9x33
def k9x31:=AC.mask 63050394783189922
def k9x30:=of [
 bc 136 .add 55 1,
 mv 55 136]
def k9x27:=sq (.seq (.block 3 (.seq (of [
 mv 57 55,
 ia 58 7 53 55,
 o 59 (.load (.agg [.sl, (.int .i64), (.int .i64), (.int .i64), (.int .i64), (.int .i64), .sl]) (t 58)),
 o 13 (.allocL [(.sl .nil 0), (.int .i64 0), (.int .i64 0), (.int .i64 0), (.int .i64 0), (.int .i64 0), (.sl .nil 0)]),
 mv 12 57,
 u (.store 7 (t 13) (t 59))]) k9x32)) k9x31) k9x30
def k9x26:=sq (.seq (.cond (.tmp 56)
 (.skip)
 (.seq (.mask 162) k9x29)) k9x28) k9x27
def k9x25:=sq (of [
 bt 56 .lss 55 54]) k9x26
def k9x24:=AC.mask 162
def k9x23:=sq (.block 2 (.loop 63050394783189922 162 k9x25)) k9x24
def k9x102:=AC.exit 14
def k9x101:=AC.mask 2439144006089286906105469186070914539716770
def k9x105:=of [
 mv 144 7,
 mv 145 25,
 o 146 (.callV (t 144) [(t 145), (c 0)] [] .opq)]
def k9x104:=AC.mask 2439144006089286906105469186070914539716770
def k9x103:=of [
 bc 147 .add 140 1,
 mv 140 147]
def k9x100:=sq (.seq (.block 15 (.seq (of [
 ia 142 1 138 140,
 li 143 142,
 mv 25 143]) k9x105)) k9x104) k9x103
def k9x99:=sq (.seq (.cond (.tmp 141)
 (.skip)
 (.seq (.mask 34) k9x102)) k9x101) k9x100
def k9x98:=sq (of [
 bt 141 .lss 140 139]) k9x99
def k9x97:=AC.mask 34
def k9x96:=sq (.block 14 (.loop 2439144006089286906105469186070914539716770 34 k9x98)) k9x97
def k9x107:=AC.ret
def k9x106:=sq (.mask 12) k9x107
def k9x95:=sq (of [
 o 148 (.load (.agg [(.int .i64), .sl, (.int .i64), .sl]) (t 1)),
 ls 149 5,
 o 150 (.call 32 [(t 148), (t 149)] [(.cell .sl)] (.sl .nil 0)),
 mv 2 150,
 o 3 (.move (c 0))]) k9x106
def k9x22:=sq (.seq (of [
 fa 137 1 1,
 ls 138 137,
 ln 139 138,
 o 140 (.move (c 0))]) k9x96) k9x95
def k9x21:=sq (.seq (of [
 fa 52 3 1,
 ls 53 52,
 ln 54 53,
 o 55 (.move (c 0))]) k9x23) k9x22
def k9x20:=sq (of [
 o 11 (.move (c 0))]) k9x21
def k9x19:=sq (of [
 o 47 (.load (.agg [(.int .i64), .sl, (.int .i64), .sl]) (t 1)),
 o 48 (.call 28 [(t 47)] [(.cell .sl), (.cell .sl), I] .opq),
 mv 46 48,
 o 49 (.extract (t 46) 0),
 o 50 (.extract (t 46) 1),
 o 51 (.extract (t 46) 2),
 mv 8 49,
 mv 9 50,
 mv 10 51]) k9x20
def k9x8:=sq (of [
 o 45 (.makeFn 27 [] [(t 5)]),
 mv 7 45]) k9x19
def k9x7:=sq (.seq (of [
 ls 34 5,
 ln 35 34,
 o 36 (.move (c 0))]) k9x9) k9x8
def k9x1:=sq (of [
 fa 31 2 1,
 li 32 31,
 o 33 (.makeSl [(.int .i64 0), (.int .i64 0), (.int .i64 0), (.bool false)] 32 (t 32) (t 32)),
 o 5 (.allocH [(.sl .nil 0)]),
 u (.store 1 (t 5) (t 33))]) k9x7
def k9x0:=sq (.seq (of [
 o 26 (.load (.agg [(.int .i64), .sl, (.int .i64), .sl]) (t 1)),
 o 27 (.call 26 [(t 26)] [I] (.int .i64 0)),
 mv 4 27]) k9x2) k9x1
end
noncomputable section
def c9 : AFn := ⟨151, [.tmp 2, .tmp 3],
 .seq (of [
 o 1 (.boxL (t 0)),
 o 2 (.move (.c (.sl .nil 0))),
 o 3 (.move (c 0))]) k9x0⟩
theorem cf9 : cFn Try.prog 9 = some c9 := by kernel_rfl
end
noncomputable section
def k27x3:=AC.join 34
def k27x2:=sq (.cond (.tmp 13)
 (of [
 mv 14 5,
 mv 15 5,
 mv 16 1,
 mv 17 1,
 nc 18 14,
 fa 19 1 18,
 u (.store 1 (t 19) (t 16)),
 nc 20 15,
 fa 21 2 20,
 u (.store 1 (t 21) (t 17))])
  (.skip)) k27x3
def k27x1:=of [
 mv 22 5,
 mv 23 5,
 mv 24 5,
 nc 25 24,
 fa 26 1 25,
 li 27 26,
 mv 28 1,
 o 29 (.mm false [(t 27), (t 28)]),
 mv 30 5,
 nc 31 30,
 fa 32 2 31,
 li 33 32,
 mv 34 1,
 o 35 (.mm true [(t 33), (t 34)]),
 nc 36 22,
 fa 37 1 36,
 u (.store 1 (t 37) (t 29)),
 nc 38 23,
 fa 39 2 38,
 u (.store 1 (t 39) (t 35))]
def k27x0:=sq (.seq (of [
 mv 9 5,
 nc 10 9,
 fa 11 1 10,
 li 12 11,
 bc 13 .lss 12 0]) k27x2) k27x1
end
noncomputable section
def c27 : AFn := ⟨40, [],
 .seq (of [
 ls 6 2,
 mv 7 0,
 ia 8 4 6 7,
 mv 5 8]) k27x0⟩
theorem cf27 : cFn Try.prog 27 = some c27 := by kernel_rfl
end
noncomputable section
def k32x9:=AC.exit 0
def k32x8:=AC.mask 57378
def k32x20:=AC.exit 2
def k32x19:=AC.mask 7397410
def k32x33:=AC.exit 4
def k32x32:=AC.mask 3228622882
def k32x38:=AC.join 3228622882
def k32x37:=sq (.cond (.tmp 57)
 (of [
 mv 58 1,
 mv 59 10,
 ia 60 4 58 59,
 fa 61 3 60,
 u (.store 1 (t 61) (.c (.bool true)))])
  (.skip)) k32x38
def k32x36:=sq (ot [
 mv 34 1,
 mv 35 10,
 ia 36 4 34 35,
 fa 37 1 36,
 li 38 37,
 bc 39 .geq 38 0,
 mv 40 39,
 g 41 40 (.move (t 1)),
 g 42 40 (.move (t 10)),
 g 43 40 (.indexAddr 4 (t 41) (t 42)),
 g 44 40 (.fieldAddr 1 (t 43)),
 g 45 40 (.load I (t 44)),
 g 46 40 (.move (t 5)),
 g 47 40 (.bin .other .leq (t 45) (t 46)),
 o 48 (.pick (t 40) (t 47) (.c (.bool false))),
 mv 49 48,
 g 50 49 (.move (t 1)),
 g 51 49 (.move (t 10)),
 g 52 49 (.indexAddr 4 (t 50) (t 51)),
 g 53 49 (.fieldAddr 2 (t 52)),
 g 54 49 (.load I (t 53)),
 g 55 49 (.move (t 5)),
 g 56 49 (.bin .other .gtr (t 54) (t 55)),
 o 57 (.pick (t 49) (t 56) (.c (.bool false)))]) k32x37
def k32x35:=AC.mask 3228622882
def k32x34:=of [
 bc 62 .add 31 1,
 mv 31 62]
def k32x31:=sq (.seq (.block 5 (.seq (of [
 mv 33 31,
 mv 10 33]) k32x36)) k32x35) k32x34
def k32x30:=sq (.seq (.cond (.tmp 32)
 (.skip)
 (.seq (.mask 7397410) k32x33)) k32x32) k32x31
def k32x29:=sq (of [
 bt 32 .lss 31 30]) k32x30
def k32x28:=AC.mask 7397410
def k32x27:=sq (.block 4 (.loop 3228622882 7397410 k32x29)) k32x28
def k32x26:=AC.join 7397410
def k32x25:=sq (.cond (.tmp 28)
 (.seq (of [
 mv 29 1,
 ln 30 29,
 o 31 (.move (c 0))]) k32x27)
  (.skip)) k32x26
def k32x24:=of [
 mv 63 5,
 bc 64 .add 63 2,
 mv 5 64]
def k32x23:=sq (.seq (of [
 fa 26 0 9,
 li 27 26,
 o 28 (.call 21 [(t 27)] [(.cell .bool)] (.bool false))]) k32x25) k32x24
def k32x22:=AC.mask 7397410
def k32x21:=of [
 bc 65 .add 22 1,
 mv 22 65]
def k32x18:=sq (.seq (.block 3 (.seq (of [
 ia 24 6 20 22,
 o 25 (.load (.agg [(.int .i64), (.int .i64), (.int .i64), (.int .i64), (.int .i64), .sl]) (t 24)),
 o 9 (.allocL [(.int .i64 0), (.int .i64 0), (.int .i64 0), (.int .i64 0), (.int .i64 0), (.sl .nil 0)]),
 u (.store 6 (t 9) (t 25))]) k32x23)) k32x22) k32x21
def k32x17:=sq (.seq (.cond (.tmp 23)
 (.skip)
 (.seq (.mask 57378) k32x20)) k32x19) k32x18
def k32x16:=sq (of [
 bt 23 .lss 22 21]) k32x17
def k32x15:=AC.mask 57378
def k32x14:=sq (.block 2 (.loop 7397410 57378 k32x16)) k32x15
def k32x13:=of [
 mv 66 5,
 bc 67 .add 66 2,
 mv 5 67]
def k32x12:=sq (.seq (of [
 fa 19 0 7,
 ls 20 19,
 ln 21 20,
 o 22 (.move (c 0))]) k32x14) k32x13
def k32x11:=AC.mask 57378
def k32x10:=of [
 bc 68 .add 15 1,
 mv 15 68]
def k32x7:=sq (.seq (.block 1 (.seq (of [
 ia 17 7 13 15,
 o 18 (.load (.agg [.sl, (.int .i64), (.int .i64), (.int .i64), (.int .i64), (.int .i64), .sl]) (t 17)),
 o 7 (.allocL [(.sl .nil 0), (.int .i64 0), (.int .i64 0), (.int .i64 0), (.int .i64 0), (.int .i64 0), (.sl .nil 0)]),
 u (.store 7 (t 7) (t 18))]) k32x12)) k32x11) k32x10
def k32x6:=sq (.seq (.cond (.tmp 16)
 (.skip)
 (.seq (.mask 2) k32x9)) k32x8) k32x7
def k32x5:=sq (of [
 bt 16 .lss 15 14]) k32x6
def k32x4:=AC.mask 2
def k32x3:=sq (.block 0 (.loop 57378 2 k32x5)) k32x4
def k32x44:=AC.ret
def k32x43:=sq (.mask 16) k32x44
def k32x42:=sq (of [
 mv 73 11,
 mv 4 73]) k32x43
def k32x41:=sq (of [
 mv 71 11,
 o 72 (.call 67 [(t 71), (.c (.fn 68 [] []))] [] .opq)]) k32x42
def k32x2:=sq (of [
 mv 69 1,
 o 70 (.call 34 [(t 69), (.c (.fn 66 [] []))] [(.cell .sl)] (.sl .nil 0)),
 mv 11 70]) k32x41
def k32x1:=sq (.seq (of [
 fa 12 3 2,
 ls 13 12,
 ln 14 13,
 o 15 (.move (c 0))]) k32x3) k32x2
def k32x0:=sq (of [
 o 5 (.move (c 0))]) k32x1
end
noncomputable section
def c32 : AFn := ⟨74, [.tmp 4],
 .seq (of [
 o 2 (.boxL (t 0)),
 o 4 (.move (.c (.sl .nil 0)))]) k32x0⟩
theorem cf32 : cFn Try.prog 32 = some c32 := by kernel_rfl
end
noncomputable section
def k66x2:=AC.ret
def k66x1:=sq (.mask 4) k66x2
def k66x0:=sq (ot [
 fa 3 1 1,
 li 4 3,
 bc 5 .lss 4 0,
 mv 6 5,
 f 7 6 (.fieldAddr 0 (t 1)),
 f 8 6 (.load I (t 7)),
 f 9 6 (.bin .other .eql (t 8) (c 0)),
 o 10 (.pick (t 6) (.c (.bool true)) (t 9)),
 mv 2 10]) k66x1
end
noncomputable section
def c66 : AFn := ⟨11, [.tmp 2],
 .seq (of [
 o 1 (.boxL (t 0)),
 o 2 (.move (.c (.bool false)))]) k66x0⟩
theorem cf66 : cFn Try.prog 66 = some c66 := by kernel_rfl
end
noncomputable section
def c67 : AFn := ⟨9, [],
 of [
 mv 4 0,
 mv 5 0,
 ln 6 5,
 mv 7 1,
 o 8 (.call 92 [(t 4), (t 6), (t 7)] [] .opq)]⟩
theorem cf67 : cFn Try.prog 67 = some c67 := by kernel_rfl
end
noncomputable section
def k68x2:=AC.ret
def k68x1:=sq (.mask 16) k68x2
def k68x0:=sq (of [
 fa 5 1 2,
 li 6 5,
 fa 7 1 3,
 li 8 7,
 o 9 (.call 69 [(t 6), (t 8)] [I] (.int .i64 0)),
 mv 4 9]) k68x1
end
noncomputable section
def c68 : AFn := ⟨10, [.tmp 4],
 .seq (of [
 o 2 (.boxL (t 0)),
 o 3 (.boxL (t 1)),
 o 4 (.move (c 0))]) k68x0⟩
theorem cf68 : cFn Try.prog 68 = some c68 := by kernel_rfl
end
noncomputable section
def k92x8:=AC.exit 0
def k92x7:=AC.mask 455
def k92x6:=sq (.cond (.tmp 13)
 (.skip)
 (.seq (.mask 199) k92x8)) k92x7
def k92x11:=of [
 mv 20 8,
 mv 21 6,
 bt 22 .add 20 21,
 mv 8 22]
def k92x10:=sq (of [
 mv 19 8,
 mv 7 19]) k92x11
def k92x9:=AC.mask 455
def k92x5:=sq (.block 1 (.seq (of [
 mv 14 0,
 mv 15 7,
 mv 16 8,
 mv 17 2,
 o 18 (.call 97 [(t 14), (t 15), (t 16), (t 17)] [] .opq)]) k92x10)) k92x9
def k92x4:=sq (.seq (of [
 mv 11 8,
 mv 12 1,
 bt 13 .leq 11 12]) k92x6) k92x5
def k92x3:=AC.mask 199
def k92x18:=AC.exit 2
def k92x17:=AC.mask 71
def k92x16:=sq (.cond (.tmp 30)
 (.skip)
 (.seq (.mask 0) k92x18)) k92x17
def k92x27:=AC.exit 4
def k92x26:=AC.mask 455
def k92x25:=sq (.cond (.tmp 35)
 (.skip)
 (.seq (.mask 199) k92x27)) k92x26
def k92x30:=of [
 mv 45 8,
 mv 46 6,
 o 47 (.bin .other .mul (c 2) (t 46)),
 bt 48 .add 45 47,
 mv 8 48]
def k92x29:=sq (of [
 mv 44 8,
 mv 7 44]) k92x30
def k92x28:=AC.mask 455
def k92x24:=sq (.block 5 (.seq (of [
 mv 36 0,
 mv 37 7,
 mv 38 7,
 mv 39 6,
 bt 40 .add 38 39,
 mv 41 8,
 mv 42 2,
 o 43 (.call 98 [(t 36), (t 37), (t 40), (t 41), (t 42)] [] .opq)]) k92x29)) k92x28
def k92x23:=sq (.seq (of [
 mv 33 8,
 mv 34 1,
 bt 35 .leq 33 34]) k92x25) k92x24
def k92x22:=AC.mask 199
def k92x34:=AC.join 71
def k92x33:=sq (.cond (.tmp 54)
 (of [
 mv 55 0,
 mv 56 7,
 mv 57 9,
 mv 58 1,
 mv 59 2,
 o 60 (.call 98 [(t 55), (t 56), (t 57), (t 58), (t 59)] [] .opq)])
  (.skip)) k92x34
def k92x32:=sq (of [
 mv 52 9,
 mv 53 1,
 bt 54 .lss 52 53]) k92x33
def k92x31:=of [
 mv 61 6,
 bc 62 .mul 61 2,
 mv 6 62]
def k92x21:=sq (.seq (of [
 mv 49 7,
 mv 50 6,
 bt 51 .add 49 50,
 mv 9 51]) k92x32) k92x31
def k92x20:=sq (.seq (.block 4 (.loop 455 199 k92x23)) k92x22) k92x21
def k92x19:=AC.mask 71
def k92x15:=sq (.block 3 (.seq (of [
 mv 31 6,
 o 32 (.bin .other .mul (c 2) (t 31)),
 o 7 (.move (c 0)),
 mv 8 32]) k92x20)) k92x19
def k92x14:=sq (.seq (of [
 mv 28 6,
 mv 29 1,
 bt 30 .lss 28 29]) k92x16) k92x15
def k92x13:=AC.mask 0
def k92x12:=sq (.block 2 (.loop 71 0 k92x14)) k92x13
def k92x2:=sq (of [
 mv 23 0,
 mv 24 7,
 mv 25 1,
 mv 26 2,
 o 27 (.call 97 [(t 23), (t 24), (t 25), (t 26)] [] .opq)]) k92x12
def k92x1:=sq (.seq (.block 0 (.loop 455 199 k92x4)) k92x3) k92x2
def k92x0:=sq (of [
 mv 10 6,
 o 7 (.move (c 0)),
 mv 8 10]) k92x1
end
noncomputable section
def c92 : AFn := ⟨63, [],
 .seq (of [
 o 6 (.move (c 20))]) k92x0⟩
theorem cf92 : cFn Try.prog 92 = some c92 := by kernel_rfl
end
noncomputable section
def k97x6:=AC.exit 0
def k97x5:=AC.mask 271
def k97x4:=sq (.cond (.tmp 14)
 (.skip)
 (.seq (.mask 0) k97x6)) k97x5
def k97x15:=AC.exit 2
def k97x14:=AC.mask 783
def k97x13:=sq (.cond (.tmp 34)
 (.skip)
 (.seq (.mask 271) k97x15)) k97x14
def k97x17:=AC.mask 783
def k97x16:=of [
 mv 35 9,
 bc 36 .sub 35 1,
 mv 9 36]
def k97x12:=sq (.seq (.block 3 (of [
 mv 37 0,
 mv 38 9,
 mv 39 0,
 mv 40 9,
 bc 41 .sub 40 1,
 mv 42 0,
 mv 43 9,
 bc 44 .sub 43 1,
 ia 45 4 42 44,
 o 46 (.load (.agg [(.int .i64), (.int .i64), (.int .i64), .bool]) (t 45)),
 mv 47 0,
 mv 48 9,
 ia 49 4 47 48,
 o 50 (.load (.agg [(.int .i64), (.int .i64), (.int .i64), .bool]) (t 49)),
 ia 51 4 37 38,
 u (.store 4 (t 51) (t 46)),
 ia 52 4 39 41,
 u (.store 4 (t 52) (t 50))])) k97x17) k97x16
def k97x11:=sq (.seq (ot [
 mv 18 9,
 mv 19 1,
 bt 20 .gtr 18 19,
 mv 21 20,
 g 22 21 (.move (t 3)),
 g 23 21 (.move (t 0)),
 g 24 21 (.move (t 9)),
 g 25 21 (.indexAddr 4 (t 23) (t 24)),
 g 26 21 (.load (.agg [(.int .i64), (.int .i64), (.int .i64), .bool]) (t 25)),
 g 27 21 (.move (t 0)),
 g 28 21 (.move (t 9)),
 g 29 21 (.bin .other .sub (t 28) (c 1)),
 g 30 21 (.indexAddr 4 (t 27) (t 29)),
 g 31 21 (.load (.agg [(.int .i64), (.int .i64), (.int .i64), .bool]) (t 30)),
 g 32 21 (.callV (t 22) [(t 26), (t 31)] [I] (.int .i64 0)),
 g 33 21 (.bin .other .lss (t 32) (c 0)),
 o 34 (.pick (t 21) (t 33) (.c (.bool false)))]) k97x13) k97x12
def k97x10:=AC.mask 271
def k97x9:=sq (.block 2 (.loop 783 271 k97x11)) k97x10
def k97x8:=AC.mask 271
def k97x7:=of [
 mv 15 8,
 bc 16 .add 15 1,
 mv 8 16]
def k97x3:=sq (.seq (.block 1 (.seq (of [
 mv 17 8,
 mv 9 17]) k97x9)) k97x8) k97x7
def k97x2:=sq (.seq (of [
 mv 12 8,
 mv 13 2,
 bt 14 .lss 12 13]) k97x4) k97x3
def k97x1:=AC.mask 0
def k97x0:=sq (.block 0 (.loop 271 0 k97x2)) k97x1
end
noncomputable section
def c97 : AFn := ⟨53, [],
 .seq (of [
 mv 10 1,
 bc 11 .add 10 1,
 mv 8 11]) k97x0⟩
theorem cf97 : cFn Try.prog 97 = some c97 := by kernel_rfl
end
noncomputable section
def k34x6:=AC.ret
def k34x5:=sq (.mask 16) k34x6
def k34x4:=AC.mask 35
def k34x3:=sq (.cond (.tmp 12)
 (.seq (of [
 mv 13 0,
 mv 4 13]) k34x5)
  (.skip)) k34x4
def k34x14:=AC.exit 0
def k34x13:=AC.mask 99
def k34x12:=sq (.cond (.tmp 19)
 (.skip)
 (.seq (.mask 33) k34x14)) k34x13
def k34x20:=of [
 mv 34 5,
 bc 35 .add 34 1,
 mv 5 35]
def k34x19:=AC.join 99
def k34x18:=sq (.cond (.tmp 29)
 (.seq (of [
 mv 30 0,
 mv 31 5,
 o 32 (.load (.agg [(.int .i64), (.int .i64), (.int .i64), .bool]) (t 7)),
 ia 33 4 30 31,
 u (.store 4 (t 33) (t 32))]) k34x20)
  (.skip)) k34x19
def k34x17:=sq (of [
 mv 26 1,
 o 27 (.load (.agg [(.int .i64), (.int .i64), (.int .i64), .bool]) (t 7)),
 o 28 (.callV (t 26) [(t 27)] [(.cell .bool)] (.bool false)),
 o 29 (.un .not (t 28))]) k34x18
def k34x16:=AC.mask 99
def k34x15:=of [
 mv 20 6,
 bc 21 .add 20 1,
 mv 6 21]
def k34x11:=sq (.seq (.block 1 (.seq (of [
 mv 22 0,
 mv 23 6,
 ia 24 4 22 23,
 o 25 (.load (.agg [(.int .i64), (.int .i64), (.int .i64), .bool]) (t 24)),
 o 7 (.allocL [(.int .i64 0), (.int .i64 0), (.int .i64 0), (.bool false)]),
 u (.store 4 (t 7) (t 25))]) k34x17)) k34x16) k34x15
def k34x10:=sq (.seq (of [
 mv 16 6,
 mv 17 0,
 ln 18 17,
 bt 19 .lss 16 18]) k34x12) k34x11
def k34x9:=AC.mask 33
def k34x8:=sq (.block 0 (.loop 99 33 k34x10)) k34x9
def k34x24:=AC.ret
def k34x23:=sq (.mask 16) k34x24
def k34x22:=sq (of [
 mv 39 0,
 mv 40 5,
 o 41 (.slice 4 (t 39) none (some (t 40))),
 mv 4 41]) k34x23
def k34x7:=sq (of [
 mv 36 0,
 mv 37 5,
 o 38 (.slice 4 (t 36) (some (t 37)) none),
 u (.clear [(.int .i64 0), (.int .i64 0), (.int .i64 0), (.bool false)] (t 38))]) k34x22
def k34x2:=sq (.seq (of [
 mv 14 5,
 bc 15 .add 14 1,
 mv 6 15]) k34x8) k34x7
def k34x1:=sq (.seq (of [
 mv 11 5,
 bc 12 .eql 11 (-1)]) k34x3) k34x2
def k34x0:=sq (of [
 mv 8 0,
 mv 9 1,
 o 10 (.call 70 [(t 8), (t 9)] [I] (.int .i64 0)),
 mv 5 10]) k34x1
end
noncomputable section
def c34 : AFn := ⟨42, [.tmp 4],
 .seq (of [
 o 4 (.move (.c (.sl .nil 0)))]) k34x0⟩
theorem cf34 : cFn Try.prog 34 = some c34 := by kernel_rfl
end
noncomputable section
def k70x8:=AC.exit 0
def k70x7:=AC.mask 387
def k70x15:=AC.ret
def k70x14:=sq (.mask 16) k70x15
def k70x13:=AC.mask 387
def k70x12:=sq (.cond (.tmp 16)
 (.seq (of [
 mv 17 5,
 mv 4 17]) k70x14)
  (.skip)) k70x13
def k70x11:=sq (of [
 mv 11 1,
 mv 12 0,
 mv 13 5,
 ia 14 4 12 13,
 o 15 (.load (.agg [(.int .i64), (.int .i64), (.int .i64), .bool]) (t 14)),
 o 16 (.callV (t 11) [(t 15)] [(.cell .bool)] (.bool false))]) k70x12
def k70x10:=AC.mask 387
def k70x9:=of [
 bc 18 .add 8 1,
 mv 8 18]
def k70x6:=sq (.seq (.block 1 (.seq (of [
 mv 10 8,
 mv 5 10]) k70x11)) k70x10) k70x9
def k70x5:=sq (.seq (.cond (.tmp 9)
 (.skip)
 (.seq (.mask 0) k70x8)) k70x7) k70x6
def k70x4:=sq (of [
 bt 9 .lss 8 7]) k70x5
def k70x3:=AC.mask 0
def k70x2:=sq (.block 0 (.loop 387 0 k70x4)) k70x3
def k70x17:=AC.ret
def k70x16:=sq (.mask 16) k70x17
def k70x1:=sq (of [
 o 4 (.move (c (-1)))]) k70x16
def k70x0:=sq (.seq (of [
 mv 6 0,
 ln 7 6,
 o 8 (.move (c 0))]) k70x2) k70x1
end
noncomputable section
def c70 : AFn := ⟨19, [.tmp 4],
 .seq (of [
 o 4 (.move (c 0))]) k70x0⟩
theorem cf70 : cFn Try.prog 70 = some c70 := by kernel_rfl
end
noncomputable section
def k71x8:=AC.exit 0
def k71x7:=AC.mask 387
def k71x15:=AC.ret
def k71x14:=sq (.mask 16) k71x15
def k71x13:=AC.mask 387
def k71x12:=sq (.cond (.tmp 16)
 (.seq (of [
 mv 17 5,
 mv 4 17]) k71x14)
  (.skip)) k71x13
def k71x11:=sq (of [
 mv 11 1,
 mv 12 0,
 mv 13 5,
 ia 14 1 12 13,
 li 15 14,
 o 16 (.callV (t 11) [(t 15)] [(.cell .bool)] (.bool false))]) k71x12
def k71x10:=AC.mask 387
def k71x9:=of [
 bc 18 .add 8 1,
 mv 8 18]
def k71x6:=sq (.seq (.block 1 (.seq (of [
 mv 10 8,
 mv 5 10]) k71x11)) k71x10) k71x9
def k71x5:=sq (.seq (.cond (.tmp 9)
 (.skip)
 (.seq (.mask 0) k71x8)) k71x7) k71x6
def k71x4:=sq (of [
 bt 9 .lss 8 7]) k71x5
def k71x3:=AC.mask 0
def k71x2:=sq (.block 0 (.loop 387 0 k71x4)) k71x3
def k71x17:=AC.ret
def k71x16:=sq (.mask 16) k71x17
def k71x1:=sq (of [
 o 4 (.move (c (-1)))]) k71x16
def k71x0:=sq (.seq (of [
 mv 6 0,
 ln 7 6,
 o 8 (.move (c 0))]) k71x2) k71x1
end
noncomputable section
def c71 : AFn := ⟨19, [.tmp 4],
 .seq (of [
 o 4 (.move (c 0))]) k71x0⟩
theorem cf71 : cFn Try.prog 71 = some c71 := by kernel_rfl
end
noncomputable section
def k73x2:=AC.ret
def k73x1:=sq (.mask 16) k73x2
def k73x0:=sq (of [
 mv 5 0,
 mv 6 1,
 o 7 (.call 70 [(t 5), (t 6)] [I] (.int .i64 0)),
 bc 8 .geq 7 0,
 mv 4 8]) k73x1
end
noncomputable section
def c73 : AFn := ⟨9, [.tmp 4],
 .seq (of [
 o 4 (.move (.c (.bool false)))]) k73x0⟩
theorem cf73 : cFn Try.prog 73 = some c73 := by kernel_rfl
end
noncomputable section
def k74x2:=AC.ret
def k74x1:=sq (.mask 16) k74x2
def k74x0:=sq (of [
 o 5 (.load (.cell .ptr) (t 1)),
 nc 6 5,
 fa 7 0 6,
 fa 8 0 7,
 ls 9 8,
 fa 10 0 3,
 li 11 10,
 ia 12 1 9 11,
 li 13 12,
 li 14 2,
 bt 15 .eql 13 14,
 mv 4 15]) k74x1
end
noncomputable section
def c74 : AFn := ⟨16, [.tmp 4],
 .seq (of [
 o 3 (.boxL (t 0)),
 o 4 (.move (.c (.bool false)))]) k74x0⟩
theorem cf74 : cFn Try.prog 74 = some c74 := by kernel_rfl
end
noncomputable section
def k75x2:=AC.ret
def k75x1:=sq (.mask 8) k75x2
def k75x0:=sq (of [
 fa 4 2 2,
 li 5 4,
 fa 6 2 1,
 li 7 6,
 bt 8 .gtr 5 7,
 mv 3 8]) k75x1
end
noncomputable section
def c75 : AFn := ⟨9, [.tmp 3],
 .seq (of [
 o 2 (.boxL (t 0)),
 o 3 (.move (.c (.bool false)))]) k75x0⟩
theorem cf75 : cFn Try.prog 75 = some c75 := by kernel_rfl
end
noncomputable section
def k76x7:=AC.ret
def k76x6:=sq (.mask 64) k76x7
def k76x5:=AC.mask 135
def k76x4:=sq (.cond (.tmp 16)
 (.seq (of [
 mv 17 0,
 mv 6 17]) k76x6)
  (.skip)) k76x5
def k76x13:=AC.ret
def k76x12:=sq (.mask 64) k76x13
def k76x11:=AC.mask 391
def k76x10:=sq (.cond (.tmp 22)
 (.seq (of [
 mv 23 0,
 mv 24 2,
 o 25 (.append [(.int .i64 0), (.int .i64 0), (.int .i64 0), (.bool false)] 4 32 (t 23) (t 24)),
 mv 6 25]) k76x12)
  (.skip)) k76x11
def k76x21:=AC.ret
def k76x20:=sq (.mask 64) k76x21
def k76x19:=sq (of [
 mv 55 9,
 mv 6 55]) k76x20
def k76x18:=sq (of [
 mv 46 9,
 mv 47 1,
 mv 48 7,
 bt 49 .add 47 48,
 o 50 (.slice 4 (t 46) (some (t 49)) none),
 mv 51 0,
 mv 52 1,
 o 53 (.slice 4 (t 51) (some (t 52)) none),
 o 54 (.copy 4 (t 50) (t 53))]) k76x19
def k76x17:=sq (of [
 mv 41 9,
 mv 42 1,
 o 43 (.slice 4 (t 41) (some (t 42)) none),
 mv 44 2,
 o 45 (.copy 4 (t 43) (t 44))]) k76x18
def k76x16:=AC.mask 391
def k76x15:=sq (.cond (.tmp 31)
 (.seq (.bad) k76x17)
 (.skip)) k76x16
def k76x29:=AC.ret
def k76x28:=sq (.mask 64) k76x29
def k76x27:=sq (of [
 mv 83 0,
 mv 6 83]) k76x28
def k76x26:=sq (of [
 mv 78 0,
 mv 79 1,
 o 80 (.slice 4 (t 78) (some (t 79)) none),
 mv 81 2,
 o 82 (.copy 4 (t 80) (t 81))]) k76x27
def k76x25:=AC.mask 391
def k76x24:=sq (.cond (.tmp 68)
 (.seq (of [
 mv 69 0,
 mv 70 1,
 mv 71 7,
 bt 72 .add 70 71,
 o 73 (.slice 4 (t 69) (some (t 72)) none),
 mv 74 0,
 mv 75 1,
 o 76 (.slice 4 (t 74) (some (t 75)) none),
 o 77 (.copy 4 (t 73) (t 76))]) k76x26)
  (.skip)) k76x25
def k76x33:=AC.ret
def k76x32:=sq (.mask 64) k76x33
def k76x31:=sq (of [
 mv 94 0,
 mv 6 94]) k76x32
def k76x30:=sq (of [
 mv 89 0,
 mv 90 1,
 o 91 (.slice 4 (t 89) (some (t 90)) none),
 mv 92 7,
 o 93 (.call 95 [(t 91), (t 92)] [] .opq)]) k76x31
def k76x23:=sq (of [
 mv 84 0,
 mv 85 8,
 o 86 (.slice 4 (t 84) (some (t 85)) none),
 mv 87 2,
 o 88 (.copy 4 (t 86) (t 87))]) k76x30
def k76x22:=sq (.seq (of [
 mv 61 2,
 mv 62 0,
 mv 63 1,
 mv 64 7,
 bt 65 .add 63 64,
 o 66 (.slice 4 (t 62) (some (t 65)) none),
 o 67 (.call 94 [(t 61), (t 66)] [(.cell .bool)] (.bool false)),
 o 68 (.un .not (t 67))]) k76x24) k76x23
def k76x14:=sq (of [
 mv 56 0,
 mv 57 8,
 mv 58 7,
 bt 59 .add 57 58,
 o 60 (.slice 4 (t 56) none (some (t 59))),
 mv 0 60]) k76x22
def k76x9:=sq (.seq (.bad) k76x15) k76x14
def k76x8:=sq (.seq (of [
 mv 20 1,
 mv 21 8,
 bt 22 .eql 20 21]) k76x10) k76x9
def k76x3:=sq (of [
 mv 18 0,
 ln 19 18,
 mv 8 19]) k76x8
def k76x2:=sq (.seq (of [
 mv 15 7,
 bc 16 .eql 15 0]) k76x4) k76x3
def k76x1:=sq (of [
 mv 13 2,
 ln 14 13,
 mv 7 14]) k76x2
def k76x0:=sq (of [
 mv 10 0,
 mv 11 1,
 o 12 (.slice 4 (t 10) (some (t 11)) none)]) k76x1
end
noncomputable section
def c76 : AFn := ⟨95, [.tmp 6],
 .seq (of [
 o 6 (.move (.c (.sl .nil 0)))]) k76x0⟩
theorem cf76 : cFn Try.prog 76 = some c76 := by kernel_rfl
end
noncomputable section
def k12x6:=AC.ret
def k12x5:=sq (.mask 48) k12x6
def k12x4:=AC.mask 86
def k12x3:=sq (.cond (.tmp 21)
 (.seq (of [
 o 22 (.build [(.sl .nil 0), (.sl .nil 0), (.int .i64 0)] []),
 mv 23 7,
 u (.store 3 (t 4) (t 22)),
 mv 5 23]) k12x5)
  (.skip)) k12x4
def k12x11:=AC.ret
def k12x10:=sq (.mask 48) k12x11
def k12x9:=AC.mask 86
def k12x8:=sq (.cond (.tmp 29)
 (.seq (of [
 o 30 (.build [(.sl .nil 0), (.sl .nil 0), (.int .i64 0)] []),
 u (.store 3 (t 4) (t 30)),
 o 5 (.move (c 4))]) k12x10)
  (.skip)) k12x9
def k12x20:=AC.exit 0
def k12x19:=AC.mask 105553116266834
def k12x23:=of [
 mv 49 8,
 nc 50 49,
 fa 51 0 50,
 fa 52 0 51,
 ls 53 52,
 mv 54 9,
 mv 55 8,
 nc 56 55,
 fa 57 0 56,
 fa 58 1 57,
 ls 59 58,
 mv 60 9,
 ia 61 1 53 54,
 u (.store 1 (t 61) (c (-1))),
 ia 62 1 59 60,
 u (.store 1 (t 62) (c (-1)))]
def k12x22:=AC.mask 105553116266834
def k12x21:=of [
 bc 63 .add 46 1,
 mv 46 63]
def k12x18:=sq (.seq (.block 1 (.seq (of [
 mv 48 46,
 mv 9 48]) k12x23)) k12x22) k12x21
def k12x17:=sq (.seq (.cond (.tmp 47)
 (.skip)
 (.seq (.mask 338) k12x20)) k12x19) k12x18
def k12x16:=sq (of [
 bt 47 .lss 46 45]) k12x17
def k12x15:=AC.mask 338
def k12x14:=sq (.block 0 (.loop 105553116266834 338 k12x16)) k12x15
def k12x31:=AC.exit 2
def k12x30:=AC.mask 129127208515966861586
def k12x40:=AC.exit 3
def k12x39:=sq (.mask 129127208515966861586) k12x40
def k12x38:=AC.mask 129127208515966863634
def k12x37:=sq (.cond (.tmp 80)
 (.seq (of [
 mv 81 8,
 o 82 (.load (.agg [(.int .i64), (.int .i64), (.int .i64), .bool]) (t 11)),
 o 83 (.call 36 [(t 81), (t 82)] [] .opq)]) k12x39)
  (.skip)) k12x38
def k12x46:=AC.exit 3
def k12x45:=sq (.mask 129127208515966861586) k12x46
def k12x44:=AC.mask 129127208515966863634
def k12x43:=sq (.cond (.tmp 88)
 (.seq (of [
 mv 89 8,
 o 90 (.load (.agg [(.int .i64), (.int .i64), (.int .i64), .bool]) (t 11)),
 mv 91 12,
 o 92 (.call 38 [(t 89), (t 90), (t 91)] [] .opq)]) k12x45)
  (.skip)) k12x44
def k12x42:=sq (of [
 mv 87 12,
 bc 88 .gtr 87 0]) k12x43
def k12x52:=AC.exit 3
def k12x51:=sq (.mask 129127208515966861586) k12x52
def k12x50:=AC.mask 129127208515966871826
def k12x49:=sq (.cond (.tmp 109)
 (.seq (of [
 mv 110 8,
 o 111 (.load (.agg [(.int .i64), (.int .i64), (.int .i64), .bool]) (t 11)),
 o 112 (.call 36 [(t 110), (t 111)] [] .opq)]) k12x51)
  (.skip)) k12x50
def k12x55:=of [
 mv 139 8,
 o 140 (.load (.agg [(.int .i64), (.int .i64), (.int .i64), .bool]) (t 11)),
 mv 141 14,
 o 142 (.call 38 [(t 139), (t 140), (t 141)] [] .opq)]
def k12x54:=sq (of [
 mv 136 8,
 o 137 (.load (.agg [(.int .i64), (.int .i64), (.int .i64), .bool]) (t 13)),
 o 138 (.call 39 [(t 136), (t 137)] [] .opq)]) k12x55
def k12x53:=sq (of [
 mv 127 8,
 nc 128 127,
 fa 129 0 128,
 fa 130 0 129,
 ls 131 130,
 fa 132 0 13,
 li 133 132,
 ia 134 1 131 133,
 li 135 134,
 mv 14 135]) k12x54
def k12x48:=sq (of [
 mv 113 8,
 mv 114 8,
 nc 115 114,
 fa 116 3 115,
 ls 117 116,
 mv 118 8,
 nc 119 118,
 fa 120 3 119,
 ls 121 120,
 ln 122 121,
 bc 123 .sub 122 1,
 o 124 (.slice 4 (t 117) none (some (t 123))),
 nc 125 113,
 fa 126 3 125,
 u (.store 1 (t 126) (t 124))]) k12x53
def k12x47:=sq (.seq (of [
 fa 105 2 13,
 li 106 105,
 fa 107 2 11,
 li 108 107,
 bt 109 .leq 106 108]) k12x49) k12x48
def k12x41:=sq (of [
 mv 93 8,
 nc 94 93,
 fa 95 3 94,
 ls 96 95,
 mv 97 8,
 nc 98 97,
 fa 99 3 98,
 ls 100 99,
 ln 101 100,
 bc 102 .sub 101 1,
 ia 103 4 96 102,
 o 104 (.load (.agg [(.int .i64), (.int .i64), (.int .i64), .bool]) (t 103)),
 o 13 (.allocL [(.int .i64 0), (.int .i64 0), (.int .i64 0), (.bool false)]),
 u (.store 4 (t 13) (t 104))]) k12x47
def k12x36:=sq (.seq (of [
 mv 84 8,
 mv 85 1,
 o 86 (.call 37 [(t 84), (t 85)] [I] (.int .i64 0)),
 mv 12 86]) k12x42) k12x41
def k12x35:=sq (.seq (of [
 fa 79 3 11,
 lb 80 79]) k12x37) k12x36
def k12x34:=sq (of [
 mv 70 8,
 mv 71 8,
 nc 72 71,
 fa 73 3 72,
 ls 74 73,
 o 75 (.makeFn 35 [] [(t 11)]),
 o 76 (.call 34 [(t 74), (t 75)] [(.cell .sl)] (.sl .nil 0)),
 nc 77 70,
 fa 78 3 77,
 u (.store 1 (t 78) (t 76))]) k12x35
def k12x33:=AC.join 129127208515966861586
def k12x32:=of [
 bc 143 .add 66 1,
 mv 66 143]
def k12x29:=sq (.seq (.block 3 (.seq (of [
 ia 68 4 64 66,
 o 69 (.load (.agg [(.int .i64), (.int .i64), (.int .i64), .bool]) (t 68)),
 o 11 (.allocH [(.int .i64 0), (.int .i64 0), (.int .i64 0), (.bool false)]),
 u (.store 4 (t 11) (t 69))]) k12x34)) k12x33) k12x32
def k12x28:=sq (.seq (.cond (.tmp 67)
 (.skip)
 (.seq (.mask 272) k12x31)) k12x30) k12x29
def k12x27:=sq (of [
 bt 67 .lss 66 65]) k12x28
def k12x26:=AC.mask 272
def k12x25:=sq (.block 2 (.loop 129127208515966861586 272 k12x27)) k12x26
def k12x59:=AC.ret
def k12x58:=sq (.mask 48) k12x59
def k12x57:=sq (of [
 mv 153 8,
 nc 154 153,
 fa 155 0 154,
 o 156 (.load (.agg [.sl, .sl, (.int .i64)]) (t 155)),
 u (.store 3 (t 4) (t 156)),
 o 5 (.move (c 0))]) k12x58
def k12x24:=sq (of [
 mv 144 8,
 mv 145 8,
 nc 146 145,
 fa 147 4 146,
 ls 148 147,
 ln 149 148,
 nc 150 144,
 fa 151 0 150,
 fa 152 2 151,
 u (.store 1 (t 152) (t 149))]) k12x57
def k12x13:=sq (.seq (of [
 mv 64 6,
 ln 65 64,
 o 66 (.move (c 0))]) k12x25) k12x24
def k12x12:=sq (.seq (of [
 mv 40 8,
 nc 41 40,
 fa 42 0 41,
 fa 43 0 42,
 ls 44 43,
 ln 45 44,
 o 46 (.move (c 0))]) k12x14) k12x13
def k12x7:=sq (of [
 fa 31 2 2,
 li 32 31,
 o 33 (.makeSl [(.int .i64 0)] 8 (t 32) (t 32)),
 fa 34 2 2,
 li 35 34,
 o 36 (.makeSl [(.int .i64 0)] 8 (t 35) (t 35)),
 o 37 (.build [(.sl .nil 0), (.sl .nil 0), (.int .i64 0)] [(0, 1, (t 33)), (1, 1, (t 36))]),
 o 38 (.build [(.sl .nil 0), (.sl .nil 0), (.int .i64 0), (.sl .nil 0), (.sl .nil 0)] [(0, 3, (t 37))]),
 o 39 (.boxH (t 38)),
 mv 8 39]) k12x12
def k12x2:=sq (.seq (ot [
 mv 24 1,
 bc 25 .lss 24 1,
 mv 26 25,
 f 27 26 (.move (t 1)),
 f 28 26 (.bin .other .gtr (t 27) (c 10)),
 o 29 (.pick (t 26) (.c (.bool true)) (t 28))]) k12x8) k12x7
def k12x1:=sq (.seq (of [
 mv 20 7,
 bc 21 .neq 20 0]) k12x3) k12x2
def k12x0:=sq (of [
 o 16 (.load (.agg [(.int .i64), .sl, (.int .i64), .sl]) (t 2)),
 o 17 (.call 9 [(t 16)] [(.cell .sl), I] .opq),
 mv 15 17,
 o 18 (.extract (t 15) 0),
 o 19 (.extract (t 15) 1),
 mv 6 18,
 mv 7 19]) k12x1
end
noncomputable section
def c12 : AFn := ⟨157, [.cell 4 (.agg [.sl, .sl, (.int .i64)]), .tmp 5],
 .seq (of [
 o 2 (.boxL (t 0)),
 o 4 (.allocL [(.sl .nil 0), (.sl .nil 0), (.int .i64 0)]),
 o 5 (.move (c 0))]) k12x0⟩
theorem cf12 : cFn Try.prog 12 = some c12 := by kernel_rfl
end
noncomputable section
def k35x2:=AC.ret
def k35x1:=sq (.mask 8) k35x2
def k35x0:=sq (of [
 fa 4 2 2,
 li 5 4,
 fa 6 1 1,
 li 7 6,
 bt 8 .lss 5 7,
 mv 3 8]) k35x1
end
noncomputable section
def c35 : AFn := ⟨9, [.tmp 3],
 .seq (of [
 o 2 (.boxL (t 0)),
 o 3 (.move (.c (.bool false)))]) k35x0⟩
theorem cf35 : cFn Try.prog 35 = some c35 := by kernel_rfl
end
noncomputable section
def k37x8:=AC.exit 0
def k37x7:=AC.mask 38
def k37x6:=sq (.cond (.tmp 8)
 (.skip)
 (.seq (.mask 0) k37x8)) k37x7
def k37x14:=AC.ret
def k37x13:=sq (.mask 16) k37x14
def k37x12:=AC.mask 38
def k37x11:=sq (.cond (.tmp 17)
 (.seq (of [
 li 18 5,
 mv 4 18]) k37x13)
  (.skip)) k37x12
def k37x10:=AC.mask 38
def k37x16:=of [
 o 5 (.allocH [(.int .i64 0)]),
 u (.store 1 (t 5) (t 19))]
def k37x15:=of [
 li 9 5,
 bc 10 .add 9 1,
 u (.store 1 (t 5) (t 10))]
def k37x9:=sq (.seq (of [
 li 19 5]) k37x16) k37x15
def k37x5:=sq (.seq (.block 1 (.seq (of [
 o 11 (.load (.cell .ptr) (t 2)),
 nc 12 11,
 fa 13 3 12,
 ls 14 13,
 o 15 (.makeFn 74 [] [(t 2), (t 5)]),
 o 16 (.call 73 [(t 14), (t 15)] [(.cell .bool)] (.bool false)),
 o 17 (.un .not (t 16))]) k37x11)) k37x10) k37x9
def k37x4:=sq (.seq (of [
 li 6 5,
 mv 7 1,
 bt 8 .leq 6 7]) k37x6) k37x5
def k37x3:=AC.mask 0
def k37x2:=sq (.block 0 (.loop 38 0 k37x4)) k37x3
def k37x18:=AC.ret
def k37x17:=sq (.mask 16) k37x18
def k37x1:=sq (of [
 o 4 (.move (c 0))]) k37x17
def k37x0:=sq (.seq (of [
 o 5 (.allocH [(.int .i64 0)]),
 u (.store 1 (t 5) (c 1))]) k37x2) k37x1
end
noncomputable section
def c37 : AFn := ⟨20, [.tmp 4],
 .seq (of [
 o 2 (.boxH (t 0)),
 o 4 (.move (c 0))]) k37x0⟩
theorem cf37 : cFn Try.prog 37 = some c37 := by kernel_rfl
end
noncomputable section
def k38x5:=AC.join 81
def k38x4:=sq (.cond (.tmp 31)
 (of [
 mv 32 0,
 nc 33 32,
 fa 34 3 33,
 ls 35 34,
 ln 36 35,
 mv 6 36])
  (.skip)) k38x5
def k38x3:=of [
 mv 37 0,
 mv 38 0,
 nc 39 38,
 fa 40 3 39,
 ls 41 40,
 mv 42 6,
 o 43 (.load (.agg [(.int .i64), (.int .i64), (.int .i64), .bool]) (t 4)),
 o 44 (.buildSl [(.int .i64 0), (.int .i64 0), (.int .i64 0), (.bool false)] 4 [(0, (t 43))]),
 o 45 (.call 76 [(t 41), (t 42), (t 44)] [(.cell .sl)] (.sl .nil 0)),
 nc 46 37,
 fa 47 3 46,
 u (.store 1 (t 47) (t 45))]
def k38x2:=sq (.seq (of [
 mv 30 6,
 bc 31 .lss 30 0]) k38x4) k38x3
def k38x1:=sq (of [
 mv 24 0,
 nc 25 24,
 fa 26 3 25,
 ls 27 26,
 o 28 (.makeFn 75 [] [(t 4)]),
 o 29 (.call 70 [(t 27), (t 28)] [I] (.int .i64 0)),
 mv 6 29]) k38x2
def k38x0:=sq (of [
 mv 7 0,
 nc 8 7,
 fa 9 0 8,
 fa 10 0 9,
 ls 11 10,
 fa 12 0 4,
 li 13 12,
 mv 14 0,
 nc 15 14,
 fa 16 0 15,
 fa 17 1 16,
 ls 18 17,
 fa 19 0 4,
 li 20 19,
 mv 21 2,
 ia 22 1 11 13,
  ⟨none, .store 1 (.tmp 22) (.tmp 21), none, [.load 1 19 none]⟩,
 ia 23 1 18 20,
 u (.store 1 (t 23) (c (-1)))]) k38x1
end
noncomputable section
def c38 : AFn := ⟨48, [],
 .seq (of [
 o 4 (.boxH (t 1))]) k38x0⟩
theorem cf38 : cFn Try.prog 38 = some c38 := by kernel_rfl
def code : FuncId → Option AFn
 | 8 => some c8
 | 25 => some c25
 | 26 => some c26
 | 58 => some c58
 | 59 => some c59
 | 60 => some c60
 | 61 => some c61
 | 62 => some c62
 | 63 => some c63
 | 64 => some c64
 | 65 => some c65
 | 89 => some c89
 | 90 => some c90
 | 91 => some c91
 | 28 => some c28
 | 29 => some c29
 | 30 => some c30
 | 31 => some c31
 | 20 => some c20
 | 54 => some c54
 | 14 => some c14
 | 40 => some c40
 | 41 => some c41
 | 42 => some c42
 | 43 => some c43
 | 44 => some c44
 | 77 => some c77
 | 78 => some c78
 | 79 => some c79
 | 80 => some c80
 | 82 => some c82
 | 21 => some c21
 | 9 => some c9
 | 27 => some c27
 | 32 => some c32
 | 66 => some c66
 | 67 => some c67
 | 68 => some c68
 | 92 => some c92
 | 97 => some c97
 | 34 => some c34
 | 70 => some c70
 | 71 => some c71
 | 73 => some c73
 | 74 => some c74
 | 75 => some c75
 | 76 => some c76
 | 12 => some c12
 | 35 => some c35
 | 37 => some c37
 | 38 => some c38
 | _ => none
theorem code_ok (f : FuncId) (c : AFn) (h : code f = some c) : cFn Try.prog f = some c := by
 unfold code at h
 split at h
 · cases h; exact cf8
 · cases h; exact cf25
 · cases h; exact cf26
 · cases h; exact cf58
 · cases h; exact cf59
 · cases h; exact cf60
 · cases h; exact cf61
 · cases h; exact cf62
 · cases h; exact cf63
 · cases h; exact cf64
 · cases h; exact cf65
 · cases h; exact cf89
 · cases h; exact cf90
 · cases h; exact cf91
 · cases h; exact cf28
 · cases h; exact cf29
 · cases h; exact cf30
 · cases h; exact cf31
 · cases h; exact cf20
 · cases h; exact cf54
 · cases h; exact cf14
 · cases h; exact cf40
 · cases h; exact cf41
 · cases h; exact cf42
 · cases h; exact cf43
 · cases h; exact cf44
 · cases h; exact cf77
 · cases h; exact cf78
 · cases h; exact cf79
 · cases h; exact cf80
 · cases h; exact cf82
 · cases h; exact cf21
 · cases h; exact cf9
 · cases h; exact cf27
 · cases h; exact cf32
 · cases h; exact cf66
 · cases h; exact cf67
 · cases h; exact cf68
 · cases h; exact cf92
 · cases h; exact cf97
 · cases h; exact cf34
 · cases h; exact cf70
 · cases h; exact cf71
 · cases h; exact cf73
 · cases h; exact cf74
 · cases h; exact cf75
 · cases h; exact cf76
 · cases h; exact cf12
 · cases h; exact cf35
 · cases h; exact cf37
 · cases h; exact cf38
 · cases h
end
end Go.Proofs.Ytnmdadadjneaiaa.D
