/- Parts of the proof, printed. -/
import Derived.Test.YtmfmnbldngfelaaLGen2
import Derived.KernelRfl
set_option linter.unusedVariables false
set_option maxRecDepth 100000
namespace Go.Proofs.Ytmfmnbldngfelaa.I
open Go Go.Proofs.Ytmfmnbldngfelaa.Abs Go.Proofs
section
variable {R : Type} (M : Mk) (C : Cal)
def k13x5 : AC := .ret
def k13x4 : AC := .seq (.mask 16) k13x5
def k13x3 : AC := .mask 3
def k13x2 : AC := .seq (.cond (.tmp 19)
   (.seq (.ops false [
      ⟨(some 4), .move (.c (.bool false)), none, []⟩]) k13x4)
   (.skip)) k13x3
def k13x12 : AC := .ret
def k13x11 : AC := .seq (.mask 16) k13x12
def k13x10 : AC := .mask 35
def k13x9 : AC := .seq (.cond (.tmp 43)
   (.seq (.ops true [
      ⟨(some 44), .move (.tmp 6), none, []⟩,
      ⟨(some 45), .bin .other .neq (.tmp 44) (.c (.int .i64 0)), none, []⟩,
      ⟨(some 46), .move (.tmp 45), none, []⟩,
      ⟨(some 47), .move (.tmp 0), (some (46, false)), []⟩,
      ⟨(some 48), .lenSl (.tmp 47), (some (46, false)), []⟩,
      ⟨(some 49), .bin .other .eql (.tmp 48) (.c (.int .i64 0)), (some (46, false)), []⟩,
      ⟨(some 50), .pick (.tmp 46) (.c (.bool true)) (.tmp 49), none, []⟩,
      ⟨(some 4), .move (.tmp 50), none, []⟩]) k13x11)
   (.skip)) k13x10
def k13x18 : AC := .ret
def k13x17 : AC := .seq (.mask 16) k13x18
def k13x16 : AC := .mask 481
def k13x15 : AC := .seq (.cond (.tmp 63)
   (.seq (.ops false [
      ⟨(some 64), .fieldAddr 0 (.tmp 7), none, []⟩,
      ⟨(some 65), .load (.cell .sl) (.tmp 64), none, []⟩,
      ⟨(some 66), .lenSl (.tmp 65), none, []⟩,
      ⟨(some 67), .move (.tmp 8), none, []⟩,
      ⟨(some 68), .lenSl (.tmp 67), none, []⟩,
      ⟨(some 69), .bin .other .add (.tmp 66) (.tmp 68), none, []⟩,
      ⟨(some 70), .bin .other .eql (.tmp 69) (.c (.int .i64 0)), none, []⟩,
      ⟨(some 4), .move (.tmp 70), none, []⟩]) k13x17)
   (.skip)) k13x16
def k13x23 : AC := .ret
def k13x22 : AC := .seq (.mask 16) k13x23
def k13x21 : AC := .mask 417
def k13x20 : AC := .seq (.cond (.tmp 84)
   (.seq (.ops false [
      ⟨(some 4), .move (.c (.bool false)), none, []⟩]) k13x22)
   (.skip)) k13x21
def k13x31 : AC := .exit 0
def k13x30 : AC := .mask 270799383593676935134183840
def k13x42 : AC := .ret
def k13x41 : AC := .seq (.mask 16) k13x42
def k13x40 : AC := .mask 270799383593676935134183840
def k13x39 : AC := .seq (.cond (.tmp 124)
   (.seq (.ops false [
      ⟨(some 4), .move (.c (.bool false)), none, []⟩]) k13x41)
   (.skip)) k13x40
def k13x43 : AC := .exit 1
def k13x38 : AC := .seq (.mask 270799383593676935134183840) k13x43
def k13x37 : AC := .mask 270799383593676935134185376
def k13x36 : AC := .seq (.cond (.tmp 97)
   (.seq (.seq (.ops true [
      ⟨(some 98), .move (.tmp 5), none, []⟩,
      ⟨(some 99), .move (.tmp 9), none, []⟩,
      ⟨(some 100), .indexAddr 1 (.tmp 98) (.tmp 99), none, []⟩,
      ⟨(some 101), .load (.cell (.int .i64)) (.tmp 100), none, []⟩,
      ⟨(some 102), .bin .other .lss (.tmp 101) (.c (.int .i64 0)), none, []⟩,
      ⟨(some 103), .move (.tmp 102), none, []⟩,
      ⟨(some 104), .move (.tmp 5), (some (103, false)), []⟩,
      ⟨(some 105), .move (.tmp 9), (some (103, false)), []⟩,
      ⟨(some 106), .indexAddr 1 (.tmp 104) (.tmp 105), (some (103, false)), []⟩,
      ⟨(some 107), .load (.cell (.int .i64)) (.tmp 106), (some (103, false)), []⟩,
      ⟨(some 108), .move (.tmp 9), (some (103, false)), []⟩,
      ⟨(some 109), .bin .other .geq (.tmp 107) (.tmp 108), (some (103, false)), []⟩,
      ⟨(some 110), .pick (.tmp 103) (.c (.bool true)) (.tmp 109), none, []⟩,
      ⟨(some 111), .move (.tmp 110), none, []⟩,
      ⟨(some 112), .move (.tmp 8), (some (111, false)), []⟩,
      ⟨(some 113), .move (.tmp 9), (some (111, false)), []⟩,
      ⟨(some 114), .indexAddr 1 (.tmp 112) (.tmp 113), (some (111, false)), []⟩,
      ⟨(some 115), .load (.cell (.int .i64)) (.tmp 114), (some (111, false)), []⟩,
      ⟨(some 116), .move (.tmp 8), (some (111, false)), []⟩,
      ⟨(some 117), .move (.tmp 5), (some (111, false)), []⟩,
      ⟨(some 118), .move (.tmp 9), (some (111, false)), []⟩,
      ⟨(some 119), .indexAddr 1 (.tmp 117) (.tmp 118), (some (111, false)), []⟩,
      ⟨(some 120), .load (.cell (.int .i64)) (.tmp 119), (some (111, false)), []⟩,
      ⟨(some 121), .indexAddr 1 (.tmp 116) (.tmp 120), (some (111, false)), []⟩,
      ⟨(some 122), .load (.cell (.int .i64)) (.tmp 121), (some (111, false)), []⟩,
      ⟨(some 123), .bin .other .neq (.tmp 115) (.tmp 122), (some (111, false)), []⟩,
      ⟨(some 124), .pick (.tmp 111) (.c (.bool true)) (.tmp 123), none, []⟩]) k13x39) k13x38)
   (.skip)) k13x37
def k13x48 : AC := .ret
def k13x47 : AC := .seq (.mask 16) k13x48
def k13x46 : AC := .mask 270799383593676935134185376
def k13x45 : AC := .seq (.cond (.tmp 139)
   (.seq (.ops false [
      ⟨(some 4), .move (.c (.bool false)), none, []⟩]) k13x47)
   (.skip)) k13x46
def k13x56 : AC := .exit 2
def k13x55 : AC := .mask 267608942382367477969228002865457273205956000
def k13x64 : AC := .ret
def k13x63 : AC := .seq (.mask 16) k13x64
def k13x62 : AC := .mask 267608942382367477969228002865457273205964192
def k13x61 : AC := .seq (.cond (.tmp 154)
   (.seq (.ops false [
      ⟨(some 4), .move (.c (.bool false)), none, []⟩]) k13x63)
   (.skip)) k13x62
def k13x70 : AC := .ret
def k13x69 : AC := .seq (.mask 16) k13x70
def k13x68 : AC := .mask 267608942382367477969228002865457273206013344
def k13x67 : AC := .seq (.cond (.tmp 165)
   (.seq (.ops false [
      ⟨(some 4), .move (.c (.bool false)), none, []⟩]) k13x69)
   (.skip)) k13x68
def k13x79 : AC := .ret
def k13x78 : AC := .seq (.mask 16) k13x79
def k13x77 : AC := .mask 267608942382367477969228002865457273205956000
def k13x76 : AC := .seq (.cond (.tmp 216)
   (.seq (.ops false [
      ⟨(some 4), .move (.c (.bool false)), none, []⟩]) k13x78)
   (.skip)) k13x77
def k13x75 : AC := .ops false [
    ⟨(some 217), .move (.tmp 12), none, []⟩,
    ⟨(some 218), .bin .other .add (.tmp 217) (.c (.int .i64 1)), none, []⟩,
    ⟨(some 12), .move (.tmp 218), none, []⟩]
def k13x74 : AC := .seq (.seq (.ops true [
    ⟨(some 193), .fieldAddr 0 (.tmp 14), none, []⟩,
    ⟨(some 194), .load (.cell (.int .i64)) (.tmp 193), none, []⟩,
    ⟨(some 195), .bin .other .eql (.tmp 194) (.c (.int .i64 20)), none, []⟩,
    ⟨(some 196), .move (.tmp 195), none, []⟩,
    ⟨(some 197), .move (.tmp 11), (some (196, true)), []⟩,
    ⟨(some 198), .fieldAddr 4 (.tmp 14), (some (196, true)), []⟩,
    ⟨(some 199), .load (.cell (.int .i64)) (.tmp 198), (some (196, true)), []⟩,
    ⟨(some 200), .bin .other .add (.tmp 197) (.tmp 199), (some (196, true)), []⟩,
    ⟨(some 201), .move (.tmp 17), (some (196, true)), []⟩,
    ⟨(some 202), .bin .other .neq (.tmp 200) (.tmp 201), (some (196, true)), []⟩,
    ⟨(some 203), .pick (.tmp 196) (.tmp 202) (.c (.bool false)), none, []⟩,
    ⟨(some 204), .move (.tmp 203), none, []⟩,
    ⟨(some 205), .fieldAddr 0 (.tmp 14), (some (204, false)), []⟩,
    ⟨(some 206), .load (.cell (.int .i64)) (.tmp 205), (some (204, false)), []⟩,
    ⟨(some 207), .bin .other .eql (.tmp 206) (.c (.int .i64 11)), (some (204, false)), []⟩,
    ⟨(some 208), .move (.tmp 207), (some (204, false)), []⟩,
    ⟨(some 209), .fieldAddr 4 (.tmp 14), (some (208, true)), []⟩,
    ⟨(some 210), .load (.cell (.int .i64)) (.tmp 209), (some (208, true)), []⟩,
    ⟨(some 211), .move (.tmp 17), (some (208, true)), []⟩,
    ⟨(some 212), .bin .other .mul (.c (.int .i64 2)) (.tmp 211), (some (208, true)), []⟩,
    ⟨(some 213), .bin .other .add (.tmp 212) (.c (.int .i64 1)), (some (208, true)), []⟩,
    ⟨(some 214), .bin .other .neq (.tmp 210) (.tmp 213), (some (208, true)), []⟩,
    ⟨(some 215), .pick (.tmp 208) (.tmp 214) (.c (.bool false)), (some (204, false)), []⟩,
    ⟨(some 216), .pick (.tmp 204) (.c (.bool true)) (.tmp 215), none, []⟩]) k13x76) k13x75
def k13x73 : AC := .join 267608942382367477969228002865457273205956000
def k13x72 : AC := .seq (.cond (.tmp 183)
   (.seq (.ops false [
      ⟨(some 184), .move (.tmp 8), none, []⟩,
      ⟨(some 185), .fieldAddr 2 (.tmp 10), none, []⟩,
      ⟨(some 186), .load (.cell .sl) (.tmp 185), none, []⟩,
      ⟨(some 187), .move (.tmp 12), none, []⟩,
      ⟨(some 188), .indexAddr 2 (.tmp 186) (.tmp 187), none, []⟩,
      ⟨(some 189), .fieldAddr 1 (.tmp 188), none, []⟩,
      ⟨(some 190), .load (.cell (.int .i64)) (.tmp 189), none, []⟩,
      ⟨(some 191), .indexAddr 1 (.tmp 184) (.tmp 190), none, []⟩,
      ⟨(some 192), .load (.cell (.int .i64)) (.tmp 191), none, []⟩,
      ⟨(some 17), .move (.tmp 192), none, []⟩]) k13x74)
   (.skip)) k13x73
def k13x71 : AC := .seq (.ops true [
    ⟨(some 169), .move (.tmp 12), none, []⟩,
    ⟨(some 170), .fieldAddr 2 (.tmp 10), none, []⟩,
    ⟨(some 171), .load (.cell .sl) (.tmp 170), none, []⟩,
    ⟨(some 172), .lenSl (.tmp 171), none, []⟩,
    ⟨(some 173), .bin .other .lss (.tmp 169) (.tmp 172), none, []⟩,
    ⟨(some 174), .move (.tmp 173), none, []⟩,
    ⟨(some 175), .fieldAddr 2 (.tmp 10), (some (174, true)), []⟩,
    ⟨(some 176), .load (.cell .sl) (.tmp 175), (some (174, true)), []⟩,
    ⟨(some 177), .move (.tmp 12), (some (174, true)), []⟩,
    ⟨(some 178), .indexAddr 2 (.tmp 176) (.tmp 177), (some (174, true)), []⟩,
    ⟨(some 179), .fieldAddr 0 (.tmp 178), (some (174, true)), []⟩,
    ⟨(some 180), .load (.cell (.int .i64)) (.tmp 179), (some (174, true)), []⟩,
    ⟨(some 181), .move (.tmp 13), (some (174, true)), []⟩,
    ⟨(some 182), .bin .other .eql (.tmp 180) (.tmp 181), (some (174, true)), []⟩,
    ⟨(some 183), .pick (.tmp 174) (.tmp 182) (.c (.bool false)), none, []⟩]) k13x72
def k13x66 : AC := .seq (.ops false [
    ⟨(some 166), .move (.tmp 11), none, []⟩,
    ⟨(some 167), .move (.tmp 15), none, []⟩,
    ⟨(some 168), .bin .other .add (.tmp 166) (.tmp 167), none, []⟩,
    ⟨(some 11), .move (.tmp 168), none, []⟩]) k13x71
def k13x65 : AC := .seq (.seq (.ops false [
    ⟨(some 164), .move (.tmp 16), none, []⟩,
    ⟨(some 165), .bin .other .neq (.tmp 164) (.c (.int .i64 0)), none, []⟩]) k13x67) k13x66
def k13x60 : AC := .seq (.ops false [
    ⟨(some 156), .fieldAddr 0 (.tmp 7), none, []⟩,
    ⟨(some 157), .load (.cell .sl) (.tmp 156), none, []⟩,
    ⟨(some 158), .move (.tmp 11), none, []⟩,
    ⟨(some 159), .slice 1 (.tmp 157) (some (.tmp 158)) none, none, []⟩,
    ⟨(some 160), .call 27 [(.tmp 159)] [(.agg [(.int .i64), (.int .i64), (.int .i64), (.int .i64), (.int .i64)]), (.cell (.int .i64)), (.cell (.int .i64))] .opq, none, []⟩,
    ⟨(some 155), .move (.tmp 160), none, []⟩,
    ⟨(some 161), .extract (.tmp 155) 0, none, []⟩,
    ⟨(some 162), .extract (.tmp 155) 1, none, []⟩,
    ⟨(some 163), .extract (.tmp 155) 2, none, []⟩,
    ⟨(some 14), .allocL [(.int .i64 0), (.int .i64 0), (.int .i64 0), (.int .i64 0), (.int .i64 0)], none, []⟩,
    ⟨none, .store 5 (.tmp 14) (.tmp 161), none, []⟩,
    ⟨(some 15), .move (.tmp 162), none, []⟩,
    ⟨(some 16), .move (.tmp 163), none, []⟩]) k13x65
def k13x59 : AC := .seq (.seq (.ops false [
    ⟨(some 150), .move (.tmp 11), none, []⟩,
    ⟨(some 151), .fieldAddr 0 (.tmp 7), none, []⟩,
    ⟨(some 152), .load (.cell .sl) (.tmp 151), none, []⟩,
    ⟨(some 153), .lenSl (.tmp 152), none, []⟩,
    ⟨(some 154), .bin .other .geq (.tmp 150) (.tmp 153), none, []⟩]) k13x61) k13x60
def k13x58 : AC := .mask 267608942382367477969228002865457273205956000
def k13x57 : AC := .ops false [
    ⟨(some 219), .bin .other .add (.tmp 147) (.c (.int .i64 1)), none, []⟩,
    ⟨(some 147), .move (.tmp 219), none, []⟩]
def k13x54 : AC := .seq (.seq (.block 3 (.seq (.ops false [
     ⟨(some 149), .move (.tmp 147), none, []⟩,
     ⟨(some 13), .move (.tmp 149), none, []⟩]) k13x59)) k13x58) k13x57
def k13x53 : AC := .seq (.seq (.cond (.tmp 148)
   (.skip)
   (.seq (.mask 270799383593676935134183840) k13x56)) k13x55) k13x54
def k13x52 : AC := .seq (.ops false [
    ⟨(some 148), .bin .other .lss (.tmp 147) (.tmp 146), none, []⟩]) k13x53
def k13x51 : AC := .mask 270799383593676935134183840
def k13x50 : AC := .seq (.block 2 (.loop 267608942382367477969228002865457273205956000 270799383593676935134183840 k13x52)) k13x51
def k13x49 : AC := .seq (.ops false [
    ⟨(some 144), .fieldAddr 1 (.tmp 10), none, []⟩,
    ⟨(some 145), .load (.cell .sl) (.tmp 144), none, []⟩,
    ⟨(some 146), .lenSl (.tmp 145), none, []⟩,
    ⟨(some 147), .move (.c (.int .i64 0)), none, []⟩]) k13x50
def k13x44 : AC := .seq (.ops false [
    ⟨(some 140), .move (.tmp 8), none, []⟩,
    ⟨(some 141), .move (.tmp 9), none, []⟩,
    ⟨(some 142), .indexAddr 1 (.tmp 140) (.tmp 141), none, []⟩,
    ⟨(some 143), .load (.cell (.int .i64)) (.tmp 142), none, []⟩,
    ⟨(some 11), .move (.tmp 143), none, []⟩,
    ⟨(some 12), .move (.c (.int .i64 0)), none, []⟩]) k13x49
def k13x35 : AC := .seq (.seq (.ops true [
    ⟨(some 125), .fieldAddr 2 (.tmp 7), none, []⟩,
    ⟨(some 126), .load (.cell .sl) (.tmp 125), none, []⟩,
    ⟨(some 127), .move (.tmp 8), none, []⟩,
    ⟨(some 128), .move (.tmp 9), none, []⟩,
    ⟨(some 129), .indexAddr 1 (.tmp 127) (.tmp 128), none, []⟩,
    ⟨(some 130), .load (.cell (.int .i64)) (.tmp 129), none, []⟩,
    ⟨(some 131), .call 36 [(.tmp 126), (.tmp 130)] [(.cell .bool)] (.bool false), none, []⟩,
    ⟨(some 132), .un .not (.tmp 131), none, []⟩,
    ⟨(some 133), .move (.tmp 132), none, []⟩,
    ⟨(some 134), .move (.tmp 8), (some (133, false)), []⟩,
    ⟨(some 135), .move (.tmp 9), (some (133, false)), []⟩,
    ⟨(some 136), .indexAddr 1 (.tmp 134) (.tmp 135), (some (133, false)), []⟩,
    ⟨(some 137), .load (.cell (.int .i64)) (.tmp 136), (some (133, false)), []⟩,
    ⟨(some 138), .bin .other .lss (.tmp 137) (.c (.int .i64 0)), (some (133, false)), []⟩,
    ⟨(some 139), .pick (.tmp 133) (.c (.bool true)) (.tmp 138), none, []⟩]) k13x45) k13x44
def k13x34 : AC := .seq (.seq (.ops false [
    ⟨(some 92), .move (.tmp 5), none, []⟩,
    ⟨(some 93), .move (.tmp 9), none, []⟩,
    ⟨(some 94), .indexAddr 1 (.tmp 92) (.tmp 93), none, []⟩,
    ⟨(some 95), .load (.cell (.int .i64)) (.tmp 94), none, []⟩,
    ⟨(some 96), .move (.tmp 9), none, []⟩,
    ⟨(some 97), .bin .other .neq (.tmp 95) (.tmp 96), none, []⟩]) k13x36) k13x35
def k13x33 : AC := .join 270799383593676935134183840
def k13x32 : AC := .ops false [
    ⟨(some 220), .bin .other .add (.tmp 87) (.c (.int .i64 1)), none, []⟩,
    ⟨(some 87), .move (.tmp 220), none, []⟩]
def k13x29 : AC := .seq (.seq (.block 1 (.seq (.ops false [
     ⟨(some 89), .move (.tmp 87), none, []⟩,
     ⟨(some 90), .indexAddr 5 (.tmp 85) (.tmp 87), none, []⟩,
     ⟨(some 91), .load (.agg [(.int .i64), .sl, .sl, .sl, (.int .i64)]) (.tmp 90), none, []⟩,
     ⟨(some 10), .allocL [(.int .i64 0), (.sl .nil 0), (.sl .nil 0), (.sl .nil 0), (.int .i64 0)], none, []⟩,
     ⟨(some 9), .move (.tmp 89), none, []⟩,
     ⟨none, .store 5 (.tmp 10) (.tmp 91), none, []⟩]) k13x34)) k13x33) k13x32
def k13x28 : AC := .seq (.seq (.cond (.tmp 88)
   (.skip)
   (.seq (.mask 0) k13x31)) k13x30) k13x29
def k13x27 : AC := .seq (.ops false [
    ⟨(some 88), .bin .other .lss (.tmp 87) (.tmp 86), none, []⟩]) k13x28
def k13x26 : AC := .mask 0
def k13x25 : AC := .seq (.block 0 (.loop 270799383593676935134183840 0 k13x27)) k13x26
def k13x83 : AC := .ret
def k13x82 : AC := .seq (.mask 16) k13x83
def k13x24 : AC := .seq (.ops false [
    ⟨(some 4), .move (.c (.bool true)), none, []⟩]) k13x82
def k13x19 : AC := .seq (.seq (.ops false [
    ⟨(some 85), .move (.tmp 0), none, []⟩,
    ⟨(some 86), .lenSl (.tmp 85), none, []⟩,
    ⟨(some 87), .move (.c (.int .i64 0)), none, []⟩]) k13x25) k13x24
def k13x14 : AC := .seq (.seq (.ops true [
    ⟨(some 71), .move (.tmp 6), none, []⟩,
    ⟨(some 72), .bin .other .neq (.tmp 71) (.c (.int .i64 0)), none, []⟩,
    ⟨(some 73), .move (.tmp 72), none, []⟩,
    ⟨(some 74), .move (.tmp 8), (some (73, false)), []⟩,
    ⟨(some 75), .lenSl (.tmp 74), (some (73, false)), []⟩,
    ⟨(some 76), .move (.tmp 0), (some (73, false)), []⟩,
    ⟨(some 77), .lenSl (.tmp 76), (some (73, false)), []⟩,
    ⟨(some 78), .bin .other .neq (.tmp 75) (.tmp 77), (some (73, false)), []⟩,
    ⟨(some 79), .pick (.tmp 73) (.c (.bool true)) (.tmp 78), none, []⟩,
    ⟨(some 80), .move (.tmp 79), none, []⟩,
    ⟨(some 81), .fieldAddr 1 (.tmp 7), (some (80, false)), []⟩,
    ⟨(some 82), .load (.cell (.int .i64)) (.tmp 81), (some (80, false)), []⟩,
    ⟨(some 83), .bin .other .neq (.tmp 82) (.c (.int .i64 0)), (some (80, false)), []⟩,
    ⟨(some 84), .pick (.tmp 80) (.c (.bool true)) (.tmp 83), none, []⟩]) k13x20) k13x19
def k13x13 : AC := .seq (.seq (.ops false [
    ⟨(some 62), .move (.tmp 6), none, []⟩,
    ⟨(some 63), .bin .other .eql (.tmp 62) (.c (.int .i64 2)), none, []⟩]) k13x15) k13x14
def k13x8 : AC := .seq (.ops false [
    ⟨(some 52), .move (.tmp 0), none, []⟩,
    ⟨(some 53), .move (.tmp 5), none, []⟩,
    ⟨(some 54), .move (.tmp 0), none, []⟩,
    ⟨(some 55), .lenSl (.tmp 54), none, []⟩,
    ⟨(some 56), .bin .other .sub (.tmp 55) (.c (.int .i64 1)), none, []⟩,
    ⟨(some 57), .move (.tmp 1), none, []⟩,
    ⟨(some 58), .call 35 [(.tmp 52), (.tmp 53), (.tmp 56), (.tmp 57)] [(.agg [.sl, (.int .i64), .sl, .sl, .sl]), (.cell .sl), (.cell (.int .i64))] .opq, none, []⟩,
    ⟨(some 51), .move (.tmp 58), none, []⟩,
    ⟨(some 59), .extract (.tmp 51) 0, none, []⟩,
    ⟨(some 60), .extract (.tmp 51) 1, none, []⟩,
    ⟨(some 61), .extract (.tmp 51) 2, none, []⟩,
    ⟨(some 7), .allocL [(.sl .nil 0), (.int .i64 0), (.sl .nil 0), (.sl .nil 0), (.sl .nil 0)], none, []⟩,
    ⟨none, .store 5 (.tmp 7) (.tmp 59), none, []⟩,
    ⟨(some 8), .move (.tmp 60), none, []⟩,
    ⟨(some 6), .move (.tmp 61), none, []⟩]) k13x13
def k13x7 : AC := .seq (.seq (.ops true [
    ⟨(some 30), .move (.tmp 6), none, []⟩,
    ⟨(some 31), .bin .other .neq (.tmp 30) (.c (.int .i64 0)), none, []⟩,
    ⟨(some 32), .move (.tmp 31), none, []⟩,
    ⟨(some 33), .move (.tmp 0), (some (32, false)), []⟩,
    ⟨(some 34), .lenSl (.tmp 33), (some (32, false)), []⟩,
    ⟨(some 35), .bin .other .eql (.tmp 34) (.c (.int .i64 0)), (some (32, false)), []⟩,
    ⟨(some 36), .pick (.tmp 32) (.c (.bool true)) (.tmp 35), none, []⟩,
    ⟨(some 37), .move (.tmp 36), none, []⟩,
    ⟨(some 38), .move (.tmp 5), (some (37, false)), []⟩,
    ⟨(some 39), .lenSl (.tmp 38), (some (37, false)), []⟩,
    ⟨(some 40), .move (.tmp 0), (some (37, false)), []⟩,
    ⟨(some 41), .lenSl (.tmp 40), (some (37, false)), []⟩,
    ⟨(some 42), .bin .other .neq (.tmp 39) (.tmp 41), (some (37, false)), []⟩,
    ⟨(some 43), .pick (.tmp 37) (.c (.bool true)) (.tmp 42), none, []⟩]) k13x9) k13x8
def k13x6 : AC := .seq (.ops false [
    ⟨(some 26), .move (.tmp 0), none, []⟩,
    ⟨(some 27), .call 33 [(.tmp 26)] [(.cell .sl), (.cell (.int .i64))] .opq, none, []⟩,
    ⟨(some 25), .move (.tmp 27), none, []⟩,
    ⟨(some 28), .extract (.tmp 25) 0, none, []⟩,
    ⟨(some 29), .extract (.tmp 25) 1, none, []⟩,
    ⟨(some 5), .move (.tmp 28), none, []⟩,
    ⟨(some 6), .move (.tmp 29), none, []⟩]) k13x7
def k13x1 : AC := .seq (.ops false [
    ⟨(some 20), .move (.tmp 0), none, []⟩,
    ⟨(some 21), .move (.tmp 0), none, []⟩,
    ⟨(some 22), .lenSl (.tmp 21), none, []⟩,
    ⟨(some 23), .mm false [(.tmp 22), (.c (.int .i64 12))], none, []⟩,
    ⟨(some 24), .slice 5 (.tmp 20) none (some (.tmp 23)), none, []⟩,
    ⟨(some 0), .move (.tmp 24), none, []⟩]) k13x6
def k13x0 : AC := .seq (.seq (.ops false [
    ⟨(some 18), .call 32 [] [(.cell .bool)] (.bool false), none, []⟩,
    ⟨(some 19), .un .not (.tmp 18), none, []⟩]) k13x2) k13x1
/-- provenance/provenancekeep4.LinkCalls -/
def c13 : AFn := ⟨221, [.tmp 4],
  .seq (.ops false [
    ⟨(some 4), .move (.c (.bool false)), none, []⟩]) k13x0⟩
def S13xr (b4 : Bool) (h : Heap) : St := ⟨(rep 4 (.g [] true (.bool b4) :: (rep 216 []))), h⟩
def S13xe0 (h : Heap) : St := ⟨(rep 221 []), h⟩
def S13xe2 (s5 : SA) (n5 : Nat) (s7x0 : SA) (n7x0 : Nat) (i7x1 : Int) (s7x2 : SA) (n7x2 : Nat) (s7x3 : SA) (n7x3 : Nat) (s7x4 : SA) (n7x4 : Nat) (s8 : SA) (n8 : Nat) (s85 : SA) (n85 : Nat) (i86 : Int) (i87 : Int) (h : Heap) : St := ⟨(rep 5 (.g [] true (.sl s5 n5) :: (.any :: (.box [(.sl s7x0 n7x0), (.int .i64 i7x1), (.sl s7x2 n7x2), (.sl s7x3 n7x3), (.sl s7x4 n7x4)] :: (.g [] true (.sl s8 n8) :: (rep 76 (.g [] true (.sl s85 n85) :: (.g [] true (.int .i64 i86) :: (.g [] true (.int .i64 i87) :: (rep 133 [])))))))))), h⟩
noncomputable def Q13x27 (M : Mk) (C : Cal) : Kont (AV × Heap) := (blockQ 0 (seqQ (evalE M C k13x26) (seqQ (evalE M C k13x24) (endQ [.tmp 4]))))
noncomputable def L13x27 (s5 : SA) (n5 : Nat) (s7x0 : SA) (n7x0 : Nat) (i7x1 : Int) (s7x2 : SA) (n7x2 : Nat) (s7x3 : SA) (n7x3 : Nat) (s7x4 : SA) (n7x4 : Nat) (s8 : SA) (n8 : Nat) (s85 : SA) (n85 : Nat) (i86 : Int) (i87 : Int) (h : Heap) (Q : Kont R) : Option R := loopE (evalE M C k13x27) 270799383593676935134183840 0 ⟨(rep 5 (.g [] true (.sl s5 n5) :: (.any :: (.box [(.sl s7x0 n7x0), (.int .i64 i7x1), (.sl s7x2 n7x2), (.sl s7x3 n7x3), (.sl s7x4 n7x4)] :: (.g [] true (.sl s8 n8) :: (rep 76 (.g [] true (.sl s85 n85) :: (.g [] true (.int .i64 i86) :: (.g [] true (.int .i64 i87) :: (rep 133 [])))))))))), h⟩ Q
noncomputable def J13x81 (M : Mk) (C : Cal) (s5 : SA) (n5 : Nat) (s7x0 : SA) (n7x0 : Nat) (i7x1 : Int) (s7x2 : SA) (n7x2 : Nat) (s7x3 : SA) (n7x3 : Nat) (s7x4 : SA) (n7x4 : Nat) (s8 : SA) (n8 : Nat) (s85 : SA) (n85 : Nat) (i86 : Int) (i87 : Int) (h : Heap) (Q : Kont R) : Option R := M R (seqQ (evalE M C k13x32) (roundQ M C k13x27 270799383593676935134183840 0 Q)) (rep 5 (.g [] true (.sl s5 n5) :: (.any :: (.box [(.sl s7x0 n7x0), (.int .i64 i7x1), (.sl s7x2 n7x2), (.sl s7x3 n7x3), (.sl s7x4 n7x4)] :: (.g [] true (.sl s8 n8) :: (rep 76 (.g [] true (.sl s85 n85) :: (.g [] true (.int .i64 i86) :: (.g [] true (.int .i64 i87) :: (rep 133 [])))))))))) h
noncomputable def Q13x52 (M : Mk) (C : Cal) (Q : Kont R) : Kont R := (blockQ 2 (seqQ (evalE M C k13x51) (blockQ 1 (seqQ (evalE M C k13x33) (seqQ (evalE M C k13x32) (roundQ M C k13x27 270799383593676935134183840 0 Q))))))
noncomputable def L13x52 (s5 : SA) (n5 : Nat) (s7x0 : SA) (n7x0 : Nat) (i7x1 : Int) (s7x2 : SA) (n7x2 : Nat) (s7x3 : SA) (n7x3 : Nat) (s7x4 : SA) (n7x4 : Nat) (s8 : SA) (n8 : Nat) (i10x0 : Int) (s10x1 : SA) (n10x1 : Nat) (s10x2 : SA) (n10x2 : Nat) (s10x3 : SA) (n10x3 : Nat) (i10x4 : Int) (i11 : Int) (i12 : Int) (s85 : SA) (n85 : Nat) (i86 : Int) (i87 : Int) (i146 : Int) (i147 : Int) (h : Heap) (Q : Kont R) : Option R := loopE (evalE M C k13x52) 267608942382367477969228002865457273205956000 270799383593676935134183840 ⟨(rep 5 (.g [] true (.sl s5 n5) :: (.any :: (.box [(.sl s7x0 n7x0), (.int .i64 i7x1), (.sl s7x2 n7x2), (.sl s7x3 n7x3), (.sl s7x4 n7x4)] :: (.g [] true (.sl s8 n8) :: (.any :: (.box [(.int .i64 i10x0), (.sl s10x1 n10x1), (.sl s10x2 n10x2), (.sl s10x3 n10x3), (.int .i64 i10x4)] :: (.g [] true (.int .i64 i11) :: (.g [] true (.int .i64 i12) :: (rep 72 (.g [] true (.sl s85 n85) :: (.g [] true (.int .i64 i86) :: (.g [] true (.int .i64 i87) :: (rep 58 (.g [] true (.int .i64 i146) :: (.g [] true (.int .i64 i147) :: (rep 73 []))))))))))))))))), h⟩ Q
noncomputable def J13x80 (M : Mk) (C : Cal) (s5 : SA) (n5 : Nat) (s7x0 : SA) (n7x0 : Nat) (i7x1 : Int) (s7x2 : SA) (n7x2 : Nat) (s7x3 : SA) (n7x3 : Nat) (s7x4 : SA) (n7x4 : Nat) (s8 : SA) (n8 : Nat) (i10x0 : Int) (s10x1 : SA) (n10x1 : Nat) (s10x2 : SA) (n10x2 : Nat) (s10x3 : SA) (n10x3 : Nat) (i10x4 : Int) (i11 : Int) (i12 : Int) (s85 : SA) (n85 : Nat) (i86 : Int) (i87 : Int) (i146 : Int) (i147 : Int) (h : Heap) (Q : Kont R) : Option R := M R (blockQ 3 (seqQ (evalE M C k13x58) (seqQ (evalE M C k13x57) (roundQ M C k13x52 267608942382367477969228002865457273205956000 270799383593676935134183840 Q)))) (rep 5 (.g [] true (.sl s5 n5) :: (.any :: (.box [(.sl s7x0 n7x0), (.int .i64 i7x1), (.sl s7x2 n7x2), (.sl s7x3 n7x3), (.sl s7x4 n7x4)] :: (.g [] true (.sl s8 n8) :: (.any :: (.box [(.int .i64 i10x0), (.sl s10x1 n10x1), (.sl s10x2 n10x2), (.sl s10x3 n10x3), (.int .i64 i10x4)] :: (.g [] true (.int .i64 i11) :: (.g [] true (.int .i64 i12) :: (rep 72 (.g [] true (.sl s85 n85) :: (.g [] true (.int .i64 i86) :: (.g [] true (.int .i64 i87) :: (rep 58 (.g [] true (.int .i64 i146) :: (.g [] true (.int .i64 i147) :: (rep 73 []))))))))))))))))) h
theorem r13 (s0 : SA) (n0 : Nat) (b1 : Bool) (h : Heap) : runE M C c13 [(.sl s0 n0), (.bool b1)] h = (
  (C 32 [] h).bind fun r18 =>
  gB (some r18.1) true fun b18 =>
  if (!b18) = true then
    (
    some ((.bool false), r18.2)
    )
  else
    (
    letK ((foldMM false ((n0 : Nat) : Int) [12]) : Int) fun i23 =>
    chkC (true = true → (0 : Int) ≤ i23 ∧ hiOk r18.2 s0 n0 5 i23) <|
    letK ((Int.toNat i23) : Nat) fun n24 =>
    (C 33 [(.sl s0 n24)] r18.2).bind fun r27 =>
    gT 2 r27.1 true fun u27 =>
    gL (some (List.getD u27 0 .opq)) true fun s27x0 n27x0 =>
    gI .i64 (some (List.getD u27 1 .opq)) true fun i27x1 =>
    letK ((!decide ((i27x1 : Int) = 0)) : Bool) fun b31 =>
    letK ((decide ((((n24 : Nat) : Int) : Int) = 0)) : Bool) fun b35 =>
    letK ((if b31 = true then true else b35) : Bool) fun b36 =>
    letK ((!decide ((((n27x0 : Nat) : Int) : Int) = ((n24 : Nat) : Int))) : Bool) fun b42 =>
    letK ((if b36 = true then true else b42) : Bool) fun b43 =>
    if b43 = true then
      (
      letK ((!decide ((i27x1 : Int) = 0)) : Bool) fun b45 =>
      letK ((decide ((((n24 : Nat) : Int) : Int) = 0)) : Bool) fun b49 =>
      letK ((if b45 = true then true else b49) : Bool) fun b50 =>
      some ((.bool b50), r27.2)
      )
    else
      (
      letK ((IntKind.wrap .i64 (((n24 : Nat) : Int) - 1)) : Int) fun i56 =>
      (C 35 [(.sl s0 n24), (.sl s27x0 n27x0), (.int .i64 i56), (.bool b1)] r27.2).bind fun r58 =>
      gT 3 r58.1 true fun u58 =>
      gA (List.getD u58 0 .opq) true fun l58x0 =>
      chk (true = true → l58x0.length = 5) <|
      gL (l58x0[0]?) true fun s58x0x0 n58x0x0 =>
      gI .i64 (l58x0[1]?) true fun i58x0x1 =>
      gL (l58x0[2]?) true fun s58x0x2 n58x0x2 =>
      gL (l58x0[3]?) true fun s58x0x3 n58x0x3 =>
      gL (l58x0[4]?) true fun s58x0x4 n58x0x4 =>
      gL (some (List.getD u58 1 .opq)) true fun s58x1 n58x1 =>
      gI .i64 (some (List.getD u58 2 .opq)) true fun i58x2 =>
      letK ((decide ((i58x2 : Int) = 2)) : Bool) fun b63 =>
      if b63 = true then
        (
        letK ((IntKind.wrap .i64 (((n58x0x0 : Nat) : Int) + ((n58x1 : Nat) : Int))) : Int) fun i69 =>
        letK ((decide ((i69 : Int) = 0)) : Bool) fun b70 =>
        some ((.bool b70), r58.2)
        )
      else
        (
        letK ((!decide ((i58x2 : Int) = 0)) : Bool) fun b72 =>
        letK ((!decide ((((n58x1 : Nat) : Int) : Int) = ((n24 : Nat) : Int))) : Bool) fun b78 =>
        letK ((if b72 = true then true else b78) : Bool) fun b79 =>
        gI .i64 (some (.int .i64 i58x0x1)) (!b79) fun i82 =>
        letK ((!decide ((i82 : Int) = 0)) : Bool) fun b83 =>
        letK ((if b79 = true then true else b83) : Bool) fun b84 =>
        if b84 = true then
          (
          some ((.bool false), r58.2)
          )
        else
          (
          L13x27 M C s27x0 n27x0 s58x0x0 n58x0x0 i58x0x1 s58x0x2 n58x0x2 s58x0x3 n58x0x3 s58x0x4 n58x0x4 s58x1 n58x1 s0 n24 ((n24 : Nat) : Int) 0 r58.2 (Q13x27 M C)
          )
        )
      )
    )
  ) := by kernel_rfl
theorem cf13 : cFn Try.prog 13 = some c13 := by kernel_rfl
theorem e13 (s0 : SA) (n0 : Nat) (b1 : Bool) (h : Heap) : E 13 [(.sl s0 n0), (.bool b1)] h = (
  (E 32 [] h).bind fun r18 =>
  gB (some r18.1) true fun b18 =>
  if (!b18) = true then
    (
    some ((.bool false), r18.2)
    )
  else
    (
    letK ((foldMM false ((n0 : Nat) : Int) [12]) : Int) fun i23 =>
    chkC (true = true → (0 : Int) ≤ i23 ∧ hiOk r18.2 s0 n0 5 i23) <|
    letK ((Int.toNat i23) : Nat) fun n24 =>
    (E 33 [(.sl s0 n24)] r18.2).bind fun r27 =>
    gT 2 r27.1 true fun u27 =>
    gL (some (List.getD u27 0 .opq)) true fun s27x0 n27x0 =>
    gI .i64 (some (List.getD u27 1 .opq)) true fun i27x1 =>
    letK ((!decide ((i27x1 : Int) = 0)) : Bool) fun b31 =>
    letK ((decide ((((n24 : Nat) : Int) : Int) = 0)) : Bool) fun b35 =>
    letK ((if b31 = true then true else b35) : Bool) fun b36 =>
    letK ((!decide ((((n27x0 : Nat) : Int) : Int) = ((n24 : Nat) : Int))) : Bool) fun b42 =>
    letK ((if b36 = true then true else b42) : Bool) fun b43 =>
    if b43 = true then
      (
      letK ((!decide ((i27x1 : Int) = 0)) : Bool) fun b45 =>
      letK ((decide ((((n24 : Nat) : Int) : Int) = 0)) : Bool) fun b49 =>
      letK ((if b45 = true then true else b49) : Bool) fun b50 =>
      some ((.bool b50), r27.2)
      )
    else
      (
      letK ((IntKind.wrap .i64 (((n24 : Nat) : Int) - 1)) : Int) fun i56 =>
      (E 35 [(.sl s0 n24), (.sl s27x0 n27x0), (.int .i64 i56), (.bool b1)] r27.2).bind fun r58 =>
      gT 3 r58.1 true fun u58 =>
      gA (List.getD u58 0 .opq) true fun l58x0 =>
      chk (true = true → l58x0.length = 5) <|
      gL (l58x0[0]?) true fun s58x0x0 n58x0x0 =>
      gI .i64 (l58x0[1]?) true fun i58x0x1 =>
      gL (l58x0[2]?) true fun s58x0x2 n58x0x2 =>
      gL (l58x0[3]?) true fun s58x0x3 n58x0x3 =>
      gL (l58x0[4]?) true fun s58x0x4 n58x0x4 =>
      gL (some (List.getD u58 1 .opq)) true fun s58x1 n58x1 =>
      gI .i64 (some (List.getD u58 2 .opq)) true fun i58x2 =>
      letK ((decide ((i58x2 : Int) = 2)) : Bool) fun b63 =>
      if b63 = true then
        (
        letK ((IntKind.wrap .i64 (((n58x0x0 : Nat) : Int) + ((n58x1 : Nat) : Int))) : Int) fun i69 =>
        letK ((decide ((i69 : Int) = 0)) : Bool) fun b70 =>
        some ((.bool b70), r58.2)
        )
      else
        (
        letK ((!decide ((i58x2 : Int) = 0)) : Bool) fun b72 =>
        letK ((!decide ((((n58x1 : Nat) : Int) : Int) = ((n24 : Nat) : Int))) : Bool) fun b78 =>
        letK ((if b72 = true then true else b78) : Bool) fun b79 =>
        gI .i64 (some (.int .i64 i58x0x1)) (!b79) fun i82 =>
        letK ((!decide ((i82 : Int) = 0)) : Bool) fun b83 =>
        letK ((if b79 = true then true else b83) : Bool) fun b84 =>
        if b84 = true then
          (
          some ((.bool false), r58.2)
          )
        else
          (
          L13x27 mk0 E s27x0 n27x0 s58x0x0 n58x0x0 i58x0x1 s58x0x2 n58x0x2 s58x0x3 n58x0x3 s58x0x4 n58x0x4 s58x1 n58x1 s0 n24 ((n24 : Nat) : Int) 0 r58.2 (Q13x27 mk0 E)
          )
        )
      )
    )
  ) := (EV_eq (P := Try.prog) (T := T0) rfl cf13 [(.sl s0 n0), (.bool b1)] h).trans (r13 mk0 E s0 n0 b1 h)
theorem L13x27xaux (s5 : SA) (n5 : Nat) (s7x0 : SA) (n7x0 : Nat) (i7x1 : Int) (s7x2 : SA) (n7x2 : Nat) (s7x3 : SA) (n7x3 : Nat) (s7x4 : SA) (n7x4 : Nat) (s8 : SA) (n8 : Nat) (s85 : SA) (n85 : Nat) (i86 : Int) (i87 : Int) (h : Heap) (Q : Kont R) : (restrF 270799383593676935134183840 ⟨(rep 5 (.g [] true (.sl s5 n5) :: (.any :: (.box [(.sl s7x0 n7x0), (.int .i64 i7x1), (.sl s7x2 n7x2), (.sl s7x3 n7x3), (.sl s7x4 n7x4)] :: (.g [] true (.sl s8 n8) :: (rep 76 (.g [] true (.sl s85 n85) :: (.g [] true (.int .i64 i86) :: (.g [] true (.int .i64 i87) :: (rep 133 [])))))))))), h⟩ fun σ => evalE M C k13x27 σ (roundQ M C k13x27 270799383593676935134183840 0 Q)) = (
  letK ((decide ((i87 : Int) < i86)) : Bool) fun b88 =>
  if b88 = true then
    (
    chk (true = true → (0 : Int) ≤ i87 ∧ (i87 : Int) < ((n85 : Nat) : Int)) <|
    atP (adP s85) true fun a90 =>
    gCells (ldN h (Ad.add a90 (Int.toNat i87 * 5)) 5) true fun l91 =>
    gI .i64 (l91[0]?) true fun i91x0 =>
    gL (l91[1]?) true fun s91x1 n91x1 =>
    gL (l91[2]?) true fun s91x2 n91x2 =>
    gL (l91[3]?) true fun s91x3 n91x3 =>
    gI .i64 (l91[4]?) true fun i91x4 =>
    chk (true = true → (0 : Int) ≤ i87 ∧ (i87 : Int) < ((n5 : Nat) : Int)) <|
    atP (adP s5) true fun a94 =>
    gI .i64 (ld1 h (Ad.add a94 (Int.toNat i87 * 1))) true fun i95 =>
    letK ((!decide ((i95 : Int) = i87)) : Bool) fun b97 =>
    if b97 = true then
      (
      chk (true = true → (0 : Int) ≤ i87 ∧ (i87 : Int) < ((n5 : Nat) : Int)) <|
      atP (adP s5) true fun a100 =>
      gI .i64 (ld1 h (Ad.add a100 (Int.toNat i87 * 1))) true fun i101 =>
      letK ((decide ((i101 : Int) < 0)) : Bool) fun b102 =>
      chk ((!b102) = true → (0 : Int) ≤ i87 ∧ (i87 : Int) < ((n5 : Nat) : Int)) <|
      atP (adP s5) (!b102) fun a106 =>
      atP (some (Ad.add a106 (Int.toNat i87 * 1))) (!b102) fun a107 =>
      gI .i64 (ld1 h a107) (!b102) fun i107 =>
      letK ((decide ((i87 : Int) ≤ i107)) : Bool) fun b109 =>
      letK ((if b102 = true then true else b109) : Bool) fun b110 =>
      chk ((!b110) = true → (0 : Int) ≤ i87 ∧ (i87 : Int) < ((n8 : Nat) : Int)) <|
      atP (adP s8) (!b110) fun a114 =>
      atP (some (Ad.add a114 (Int.toNat i87 * 1))) (!b110) fun a115 =>
      gI .i64 (ld1 h a115) (!b110) fun i115 =>
      chk ((!b110) = true → (0 : Int) ≤ i87 ∧ (i87 : Int) < ((n5 : Nat) : Int)) <|
      atP (adP s5) (!b110) fun a119 =>
      atP (some (Ad.add a119 (Int.toNat i87 * 1))) (!b110) fun a120 =>
      gI .i64 (ld1 h a120) (!b110) fun i120 =>
      chk ((!b110) = true → (0 : Int) ≤ i120 ∧ (i120 : Int) < ((n8 : Nat) : Int)) <|
      atP (adP s8) (!b110) fun a121 =>
      atP (some (Ad.add a121 (Int.toNat i120 * 1))) (!b110) fun a122 =>
      gI .i64 (ld1 h a122) (!b110) fun i122 =>
      letK ((!decide ((i115 : Int) = i122)) : Bool) fun b123 =>
      letK ((if b110 = true then true else b123) : Bool) fun b124 =>
      if b124 = true then
        (
        Q .ret (S13xr false h)
        )
      else
        (
        J13x81 M C s5 n5 s7x0 n7x0 i7x1 s7x2 n7x2 s7x3 n7x3 s7x4 n7x4 s8 n8 s85 n85 i86 i87 h Q
        )
      )
    else
      (
      chk (true = true → (0 : Int) ≤ i87 ∧ (i87 : Int) < ((n8 : Nat) : Int)) <|
      atP (adP s8) true fun a129 =>
      gI .i64 (ld1 h (Ad.add a129 (Int.toNat i87 * 1))) true fun i130 =>
      (C 36 [(.sl s7x2 n7x2), (.int .i64 i130)] h).bind fun r131 =>
      gB (some r131.1) true fun b131 =>
      chk ((!(!b131)) = true → (0 : Int) ≤ i87 ∧ (i87 : Int) < ((n8 : Nat) : Int)) <|
      atP (adP s8) (!(!b131)) fun a136 =>
      atP (some (Ad.add a136 (Int.toNat i87 * 1))) (!(!b131)) fun a137 =>
      gI .i64 (ld1 r131.2 a137) (!(!b131)) fun i137 =>
      letK ((decide ((i137 : Int) < 0)) : Bool) fun b138 =>
      letK ((if (!b131) = true then true else b138) : Bool) fun b139 =>
      if b139 = true then
        (
        Q .ret (S13xr false r131.2)
        )
      else
        (
        chk (true = true → (0 : Int) ≤ i87 ∧ (i87 : Int) < ((n8 : Nat) : Int)) <|
        atP (adP s8) true fun a142 =>
        gI .i64 (ld1 r131.2 (Ad.add a142 (Int.toNat i87 * 1))) true fun i143 =>
        L13x52 M C s5 n5 s7x0 n7x0 i7x1 s7x2 n7x2 s7x3 n7x3 s7x4 n7x4 s8 n8 i91x0 s91x1 n91x1 s91x2 n91x2 s91x3 n91x3 i91x4 i143 0 s85 n85 i86 i87 ((n91x1 : Nat) : Int) 0 r131.2 (Q13x52 M C Q)
        )
      )
    )
  else
    (
    Q (.exit 0) (S13xe0 h)
    )
  ) := by kernel_rfl
theorem L13x27xeq (s5 : SA) (n5 : Nat) (s7x0 : SA) (n7x0 : Nat) (i7x1 : Int) (s7x2 : SA) (n7x2 : Nat) (s7x3 : SA) (n7x3 : Nat) (s7x4 : SA) (n7x4 : Nat) (s8 : SA) (n8 : Nat) (s85 : SA) (n85 : Nat) (i86 : Int) (i87 : Int) (h : Heap) (Q : Kont R) : L13x27 mk0 C s5 n5 s7x0 n7x0 i7x1 s7x2 n7x2 s7x3 n7x3 s7x4 n7x4 s8 n8 s85 n85 i86 i87 h Q = (
  letK ((decide ((i87 : Int) < i86)) : Bool) fun b88 =>
  if b88 = true then
    (
    chk (true = true → (0 : Int) ≤ i87 ∧ (i87 : Int) < ((n85 : Nat) : Int)) <|
    atP (adP s85) true fun a90 =>
    gCells (ldN h (Ad.add a90 (Int.toNat i87 * 5)) 5) true fun l91 =>
    gI .i64 (l91[0]?) true fun i91x0 =>
    gL (l91[1]?) true fun s91x1 n91x1 =>
    gL (l91[2]?) true fun s91x2 n91x2 =>
    gL (l91[3]?) true fun s91x3 n91x3 =>
    gI .i64 (l91[4]?) true fun i91x4 =>
    chk (true = true → (0 : Int) ≤ i87 ∧ (i87 : Int) < ((n5 : Nat) : Int)) <|
    atP (adP s5) true fun a94 =>
    gI .i64 (ld1 h (Ad.add a94 (Int.toNat i87 * 1))) true fun i95 =>
    letK ((!decide ((i95 : Int) = i87)) : Bool) fun b97 =>
    if b97 = true then
      (
      chk (true = true → (0 : Int) ≤ i87 ∧ (i87 : Int) < ((n5 : Nat) : Int)) <|
      atP (adP s5) true fun a100 =>
      gI .i64 (ld1 h (Ad.add a100 (Int.toNat i87 * 1))) true fun i101 =>
      letK ((decide ((i101 : Int) < 0)) : Bool) fun b102 =>
      chk ((!b102) = true → (0 : Int) ≤ i87 ∧ (i87 : Int) < ((n5 : Nat) : Int)) <|
      atP (adP s5) (!b102) fun a106 =>
      atP (some (Ad.add a106 (Int.toNat i87 * 1))) (!b102) fun a107 =>
      gI .i64 (ld1 h a107) (!b102) fun i107 =>
      letK ((decide ((i87 : Int) ≤ i107)) : Bool) fun b109 =>
      letK ((if b102 = true then true else b109) : Bool) fun b110 =>
      chk ((!b110) = true → (0 : Int) ≤ i87 ∧ (i87 : Int) < ((n8 : Nat) : Int)) <|
      atP (adP s8) (!b110) fun a114 =>
      atP (some (Ad.add a114 (Int.toNat i87 * 1))) (!b110) fun a115 =>
      gI .i64 (ld1 h a115) (!b110) fun i115 =>
      chk ((!b110) = true → (0 : Int) ≤ i87 ∧ (i87 : Int) < ((n5 : Nat) : Int)) <|
      atP (adP s5) (!b110) fun a119 =>
      atP (some (Ad.add a119 (Int.toNat i87 * 1))) (!b110) fun a120 =>
      gI .i64 (ld1 h a120) (!b110) fun i120 =>
      chk ((!b110) = true → (0 : Int) ≤ i120 ∧ (i120 : Int) < ((n8 : Nat) : Int)) <|
      atP (adP s8) (!b110) fun a121 =>
      atP (some (Ad.add a121 (Int.toNat i120 * 1))) (!b110) fun a122 =>
      gI .i64 (ld1 h a122) (!b110) fun i122 =>
      letK ((!decide ((i115 : Int) = i122)) : Bool) fun b123 =>
      letK ((if b110 = true then true else b123) : Bool) fun b124 =>
      if b124 = true then
        (
        Q .ret (S13xr false h)
        )
      else
        (
        J13x81 mk0 C s5 n5 s7x0 n7x0 i7x1 s7x2 n7x2 s7x3 n7x3 s7x4 n7x4 s8 n8 s85 n85 i86 i87 h Q
        )
      )
    else
      (
      chk (true = true → (0 : Int) ≤ i87 ∧ (i87 : Int) < ((n8 : Nat) : Int)) <|
      atP (adP s8) true fun a129 =>
      gI .i64 (ld1 h (Ad.add a129 (Int.toNat i87 * 1))) true fun i130 =>
      (C 36 [(.sl s7x2 n7x2), (.int .i64 i130)] h).bind fun r131 =>
      gB (some r131.1) true fun b131 =>
      chk ((!(!b131)) = true → (0 : Int) ≤ i87 ∧ (i87 : Int) < ((n8 : Nat) : Int)) <|
      atP (adP s8) (!(!b131)) fun a136 =>
      atP (some (Ad.add a136 (Int.toNat i87 * 1))) (!(!b131)) fun a137 =>
      gI .i64 (ld1 r131.2 a137) (!(!b131)) fun i137 =>
      letK ((decide ((i137 : Int) < 0)) : Bool) fun b138 =>
      letK ((if (!b131) = true then true else b138) : Bool) fun b139 =>
      if b139 = true then
        (
        Q .ret (S13xr false r131.2)
        )
      else
        (
        chk (true = true → (0 : Int) ≤ i87 ∧ (i87 : Int) < ((n8 : Nat) : Int)) <|
        atP (adP s8) true fun a142 =>
        gI .i64 (ld1 r131.2 (Ad.add a142 (Int.toNat i87 * 1))) true fun i143 =>
        L13x52 mk0 C s5 n5 s7x0 n7x0 i7x1 s7x2 n7x2 s7x3 n7x3 s7x4 n7x4 s8 n8 i91x0 s91x1 n91x1 s91x2 n91x2 s91x3 n91x3 i91x4 i143 0 s85 n85 i86 i87 ((n91x1 : Nat) : Int) 0 r131.2 (Q13x52 mk0 C Q)
        )
      )
    )
  else
    (
    Q (.exit 0) (S13xe0 h)
    )
  ) := loop_eqn C k13x27 270799383593676935134183840 0 (rep 5 (.g [] true (.sl s5 n5) :: (.any :: (.box [(.sl s7x0 n7x0), (.int .i64 i7x1), (.sl s7x2 n7x2), (.sl s7x3 n7x3), (.sl s7x4 n7x4)] :: (.g [] true (.sl s8 n8) :: (rep 76 (.g [] true (.sl s85 n85) :: (.g [] true (.int .i64 i86) :: (.g [] true (.int .i64 i87) :: (rep 133 [])))))))))) h Q (by kernel_rfl) (L13x27xaux mk0 C s5 n5 s7x0 n7x0 i7x1 s7x2 n7x2 s7x3 n7x3 s7x4 n7x4 s8 n8 s85 n85 i86 i87 h Q)
theorem J13x81xaux (M : Mk) (C : Cal) (s5 : SA) (n5 : Nat) (s7x0 : SA) (n7x0 : Nat) (i7x1 : Int) (s7x2 : SA) (n7x2 : Nat) (s7x3 : SA) (n7x3 : Nat) (s7x4 : SA) (n7x4 : Nat) (s8 : SA) (n8 : Nat) (s85 : SA) (n85 : Nat) (i86 : Int) (i87 : Int) (h : Heap) (Q : Kont R) : (forceK tk (rep 5 (.g [] true (.sl s5 n5) :: (.any :: (.box [(.sl s7x0 n7x0), (.int .i64 i7x1), (.sl s7x2 n7x2), (.sl s7x3 n7x3), (.sl s7x4 n7x4)] :: (.g [] true (.sl s8 n8) :: (rep 76 (.g [] true (.sl s85 n85) :: (.g [] true (.int .i64 i86) :: (.g [] true (.int .i64 i87) :: (rep 133 [])))))))))) fun e => (seqQ (evalE M C k13x32) (roundQ M C k13x27 270799383593676935134183840 0 Q)) .normal ⟨e, h⟩) = (
  letK ((IntKind.wrap .i64 (i87 + 1)) : Int) fun i220 =>
  L13x27 M C s5 n5 s7x0 n7x0 i7x1 s7x2 n7x2 s7x3 n7x3 s7x4 n7x4 s8 n8 s85 n85 i86 i220 h Q
  ) := by kernel_rfl
theorem J13x81xeq (C : Cal) (s5 : SA) (n5 : Nat) (s7x0 : SA) (n7x0 : Nat) (i7x1 : Int) (s7x2 : SA) (n7x2 : Nat) (s7x3 : SA) (n7x3 : Nat) (s7x4 : SA) (n7x4 : Nat) (s8 : SA) (n8 : Nat) (s85 : SA) (n85 : Nat) (i86 : Int) (i87 : Int) (h : Heap) (Q : Kont R) : J13x81 mk0 C s5 n5 s7x0 n7x0 i7x1 s7x2 n7x2 s7x3 n7x3 s7x4 n7x4 s8 n8 s85 n85 i86 i87 h Q = (
  letK ((IntKind.wrap .i64 (i87 + 1)) : Int) fun i220 =>
  L13x27 mk0 C s5 n5 s7x0 n7x0 i7x1 s7x2 n7x2 s7x3 n7x3 s7x4 n7x4 s8 n8 s85 n85 i86 i220 h Q
  ) := join_eqn (seqQ (evalE mk0 C k13x32) (roundQ mk0 C k13x27 270799383593676935134183840 0 Q)) (rep 5 (.g [] true (.sl s5 n5) :: (.any :: (.box [(.sl s7x0 n7x0), (.int .i64 i7x1), (.sl s7x2 n7x2), (.sl s7x3 n7x3), (.sl s7x4 n7x4)] :: (.g [] true (.sl s8 n8) :: (rep 76 (.g [] true (.sl s85 n85) :: (.g [] true (.int .i64 i86) :: (.g [] true (.int .i64 i87) :: (rep 133 [])))))))))) h (J13x81xaux mk0 C s5 n5 s7x0 n7x0 i7x1 s7x2 n7x2 s7x3 n7x3 s7x4 n7x4 s8 n8 s85 n85 i86 i87 h Q)
theorem L13x52xaux (s5 : SA) (n5 : Nat) (s7x0 : SA) (n7x0 : Nat) (i7x1 : Int) (s7x2 : SA) (n7x2 : Nat) (s7x3 : SA) (n7x3 : Nat) (s7x4 : SA) (n7x4 : Nat) (s8 : SA) (n8 : Nat) (i10x0 : Int) (s10x1 : SA) (n10x1 : Nat) (s10x2 : SA) (n10x2 : Nat) (s10x3 : SA) (n10x3 : Nat) (i10x4 : Int) (i11 : Int) (i12 : Int) (s85 : SA) (n85 : Nat) (i86 : Int) (i87 : Int) (i146 : Int) (i147 : Int) (h : Heap) (Q : Kont R) : (restrF 267608942382367477969228002865457273205956000 ⟨(rep 5 (.g [] true (.sl s5 n5) :: (.any :: (.box [(.sl s7x0 n7x0), (.int .i64 i7x1), (.sl s7x2 n7x2), (.sl s7x3 n7x3), (.sl s7x4 n7x4)] :: (.g [] true (.sl s8 n8) :: (.any :: (.box [(.int .i64 i10x0), (.sl s10x1 n10x1), (.sl s10x2 n10x2), (.sl s10x3 n10x3), (.int .i64 i10x4)] :: (.g [] true (.int .i64 i11) :: (.g [] true (.int .i64 i12) :: (rep 72 (.g [] true (.sl s85 n85) :: (.g [] true (.int .i64 i86) :: (.g [] true (.int .i64 i87) :: (rep 58 (.g [] true (.int .i64 i146) :: (.g [] true (.int .i64 i147) :: (rep 73 []))))))))))))))))), h⟩ fun σ => evalE M C k13x52 σ (roundQ M C k13x52 267608942382367477969228002865457273205956000 270799383593676935134183840 Q)) = (
  letK ((decide ((i147 : Int) < i146)) : Bool) fun b148 =>
  if b148 = true then
    (
    letK ((decide ((((n7x0 : Nat) : Int) : Int) ≤ i11)) : Bool) fun b154 =>
    if b154 = true then
      (
      Q .ret (S13xr false h)
      )
    else
      (
      chkC (true = true → (0 : Int) ≤ i11 ∧ (i11 : Int) ≤ ((n7x0 : Nat) : Int) ∧ esOk h s7x0 1) <|
      letK ((n7x0 - Int.toNat i11) : Nat) fun n159 =>
      letK ((adS s7x0 (Int.toNat i11 * 1) n159) : SA) fun s159 =>
      (C 27 [(.sl s159 n159)] h).bind fun r160 =>
      gT 3 r160.1 true fun u160 =>
      gA (List.getD u160 0 .opq) true fun l160x0 =>
      chk (true = true → l160x0.length = 5) <|
      gI .i64 (l160x0[0]?) true fun i160x0x0 =>
      gI .i64 (l160x0[1]?) true fun i160x0x1 =>
      gI .i64 (l160x0[2]?) true fun i160x0x2 =>
      gI .i64 (l160x0[3]?) true fun i160x0x3 =>
      gI .i64 (l160x0[4]?) true fun i160x0x4 =>
      gI .i64 (some (List.getD u160 1 .opq)) true fun i160x1 =>
      gI .i64 (some (List.getD u160 2 .opq)) true fun i160x2 =>
      letK ((!decide ((i160x2 : Int) = 0)) : Bool) fun b165 =>
      if b165 = true then
        (
        Q .ret (S13xr false r160.2)
        )
      else
        (
        letK ((IntKind.wrap .i64 (i11 + i160x1)) : Int) fun i168 =>
        letK ((decide ((i12 : Int) < ((n10x2 : Nat) : Int))) : Bool) fun b173 =>
        gL (some (.sl s10x2 n10x2)) b173 fun s176 n176 =>
        chk (b173 = true → (0 : Int) ≤ i12 ∧ (i12 : Int) < ((n176 : Nat) : Int)) <|
        atP (adP s176) b173 fun a178 =>
        atP (some (Ad.add a178 (Int.toNat i12 * 2))) b173 fun a179 =>
        atP (some (Ad.add a179 0)) b173 fun a180 =>
        gI .i64 (ld1 r160.2 a180) b173 fun i180 =>
        letK ((decide ((i180 : Int) = i147)) : Bool) fun b182 =>
        letK ((if b173 = true then b182 else false) : Bool) fun b183 =>
        if b183 = true then
          (
          chk (true = true → (0 : Int) ≤ i12 ∧ (i12 : Int) < ((n10x2 : Nat) : Int)) <|
          atP (adP s10x2) true fun a188 =>
          gI .i64 (ld1 r160.2 (Ad.add (Ad.add a188 (Int.toNat i12 * 2)) 1)) true fun i190 =>
          chk (true = true → (0 : Int) ≤ i190 ∧ (i190 : Int) < ((n8 : Nat) : Int)) <|
          atP (adP s8) true fun a191 =>
          gI .i64 (ld1 r160.2 (Ad.add a191 (Int.toNat i190 * 1))) true fun i192 =>
          letK ((decide ((i160x0x0 : Int) = 20)) : Bool) fun b195 =>
          gI .i64 (some (.int .i64 i160x0x4)) b195 fun i199 =>
          letK ((IntKind.wrap .i64 (i168 + i199)) : Int) fun i200 =>
          letK ((!decide ((i200 : Int) = i192)) : Bool) fun b202 =>
          letK ((if b195 = true then b202 else false) : Bool) fun b203 =>
          gI .i64 (some (.int .i64 i160x0x0)) (!b203) fun i206 =>
          letK ((decide ((i206 : Int) = 11)) : Bool) fun b207 =>
          gI .i64 (some (.int .i64 i160x0x4)) (andB (!b203) b207) fun i210 =>
          letK ((IntKind.wrap .i64 (2 * i192)) : Int) fun i212 =>
          letK ((IntKind.wrap .i64 (i212 + 1)) : Int) fun i213 =>
          letK ((!decide ((i210 : Int) = i213)) : Bool) fun b214 =>
          letK ((if b207 = true then b214 else false) : Bool) fun b215 =>
          letK ((if b203 = true then true else b215) : Bool) fun b216 =>
          if b216 = true then
            (
            Q .ret (S13xr false r160.2)
            )
          else
            (
            letK ((IntKind.wrap .i64 (i12 + 1)) : Int) fun i218 =>
            J13x80 M C s5 n5 s7x0 n7x0 i7x1 s7x2 n7x2 s7x3 n7x3 s7x4 n7x4 s8 n8 i10x0 s10x1 n10x1 s10x2 n10x2 s10x3 n10x3 i10x4 i168 i218 s85 n85 i86 i87 i146 i147 r160.2 Q
            )
          )
        else
          (
          J13x80 M C s5 n5 s7x0 n7x0 i7x1 s7x2 n7x2 s7x3 n7x3 s7x4 n7x4 s8 n8 i10x0 s10x1 n10x1 s10x2 n10x2 s10x3 n10x3 i10x4 i168 i12 s85 n85 i86 i87 i146 i147 r160.2 Q
          )
        )
      )
    )
  else
    (
    Q (.exit 2) (S13xe2 s5 n5 s7x0 n7x0 i7x1 s7x2 n7x2 s7x3 n7x3 s7x4 n7x4 s8 n8 s85 n85 i86 i87 h)
    )
  ) := by kernel_rfl
theorem L13x52xeq (s5 : SA) (n5 : Nat) (s7x0 : SA) (n7x0 : Nat) (i7x1 : Int) (s7x2 : SA) (n7x2 : Nat) (s7x3 : SA) (n7x3 : Nat) (s7x4 : SA) (n7x4 : Nat) (s8 : SA) (n8 : Nat) (i10x0 : Int) (s10x1 : SA) (n10x1 : Nat) (s10x2 : SA) (n10x2 : Nat) (s10x3 : SA) (n10x3 : Nat) (i10x4 : Int) (i11 : Int) (i12 : Int) (s85 : SA) (n85 : Nat) (i86 : Int) (i87 : Int) (i146 : Int) (i147 : Int) (h : Heap) (Q : Kont R) : L13x52 mk0 C s5 n5 s7x0 n7x0 i7x1 s7x2 n7x2 s7x3 n7x3 s7x4 n7x4 s8 n8 i10x0 s10x1 n10x1 s10x2 n10x2 s10x3 n10x3 i10x4 i11 i12 s85 n85 i86 i87 i146 i147 h Q = (
  letK ((decide ((i147 : Int) < i146)) : Bool) fun b148 =>
  if b148 = true then
    (
    letK ((decide ((((n7x0 : Nat) : Int) : Int) ≤ i11)) : Bool) fun b154 =>
    if b154 = true then
      (
      Q .ret (S13xr false h)
      )
    else
      (
      chkC (true = true → (0 : Int) ≤ i11 ∧ (i11 : Int) ≤ ((n7x0 : Nat) : Int) ∧ esOk h s7x0 1) <|
      letK ((n7x0 - Int.toNat i11) : Nat) fun n159 =>
      letK ((adS s7x0 (Int.toNat i11 * 1) n159) : SA) fun s159 =>
      (C 27 [(.sl s159 n159)] h).bind fun r160 =>
      gT 3 r160.1 true fun u160 =>
      gA (List.getD u160 0 .opq) true fun l160x0 =>
      chk (true = true → l160x0.length = 5) <|
      gI .i64 (l160x0[0]?) true fun i160x0x0 =>
      gI .i64 (l160x0[1]?) true fun i160x0x1 =>
      gI .i64 (l160x0[2]?) true fun i160x0x2 =>
      gI .i64 (l160x0[3]?) true fun i160x0x3 =>
      gI .i64 (l160x0[4]?) true fun i160x0x4 =>
      gI .i64 (some (List.getD u160 1 .opq)) true fun i160x1 =>
      gI .i64 (some (List.getD u160 2 .opq)) true fun i160x2 =>
      letK ((!decide ((i160x2 : Int) = 0)) : Bool) fun b165 =>
      if b165 = true then
        (
        Q .ret (S13xr false r160.2)
        )
      else
        (
        letK ((IntKind.wrap .i64 (i11 + i160x1)) : Int) fun i168 =>
        letK ((decide ((i12 : Int) < ((n10x2 : Nat) : Int))) : Bool) fun b173 =>
        gL (some (.sl s10x2 n10x2)) b173 fun s176 n176 =>
        chk (b173 = true → (0 : Int) ≤ i12 ∧ (i12 : Int) < ((n176 : Nat) : Int)) <|
        atP (adP s176) b173 fun a178 =>
        atP (some (Ad.add a178 (Int.toNat i12 * 2))) b173 fun a179 =>
        atP (some (Ad.add a179 0)) b173 fun a180 =>
        gI .i64 (ld1 r160.2 a180) b173 fun i180 =>
        letK ((decide ((i180 : Int) = i147)) : Bool) fun b182 =>
        letK ((if b173 = true then b182 else false) : Bool) fun b183 =>
        if b183 = true then
          (
          chk (true = true → (0 : Int) ≤ i12 ∧ (i12 : Int) < ((n10x2 : Nat) : Int)) <|
          atP (adP s10x2) true fun a188 =>
          gI .i64 (ld1 r160.2 (Ad.add (Ad.add a188 (Int.toNat i12 * 2)) 1)) true fun i190 =>
          chk (true = true → (0 : Int) ≤ i190 ∧ (i190 : Int) < ((n8 : Nat) : Int)) <|
          atP (adP s8) true fun a191 =>
          gI .i64 (ld1 r160.2 (Ad.add a191 (Int.toNat i190 * 1))) true fun i192 =>
          letK ((decide ((i160x0x0 : Int) = 20)) : Bool) fun b195 =>
          gI .i64 (some (.int .i64 i160x0x4)) b195 fun i199 =>
          letK ((IntKind.wrap .i64 (i168 + i199)) : Int) fun i200 =>
          letK ((!decide ((i200 : Int) = i192)) : Bool) fun b202 =>
          letK ((if b195 = true then b202 else false) : Bool) fun b203 =>
          gI .i64 (some (.int .i64 i160x0x0)) (!b203) fun i206 =>
          letK ((decide ((i206 : Int) = 11)) : Bool) fun b207 =>
          gI .i64 (some (.int .i64 i160x0x4)) (andB (!b203) b207) fun i210 =>
          letK ((IntKind.wrap .i64 (2 * i192)) : Int) fun i212 =>
          letK ((IntKind.wrap .i64 (i212 + 1)) : Int) fun i213 =>
          letK ((!decide ((i210 : Int) = i213)) : Bool) fun b214 =>
          letK ((if b207 = true then b214 else false) : Bool) fun b215 =>
          letK ((if b203 = true then true else b215) : Bool) fun b216 =>
          if b216 = true then
            (
            Q .ret (S13xr false r160.2)
            )
          else
            (
            letK ((IntKind.wrap .i64 (i12 + 1)) : Int) fun i218 =>
            J13x80 mk0 C s5 n5 s7x0 n7x0 i7x1 s7x2 n7x2 s7x3 n7x3 s7x4 n7x4 s8 n8 i10x0 s10x1 n10x1 s10x2 n10x2 s10x3 n10x3 i10x4 i168 i218 s85 n85 i86 i87 i146 i147 r160.2 Q
            )
          )
        else
          (
          J13x80 mk0 C s5 n5 s7x0 n7x0 i7x1 s7x2 n7x2 s7x3 n7x3 s7x4 n7x4 s8 n8 i10x0 s10x1 n10x1 s10x2 n10x2 s10x3 n10x3 i10x4 i168 i12 s85 n85 i86 i87 i146 i147 r160.2 Q
          )
        )
      )
    )
  else
    (
    Q (.exit 2) (S13xe2 s5 n5 s7x0 n7x0 i7x1 s7x2 n7x2 s7x3 n7x3 s7x4 n7x4 s8 n8 s85 n85 i86 i87 h)
    )
  ) := loop_eqn C k13x52 267608942382367477969228002865457273205956000 270799383593676935134183840 (rep 5 (.g [] true (.sl s5 n5) :: (.any :: (.box [(.sl s7x0 n7x0), (.int .i64 i7x1), (.sl s7x2 n7x2), (.sl s7x3 n7x3), (.sl s7x4 n7x4)] :: (.g [] true (.sl s8 n8) :: (.any :: (.box [(.int .i64 i10x0), (.sl s10x1 n10x1), (.sl s10x2 n10x2), (.sl s10x3 n10x3), (.int .i64 i10x4)] :: (.g [] true (.int .i64 i11) :: (.g [] true (.int .i64 i12) :: (rep 72 (.g [] true (.sl s85 n85) :: (.g [] true (.int .i64 i86) :: (.g [] true (.int .i64 i87) :: (rep 58 (.g [] true (.int .i64 i146) :: (.g [] true (.int .i64 i147) :: (rep 73 []))))))))))))))))) h Q (by kernel_rfl) (L13x52xaux mk0 C s5 n5 s7x0 n7x0 i7x1 s7x2 n7x2 s7x3 n7x3 s7x4 n7x4 s8 n8 i10x0 s10x1 n10x1 s10x2 n10x2 s10x3 n10x3 i10x4 i11 i12 s85 n85 i86 i87 i146 i147 h Q)
theorem J13x80xaux (M : Mk) (C : Cal) (s5 : SA) (n5 : Nat) (s7x0 : SA) (n7x0 : Nat) (i7x1 : Int) (s7x2 : SA) (n7x2 : Nat) (s7x3 : SA) (n7x3 : Nat) (s7x4 : SA) (n7x4 : Nat) (s8 : SA) (n8 : Nat) (i10x0 : Int) (s10x1 : SA) (n10x1 : Nat) (s10x2 : SA) (n10x2 : Nat) (s10x3 : SA) (n10x3 : Nat) (i10x4 : Int) (i11 : Int) (i12 : Int) (s85 : SA) (n85 : Nat) (i86 : Int) (i87 : Int) (i146 : Int) (i147 : Int) (h : Heap) (Q : Kont R) : (forceK tk (rep 5 (.g [] true (.sl s5 n5) :: (.any :: (.box [(.sl s7x0 n7x0), (.int .i64 i7x1), (.sl s7x2 n7x2), (.sl s7x3 n7x3), (.sl s7x4 n7x4)] :: (.g [] true (.sl s8 n8) :: (.any :: (.box [(.int .i64 i10x0), (.sl s10x1 n10x1), (.sl s10x2 n10x2), (.sl s10x3 n10x3), (.int .i64 i10x4)] :: (.g [] true (.int .i64 i11) :: (.g [] true (.int .i64 i12) :: (rep 72 (.g [] true (.sl s85 n85) :: (.g [] true (.int .i64 i86) :: (.g [] true (.int .i64 i87) :: (rep 58 (.g [] true (.int .i64 i146) :: (.g [] true (.int .i64 i147) :: (rep 73 []))))))))))))))))) fun e => (blockQ 3 (seqQ (evalE M C k13x58) (seqQ (evalE M C k13x57) (roundQ M C k13x52 267608942382367477969228002865457273205956000 270799383593676935134183840 Q)))) .normal ⟨e, h⟩) = (
  letK ((IntKind.wrap .i64 (i147 + 1)) : Int) fun i219 =>
  L13x52 M C s5 n5 s7x0 n7x0 i7x1 s7x2 n7x2 s7x3 n7x3 s7x4 n7x4 s8 n8 i10x0 s10x1 n10x1 s10x2 n10x2 s10x3 n10x3 i10x4 i11 i12 s85 n85 i86 i87 i146 i219 h Q
  ) := by kernel_rfl
theorem J13x80xeq (C : Cal) (s5 : SA) (n5 : Nat) (s7x0 : SA) (n7x0 : Nat) (i7x1 : Int) (s7x2 : SA) (n7x2 : Nat) (s7x3 : SA) (n7x3 : Nat) (s7x4 : SA) (n7x4 : Nat) (s8 : SA) (n8 : Nat) (i10x0 : Int) (s10x1 : SA) (n10x1 : Nat) (s10x2 : SA) (n10x2 : Nat) (s10x3 : SA) (n10x3 : Nat) (i10x4 : Int) (i11 : Int) (i12 : Int) (s85 : SA) (n85 : Nat) (i86 : Int) (i87 : Int) (i146 : Int) (i147 : Int) (h : Heap) (Q : Kont R) : J13x80 mk0 C s5 n5 s7x0 n7x0 i7x1 s7x2 n7x2 s7x3 n7x3 s7x4 n7x4 s8 n8 i10x0 s10x1 n10x1 s10x2 n10x2 s10x3 n10x3 i10x4 i11 i12 s85 n85 i86 i87 i146 i147 h Q = (
  letK ((IntKind.wrap .i64 (i147 + 1)) : Int) fun i219 =>
  L13x52 mk0 C s5 n5 s7x0 n7x0 i7x1 s7x2 n7x2 s7x3 n7x3 s7x4 n7x4 s8 n8 i10x0 s10x1 n10x1 s10x2 n10x2 s10x3 n10x3 i10x4 i11 i12 s85 n85 i86 i87 i146 i219 h Q
  ) := join_eqn (blockQ 3 (seqQ (evalE mk0 C k13x58) (seqQ (evalE mk0 C k13x57) (roundQ mk0 C k13x52 267608942382367477969228002865457273205956000 270799383593676935134183840 Q)))) (rep 5 (.g [] true (.sl s5 n5) :: (.any :: (.box [(.sl s7x0 n7x0), (.int .i64 i7x1), (.sl s7x2 n7x2), (.sl s7x3 n7x3), (.sl s7x4 n7x4)] :: (.g [] true (.sl s8 n8) :: (.any :: (.box [(.int .i64 i10x0), (.sl s10x1 n10x1), (.sl s10x2 n10x2), (.sl s10x3 n10x3), (.int .i64 i10x4)] :: (.g [] true (.int .i64 i11) :: (.g [] true (.int .i64 i12) :: (rep 72 (.g [] true (.sl s85 n85) :: (.g [] true (.int .i64 i86) :: (.g [] true (.int .i64 i87) :: (rep 58 (.g [] true (.int .i64 i146) :: (.g [] true (.int .i64 i147) :: (rep 73 []))))))))))))))))) h (J13x80xaux mk0 C s5 n5 s7x0 n7x0 i7x1 s7x2 n7x2 s7x3 n7x3 s7x4 n7x4 s8 n8 i10x0 s10x1 n10x1 s10x2 n10x2 s10x3 n10x3 i10x4 i11 i12 s85 n85 i86 i87 i146 i147 h Q)
theorem X13x27xr (M : Mk) (C : Cal) (b4 : Bool) (h : Heap) : Q13x27 M C .ret (S13xr b4 h) = (
  some ((.bool b4), h)
  ) := by kernel_rfl
theorem X13x27xe0 (M : Mk) (C : Cal) (h : Heap) : Q13x27 M C (.exit 0) (S13xe0 h) = (
  some ((.bool true), h)
  ) := by kernel_rfl
theorem X13x52xr (M : Mk) (C : Cal) (b4 : Bool) (h : Heap) (Q : Kont R) : Q13x52 M C Q .ret (S13xr b4 h) = (
  Q .ret (S13xr b4 h)
  ) := by kernel_rfl
theorem X13x52xe2 (M : Mk) (C : Cal) (s5 : SA) (n5 : Nat) (s7x0 : SA) (n7x0 : Nat) (i7x1 : Int) (s7x2 : SA) (n7x2 : Nat) (s7x3 : SA) (n7x3 : Nat) (s7x4 : SA) (n7x4 : Nat) (s8 : SA) (n8 : Nat) (s85 : SA) (n85 : Nat) (i86 : Int) (i87 : Int) (h : Heap) (Q : Kont R) : Q13x52 M C Q (.exit 2) (S13xe2 s5 n5 s7x0 n7x0 i7x1 s7x2 n7x2 s7x3 n7x3 s7x4 n7x4 s8 n8 s85 n85 i86 i87 h) = (
  J13x81 M C s5 n5 s7x0 n7x0 i7x1 s7x2 n7x2 s7x3 n7x3 s7x4 n7x4 s8 n8 s85 n85 i86 i87 h Q
  ) := by kernel_rfl
end
end Go.Proofs.Ytmfmnbldngfelaa.I
