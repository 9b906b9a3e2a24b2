/- The M-code of the functions that are reached, printed by program (part 2). No condition. -/
import Derived.Test.YtjeegophpmpibaaGreatDoorMc1
set_option linter.unusedVariables false
namespace Go.Proofs.YtjeegophpmpibaaGreatDoor.Pv
open Go
/- (*hallmark.lattice.part).commonObjects -/
abbrev r67_0 : List MOp := [
  ⟨(some 8), .mv (.t 0), none, false⟩,
  ⟨(some 9), .nilck (.t 8), none, false⟩,
  ⟨(some 10), .faddr (.t 9) 0, none, false⟩,
  ⟨(some 11), .faddr (.t 10) 8, none, false⟩,
  ⟨(some 12), .load (.t 11) 1 false, none, false⟩,
  ⟨(some 13), .len (.t 12), none, false⟩,
  ⟨(some 14), .mv (.k (.int .i64 0)), none, false⟩]
abbrev r67_1 : List MOp := [
  ⟨(some 15), .bin .lss 0 (.t 14) (.t 13), none, false⟩]
abbrev r67_2 : List MOp := [
  ⟨(some 16), .iaddr (.t 12) (.t 14) 12, none, false⟩,
  ⟨(some 17), .load (.t 16) 12 true, none, false⟩,
  ⟨(some 3), .alloc [(.vec 1 true []), (.vec 9 true []), (.vec 1 true []), (.bool false), (.bool false), (.bool false), (.bool false), (.vec 2 true []), (.bool false), (.vec 1 true []), (.vec 11 true []), (.vec 12 true [])], none, false⟩,
  ⟨none, .store (.t 3) (.t 17) 12, none, false⟩]
abbrev r67_3 : List MOp := [
  ⟨(some 18), .mv (.t 0), none, false⟩,
  ⟨(some 19), .nilck (.t 18), none, false⟩,
  ⟨(some 20), .faddr (.t 19) 9, none, false⟩,
  ⟨(some 21), .faddr (.t 20) 8, none, false⟩,
  ⟨(some 22), .load (.t 21) 1 false, none, false⟩,
  ⟨(some 23), .len (.t 22), none, false⟩,
  ⟨(some 24), .mv (.k (.int .i64 0)), none, false⟩]
abbrev r67_4 : List MOp := [
  ⟨(some 25), .bin .lss 0 (.t 24) (.t 23), none, false⟩]
abbrev r67_5 : List MOp := [
  ⟨(some 26), .iaddr (.t 22) (.t 24) 12, none, false⟩,
  ⟨(some 27), .load (.t 26) 12 true, none, false⟩,
  ⟨(some 5), .alloc [(.vec 1 true []), (.vec 9 true []), (.vec 1 true []), (.bool false), (.bool false), (.bool false), (.bool false), (.vec 2 true []), (.bool false), (.vec 1 true []), (.vec 11 true []), (.vec 12 true [])], none, false⟩,
  ⟨none, .store (.t 5) (.t 27) 12, none, false⟩]
abbrev r67_6 : List MOp := [
  ⟨(some 29), .load (.t 3) 12 true, none, false⟩,
  ⟨(some 30), .load (.t 5) 12 true, none, false⟩,
  ⟨(some 31), .call 104 [(.t 29), (.t 30)], none, false⟩,
  ⟨(some 28), .mv (.t 31), none, false⟩,
  ⟨(some 32), .ext (.t 28) 0, none, false⟩,
  ⟨(some 33), .ext (.t 28) 1, none, false⟩,
  ⟨(some 6), .alloc [(.vec 1 true []), (.vec 9 true []), (.vec 1 true []), (.bool false), (.bool false), (.bool false), (.bool false), (.vec 2 true []), (.bool false), (.vec 1 true []), (.vec 11 true []), (.vec 12 true [])], none, false⟩,
  ⟨none, .store (.t 6) (.t 32) 12, none, false⟩,
  ⟨(some 7), .mv (.t 33), none, false⟩]
abbrev r67_7 : List MOp := [
  ⟨(some 34), .mv (.t 7), none, false⟩]
abbrev r67_8 : List MOp := [
  ⟨(some 35), .mv (.t 0), none, false⟩,
  ⟨(some 36), .nilck (.t 35), none, false⟩,
  ⟨(some 37), .faddr (.t 36) 18, none, false⟩,
  ⟨(some 38), .faddr (.t 37) 8, none, false⟩,
  ⟨(some 39), .load (.t 38) 1 false, none, false⟩,
  ⟨(some 40), .load (.t 6) 12 true, none, false⟩,
  ⟨(some 41), .len (.t 39), none, false⟩,
  ⟨(some 42), .bad, none, false⟩,
  ⟨(some 43), .app (.t 39) (.t 42) 12, none, false⟩,
  ⟨(some 44), .iaddr (.t 43) (.t 41) 12, none, false⟩,
  ⟨none, .store (.t 44) (.t 40) 12, none, false⟩,
  ⟨(some 45), .nilck (.t 35), none, false⟩,
  ⟨(some 46), .faddr (.t 45) 18, none, false⟩,
  ⟨(some 47), .faddr (.t 46) 8, none, false⟩,
  ⟨none, .store (.t 47) (.t 43) 1, none, false⟩]
abbrev r67_9 : List MOp := [
  ⟨(some 48), .bin .add 0 (.t 24) (.k (.int .i64 1)), none, false⟩,
  ⟨(some 24), .mv (.t 48), none, false⟩]
abbrev b67_10 : MC := (.seq (.reg r67_4) (.seq (.cond (.t 25) .skip (.exit 2)) (.seq (.block 3 (.seq (.reg r67_5) (.seq (.reg r67_6) (.seq (.reg r67_7) (.cond (.t 34) (.draw [(0, 5), (1, 5), (2, 5), (3, 5), (4, 5), (5, 6), (0, 7), (1, 7), (2, 7), (3, 7), (4, 7), (5, 7), (6, 7), (9, 11), (10, 11), (9, 12), (10, 12), (9, 13), (10, 13), (9, 14), (10, 14)] r67_8) .skip))))) (.reg r67_9))))
abbrev r67_11 : List MOp := [
  ⟨(some 49), .bin .add 0 (.t 14) (.k (.int .i64 1)), none, false⟩,
  ⟨(some 14), .mv (.t 49), none, false⟩]
abbrev b67_12 : MC := (.seq (.reg r67_1) (.seq (.cond (.t 15) .skip (.exit 0)) (.seq (.block 1 (.seq (.reg r67_2) (.seq (.reg r67_3) (.block 2 (.loop b67_10))))) (.reg r67_11))))
abbrev m67 : MC := (.seq (.reg r67_0) (.block 0 (.loop b67_12)))
abbrev rs67 : List RV := []
/- hallmark.shape.Every -/
abbrev r68_0 : List MOp := [
  ⟨(some 0), .alloc [(.bool false), (.bool false), (.bool false), (.bool false), (.vec 2 true []), (.bool false), (.vec 1 true []), (.vec 11 true []), (.vec 12 true [])], none, false⟩]
abbrev r68_1 : List MOp := [
  ⟨(some 1), .build [(.bool false), (.bool false), (.bool false), (.bool false), (.vec 2 true []), (.bool false), (.vec 1 true []), (.vec 11 true []), (.vec 12 true [])] [(0, 1, (.k (.bool true)))], none, false⟩,
  ⟨none, .store (.t 0) (.t 1) 9, none, false⟩]
abbrev m68 : MC := (.seq (.reg r68_0) (.seq (.reg r68_1) .ret))
abbrev rs68 : List RV := [(.cell 0 27 9 true)]
/- hallmark.shape.OfKinds$1 -/
abbrev r69_0 : List MOp := [
  ⟨(some 3), .mv (.k (.bool false)), none, false⟩]
abbrev r69_1 : List MOp := [
  ⟨(some 4), .load (.t 1) 1 false, none, false⟩,
  ⟨(some 5), .mv (.t 0), none, false⟩,
  ⟨(some 6), .bin .shr 0 (.t 4) (.t 5), none, false⟩,
  ⟨(some 7), .bin .and 0 (.t 6) (.k (.int .u8 1)), none, false⟩,
  ⟨(some 8), .bin .eql 0 (.t 7) (.k (.int .u8 1)), none, false⟩,
  ⟨(some 3), .mv (.t 8), none, false⟩]
abbrev m69 : MC := (.seq (.reg r69_0) (.seq (.reg r69_1) .ret))
abbrev rs69 : List RV := [(.tmp 3)]
/- unicode.utf8.ValidString -/
abbrev r70_0 : List MOp := [
  ⟨(some 2), .mv (.k (.bool false)), none, false⟩]
abbrev r70_1 : List MOp := [
  ⟨(some 7), .mv (.t 0), none, false⟩,
  ⟨(some 8), .slen (.t 7), none, false⟩,
  ⟨(some 9), .bin .gtr 0 (.t 8) (.k (.int .i64 0)), none, false⟩]
abbrev r70_2 : List MOp := [
  ⟨(some 10), .mv (.t 0), none, false⟩,
  ⟨(some 11), .sidx (.t 10) (.k (.int .i64 0)), none, false⟩,
  ⟨(some 3), .mv (.t 11), none, false⟩]
abbrev r70_3 : List MOp := [
  ⟨(some 12), .mv (.t 3), none, false⟩,
  ⟨(some 13), .bin .lss 0 (.t 12) (.k (.int .u8 128)), none, false⟩]
abbrev r70_4 : List MOp := [
  ⟨(some 14), .mv (.t 0), none, false⟩,
  ⟨(some 15), .sslc (.t 14) (some (.k (.int .i64 1))) none, none, false⟩,
  ⟨(some 0), .mv (.t 15), none, false⟩]
abbrev r70_5 : List MOp := [
  ⟨(some 16), .mv (.t 0), none, false⟩,
  ⟨(some 17), .slen (.t 16), none, false⟩,
  ⟨(some 18), .bin .gtr 0 (.t 17) (.k (.int .i64 8)), none, false⟩,
  ⟨(some 19), .mv (.t 18), none, false⟩,
  ⟨(some 20), .mv (.t 0), some (19, true), false⟩,
  ⟨(some 21), .call 105 [(.t 20)], some (19, true), false⟩,
  ⟨(some 22), .bin .and 0 (.t 21) (.k (.int .u64 9259542123273814144)), some (19, true), false⟩,
  ⟨(some 23), .bin .eql 0 (.t 22) (.k (.int .u64 0)), some (19, true), false⟩,
  ⟨(some 24), .pick (.t 19) (.t 23) (.k (.bool false)), none, false⟩]
abbrev r70_6 : List MOp := [
  ⟨(some 25), .mv (.t 0), none, false⟩,
  ⟨(some 26), .sslc (.t 25) (some (.k (.int .i64 8))) none, none, false⟩,
  ⟨(some 0), .mv (.t 26), none, false⟩]
abbrev r70_7 : List MOp := [
  ⟨(some 27), .mv (.t 0), none, false⟩,
  ⟨(some 28), .slen (.t 27), none, false⟩,
  ⟨(some 29), .bin .gtr 0 (.t 28) (.k (.int .i64 16)), none, false⟩,
  ⟨(some 30), .mv (.t 29), none, false⟩,
  ⟨(some 31), .mv (.t 0), some (30, true), false⟩,
  ⟨(some 32), .call 105 [(.t 31)], some (30, true), false⟩,
  ⟨(some 33), .mv (.t 0), some (30, true), false⟩,
  ⟨(some 34), .sslc (.t 33) (some (.k (.int .i64 8))) none, some (30, true), false⟩,
  ⟨(some 35), .call 105 [(.t 34)], some (30, true), false⟩,
  ⟨(some 36), .bin .or 0 (.t 32) (.t 35), some (30, true), false⟩,
  ⟨(some 37), .bin .and 0 (.t 36) (.k (.int .u64 9259542123273814144)), some (30, true), false⟩,
  ⟨(some 38), .bin .eql 0 (.t 37) (.k (.int .u64 0)), some (30, true), false⟩,
  ⟨(some 39), .pick (.t 30) (.t 38) (.k (.bool false)), none, false⟩]
abbrev r70_8 : List MOp := [
  ⟨(some 40), .mv (.t 0), none, false⟩,
  ⟨(some 41), .sslc (.t 40) (some (.k (.int .i64 16))) none, none, false⟩,
  ⟨(some 0), .mv (.t 41), none, false⟩]
abbrev r70_9 : List MOp := [
  ⟨(some 42), .mv (.t 0), none, false⟩,
  ⟨(some 43), .slen (.t 42), none, false⟩,
  ⟨(some 44), .bin .gtr 0 (.t 43) (.k (.int .i64 32)), none, false⟩,
  ⟨(some 45), .mv (.t 44), none, false⟩,
  ⟨(some 46), .mv (.t 0), some (45, true), false⟩,
  ⟨(some 47), .call 105 [(.t 46)], some (45, true), false⟩,
  ⟨(some 48), .mv (.t 0), some (45, true), false⟩,
  ⟨(some 49), .sslc (.t 48) (some (.k (.int .i64 8))) none, some (45, true), false⟩,
  ⟨(some 50), .call 105 [(.t 49)], some (45, true), false⟩,
  ⟨(some 51), .bin .or 0 (.t 47) (.t 50), some (45, true), false⟩,
  ⟨(some 52), .mv (.t 0), some (45, true), false⟩,
  ⟨(some 53), .sslc (.t 52) (some (.k (.int .i64 16))) none, some (45, true), false⟩,
  ⟨(some 54), .call 105 [(.t 53)], some (45, true), false⟩,
  ⟨(some 55), .mv (.t 0), some (45, true), false⟩,
  ⟨(some 56), .sslc (.t 55) (some (.k (.int .i64 24))) none, some (45, true), false⟩,
  ⟨(some 57), .call 105 [(.t 56)], some (45, true), false⟩,
  ⟨(some 58), .bin .or 0 (.t 54) (.t 57), some (45, true), false⟩,
  ⟨(some 59), .bin .or 0 (.t 51) (.t 58), some (45, true), false⟩,
  ⟨(some 60), .bin .and 0 (.t 59) (.k (.int .u64 9259542123273814144)), some (45, true), false⟩,
  ⟨(some 61), .bin .eql 0 (.t 60) (.k (.int .u64 0)), some (45, true), false⟩,
  ⟨(some 62), .pick (.t 45) (.t 61) (.k (.bool false)), none, false⟩]
abbrev r70_10 : List MOp := [
  ⟨(some 63), .mv (.t 0), none, false⟩,
  ⟨(some 64), .sslc (.t 63) (some (.k (.int .i64 32))) none, none, false⟩,
  ⟨(some 0), .mv (.t 64), none, false⟩]
abbrev b70_11 : MC := (.seq (.seq (.draw [(4, 6), (5, 6), (4, 7), (5, 7), (4, 10), (5, 10), (6, 10), (7, 10), (8, 10), (9, 10), (4, 11), (5, 11), (6, 11), (7, 11), (8, 11), (9, 11), (9, 12), (4, 13), (5, 13), (6, 13), (7, 13), (8, 13), (9, 13), (10, 13), (11, 13), (12, 13), (4, 14), (5, 14), (6, 14), (7, 14), (8, 14), (9, 14), (10, 14), (11, 14), (12, 14), (9, 15), (9, 16)] r70_9) (.cond (.t 62) .skip (.exit 2))) (.block 3 (.reg r70_10)))
abbrev r70_12 : List MOp := [
  ⟨(some 65), .mv (.t 3), none, false⟩,
  ⟨(some 66), .bad, none, false⟩,
  ⟨(some 67), .load (.t 66) 1 false, none, false⟩,
  ⟨(some 4), .mv (.t 67), none, false⟩]
abbrev r70_13 : List MOp := [
  ⟨(some 68), .mv (.t 4), none, false⟩,
  ⟨(some 69), .bin .and 0 (.t 68) (.k (.int .u8 7)), none, false⟩,
  ⟨(some 70), .conv .i64 (.t 69), none, false⟩,
  ⟨(some 5), .mv (.t 70), none, false⟩]
abbrev r70_14 : List MOp := [
  ⟨(some 71), .mv (.t 4), none, false⟩,
  ⟨(some 72), .bin .shr 0 (.t 71) (.k (.int .u64 4)), none, false⟩,
  ⟨(some 73), .bad, none, false⟩,
  ⟨(some 74), .load (.t 73) 2 true, none, false⟩,
  ⟨(some 6), .alloc [(.int .u8 0), (.int .u8 0)], none, false⟩,
  ⟨none, .store (.t 6) (.t 74) 2, none, false⟩]
abbrev r70_15 : List MOp := [
  ⟨(some 75), .mv (.t 5), none, false⟩]
abbrev r70_16 : List MOp := [
  ⟨(some 77), .bin .eql 0 (.t 75) (.k (.int .i64 2)), none, false⟩,
  ⟨(some 76), .mv (.t 77), none, false⟩]
abbrev r70_17 : List MOp := [
  ⟨(some 78), .mv (.t 0), none, false⟩,
  ⟨(some 79), .slen (.t 78), none, false⟩,
  ⟨(some 80), .bin .lss 0 (.t 79) (.k (.int .i64 2)), none, false⟩,
  ⟨(some 81), .mv (.t 80), none, false⟩,
  ⟨(some 82), .mv (.t 0), some (81, false), false⟩,
  ⟨(some 83), .sidx (.t 82) (.k (.int .i64 1)), some (81, false), false⟩,
  ⟨(some 84), .faddr (.t 6) 0, some (81, false), false⟩,
  ⟨(some 85), .load (.t 84) 1 false, some (81, false), false⟩,
  ⟨(some 86), .bin .lss 0 (.t 83) (.t 85), some (81, false), false⟩,
  ⟨(some 87), .pick (.t 81) (.k (.bool true)) (.t 86), none, false⟩,
  ⟨(some 88), .mv (.t 87), none, false⟩,
  ⟨(some 89), .faddr (.t 6) 1, some (88, false), false⟩,
  ⟨(some 90), .load (.t 89) 1 false, some (88, false), false⟩,
  ⟨(some 91), .mv (.t 0), some (88, false), false⟩,
  ⟨(some 92), .sidx (.t 91) (.k (.int .i64 1)), some (88, false), false⟩,
  ⟨(some 93), .bin .lss 0 (.t 90) (.t 92), some (88, false), false⟩,
  ⟨(some 94), .pick (.t 88) (.k (.bool true)) (.t 93), none, false⟩]
abbrev r70_18 : List MOp := [
  ⟨(some 2), .mv (.k (.bool false)), none, false⟩]
abbrev r70_19 : List MOp := [
  ⟨(some 95), .mv (.t 0), none, false⟩,
  ⟨(some 96), .sslc (.t 95) (some (.k (.int .i64 2))) none, none, false⟩,
  ⟨(some 0), .mv (.t 96), none, false⟩]
abbrev r70_20 : List MOp := [
  ⟨(some 98), .bin .eql 0 (.t 75) (.k (.int .i64 3)), none, false⟩,
  ⟨(some 97), .mv (.t 98), none, false⟩]
abbrev r70_21 : List MOp := [
  ⟨(some 99), .mv (.t 0), none, false⟩,
  ⟨(some 100), .slen (.t 99), none, false⟩,
  ⟨(some 101), .bin .lss 0 (.t 100) (.k (.int .i64 3)), none, false⟩,
  ⟨(some 102), .mv (.t 101), none, false⟩,
  ⟨(some 103), .mv (.t 0), some (102, false), false⟩,
  ⟨(some 104), .sidx (.t 103) (.k (.int .i64 1)), some (102, false), false⟩,
  ⟨(some 105), .faddr (.t 6) 0, some (102, false), false⟩,
  ⟨(some 106), .load (.t 105) 1 false, some (102, false), false⟩,
  ⟨(some 107), .bin .lss 0 (.t 104) (.t 106), some (102, false), false⟩,
  ⟨(some 108), .pick (.t 102) (.k (.bool true)) (.t 107), none, false⟩,
  ⟨(some 109), .mv (.t 108), none, false⟩,
  ⟨(some 110), .faddr (.t 6) 1, some (109, false), false⟩,
  ⟨(some 111), .load (.t 110) 1 false, some (109, false), false⟩,
  ⟨(some 112), .mv (.t 0), some (109, false), false⟩,
  ⟨(some 113), .sidx (.t 112) (.k (.int .i64 1)), some (109, false), false⟩,
  ⟨(some 114), .bin .lss 0 (.t 111) (.t 113), some (109, false), false⟩,
  ⟨(some 115), .pick (.t 109) (.k (.bool true)) (.t 114), none, false⟩,
  ⟨(some 116), .mv (.t 115), none, false⟩,
  ⟨(some 117), .mv (.t 0), some (116, false), false⟩,
  ⟨(some 118), .sidx (.t 117) (.k (.int .i64 2)), some (116, false), false⟩,
  ⟨(some 119), .bin .lss 0 (.t 118) (.k (.int .u8 128)), some (116, false), false⟩,
  ⟨(some 120), .pick (.t 116) (.k (.bool true)) (.t 119), none, false⟩,
  ⟨(some 121), .mv (.t 120), none, false⟩,
  ⟨(some 122), .mv (.t 0), some (121, false), false⟩,
  ⟨(some 123), .sidx (.t 122) (.k (.int .i64 2)), some (121, false), false⟩,
  ⟨(some 124), .bin .lss 0 (.k (.int .u8 191)) (.t 123), some (121, false), false⟩,
  ⟨(some 125), .pick (.t 121) (.k (.bool true)) (.t 124), none, false⟩]
abbrev r70_22 : List MOp := [
  ⟨(some 2), .mv (.k (.bool false)), none, false⟩]
abbrev r70_23 : List MOp := [
  ⟨(some 126), .mv (.t 0), none, false⟩,
  ⟨(some 127), .sslc (.t 126) (some (.k (.int .i64 3))) none, none, false⟩,
  ⟨(some 0), .mv (.t 127), none, false⟩]
abbrev r70_24 : List MOp := [
  ⟨(some 129), .bin .eql 0 (.t 75) (.k (.int .i64 4)), none, false⟩,
  ⟨(some 128), .mv (.t 129), none, false⟩]
abbrev r70_25 : List MOp := [
  ⟨(some 130), .mv (.t 0), none, false⟩,
  ⟨(some 131), .slen (.t 130), none, false⟩,
  ⟨(some 132), .bin .lss 0 (.t 131) (.k (.int .i64 4)), none, false⟩,
  ⟨(some 133), .mv (.t 132), none, false⟩,
  ⟨(some 134), .mv (.t 0), some (133, false), false⟩,
  ⟨(some 135), .sidx (.t 134) (.k (.int .i64 1)), some (133, false), false⟩,
  ⟨(some 136), .faddr (.t 6) 0, some (133, false), false⟩,
  ⟨(some 137), .load (.t 136) 1 false, some (133, false), false⟩,
  ⟨(some 138), .bin .lss 0 (.t 135) (.t 137), some (133, false), false⟩,
  ⟨(some 139), .pick (.t 133) (.k (.bool true)) (.t 138), none, false⟩,
  ⟨(some 140), .mv (.t 139), none, false⟩,
  ⟨(some 141), .faddr (.t 6) 1, some (140, false), false⟩,
  ⟨(some 142), .load (.t 141) 1 false, some (140, false), false⟩,
  ⟨(some 143), .mv (.t 0), some (140, false), false⟩,
  ⟨(some 144), .sidx (.t 143) (.k (.int .i64 1)), some (140, false), false⟩,
  ⟨(some 145), .bin .lss 0 (.t 142) (.t 144), some (140, false), false⟩,
  ⟨(some 146), .pick (.t 140) (.k (.bool true)) (.t 145), none, false⟩,
  ⟨(some 147), .mv (.t 146), none, false⟩,
  ⟨(some 148), .mv (.t 0), some (147, false), false⟩,
  ⟨(some 149), .sidx (.t 148) (.k (.int .i64 2)), some (147, false), false⟩,
  ⟨(some 150), .bin .lss 0 (.t 149) (.k (.int .u8 128)), some (147, false), false⟩,
  ⟨(some 151), .pick (.t 147) (.k (.bool true)) (.t 150), none, false⟩,
  ⟨(some 152), .mv (.t 151), none, false⟩,
  ⟨(some 153), .mv (.t 0), some (152, false), false⟩,
  ⟨(some 154), .sidx (.t 153) (.k (.int .i64 2)), some (152, false), false⟩,
  ⟨(some 155), .bin .lss 0 (.k (.int .u8 191)) (.t 154), some (152, false), false⟩,
  ⟨(some 156), .pick (.t 152) (.k (.bool true)) (.t 155), none, false⟩,
  ⟨(some 157), .mv (.t 156), none, false⟩,
  ⟨(some 158), .mv (.t 0), some (157, false), false⟩,
  ⟨(some 159), .sidx (.t 158) (.k (.int .i64 3)), some (157, false), false⟩,
  ⟨(some 160), .bin .lss 0 (.t 159) (.k (.int .u8 128)), some (157, false), false⟩,
  ⟨(some 161), .pick (.t 157) (.k (.bool true)) (.t 160), none, false⟩,
  ⟨(some 162), .mv (.t 161), none, false⟩,
  ⟨(some 163), .mv (.t 0), some (162, false), false⟩,
  ⟨(some 164), .sidx (.t 163) (.k (.int .i64 3)), some (162, false), false⟩,
  ⟨(some 165), .bin .lss 0 (.k (.int .u8 191)) (.t 164), some (162, false), false⟩,
  ⟨(some 166), .pick (.t 162) (.k (.bool true)) (.t 165), none, false⟩]
abbrev r70_26 : List MOp := [
  ⟨(some 2), .mv (.k (.bool false)), none, false⟩]
abbrev r70_27 : List MOp := [
  ⟨(some 167), .mv (.t 0), none, false⟩,
  ⟨(some 168), .sslc (.t 167) (some (.k (.int .i64 4))) none, none, false⟩,
  ⟨(some 0), .mv (.t 168), none, false⟩]
abbrev r70_28 : List MOp := [
  ⟨(some 2), .mv (.k (.bool false)), none, false⟩]
abbrev b70_29 : MC := (.seq (.seq (.reg r70_1) (.cond (.t 9) .skip (.exit 0))) (.block 1 (.seq (.reg r70_2) (.seq (.seq (.reg r70_3) (.cond (.t 13) (.seq (.reg r70_4) (.seq (.seq (.reg r70_5) (.cond (.t 24) (.seq (.reg r70_6) (.seq (.draw [(4, 6), (5, 6), (4, 7), (5, 7)] r70_7) (.cond (.t 39) (.seq (.reg r70_8) (.block 2 (.loop b70_11))) .skip))) .skip)) (.exit 1))) .skip)) (.seq (.reg r70_12) (.seq (.reg r70_13) (.seq (.reg r70_14) (.seq (.reg r70_15) (.block 4 (.seq (.reg r70_16) (.cond (.t 76) (.seq (.seq (.draw [(4, 6), (5, 6), (4, 7), (5, 7), (11, 13), (12, 13), (11, 14), (12, 14)] r70_17) (.cond (.t 94) (.seq (.reg r70_18) .ret) .skip)) (.reg r70_19)) (.seq (.reg r70_20) (.cond (.t 97) (.seq (.seq (.draw [(4, 6), (5, 6), (4, 7), (5, 7), (11, 13), (12, 13), (11, 14), (12, 14)] r70_21) (.cond (.t 125) (.seq (.reg r70_22) .ret) .skip)) (.reg r70_23)) (.seq (.reg r70_24) (.cond (.t 128) (.seq (.seq (.draw [(4, 6), (5, 6), (4, 7), (5, 7), (11, 13), (12, 13), (11, 14), (12, 14)] r70_25) (.cond (.t 166) (.seq (.reg r70_26) .ret) .skip)) (.reg r70_27)) (.seq (.reg r70_28) .ret))))))))))))))))
abbrev r70_30 : List MOp := [
  ⟨(some 2), .mv (.k (.bool true)), none, false⟩]
abbrev m70 : MC := (.seq (.reg r70_0) (.seq (.block 0 (.loop b70_29)) (.seq (.reg r70_30) .ret)))
abbrev rs70 : List RV := [(.tmp 2)]
/- hallmark.tens.split -/
abbrev r73_0 : List MOp := [
  ⟨(some 2), .mv (.k (.bool false)), none, false⟩,
  ⟨(some 3), .mv (.k (.str ⟨#[]⟩)), none, false⟩]
abbrev r73_1 : List MOp := [
  ⟨(some 4), .mv (.t 0), none, false⟩,
  ⟨(some 5), .sidx (.t 4) (.k (.int .i64 0)), none, false⟩,
  ⟨(some 6), .bin .eql 0 (.t 5) (.k (.int .u8 45)), none, false⟩]
abbrev r73_2 : List MOp := [
  ⟨(some 7), .mv (.t 0), none, false⟩,
  ⟨(some 8), .sslc (.t 7) (some (.k (.int .i64 1))) none, none, false⟩,
  ⟨(some 2), .mv (.k (.bool true)), none, false⟩,
  ⟨(some 3), .mv (.t 8), none, false⟩]
abbrev r73_3 : List MOp := [
  ⟨(some 9), .mv (.t 0), none, false⟩,
  ⟨(some 2), .mv (.k (.bool false)), none, false⟩,
  ⟨(some 3), .mv (.t 9), none, false⟩]
abbrev m73 : MC := (.seq (.reg r73_0) (.seq (.seq (.reg r73_1) (.cond (.t 6) (.seq (.draw [(0, 2), (1, 2)] r73_2) .ret) .skip)) (.seq (.reg r73_3) .ret)))
abbrev rs73 : List RV := [(.tmp 2), (.tmp 3)]
/- hallmark.tens.signed -/
abbrev r74_0 : List MOp := [
  ⟨(some 4), .mv (.k (.str ⟨#[]⟩)), none, false⟩]
abbrev r74_1 : List MOp := [
  ⟨(some 5), .mv (.t 0), none, false⟩,
  ⟨(some 6), .mv (.t 5), none, false⟩,
  ⟨(some 7), .mv (.t 1), some (6, true), true⟩,
  ⟨(some 8), .bin .neq 0 (.t 7) (.k (.str ⟨#[48]⟩)), some (6, true), true⟩,
  ⟨(some 9), .pick (.t 6) (.t 8) (.k (.bool false)), none, false⟩]
abbrev r74_2 : List MOp := [
  ⟨(some 10), .mv (.t 1), none, false⟩,
  ⟨(some 11), .bin .add 0 (.k (.str ⟨#[45]⟩)) (.t 10), none, false⟩,
  ⟨(some 4), .mv (.t 11), none, false⟩]
abbrev r74_3 : List MOp := [
  ⟨(some 12), .mv (.t 1), none, false⟩,
  ⟨(some 4), .mv (.t 12), none, false⟩]
abbrev m74 : MC := (.seq (.reg r74_0) (.seq (.seq (.reg r74_1) (.cond (.t 9) (.seq (.reg r74_2) .ret) .skip)) (.seq (.reg r74_3) .ret)))
abbrev rs74 : List RV := [(.tmp 4)]
/- hallmark.tens.plus -/
abbrev r75_0 : List MOp := [
  ⟨(some 4), .mv (.k (.str ⟨#[]⟩)), none, false⟩]
abbrev r75_1 : List MOp := [
  ⟨(some 9), .mv (.t 0), none, false⟩,
  ⟨(some 10), .slen (.t 9), none, false⟩,
  ⟨(some 11), .mv (.t 1), none, false⟩,
  ⟨(some 12), .slen (.t 11), none, false⟩,
  ⟨(some 13), .bin .lss 0 (.t 10) (.t 12), none, false⟩]
abbrev r75_2 : List MOp := [
  ⟨(some 14), .mv (.t 1), none, false⟩,
  ⟨(some 15), .mv (.t 0), none, false⟩,
  ⟨(some 0), .mv (.t 14), none, false⟩,
  ⟨(some 1), .mv (.t 15), none, false⟩]
abbrev r75_3 : List MOp := [
  ⟨(some 16), .mv (.t 0), none, false⟩,
  ⟨(some 17), .slen (.t 16), none, false⟩,
  ⟨(some 18), .bin .add 0 (.t 17) (.k (.int .i64 1)), none, false⟩,
  ⟨(some 19), .mksl 1 [(.int .u8 0)] (.k (.int .i64 0)) (.t 18), none, false⟩,
  ⟨(some 20), .bslice 1 [(.int .u8 0)] 1 [(0, (.k (.int .u8 48)))], none, false⟩,
  ⟨(some 21), .app (.t 19) (.t 20) 1, none, false⟩,
  ⟨(some 5), .mv (.t 21), none, false⟩]
abbrev r75_4 : List MOp := [
  ⟨(some 22), .mv (.t 5), none, false⟩,
  ⟨(some 23), .mv (.t 0), none, false⟩,
  ⟨(some 24), .app (.t 22) (.t 23) 1, none, false⟩,
  ⟨(some 5), .mv (.t 24), none, false⟩]
abbrev r75_5 : List MOp := [
  ⟨(some 6), .mv (.k (.int .u8 0)), none, false⟩]
abbrev r75_6 : List MOp := [
  ⟨(some 7), .mv (.k (.int .i64 1)), none, false⟩]
abbrev r75_7 : List MOp := [
  ⟨(some 25), .mv (.t 7), none, false⟩,
  ⟨(some 26), .mv (.t 0), none, false⟩,
  ⟨(some 27), .slen (.t 26), none, false⟩,
  ⟨(some 28), .bin .leq 0 (.t 25) (.t 27), none, false⟩]
abbrev r75_8 : List MOp := [
  ⟨(some 31), .mv (.t 5), none, false⟩,
  ⟨(some 32), .len (.t 31), none, false⟩,
  ⟨(some 33), .mv (.t 7), none, false⟩,
  ⟨(some 34), .bin .sub 0 (.t 32) (.t 33), none, false⟩,
  ⟨(some 8), .mv (.t 34), none, false⟩]
abbrev r75_9 : List MOp := [
  ⟨(some 35), .mv (.t 5), none, false⟩,
  ⟨(some 36), .mv (.t 8), none, false⟩,
  ⟨(some 37), .iaddr (.t 35) (.t 36) 1, none, false⟩,
  ⟨(some 38), .load (.t 37) 1 false, none, false⟩,
  ⟨(some 39), .mv (.t 6), none, false⟩,
  ⟨(some 40), .bin .add 0 (.t 38) (.t 39), none, false⟩,
  ⟨(some 41), .iaddr (.t 35) (.t 36) 1, none, false⟩,
  ⟨none, .store (.t 41) (.t 40) 1, none, false⟩]
abbrev r75_10 : List MOp := [
  ⟨(some 42), .mv (.t 7), none, false⟩,
  ⟨(some 43), .mv (.t 1), none, false⟩,
  ⟨(some 44), .slen (.t 43), none, false⟩,
  ⟨(some 45), .bin .leq 0 (.t 42) (.t 44), none, false⟩]
abbrev r75_11 : List MOp := [
  ⟨(some 46), .mv (.t 5), none, false⟩,
  ⟨(some 47), .mv (.t 8), none, false⟩,
  ⟨(some 48), .iaddr (.t 46) (.t 47) 1, none, false⟩,
  ⟨(some 49), .load (.t 48) 1 false, none, false⟩,
  ⟨(some 50), .mv (.t 1), none, false⟩,
  ⟨(some 51), .mv (.t 1), none, false⟩,
  ⟨(some 52), .slen (.t 51), none, false⟩,
  ⟨(some 53), .mv (.t 7), none, false⟩,
  ⟨(some 54), .bin .sub 0 (.t 52) (.t 53), none, false⟩,
  ⟨(some 55), .sidx (.t 50) (.t 54), none, false⟩,
  ⟨(some 56), .bin .sub 0 (.t 55) (.k (.int .u8 48)), none, false⟩,
  ⟨(some 57), .bin .add 0 (.t 49) (.t 56), none, false⟩,
  ⟨(some 58), .iaddr (.t 46) (.t 47) 1, none, false⟩,
  ⟨none, .store (.t 58) (.t 57) 1, none, false⟩]
abbrev r75_12 : List MOp := [
  ⟨(some 6), .mv (.k (.int .u8 0)), none, false⟩]
abbrev r75_13 : List MOp := [
  ⟨(some 59), .mv (.t 5), none, false⟩,
  ⟨(some 60), .mv (.t 8), none, false⟩,
  ⟨(some 61), .iaddr (.t 59) (.t 60) 1, none, false⟩,
  ⟨(some 62), .load (.t 61) 1 false, none, false⟩,
  ⟨(some 63), .bin .gtr 0 (.t 62) (.k (.int .u8 57)), none, false⟩]
abbrev r75_14 : List MOp := [
  ⟨(some 64), .mv (.t 5), none, false⟩,
  ⟨(some 65), .mv (.t 8), none, false⟩,
  ⟨(some 66), .iaddr (.t 64) (.t 65) 1, none, false⟩,
  ⟨(some 67), .load (.t 66) 1 false, none, false⟩,
  ⟨(some 68), .bin .sub 0 (.t 67) (.k (.int .u8 10)), none, false⟩,
  ⟨(some 69), .iaddr (.t 64) (.t 65) 1, none, false⟩,
  ⟨none, .store (.t 69) (.t 68) 1, none, false⟩]
abbrev r75_15 : List MOp := [
  ⟨(some 6), .mv (.k (.int .u8 1)), none, false⟩]
abbrev r75_16 : List MOp := [
  ⟨(some 29), .mv (.t 7), none, false⟩,
  ⟨(some 30), .bin .add 0 (.t 29) (.k (.int .i64 1)), none, false⟩,
  ⟨(some 7), .mv (.t 30), none, false⟩]
abbrev b75_17 : MC := (.seq (.seq (.reg r75_7) (.cond (.t 28) .skip (.exit 0))) (.seq (.block 1 (.seq (.reg r75_8) (.seq (.reg r75_9) (.seq (.seq (.reg r75_10) (.cond (.t 45) (.draw [(0, 1), (0, 4), (1, 4), (2, 4), (3, 4), (0, 5), (1, 5), (2, 5), (3, 5), (4, 5), (0, 6), (1, 6), (2, 6), (3, 6), (4, 6), (0, 7), (1, 7), (2, 7), (3, 7), (4, 7), (5, 7), (6, 7), (0, 8), (1, 8), (2, 8), (3, 8), (4, 8), (0, 9), (1, 9), (2, 9), (3, 9), (0, 10), (1, 10), (2, 10), (3, 10)] r75_11) .skip)) (.seq (.reg r75_12) (.seq (.reg r75_13) (.cond (.t 63) (.seq (.reg r75_14) (.reg r75_15)) .skip))))))) (.reg r75_16)))
abbrev r75_18 : List MOp := [
  ⟨(some 70), .mv (.t 5), none, false⟩,
  ⟨(some 71), .iaddr (.t 70) (.k (.int .i64 0)) 1, none, false⟩,
  ⟨(some 72), .load (.t 71) 1 false, none, false⟩,
  ⟨(some 73), .mv (.t 6), none, false⟩,
  ⟨(some 74), .bin .add 0 (.t 72) (.t 73), none, false⟩,
  ⟨(some 75), .iaddr (.t 70) (.k (.int .i64 0)) 1, none, false⟩,
  ⟨none, .store (.t 75) (.t 74) 1, none, false⟩]
abbrev r75_19 : List MOp := [
  ⟨(some 76), .mv (.t 5), none, false⟩,
  ⟨(some 77), .call 107 [(.t 76)], none, false⟩,
  ⟨(some 4), .mv (.t 77), none, false⟩]
abbrev m75 : MC := (.seq (.reg r75_0) (.seq (.seq (.reg r75_1) (.cond (.t 13) (.reg r75_2) .skip)) (.seq (.reg r75_3) (.seq (.reg r75_4) (.seq (.reg r75_5) (.seq (.seq (.reg r75_6) (.block 0 (.loop b75_17))) (.seq (.reg r75_18) (.seq (.reg r75_19) .ret))))))))
abbrev rs75 : List RV := [(.tmp 4)]
/- hallmark.tens.size -/
abbrev r76_0 : List MOp := [
  ⟨(some 4), .mv (.k (.int .i64 0)), none, false⟩]
abbrev r76_1 : List MOp := [
  ⟨(some 6), .mv (.t 0), none, false⟩,
  ⟨(some 7), .slen (.t 6), none, false⟩,
  ⟨(some 8), .mv (.t 1), none, false⟩,
  ⟨(some 9), .slen (.t 8), none, false⟩,
  ⟨(some 10), .bin .neq 0 (.t 7) (.t 9), none, false⟩,
  ⟨(some 5), .mv (.t 10), none, false⟩]
abbrev r76_2 : List MOp := [
  ⟨(some 11), .mv (.t 0), none, false⟩,
  ⟨(some 12), .slen (.t 11), none, false⟩,
  ⟨(some 13), .mv (.t 1), none, false⟩,
  ⟨(some 14), .slen (.t 13), none, false⟩,
  ⟨(some 15), .bin .sub 0 (.t 12) (.t 14), none, false⟩,
  ⟨(some 16), .minmax true (.t 15) (.k (.int .i64 (-1))), none, false⟩,
  ⟨(some 17), .minmax false (.t 16) (.k (.int .i64 1)), none, false⟩,
  ⟨(some 4), .mv (.t 17), none, false⟩]
abbrev r76_3 : List MOp := [
  ⟨(some 19), .mv (.t 0), none, false⟩,
  ⟨(some 20), .mv (.t 1), none, false⟩,
  ⟨(some 21), .bin .lss 0 (.t 19) (.t 20), none, false⟩,
  ⟨(some 18), .mv (.t 21), none, false⟩]
abbrev r76_4 : List MOp := [
  ⟨(some 4), .mv (.k (.int .i64 (-1))), none, false⟩]
abbrev r76_5 : List MOp := [
  ⟨(some 23), .mv (.t 0), none, false⟩,
  ⟨(some 24), .mv (.t 1), none, false⟩,
  ⟨(some 25), .bin .gtr 0 (.t 23) (.t 24), none, false⟩,
  ⟨(some 22), .mv (.t 25), none, false⟩]
abbrev r76_6 : List MOp := [
  ⟨(some 4), .mv (.k (.int .i64 1)), none, false⟩]
abbrev r76_7 : List MOp := [
  ⟨(some 4), .mv (.k (.int .i64 0)), none, false⟩]
abbrev m76 : MC := (.seq (.reg r76_0) (.seq (.block 0 (.seq (.reg r76_1) (.cond (.t 5) (.seq (.reg r76_2) .ret) (.seq (.reg r76_3) (.cond (.t 18) (.seq (.reg r76_4) .ret) (.seq (.reg r76_5) (.cond (.t 22) (.seq (.reg r76_6) .ret) .skip))))))) (.seq (.reg r76_7) .ret)))
abbrev rs76 : List RV := [(.tmp 4)]
/- hallmark.shape.Cmp -/
abbrev r79_0 : List MOp := [
  ⟨(some 2), .box (.t 0), none, false⟩,
  ⟨(some 3), .box (.t 1), none, false⟩,
  ⟨(some 4), .mv (.k (.int .i64 0)), none, false⟩]
abbrev r79_1 : List MOp := [
  ⟨(some 5), .faddr (.t 2) 0, none, false⟩,
  ⟨(some 6), .load (.t 5) 1 false, none, false⟩,
  ⟨(some 7), .faddr (.t 3) 0, none, false⟩,
  ⟨(some 8), .load (.t 7) 1 false, none, false⟩,
  ⟨(some 9), .call 109 [(.t 6), (.t 8)], none, false⟩,
  ⟨(some 10), .faddr (.t 2) 1, none, false⟩,
  ⟨(some 11), .load (.t 10) 1 false, none, false⟩,
  ⟨(some 12), .faddr (.t 3) 1, none, false⟩,
  ⟨(some 13), .load (.t 12) 1 false, none, false⟩,
  ⟨(some 14), .call 109 [(.t 11), (.t 13)], none, false⟩,
  ⟨(some 15), .faddr (.t 2) 2, none, false⟩,
  ⟨(some 16), .load (.t 15) 1 false, none, false⟩,
  ⟨(some 17), .faddr (.t 3) 2, none, false⟩,
  ⟨(some 18), .load (.t 17) 1 false, none, false⟩,
  ⟨(some 19), .call 109 [(.t 16), (.t 18)], none, false⟩,
  ⟨(some 20), .faddr (.t 2) 3, none, false⟩,
  ⟨(some 21), .load (.t 20) 1 false, none, false⟩,
  ⟨(some 22), .faddr (.t 3) 3, none, false⟩,
  ⟨(some 23), .load (.t 22) 1 false, none, false⟩,
  ⟨(some 24), .call 109 [(.t 21), (.t 23)], none, false⟩,
  ⟨(some 25), .faddr (.t 2) 4, none, false⟩,
  ⟨(some 26), .load (.t 25) 1 false, none, false⟩,
  ⟨(some 27), .faddr (.t 3) 4, none, false⟩,
  ⟨(some 28), .load (.t 27) 1 false, none, false⟩,
  ⟨(some 29), .call 110 [(.t 26), (.t 28), (.k (.fn 111 [] []))], none, false⟩,
  ⟨(some 30), .faddr (.t 2) 5, none, false⟩,
  ⟨(some 31), .load (.t 30) 1 false, none, false⟩,
  ⟨(some 32), .faddr (.t 3) 5, none, false⟩,
  ⟨(some 33), .load (.t 32) 1 false, none, false⟩,
  ⟨(some 34), .call 109 [(.t 31), (.t 33)], none, false⟩,
  ⟨(some 35), .faddr (.t 2) 6, none, false⟩,
  ⟨(some 36), .load (.t 35) 1 false, none, false⟩,
  ⟨(some 37), .faddr (.t 3) 6, none, false⟩,
  ⟨(some 38), .load (.t 37) 1 false, none, false⟩,
  ⟨(some 39), .call 112 [(.t 36), (.t 38)], none, false⟩,
  ⟨(some 40), .faddr (.t 2) 7, none, false⟩,
  ⟨(some 41), .load (.t 40) 1 false, none, false⟩,
  ⟨(some 42), .faddr (.t 3) 7, none, false⟩,
  ⟨(some 43), .load (.t 42) 1 false, none, false⟩,
  ⟨(some 44), .call 113 [(.t 41), (.t 43), (.k (.fn 114 [] []))], none, false⟩,
  ⟨(some 45), .faddr (.t 2) 8, none, false⟩,
  ⟨(some 46), .load (.t 45) 1 false, none, false⟩,
  ⟨(some 47), .faddr (.t 3) 8, none, false⟩,
  ⟨(some 48), .load (.t 47) 1 false, none, false⟩,
  ⟨(some 49), .call 115 [(.t 46), (.t 48), (.k (.fn 116 [] []))], none, false⟩,
  ⟨(some 50), .bslice 1 [(.int .i64 0)] 9 [(0, (.t 9)), (1, (.t 14)), (2, (.t 19)), (3, (.t 24)), (4, (.t 29)), (5, (.t 34)), (6, (.t 39)), (7, (.t 44)), (8, (.t 49))], none, false⟩,
  ⟨(some 51), .call 108 [(.t 50)], none, false⟩,
  ⟨(some 4), .mv (.t 51), none, false⟩]
abbrev m79 : MC := (.seq (.reg r79_0) (.seq (.draw [(0, 2), (1, 2), (0, 3), (1, 3), (0, 5), (1, 5), (2, 5), (3, 5), (4, 5), (0, 6), (1, 6), (2, 6), (3, 6), (4, 6), (0, 7), (1, 7), (2, 7), (3, 7), (4, 7), (5, 7), (6, 7), (0, 8), (1, 8), (2, 8), (3, 8), (4, 8), (5, 8), (6, 8), (0, 10), (1, 10), (2, 10), (3, 10), (4, 10), (5, 10), (6, 10), (7, 10), (8, 10), (9, 10), (0, 11), (1, 11), (2, 11), (3, 11), (4, 11), (5, 11), (6, 11), (7, 11), (8, 11), (9, 11), (0, 12), (1, 12), (2, 12), (3, 12), (4, 12), (5, 12), (6, 12), (7, 12), (8, 12), (9, 12), (10, 12), (11, 12), (0, 13), (1, 13), (2, 13), (3, 13), (4, 13), (5, 13), (6, 13), (7, 13), (8, 13), (9, 13), (10, 13), (11, 13), (0, 15), (1, 15), (2, 15), (3, 15), (4, 15), (5, 15), (6, 15), (7, 15), (8, 15), (9, 15), (10, 15), (11, 15), (12, 15), (13, 15), (14, 15), (0, 16), (1, 16), (2, 16), (3, 16), (4, 16), (5, 16), (6, 16), (7, 16), (8, 16), (9, 16), (10, 16), (11, 16), (12, 16), (13, 16), (14, 16), (0, 17), (1, 17), (2, 17), (3, 17), (4, 17), (5, 17), (6, 17), (7, 17), (8, 17), (9, 17), (10, 17), (11, 17), (12, 17), (13, 17), (14, 17), (15, 17), (16, 17), (0, 18), (1, 18), (2, 18), (3, 18), (4, 18), (5, 18), (6, 18), (7, 18), (8, 18), (9, 18), (10, 18), (11, 18), (12, 18), (13, 18), (14, 18), (15, 18), (16, 18), (0, 20), (1, 20), (2, 20), (3, 20), (4, 20), (5, 20), (6, 20), (7, 20), (8, 20), (9, 20), (10, 20), (11, 20), (12, 20), (13, 20), (14, 20), (15, 20), (16, 20), (17, 20), (18, 20), (19, 20), (0, 21), (1, 21), (2, 21), (3, 21), (4, 21), (5, 21), (6, 21), (7, 21), (8, 21), (9, 21), (10, 21), (11, 21), (12, 21), (13, 21), (14, 21), (15, 21), (16, 21), (17, 21), (18, 21), (19, 21), (0, 22), (1, 22), (2, 22), (3, 22), (4, 22), (5, 22), (6, 22), (7, 22), (8, 22), (9, 22), (10, 22), (11, 22), (12, 22), (13, 22), (14, 22), (15, 22), (16, 22), (17, 22), (18, 22), (19, 22), (20, 22), (21, 22), (0, 23), (1, 23), (2, 23), (3, 23), (4, 23), (5, 23), (6, 23), (7, 23), (8, 23), (9, 23), (10, 23), (11, 23), (12, 23), (13, 23), (14, 23), (15, 23), (16, 23), (17, 23), (18, 23), (19, 23), (20, 23), (21, 23), (0, 25), (1, 25), (2, 25), (3, 25), (4, 25), (5, 25), (6, 25), (7, 25), (8, 25), (9, 25), (10, 25), (11, 25), (12, 25), (13, 25), (14, 25), (15, 25), (16, 25), (17, 25), (18, 25), (19, 25), (20, 25), (21, 25), (22, 25), (23, 25), (24, 25), (0, 26), (1, 26), (2, 26), (3, 26), (4, 26), (5, 26), (6, 26), (7, 26), (8, 26), (9, 26), (10, 26), (11, 26), (12, 26), (13, 26), (14, 26), (15, 26), (16, 26), (17, 26), (18, 26), (19, 26), (20, 26), (21, 26), (22, 26), (23, 26), (24, 26), (0, 27), (1, 27), (2, 27), (3, 27), (4, 27), (5, 27), (6, 27), (7, 27), (8, 27), (9, 27), (10, 27), (11, 27), (12, 27), (13, 27), (14, 27), (15, 27), (16, 27), (17, 27), (18, 27), (19, 27), (20, 27), (21, 27), (22, 27), (23, 27), (24, 27), (25, 27), (26, 27), (0, 28), (1, 28), (2, 28), (3, 28), (4, 28), (5, 28), (6, 28), (7, 28), (8, 28), (9, 28), (10, 28), (11, 28), (12, 28), (13, 28), (14, 28), (15, 28), (16, 28), (17, 28), (18, 28), (19, 28), (20, 28), (21, 28), (22, 28), (23, 28), (24, 28), (25, 28), (26, 28), (0, 30), (1, 30), (2, 30), (3, 30), (4, 30), (5, 30), (6, 30), (7, 30), (8, 30), (9, 30), (10, 30), (11, 30), (12, 30), (13, 30), (14, 30), (15, 30), (16, 30), (17, 30), (18, 30), (19, 30), (20, 30), (21, 30), (22, 30), (23, 30), (24, 30), (25, 30), (26, 30), (27, 30), (28, 30), (29, 30), (0, 31), (1, 31), (2, 31), (3, 31), (4, 31), (5, 31), (6, 31), (7, 31), (8, 31), (9, 31), (10, 31), (11, 31), (12, 31), (13, 31), (14, 31), (15, 31), (16, 31), (17, 31), (18, 31), (19, 31), (20, 31), (21, 31), (22, 31), (23, 31), (24, 31), (25, 31), (26, 31), (27, 31), (28, 31), (29, 31), (0, 32), (1, 32), (2, 32), (3, 32), (4, 32), (5, 32), (6, 32), (7, 32), (8, 32), (9, 32), (10, 32), (11, 32), (12, 32), (13, 32), (14, 32), (15, 32), (16, 32), (17, 32), (18, 32), (19, 32), (20, 32), (21, 32), (22, 32), (23, 32), (24, 32), (25, 32), (26, 32), (27, 32), (28, 32), (29, 32), (30, 32), (31, 32), (0, 33), (1, 33), (2, 33), (3, 33), (4, 33), (5, 33), (6, 33), (7, 33), (8, 33), (9, 33), (10, 33), (11, 33), (12, 33), (13, 33), (14, 33), (15, 33), (16, 33), (17, 33), (18, 33), (19, 33), (20, 33), (21, 33), (22, 33), (23, 33), (24, 33), (25, 33), (26, 33), (27, 33), (28, 33), (29, 33), (30, 33), (31, 33), (0, 35), (1, 35), (2, 35), (3, 35), (4, 35), (5, 35), (6, 35), (7, 35), (8, 35), (9, 35), (10, 35), (11, 35), (12, 35), (13, 35), (14, 35), (15, 35), (16, 35), (17, 35), (18, 35), (19, 35), (20, 35), (21, 35), (22, 35), (23, 35), (24, 35), (25, 35), (26, 35), (27, 35), (28, 35), (29, 35), (30, 35), (31, 35), (32, 35), (33, 35), (34, 35), (0, 36), (1, 36), (2, 36), (3, 36), (4, 36), (5, 36), (6, 36), (7, 36), (8, 36), (9, 36), (10, 36), (11, 36), (12, 36), (13, 36), (14, 36), (15, 36), (16, 36), (17, 36), (18, 36), (19, 36), (20, 36), (21, 36), (22, 36), (23, 36), (24, 36), (25, 36), (26, 36), (27, 36), (28, 36), (29, 36), (30, 36), (31, 36), (32, 36), (33, 36), (34, 36), (0, 37), (1, 37), (2, 37), (3, 37), (4, 37), (5, 37), (6, 37), (7, 37), (8, 37), (9, 37), (10, 37), (11, 37), (12, 37), (13, 37), (14, 37), (15, 37), (16, 37), (17, 37), (18, 37), (19, 37), (20, 37), (21, 37), (22, 37), (23, 37), (24, 37), (25, 37), (26, 37), (27, 37), (28, 37), (29, 37), (30, 37), (31, 37), (32, 37), (33, 37), (34, 37), (35, 37), (36, 37), (0, 38), (1, 38), (2, 38), (3, 38), (4, 38), (5, 38), (6, 38), (7, 38), (8, 38), (9, 38), (10, 38), (11, 38), (12, 38), (13, 38), (14, 38), (15, 38), (16, 38), (17, 38), (18, 38), (19, 38), (20, 38), (21, 38), (22, 38), (23, 38), (24, 38), (25, 38), (26, 38), (27, 38), (28, 38), (29, 38), (30, 38), (31, 38), (32, 38), (33, 38), (34, 38), (35, 38), (36, 38), (0, 40), (1, 40), (2, 40), (3, 40), (4, 40), (5, 40), (6, 40), (7, 40), (8, 40), (9, 40), (10, 40), (11, 40), (12, 40), (13, 40), (14, 40), (15, 40), (16, 40), (17, 40), (18, 40), (19, 40), (20, 40), (21, 40), (22, 40), (23, 40), (24, 40), (25, 40), (26, 40), (27, 40), (28, 40), (29, 40), (30, 40), (31, 40), (32, 40), (33, 40), (34, 40), (35, 40), (36, 40), (37, 40), (38, 40), (39, 40), (0, 41), (1, 41), (2, 41), (3, 41), (4, 41), (5, 41), (6, 41), (7, 41), (8, 41), (9, 41), (10, 41), (11, 41), (12, 41), (13, 41), (14, 41), (15, 41), (16, 41), (17, 41), (18, 41), (19, 41), (20, 41), (21, 41), (22, 41), (23, 41), (24, 41), (25, 41), (26, 41), (27, 41), (28, 41), (29, 41), (30, 41), (31, 41), (32, 41), (33, 41), (34, 41), (35, 41), (36, 41), (37, 41), (38, 41), (39, 41), (0, 42), (1, 42), (2, 42), (3, 42), (4, 42), (5, 42), (6, 42), (7, 42), (8, 42), (9, 42), (10, 42), (11, 42), (12, 42), (13, 42), (14, 42), (15, 42), (16, 42), (17, 42), (18, 42), (19, 42), (20, 42), (21, 42), (22, 42), (23, 42), (24, 42), (25, 42), (26, 42), (27, 42), (28, 42), (29, 42), (30, 42), (31, 42), (32, 42), (33, 42), (34, 42), (35, 42), (36, 42), (37, 42), (38, 42), (39, 42), (40, 42), (41, 42), (0, 43), (1, 43), (2, 43), (3, 43), (4, 43), (5, 43), (6, 43), (7, 43), (8, 43), (9, 43), (10, 43), (11, 43), (12, 43), (13, 43), (14, 43), (15, 43), (16, 43), (17, 43), (18, 43), (19, 43), (20, 43), (21, 43), (22, 43), (23, 43), (24, 43), (25, 43), (26, 43), (27, 43), (28, 43), (29, 43), (30, 43), (31, 43), (32, 43), (33, 43), (34, 43), (35, 43), (36, 43), (37, 43), (38, 43), (39, 43), (40, 43), (41, 43)] r79_1) .ret))
abbrev rs79 : List RV := [(.tmp 4)]
/- slices.Equal[[]string,string] -/
abbrev r80_0 : List MOp := [
  ⟨(some 4), .mv (.k (.bool false)), none, false⟩]
abbrev r80_1 : List MOp := [
  ⟨(some 6), .mv (.t 0), none, false⟩,
  ⟨(some 7), .len (.t 6), none, false⟩,
  ⟨(some 8), .mv (.t 1), none, false⟩,
  ⟨(some 9), .len (.t 8), none, false⟩,
  ⟨(some 10), .bin .neq 0 (.t 7) (.t 9), none, false⟩]
abbrev r80_2 : List MOp := [
  ⟨(some 4), .mv (.k (.bool false)), none, false⟩]
abbrev r80_3 : List MOp := [
  ⟨(some 11), .mv (.t 0), none, false⟩,
  ⟨(some 12), .len (.t 11), none, false⟩,
  ⟨(some 13), .mv (.k (.int .i64 0)), none, false⟩]
abbrev r80_4 : List MOp := [
  ⟨(some 14), .bin .lss 0 (.t 13) (.t 12), none, false⟩]
abbrev r80_5 : List MOp := [
  ⟨(some 15), .mv (.t 13), none, false⟩,
  ⟨(some 5), .mv (.t 15), none, false⟩]
abbrev r80_6 : List MOp := [
  ⟨(some 16), .mv (.t 0), none, false⟩,
  ⟨(some 17), .mv (.t 5), none, false⟩,
  ⟨(some 18), .iaddr (.t 16) (.t 17) 1, none, false⟩,
  ⟨(some 19), .load (.t 18) 1 false, none, false⟩,
  ⟨(some 20), .mv (.t 1), none, false⟩,
  ⟨(some 21), .mv (.t 5), none, false⟩,
  ⟨(some 22), .iaddr (.t 20) (.t 21) 1, none, false⟩,
  ⟨(some 23), .load (.t 22) 1 false, none, false⟩,
  ⟨(some 24), .bin .neq 0 (.t 19) (.t 23), none, false⟩]
abbrev r80_7 : List MOp := [
  ⟨(some 4), .mv (.k (.bool false)), none, false⟩]
abbrev r80_8 : List MOp := [
  ⟨(some 25), .bin .add 0 (.t 13) (.k (.int .i64 1)), none, false⟩,
  ⟨(some 13), .mv (.t 25), none, false⟩]
abbrev b80_9 : MC := (.seq (.reg r80_4) (.seq (.cond (.t 14) .skip (.exit 0)) (.seq (.block 1 (.seq (.reg r80_5) (.seq (.draw [(0, 1), (0, 4), (1, 4), (2, 4), (3, 4), (0, 5), (1, 5), (2, 5), (3, 5), (4, 5), (0, 6), (1, 6), (2, 6), (3, 6), (0, 7), (1, 7), (2, 7), (3, 7)] r80_6) (.cond (.t 24) (.seq (.reg r80_7) .ret) .skip)))) (.reg r80_8))))
abbrev r80_10 : List MOp := [
  ⟨(some 4), .mv (.k (.bool true)), none, false⟩]
abbrev m80 : MC := (.seq (.reg r80_0) (.seq (.seq (.reg r80_1) (.cond (.t 10) (.seq (.reg r80_2) .ret) .skip)) (.seq (.seq (.reg r80_3) (.block 0 (.loop b80_9))) (.seq (.reg r80_10) .ret))))
abbrev rs80 : List RV := [(.tmp 4)]
/- (hallmark.shape.piece).bare -/
abbrev r85_0 : List MOp := [
  ⟨(some 1), .box (.t 0), none, false⟩,
  ⟨(some 2), .mv (.k (.bool false)), none, false⟩]
abbrev r85_1 : List MOp := [
  ⟨(some 3), .faddr (.t 1) 1, none, false⟩,
  ⟨(some 4), .load (.t 3) 1 false, none, false⟩,
  ⟨(some 5), .un .not (.t 4), none, false⟩,
  ⟨(some 6), .mv (.t 5), none, false⟩,
  ⟨(some 7), .faddr (.t 1) 2, some (6, true), true⟩,
  ⟨(some 8), .load (.t 7) 1 false, some (6, true), true⟩,
  ⟨(some 9), .un .not (.t 8), some (6, true), true⟩,
  ⟨(some 10), .pick (.t 6) (.t 9) (.k (.bool false)), none, false⟩,
  ⟨(some 11), .mv (.t 10), none, false⟩,
  ⟨(some 12), .faddr (.t 1) 3, some (11, true), true⟩,
  ⟨(some 13), .load (.t 12) 1 false, some (11, true), true⟩,
  ⟨(some 14), .un .not (.t 13), some (11, true), true⟩,
  ⟨(some 15), .pick (.t 11) (.t 14) (.k (.bool false)), none, false⟩,
  ⟨(some 16), .mv (.t 15), none, false⟩,
  ⟨(some 17), .faddr (.t 1) 4, some (16, true), true⟩,
  ⟨(some 18), .load (.t 17) 1 false, some (16, true), true⟩,
  ⟨(some 19), .len (.t 18), some (16, true), true⟩,
  ⟨(some 20), .bin .eql 0 (.t 19) (.k (.int .i64 0)), some (16, true), true⟩,
  ⟨(some 21), .pick (.t 16) (.t 20) (.k (.bool false)), none, false⟩,
  ⟨(some 22), .mv (.t 21), none, false⟩,
  ⟨(some 23), .faddr (.t 1) 5, some (22, true), true⟩,
  ⟨(some 24), .load (.t 23) 1 false, some (22, true), true⟩,
  ⟨(some 25), .un .not (.t 24), some (22, true), true⟩,
  ⟨(some 26), .pick (.t 22) (.t 25) (.k (.bool false)), none, false⟩,
  ⟨(some 27), .mv (.t 26), none, false⟩,
  ⟨(some 28), .faddr (.t 1) 6, some (27, true), true⟩,
  ⟨(some 29), .load (.t 28) 1 false, some (27, true), true⟩,
  ⟨(some 30), .len (.t 29), some (27, true), true⟩,
  ⟨(some 31), .bin .eql 0 (.t 30) (.k (.int .i64 0)), some (27, true), true⟩,
  ⟨(some 32), .pick (.t 27) (.t 31) (.k (.bool false)), none, false⟩,
  ⟨(some 33), .mv (.t 32), none, false⟩,
  ⟨(some 34), .faddr (.t 1) 7, some (33, true), true⟩,
  ⟨(some 35), .load (.t 34) 1 false, some (33, true), true⟩,
  ⟨(some 36), .len (.t 35), some (33, true), true⟩,
  ⟨(some 37), .bin .eql 0 (.t 36) (.k (.int .i64 0)), some (33, true), true⟩,
  ⟨(some 38), .pick (.t 33) (.t 37) (.k (.bool false)), none, false⟩,
  ⟨(some 39), .mv (.t 38), none, false⟩,
  ⟨(some 40), .faddr (.t 1) 8, some (39, true), true⟩,
  ⟨(some 41), .load (.t 40) 1 false, some (39, true), true⟩,
  ⟨(some 42), .len (.t 41), some (39, true), true⟩,
  ⟨(some 43), .bin .eql 0 (.t 42) (.k (.int .i64 0)), some (39, true), true⟩,
  ⟨(some 44), .pick (.t 39) (.t 43) (.k (.bool false)), none, false⟩,
  ⟨(some 2), .mv (.t 44), none, false⟩]
abbrev m85 : MC := (.seq (.reg r85_0) (.seq (.reg r85_1) .ret))
abbrev rs85 : List RV := [(.tmp 2)]
/- hallmark.shape.worth -/
abbrev r86_0 : List MOp := [
  ⟨(some 4), .mv (.k (.int .i64 0)), none, false⟩]
abbrev r86_1 : List MOp := [
  ⟨(some 8), .mv (.t 0), none, false⟩,
  ⟨(some 9), .mv (.t 1), none, false⟩,
  ⟨(some 10), .call 102 [(.t 8), (.t 9)], none, false⟩,
  ⟨(some 7), .mv (.t 10), none, false⟩,
  ⟨(some 11), .ext (.t 7) 0, none, false⟩,
  ⟨(some 12), .ext (.t 7) 1, none, false⟩,
  ⟨(some 5), .mv (.t 11), none, false⟩,
  ⟨(some 6), .mv (.t 12), none, false⟩]
abbrev r86_2 : List MOp := [
  ⟨(some 13), .mv (.t 5), none, false⟩,
  ⟨(some 4), .mv (.t 13), none, false⟩]
abbrev m86 : MC := (.seq (.reg r86_0) (.seq (.reg r86_1) (.seq (.reg r86_2) .ret)))
abbrev rs86 : List RV := [(.tmp 4)]
/- hallmark.shape.rise -/
abbrev r87_0 : List MOp := [
  ⟨(some 2), .mv (.k (.bool false)), none, false⟩]
abbrev r87_1 : List MOp := [
  ⟨(some 5), .mv (.t 0), none, false⟩,
  ⟨(some 6), .len (.t 5), none, false⟩,
  ⟨(some 7), .mv (.k (.int .i64 0)), none, false⟩]
abbrev r87_2 : List MOp := [
  ⟨(some 8), .bin .lss 0 (.t 7) (.t 6), none, false⟩]
abbrev r87_3 : List MOp := [
  ⟨(some 9), .mv (.t 7), none, false⟩,
  ⟨(some 10), .iaddr (.t 5) (.t 7) 1, none, false⟩,
  ⟨(some 11), .load (.t 10) 1 false, none, false⟩,
  ⟨(some 3), .mv (.t 9), none, false⟩,
  ⟨(some 4), .mv (.t 11), none, false⟩]
abbrev r87_4 : List MOp := [
  ⟨(some 12), .mv (.t 4), none, false⟩,
  ⟨(some 13), .call 38 [(.t 12)], none, false⟩,
  ⟨(some 14), .un .not (.t 13), none, false⟩,
  ⟨(some 15), .mv (.t 14), none, false⟩,
  ⟨(some 16), .mv (.t 3), some (15, false), false⟩,
  ⟨(some 17), .bin .gtr 0 (.t 16) (.k (.int .i64 0)), some (15, false), false⟩,
  ⟨(some 18), .mv (.t 17), some (15, false), false⟩,
  ⟨(some 19), .mv (.t 0), some (18, true), false⟩,
  ⟨(some 20), .mv (.t 3), some (18, true), false⟩,
  ⟨(some 21), .bin .sub 0 (.t 20) (.k (.int .i64 1)), some (18, true), false⟩,
  ⟨(some 22), .iaddr (.t 19) (.t 21) 1, some (18, true), false⟩,
  ⟨(some 23), .load (.t 22) 1 false, some (18, true), false⟩,
  ⟨(some 24), .mv (.t 4), some (18, true), false⟩,
  ⟨(some 25), .bin .geq 0 (.t 23) (.t 24), some (18, true), false⟩,
  ⟨(some 26), .pick (.t 18) (.t 25) (.k (.bool false)), some (15, false), false⟩,
  ⟨(some 27), .pick (.t 15) (.k (.bool true)) (.t 26), none, false⟩]
abbrev r87_5 : List MOp := [
  ⟨(some 2), .mv (.k (.bool false)), none, false⟩]
abbrev r87_6 : List MOp := [
  ⟨(some 28), .bin .add 0 (.t 7) (.k (.int .i64 1)), none, false⟩,
  ⟨(some 7), .mv (.t 28), none, false⟩]
abbrev b87_7 : MC := (.seq (.reg r87_2) (.seq (.cond (.t 8) .skip (.exit 0)) (.seq (.block 1 (.seq (.reg r87_3) (.seq (.reg r87_4) (.cond (.t 27) (.seq (.reg r87_5) .ret) .skip)))) (.reg r87_6))))
abbrev r87_8 : List MOp := [
  ⟨(some 2), .mv (.k (.bool true)), none, false⟩]
abbrev m87 : MC := (.seq (.reg r87_0) (.seq (.seq (.reg r87_1) (.block 0 (.loop b87_7))) (.seq (.reg r87_8) .ret)))
abbrev rs87 : List RV := [(.tmp 2)]
/- hallmark.tidy.spans -/
abbrev r89_0 : List MOp := [
  ⟨(some 4), .mv (.k (.vec 2 true [])), none, false⟩]
abbrev r89_1 : List MOp := [
  ⟨(some 5), .mv (.t 0), none, false⟩,
  ⟨(some 6), .len (.t 5), none, false⟩,
  ⟨(some 7), .bin .eql 0 (.t 6) (.k (.int .i64 0)), none, false⟩,
  ⟨(some 8), .mv (.t 7), none, false⟩,
  ⟨(some 9), .mv (.t 1), some (8, false), true⟩,
  ⟨(some 10), .len (.t 9), some (8, false), true⟩,
  ⟨(some 11), .bin .eql 0 (.t 10) (.k (.int .i64 0)), some (8, false), true⟩,
  ⟨(some 12), .pick (.t 8) (.k (.bool true)) (.t 11), none, false⟩]
abbrev r89_2 : List MOp := [
  ⟨(some 13), .mv (.t 0), none, false⟩,
  ⟨(some 14), .mv (.t 1), none, false⟩,
  ⟨(some 15), .bslice 1 [(.vec 2 true [])] 2 [(0, (.t 13)), (1, (.t 14))], none, false⟩,
  ⟨(some 16), .call 123 [(.t 15)], none, false⟩,
  ⟨(some 4), .mv (.t 16), none, false⟩]
abbrev r89_3 : List MOp := [
  ⟨(some 17), .mv (.t 0), none, false⟩,
  ⟨(some 18), .iaddr (.t 17) (.k (.int .i64 0)) 2, none, false⟩,
  ⟨(some 19), .faddr (.t 18) 0, none, false⟩,
  ⟨(some 20), .load (.t 19) 1 false, none, false⟩,
  ⟨(some 21), .mv (.t 1), none, false⟩,
  ⟨(some 22), .iaddr (.t 21) (.k (.int .i64 0)) 2, none, false⟩,
  ⟨(some 23), .faddr (.t 22) 0, none, false⟩,
  ⟨(some 24), .load (.t 23) 1 false, none, false⟩,
  ⟨(some 25), .call 124 [(.t 20), (.t 24)], none, false⟩,
  ⟨(some 26), .mv (.t 0), none, false⟩,
  ⟨(some 27), .iaddr (.t 26) (.k (.int .i64 0)) 2, none, false⟩,
  ⟨(some 28), .faddr (.t 27) 1, none, false⟩,
  ⟨(some 29), .load (.t 28) 1 false, none, false⟩,
  ⟨(some 30), .mv (.t 1), none, false⟩,
  ⟨(some 31), .iaddr (.t 30) (.k (.int .i64 0)) 2, none, false⟩,
  ⟨(some 32), .faddr (.t 31) 1, none, false⟩,
  ⟨(some 33), .load (.t 32) 1 false, none, false⟩,
  ⟨(some 34), .call 125 [(.t 29), (.t 33)], none, false⟩,
  ⟨(some 35), .build [(.str ⟨#[]⟩), (.str ⟨#[]⟩)] [(0, 1, (.t 25)), (1, 1, (.t 34))], none, false⟩,
  ⟨(some 36), .bslice 2 [(.str ⟨#[]⟩), (.str ⟨#[]⟩)] 1 [(0, (.t 35))], none, false⟩,
  ⟨(some 4), .mv (.t 36), none, false⟩]
abbrev m89 : MC := (.seq (.reg r89_0) (.seq (.seq (.reg r89_1) (.cond (.t 12) (.seq (.reg r89_2) .ret) .skip)) (.seq (.draw [(0, 4), (1, 4), (2, 4), (3, 4), (0, 5), (1, 5), (2, 5), (3, 5), (0, 6), (1, 6), (2, 6), (3, 6), (0, 7), (1, 7), (2, 7), (3, 7), (0, 9), (1, 9), (2, 9), (3, 9), (4, 9), (5, 9), (6, 9), (7, 9), (8, 9), (0, 10), (1, 10), (2, 10), (3, 10), (4, 10), (5, 10), (6, 10), (7, 10), (8, 10), (0, 11), (1, 11), (2, 11), (3, 11), (4, 11), (5, 11), (6, 11), (7, 11), (8, 11), (0, 12), (1, 12), (2, 12), (3, 12), (4, 12), (5, 12), (6, 12), (7, 12), (8, 12), (0, 13), (1, 13), (2, 13), (3, 13), (4, 13), (5, 13), (6, 13), (7, 13), (8, 13), (9, 13), (10, 13), (11, 13), (12, 13), (0, 14), (1, 14), (2, 14), (3, 14), (4, 14), (5, 14), (6, 14), (7, 14), (8, 14), (9, 14), (10, 14), (11, 14), (12, 14), (0, 15), (1, 15), (2, 15), (3, 15), (4, 15), (5, 15), (6, 15), (7, 15), (8, 15), (9, 15), (10, 15), (11, 15), (12, 15), (0, 16), (1, 16), (2, 16), (3, 16), (4, 16), (5, 16), (6, 16), (7, 16), (8, 16), (9, 16), (10, 16), (11, 16), (12, 16)] r89_3) .ret)))
abbrev rs89 : List RV := [(.tmp 4)]
/- slices.Concat[[]string,string] -/
abbrev r90_0 : List MOp := [
  ⟨(some 2), .mv (.k (.vec 1 true [])), none, false⟩]
abbrev r90_1 : List MOp := [
  ⟨(some 3), .mv (.k (.int .i64 0)), none, false⟩]
abbrev r90_2 : List MOp := [
  ⟨(some 9), .mv (.t 0), none, false⟩,
  ⟨(some 10), .len (.t 9), none, false⟩,
  ⟨(some 11), .mv (.k (.int .i64 0)), none, false⟩]
abbrev r90_3 : List MOp := [
  ⟨(some 12), .bin .lss 0 (.t 11) (.t 10), none, false⟩]
abbrev r90_4 : List MOp := [
  ⟨(some 13), .iaddr (.t 9) (.t 11) 1, none, false⟩,
  ⟨(some 14), .load (.t 13) 1 false, none, false⟩,
  ⟨(some 5), .mv (.t 14), none, false⟩]
abbrev r90_5 : List MOp := [
  ⟨(some 15), .mv (.t 3), none, false⟩,
  ⟨(some 16), .mv (.t 5), none, false⟩,
  ⟨(some 17), .len (.t 16), none, false⟩,
  ⟨(some 18), .bin .add 0 (.t 15) (.t 17), none, false⟩,
  ⟨(some 3), .mv (.t 18), none, false⟩]
abbrev r90_6 : List MOp := [
  ⟨(some 19), .mv (.t 3), none, false⟩,
  ⟨(some 20), .bin .lss 0 (.t 19) (.k (.int .i64 0)), none, false⟩]
abbrev r90_7 : List MOp := [
  ⟨(some 21), .mkif 9 (.k (.str ⟨#[108, 101, 110, 32, 111, 117, 116, 32, 111, 102, 32, 114, 97, 110, 103, 101]⟩)), none, false⟩,
  ⟨none, .bad, none, false⟩]
abbrev r90_8 : List MOp := [
  ⟨(some 22), .bin .add 0 (.t 11) (.k (.int .i64 1)), none, false⟩,
  ⟨(some 11), .mv (.t 22), none, false⟩]
abbrev b90_9 : MC := (.seq (.reg r90_3) (.seq (.cond (.t 12) .skip (.exit 0)) (.seq (.block 1 (.seq (.reg r90_4) (.seq (.reg r90_5) (.seq (.reg r90_6) (.cond (.t 20) (.reg r90_7) .skip))))) (.reg r90_8))))
abbrev r90_10 : List MOp := [
  ⟨(some 23), .mv (.t 3), none, false⟩,
  ⟨(some 24), .call 126 [(.k (.vec 1 true [])), (.t 23)], none, false⟩,
  ⟨(some 6), .mv (.t 24), none, false⟩]
abbrev r90_11 : List MOp := [
  ⟨(some 25), .mv (.t 0), none, false⟩,
  ⟨(some 26), .len (.t 25), none, false⟩,
  ⟨(some 27), .mv (.k (.int .i64 0)), none, false⟩]
abbrev r90_12 : List MOp := [
  ⟨(some 28), .bin .lss 0 (.t 27) (.t 26), none, false⟩]
abbrev r90_13 : List MOp := [
  ⟨(some 29), .iaddr (.t 25) (.t 27) 1, none, false⟩,
  ⟨(some 30), .load (.t 29) 1 false, none, false⟩,
  ⟨(some 8), .mv (.t 30), none, false⟩]
abbrev r90_14 : List MOp := [
  ⟨(some 31), .mv (.t 6), none, false⟩,
  ⟨(some 32), .mv (.t 8), none, false⟩,
  ⟨(some 33), .app (.t 31) (.t 32) 1, none, false⟩,
  ⟨(some 6), .mv (.t 33), none, false⟩]
abbrev r90_15 : List MOp := [
  ⟨(some 34), .bin .add 0 (.t 27) (.k (.int .i64 1)), none, false⟩,
  ⟨(some 27), .mv (.t 34), none, false⟩]
abbrev b90_16 : MC := (.seq (.reg r90_12) (.seq (.cond (.t 28) .skip (.exit 2)) (.seq (.block 3 (.seq (.reg r90_13) (.reg r90_14))) (.reg r90_15))))
abbrev r90_17 : List MOp := [
  ⟨(some 35), .mv (.t 6), none, false⟩,
  ⟨(some 2), .mv (.t 35), none, false⟩]
abbrev m90 : MC := (.seq (.reg r90_0) (.seq (.reg r90_1) (.seq (.seq (.reg r90_2) (.block 0 (.loop b90_9))) (.seq (.reg r90_10) (.seq (.seq (.reg r90_11) (.block 2 (.loop b90_16))) (.seq (.reg r90_17) .ret))))))
abbrev rs90 : List RV := [(.tmp 2)]
/- hallmark.tidy.arrays -/
abbrev r91_0 : List MOp := [
  ⟨(some 4), .mv (.k (.vec 11 true [])), none, false⟩]
abbrev r91_1 : List MOp := [
  ⟨(some 6), .mv (.t 0), none, false⟩,
  ⟨(some 7), .len (.t 6), none, false⟩,
  ⟨(some 8), .bin .eql 0 (.t 7) (.k (.int .i64 0)), none, false⟩,
  ⟨(some 9), .mv (.t 8), none, false⟩,
  ⟨(some 10), .mv (.t 1), some (9, false), true⟩,
  ⟨(some 11), .len (.t 10), some (9, false), true⟩,
  ⟨(some 12), .bin .eql 0 (.t 11) (.k (.int .i64 0)), some (9, false), true⟩,
  ⟨(some 13), .pick (.t 9) (.k (.bool true)) (.t 12), none, false⟩]
abbrev r91_2 : List MOp := [
  ⟨(some 14), .mv (.t 0), none, false⟩,
  ⟨(some 15), .mv (.t 1), none, false⟩,
  ⟨(some 16), .bslice 1 [(.vec 11 true [])] 2 [(0, (.t 14)), (1, (.t 15))], none, false⟩,
  ⟨(some 17), .call 127 [(.t 16)], none, false⟩,
  ⟨(some 4), .mv (.t 17), none, false⟩]
abbrev r91_3 : List MOp := [
  ⟨(some 18), .mv (.t 0), none, false⟩,
  ⟨(some 19), .iaddr (.t 18) (.k (.int .i64 0)) 11, none, false⟩,
  ⟨(some 20), .faddr (.t 19) 0, none, false⟩,
  ⟨(some 21), .load (.t 20) 9 true, none, false⟩,
  ⟨(some 22), .mv (.t 1), none, false⟩,
  ⟨(some 23), .iaddr (.t 22) (.k (.int .i64 0)) 11, none, false⟩,
  ⟨(some 24), .faddr (.t 23) 0, none, false⟩,
  ⟨(some 25), .load (.t 24) 9 true, none, false⟩,
  ⟨(some 26), .bslice 9 [(.bool false), (.bool false), (.bool false), (.bool false), (.vec 2 true []), (.bool false), (.vec 1 true []), (.vec 11 true []), (.vec 12 true [])] 2 [(0, (.t 21)), (1, (.t 25))], none, false⟩,
  ⟨(some 27), .call 54 [(.t 26)], none, false⟩,
  ⟨(some 28), .mv (.t 0), none, false⟩,
  ⟨(some 29), .iaddr (.t 28) (.k (.int .i64 0)) 11, none, false⟩,
  ⟨(some 30), .faddr (.t 29) 9, none, false⟩,
  ⟨(some 31), .load (.t 30) 1 false, none, false⟩,
  ⟨(some 32), .mv (.t 1), none, false⟩,
  ⟨(some 33), .iaddr (.t 32) (.k (.int .i64 0)) 11, none, false⟩,
  ⟨(some 34), .faddr (.t 33) 9, none, false⟩,
  ⟨(some 35), .load (.t 34) 1 false, none, false⟩,
  ⟨(some 36), .minmax false (.t 31) (.t 35), none, false⟩,
  ⟨(some 37), .mv (.t 0), none, false⟩,
  ⟨(some 38), .iaddr (.t 37) (.k (.int .i64 0)) 11, none, false⟩,
  ⟨(some 39), .faddr (.t 38) 10, none, false⟩,
  ⟨(some 40), .load (.t 39) 1 false, none, false⟩,
  ⟨(some 41), .mv (.t 1), none, false⟩,
  ⟨(some 42), .iaddr (.t 41) (.k (.int .i64 0)) 11, none, false⟩,
  ⟨(some 43), .faddr (.t 42) 10, none, false⟩,
  ⟨(some 44), .load (.t 43) 1 false, none, false⟩,
  ⟨(some 45), .minmax true (.t 40) (.t 44), none, false⟩,
  ⟨(some 46), .build [(.bool false), (.bool false), (.bool false), (.bool false), (.vec 2 true []), (.bool false), (.vec 1 true []), (.vec 11 true []), (.vec 12 true []), (.int .i64 0), (.int .i64 0)] [(0, 9, (.t 27)), (9, 1, (.t 36)), (10, 1, (.t 45))], none, false⟩,
  ⟨(some 5), .alloc [(.bool false), (.bool false), (.bool false), (.bool false), (.vec 2 true []), (.bool false), (.vec 1 true []), (.vec 11 true []), (.vec 12 true []), (.int .i64 0), (.int .i64 0)], none, false⟩,
  ⟨none, .store (.t 5) (.t 46) 11, none, false⟩]
abbrev r91_4 : List MOp := [
  ⟨(some 47), .mv (.t 0), none, false⟩,
  ⟨(some 48), .iaddr (.t 47) (.k (.int .i64 0)) 11, none, false⟩,
  ⟨(some 49), .faddr (.t 48) 10, none, false⟩,
  ⟨(some 50), .load (.t 49) 1 false, none, false⟩,
  ⟨(some 51), .bin .lss 0 (.t 50) (.k (.int .i64 0)), none, false⟩,
  ⟨(some 52), .mv (.t 51), none, false⟩,
  ⟨(some 53), .mv (.t 1), some (52, false), false⟩,
  ⟨(some 54), .iaddr (.t 53) (.k (.int .i64 0)) 11, some (52, false), false⟩,
  ⟨(some 55), .faddr (.t 54) 10, some (52, false), false⟩,
  ⟨(some 56), .load (.t 55) 1 false, some (52, false), false⟩,
  ⟨(some 57), .bin .lss 0 (.t 56) (.k (.int .i64 0)), some (52, false), false⟩,
  ⟨(some 58), .pick (.t 52) (.k (.bool true)) (.t 57), none, false⟩]
abbrev r91_5 : List MOp := [
  ⟨(some 59), .faddr (.t 5) 10, none, false⟩,
  ⟨none, .store (.t 59) (.k (.int .i64 (-1))) 1, none, false⟩]
abbrev r91_6 : List MOp := [
  ⟨(some 60), .load (.t 5) 11 true, none, false⟩,
  ⟨(some 61), .bslice 11 [(.bool false), (.bool false), (.bool false), (.bool false), (.vec 2 true []), (.bool false), (.vec 1 true []), (.vec 11 true []), (.vec 12 true []), (.int .i64 0), (.int .i64 0)] 1 [(0, (.t 60))], none, false⟩,
  ⟨(some 4), .mv (.t 61), none, false⟩]
abbrev m91 : MC := (.seq (.reg r91_0) (.seq (.seq (.reg r91_1) (.cond (.t 13) (.seq (.reg r91_2) .ret) .skip)) (.seq (.draw [(0, 4), (1, 4), (2, 4), (3, 4), (0, 5), (1, 5), (2, 5), (3, 5), (0, 6), (1, 6), (2, 6), (3, 6), (0, 7), (1, 7), (2, 7), (3, 7), (0, 10), (1, 10), (2, 10), (3, 10), (4, 10), (5, 10), (6, 10), (7, 10), (8, 10), (9, 10), (0, 11), (1, 11), (2, 11), (3, 11), (4, 11), (5, 11), (6, 11), (7, 11), (8, 11), (9, 11), (0, 12), (1, 12), (2, 12), (3, 12), (4, 12), (5, 12), (6, 12), (7, 12), (8, 12), (9, 12), (0, 13), (1, 13), (2, 13), (3, 13), (4, 13), (5, 13), (6, 13), (7, 13), (8, 13), (9, 13), (0, 14), (1, 14), (2, 14), (3, 14), (4, 14), (5, 14), (6, 14), (7, 14), (8, 14), (9, 14), (10, 14), (11, 14), (12, 14), (13, 14), (0, 15), (1, 15), (2, 15), (3, 15), (4, 15), (5, 15), (6, 15), (7, 15), (8, 15), (9, 15), (10, 15), (11, 15), (12, 15), (13, 15), (0, 16), (1, 16), (2, 16), (3, 16), (4, 16), (5, 16), (6, 16), (7, 16), (8, 16), (9, 16), (10, 16), (11, 16), (12, 16), (13, 16), (0, 17), (1, 17), (2, 17), (3, 17), (4, 17), (5, 17), (6, 17), (7, 17), (8, 17), (9, 17), (10, 17), (11, 17), (12, 17), (13, 17), (0, 18), (1, 18), (2, 18), (3, 18), (4, 18), (5, 18), (6, 18), (7, 18), (8, 18), (9, 18), (0, 19), (1, 19), (2, 19), (3, 19), (4, 19), (5, 19), (6, 19), (7, 19), (8, 19), (9, 19), (10, 19), (11, 19), (12, 19), (13, 19), (14, 19), (15, 19), (16, 19), (17, 19), (18, 19), (0, 20), (1, 20), (2, 20), (3, 20), (4, 20), (5, 20), (6, 20), (7, 20), (8, 20), (9, 20), (10, 20), (11, 20), (12, 20), (13, 20), (14, 20), (15, 20), (16, 20), (17, 20), (18, 20), (0, 21), (1, 21), (2, 21), (3, 21), (4, 21), (5, 21), (6, 21), (7, 21), (8, 21), (9, 21), (10, 21), (11, 21), (12, 21), (13, 21), (14, 21), (15, 21), (16, 21), (17, 21), (18, 21), (0, 22), (1, 22), (2, 22), (3, 22), (4, 22), (5, 22), (6, 22), (7, 22), (8, 22), (9, 22), (10, 22), (11, 22), (12, 22), (13, 22), (14, 22), (15, 22), (16, 22), (17, 22), (18, 22), (0, 23), (1, 23), (2, 23), (3, 23), (4, 23), (5, 23), (6, 23), (7, 23), (8, 23), (9, 23), (10, 23), (11, 23), (12, 23), (13, 23), (14, 23), (15, 23), (16, 23), (17, 23), (18, 23), (19, 23), (20, 23), (21, 23), (22, 23), (0, 24), (1, 24), (2, 24), (3, 24), (4, 24), (5, 24), (6, 24), (7, 24), (8, 24), (9, 24), (10, 24), (11, 24), (12, 24), (13, 24), (14, 24), (15, 24), (16, 24), (17, 24), (18, 24), (19, 24), (20, 24), (21, 24), (22, 24), (0, 25), (1, 25), (2, 25), (3, 25), (4, 25), (5, 25), (6, 25), (7, 25), (8, 25), (9, 25), (10, 25), (11, 25), (12, 25), (13, 25), (14, 25), (15, 25), (16, 25), (17, 25), (18, 25), (19, 25), (20, 25), (21, 25), (22, 25), (0, 26), (1, 26), (2, 26), (3, 26), (4, 26), (5, 26), (6, 26), (7, 26), (8, 26), (9, 26), (10, 26), (11, 26), (12, 26), (13, 26), (14, 26), (15, 26), (16, 26), (17, 26), (18, 26), (19, 26), (20, 26), (21, 26), (22, 26), (0, 27), (1, 27), (2, 27), (3, 27), (4, 27), (5, 27), (6, 27), (7, 27), (8, 27), (9, 27), (10, 27), (11, 27), (12, 27), (13, 27), (14, 27), (15, 27), (16, 27), (17, 27), (18, 27), (0, 29), (1, 29), (2, 29), (3, 29), (4, 29), (5, 29), (6, 29), (7, 29), (8, 29), (9, 29), (10, 29), (11, 29), (12, 29), (13, 29), (14, 29), (15, 29), (16, 29), (17, 29), (18, 29), (19, 29), (20, 29), (21, 29), (22, 29), (23, 29), (24, 29), (25, 29), (26, 29), (27, 29), (28, 29)] r91_3) (.seq (.seq (.reg r91_4) (.cond (.t 58) (.reg r91_5) .skip)) (.seq (.reg r91_6) .ret)))))
abbrev rs91 : List RV := [(.tmp 4)]
/- slices.Concat[[]hallmark.api.Obj,hallmark.api.Obj] -/
abbrev r92_0 : List MOp := [
  ⟨(some 2), .mv (.k (.vec 12 true [])), none, false⟩]
abbrev r92_1 : List MOp := [
  ⟨(some 3), .mv (.k (.int .i64 0)), none, false⟩]
abbrev r92_2 : List MOp := [
  ⟨(some 9), .mv (.t 0), none, false⟩,
  ⟨(some 10), .len (.t 9), none, false⟩,
  ⟨(some 11), .mv (.k (.int .i64 0)), none, false⟩]
abbrev r92_3 : List MOp := [
  ⟨(some 12), .bin .lss 0 (.t 11) (.t 10), none, false⟩]
abbrev r92_4 : List MOp := [
  ⟨(some 13), .iaddr (.t 9) (.t 11) 1, none, false⟩,
  ⟨(some 14), .load (.t 13) 1 false, none, false⟩,
  ⟨(some 5), .mv (.t 14), none, false⟩]
abbrev r92_5 : List MOp := [
  ⟨(some 15), .mv (.t 3), none, false⟩,
  ⟨(some 16), .mv (.t 5), none, false⟩,
  ⟨(some 17), .len (.t 16), none, false⟩,
  ⟨(some 18), .bin .add 0 (.t 15) (.t 17), none, false⟩,
  ⟨(some 3), .mv (.t 18), none, false⟩]
abbrev r92_6 : List MOp := [
  ⟨(some 19), .mv (.t 3), none, false⟩,
  ⟨(some 20), .bin .lss 0 (.t 19) (.k (.int .i64 0)), none, false⟩]
abbrev r92_7 : List MOp := [
  ⟨(some 21), .mkif 9 (.k (.str ⟨#[108, 101, 110, 32, 111, 117, 116, 32, 111, 102, 32, 114, 97, 110, 103, 101]⟩)), none, false⟩,
  ⟨none, .bad, none, false⟩]
abbrev r92_8 : List MOp := [
  ⟨(some 22), .bin .add 0 (.t 11) (.k (.int .i64 1)), none, false⟩,
  ⟨(some 11), .mv (.t 22), none, false⟩]
abbrev b92_9 : MC := (.seq (.reg r92_3) (.seq (.cond (.t 12) .skip (.exit 0)) (.seq (.block 1 (.seq (.reg r92_4) (.seq (.reg r92_5) (.seq (.reg r92_6) (.cond (.t 20) (.reg r92_7) .skip))))) (.reg r92_8))))
abbrev r92_10 : List MOp := [
  ⟨(some 23), .mv (.t 3), none, false⟩,
  ⟨(some 24), .call 128 [(.k (.vec 12 true [])), (.t 23)], none, false⟩,
  ⟨(some 6), .mv (.t 24), none, false⟩]
abbrev r92_11 : List MOp := [
  ⟨(some 25), .mv (.t 0), none, false⟩,
  ⟨(some 26), .len (.t 25), none, false⟩,
  ⟨(some 27), .mv (.k (.int .i64 0)), none, false⟩]
abbrev r92_12 : List MOp := [
  ⟨(some 28), .bin .lss 0 (.t 27) (.t 26), none, false⟩]
abbrev r92_13 : List MOp := [
  ⟨(some 29), .iaddr (.t 25) (.t 27) 1, none, false⟩,
  ⟨(some 30), .load (.t 29) 1 false, none, false⟩,
  ⟨(some 8), .mv (.t 30), none, false⟩]
abbrev r92_14 : List MOp := [
  ⟨(some 31), .mv (.t 6), none, false⟩,
  ⟨(some 32), .mv (.t 8), none, false⟩,
  ⟨(some 33), .app (.t 31) (.t 32) 12, none, false⟩,
  ⟨(some 6), .mv (.t 33), none, false⟩]
abbrev r92_15 : List MOp := [
  ⟨(some 34), .bin .add 0 (.t 27) (.k (.int .i64 1)), none, false⟩,
  ⟨(some 27), .mv (.t 34), none, false⟩]
abbrev b92_16 : MC := (.seq (.reg r92_12) (.seq (.cond (.t 28) .skip (.exit 2)) (.seq (.block 3 (.seq (.reg r92_13) (.reg r92_14))) (.reg r92_15))))
abbrev r92_17 : List MOp := [
  ⟨(some 35), .mv (.t 6), none, false⟩,
  ⟨(some 2), .mv (.t 35), none, false⟩]
abbrev m92 : MC := (.seq (.reg r92_0) (.seq (.reg r92_1) (.seq (.seq (.reg r92_2) (.block 0 (.loop b92_9))) (.seq (.reg r92_10) (.seq (.seq (.reg r92_11) (.block 2 (.loop b92_16))) (.seq (.reg r92_17) .ret))))))
abbrev rs92 : List RV := [(.tmp 2)]
/- slices.Sort[[]string,string] -/
abbrev r93_0 : List MOp := [
  ⟨(some 3), .mv (.t 0), none, false⟩,
  ⟨(some 4), .len (.t 3), none, false⟩,
  ⟨(some 2), .mv (.t 4), none, false⟩]
abbrev r93_1 : List MOp := [
  ⟨(some 5), .mv (.t 0), none, false⟩,
  ⟨(some 6), .mv (.t 2), none, false⟩,
  ⟨(some 7), .mv (.t 2), none, false⟩,
  ⟨(some 8), .conv .u64 (.t 7), none, false⟩,
  ⟨(some 9), .call 130 [(.t 8)], none, false⟩,
  ⟨(some 10), .call 129 [(.t 5), (.k (.int .i64 0)), (.t 6), (.t 9)], none, false⟩]
abbrev m93 : MC := (.seq (.reg r93_0) (.reg r93_1))
abbrev rs93 : List RV := []
/- slices.Compact[[]string,string] -/
abbrev r94_0 : List MOp := [
  ⟨(some 2), .mv (.k (.vec 1 true [])), none, false⟩]
abbrev r94_1 : List MOp := [
  ⟨(some 6), .mv (.t 0), none, false⟩,
  ⟨(some 7), .len (.t 6), none, false⟩,
  ⟨(some 8), .bin .lss 0 (.t 7) (.k (.int .i64 2)), none, false⟩]
abbrev r94_2 : List MOp := [
  ⟨(some 9), .mv (.t 0), none, false⟩,
  ⟨(some 2), .mv (.t 9), none, false⟩]
abbrev r94_3 : List MOp := [
  ⟨(some 3), .mv (.k (.int .i64 1)), none, false⟩]
abbrev r94_4 : List MOp := [
  ⟨(some 10), .mv (.t 3), none, false⟩,
  ⟨(some 11), .mv (.t 0), none, false⟩,
  ⟨(some 12), .len (.t 11), none, false⟩,
  ⟨(some 13), .bin .lss 0 (.t 10) (.t 12), none, false⟩]
abbrev r94_5 : List MOp := [
  ⟨(some 16), .mv (.t 0), none, false⟩,
  ⟨(some 17), .mv (.t 3), none, false⟩,
  ⟨(some 18), .iaddr (.t 16) (.t 17) 1, none, false⟩,
  ⟨(some 19), .load (.t 18) 1 false, none, false⟩,
  ⟨(some 20), .mv (.t 0), none, false⟩,
  ⟨(some 21), .mv (.t 3), none, false⟩,
  ⟨(some 22), .bin .sub 0 (.t 21) (.k (.int .i64 1)), none, false⟩,
  ⟨(some 23), .iaddr (.t 20) (.t 22) 1, none, false⟩,
  ⟨(some 24), .load (.t 23) 1 false, none, false⟩,
  ⟨(some 25), .bin .eql 0 (.t 19) (.t 24), none, false⟩]
abbrev r94_6 : List MOp := [
  ⟨(some 26), .mv (.t 0), none, false⟩,
  ⟨(some 27), .mv (.t 3), none, false⟩,
  ⟨(some 28), .slc (.t 26) 1 (some (.t 27)) none none, none, false⟩,
  ⟨(some 4), .mv (.t 28), none, false⟩]
abbrev r94_7 : List MOp := [
  ⟨(some 5), .mv (.k (.int .i64 1)), none, false⟩]
abbrev r94_8 : List MOp := [
  ⟨(some 29), .mv (.t 5), none, false⟩,
  ⟨(some 30), .mv (.t 4), none, false⟩,
  ⟨(some 31), .len (.t 30), none, false⟩,
  ⟨(some 32), .bin .lss 0 (.t 29) (.t 31), none, false⟩]
abbrev r94_9 : List MOp := [
  ⟨(some 35), .mv (.t 4), none, false⟩,
  ⟨(some 36), .mv (.t 5), none, false⟩,
  ⟨(some 37), .iaddr (.t 35) (.t 36) 1, none, false⟩,
  ⟨(some 38), .load (.t 37) 1 false, none, false⟩,
  ⟨(some 39), .mv (.t 4), none, false⟩,
  ⟨(some 40), .mv (.t 5), none, false⟩,
  ⟨(some 41), .bin .sub 0 (.t 40) (.k (.int .i64 1)), none, false⟩,
  ⟨(some 42), .iaddr (.t 39) (.t 41) 1, none, false⟩,
  ⟨(some 43), .load (.t 42) 1 false, none, false⟩,
  ⟨(some 44), .bin .neq 0 (.t 38) (.t 43), none, false⟩]
abbrev r94_10 : List MOp := [
  ⟨(some 45), .mv (.t 0), none, false⟩,
  ⟨(some 46), .mv (.t 3), none, false⟩,
  ⟨(some 47), .mv (.t 4), none, false⟩,
  ⟨(some 48), .mv (.t 5), none, false⟩,
  ⟨(some 49), .iaddr (.t 47) (.t 48) 1, none, false⟩,
  ⟨(some 50), .load (.t 49) 1 false, none, false⟩,
  ⟨(some 51), .iaddr (.t 45) (.t 46) 1, none, false⟩,
  ⟨none, .store (.t 51) (.t 50) 1, none, false⟩]
abbrev r94_11 : List MOp := [
  ⟨(some 52), .mv (.t 3), none, false⟩,
  ⟨(some 53), .bin .add 0 (.t 52) (.k (.int .i64 1)), none, false⟩,
  ⟨(some 3), .mv (.t 53), none, false⟩]
abbrev r94_12 : List MOp := [
  ⟨(some 33), .mv (.t 5), none, false⟩,
  ⟨(some 34), .bin .add 0 (.t 33) (.k (.int .i64 1)), none, false⟩,
  ⟨(some 5), .mv (.t 34), none, false⟩]
abbrev b94_13 : MC := (.seq (.seq (.reg r94_8) (.cond (.t 32) .skip (.exit 2))) (.seq (.block 3 (.seq (.draw [(0, 1), (0, 4), (1, 4), (2, 4), (3, 4), (0, 5), (1, 5), (2, 5), (3, 5), (4, 5), (0, 6), (1, 6), (2, 6), (3, 6), (4, 6), (0, 7), (1, 7), (2, 7), (3, 7), (0, 8), (1, 8), (2, 8), (3, 8)] r94_9) (.cond (.t 44) (.seq (.reg r94_10) (.reg r94_11)) .skip))) (.reg r94_12)))
abbrev r94_14 : List MOp := [
  ⟨(some 54), .mv (.t 0), none, false⟩,
  ⟨(some 55), .mv (.t 3), none, false⟩,
  ⟨(some 56), .slc (.t 54) 1 (some (.t 55)) none none, none, false⟩,
  ⟨none, .bad, none, false⟩]
abbrev r94_15 : List MOp := [
  ⟨(some 57), .mv (.t 0), none, false⟩,
  ⟨(some 58), .mv (.t 3), none, false⟩,
  ⟨(some 59), .slc (.t 57) 1 none (some (.t 58)) none, none, false⟩,
  ⟨(some 2), .mv (.t 59), none, false⟩]
abbrev r94_16 : List MOp := [
  ⟨(some 14), .mv (.t 3), none, false⟩,
  ⟨(some 15), .bin .add 0 (.t 14) (.k (.int .i64 1)), none, false⟩,
  ⟨(some 3), .mv (.t 15), none, false⟩]
abbrev b94_17 : MC := (.seq (.seq (.reg r94_4) (.cond (.t 13) .skip (.exit 0))) (.seq (.block 1 (.seq (.draw [(0, 1), (0, 4), (1, 4), (2, 4), (3, 4), (0, 5), (1, 5), (2, 5), (3, 5), (4, 5), (0, 6), (1, 6), (2, 6), (3, 6), (4, 6), (0, 7), (1, 7), (2, 7), (3, 7), (0, 8), (1, 8), (2, 8), (3, 8)] r94_5) (.cond (.t 25) (.seq (.reg r94_6) (.seq (.seq (.reg r94_7) (.block 2 (.loop b94_13))) (.seq (.reg r94_14) (.seq (.reg r94_15) .ret)))) .skip))) (.reg r94_16)))
abbrev r94_18 : List MOp := [
  ⟨(some 60), .mv (.t 0), none, false⟩,
  ⟨(some 2), .mv (.t 60), none, false⟩]
abbrev m94 : MC := (.seq (.reg r94_0) (.seq (.seq (.reg r94_1) (.cond (.t 8) (.seq (.reg r94_2) .ret) .skip)) (.seq (.seq (.reg r94_3) (.block 0 (.loop b94_17))) (.seq (.reg r94_18) .ret))))
abbrev rs94 : List RV := [(.tmp 2)]
/- hallmark.tidy.normal -/
abbrev r97_0 : List MOp := [
  ⟨(some 2), .box (.t 0), none, false⟩,
  ⟨(some 4), .alloc [(.bool false), (.bool false), (.bool false), (.bool false), (.vec 2 true []), (.bool false), (.vec 1 true []), (.vec 11 true []), (.vec 12 true [])], none, false⟩]
abbrev r97_1 : List MOp := [
  ⟨(some 10), .faddr (.t 2) 0, none, false⟩,
  ⟨(some 11), .load (.t 10) 1 false, none, false⟩,
  ⟨(some 12), .mv (.t 11), none, false⟩,
  ⟨(some 13), .mv (.t 1), some (12, false), true⟩,
  ⟨(some 14), .bin .eql 0 (.t 13) (.k (.int .i64 0)), some (12, false), true⟩,
  ⟨(some 15), .mv (.t 14), some (12, false), true⟩,
  ⟨(some 16), .faddr (.t 2) 7, some (15, true), true⟩,
  ⟨(some 17), .load (.t 16) 1 false, some (15, true), true⟩,
  ⟨(some 18), .len (.t 17), some (15, true), true⟩,
  ⟨(some 19), .faddr (.t 2) 8, some (15, true), true⟩,
  ⟨(some 20), .load (.t 19) 1 false, some (15, true), true⟩,
  ⟨(some 21), .len (.t 20), some (15, true), true⟩,
  ⟨(some 22), .bin .add 0 (.t 18) (.t 21), some (15, true), true⟩,
  ⟨(some 23), .bin .gtr 0 (.t 22) (.k (.int .i64 0)), some (15, true), true⟩,
  ⟨(some 24), .pick (.t 15) (.t 23) (.k (.bool false)), some (12, false), true⟩,
  ⟨(some 25), .pick (.t 12) (.k (.bool true)) (.t 24), none, false⟩]
abbrev r97_2 : List MOp := [
  ⟨(some 26), .call 68 [], none, false⟩,
  ⟨none, .store (.t 4) (.t 26) 9, none, false⟩]
abbrev r97_3 : List MOp := [
  ⟨(some 27), .load (.t 2) 9 true, none, false⟩,
  ⟨(some 5), .alloc [(.bool false), (.bool false), (.bool false), (.bool false), (.vec 2 true []), (.bool false), (.vec 1 true []), (.vec 11 true []), (.vec 12 true [])], none, false⟩,
  ⟨none, .store (.t 5) (.t 27) 9, none, false⟩]
abbrev r97_4 : List MOp := [
  ⟨(some 28), .faddr (.t 2) 6, none, false⟩,
  ⟨(some 29), .load (.t 28) 1 false, none, false⟩,
  ⟨(some 30), .len (.t 29), none, false⟩,
  ⟨(some 31), .bin .gtr 0 (.t 30) (.k (.int .i64 16)), none, false⟩]
abbrev r97_5 : List MOp := [
  ⟨(some 32), .faddr (.t 5) 5, none, false⟩,
  ⟨none, .store (.t 32) (.k (.bool true)) 1, none, false⟩,
  ⟨(some 33), .faddr (.t 5) 6, none, false⟩,
  ⟨none, .store (.t 33) (.k (.vec 1 true [])) 1, none, false⟩]
abbrev r97_6 : List MOp := [
  ⟨(some 34), .faddr (.t 5) 7, none, false⟩,
  ⟨none, .store (.t 34) (.k (.vec 11 true [])) 1, none, false⟩,
  ⟨(some 35), .faddr (.t 5) 8, none, false⟩,
  ⟨none, .store (.t 35) (.k (.vec 12 true [])) 1, none, false⟩]
abbrev r97_7 : List MOp := [
  ⟨(some 36), .faddr (.t 2) 7, none, false⟩,
  ⟨(some 37), .load (.t 36) 1 false, none, false⟩,
  ⟨(some 38), .len (.t 37), none, false⟩,
  ⟨(some 39), .mv (.k (.int .i64 0)), none, false⟩]
abbrev r97_8 : List MOp := [
  ⟨(some 40), .bin .lss 0 (.t 39) (.t 38), none, false⟩]
abbrev r97_9 : List MOp := [
  ⟨(some 41), .iaddr (.t 37) (.t 39) 11, none, false⟩,
  ⟨(some 42), .load (.t 41) 11 true, none, false⟩,
  ⟨(some 7), .alloc [(.bool false), (.bool false), (.bool false), (.bool false), (.vec 2 true []), (.bool false), (.vec 1 true []), (.vec 11 true []), (.vec 12 true []), (.int .i64 0), (.int .i64 0)], none, false⟩,
  ⟨none, .store (.t 7) (.t 42) 11, none, false⟩]
abbrev r97_10 : List MOp := [
  ⟨(some 43), .faddr (.t 7) 0, none, false⟩,
  ⟨(some 44), .load (.t 43) 9 true, none, false⟩,
  ⟨(some 45), .mv (.t 1), none, false⟩,
  ⟨(some 46), .bin .sub 0 (.t 45) (.k (.int .i64 1)), none, false⟩,
  ⟨(some 47), .call 97 [(.t 44), (.t 46)], none, false⟩,
  ⟨(some 48), .faddr (.t 7) 0, none, false⟩,
  ⟨none, .store (.t 48) (.t 47) 9, none, false⟩]
abbrev r97_11 : List MOp := [
  ⟨(some 49), .faddr (.t 5) 7, none, false⟩,
  ⟨(some 50), .load (.t 49) 1 false, none, false⟩,
  ⟨(some 51), .load (.t 7) 11 true, none, false⟩,
  ⟨(some 52), .bslice 11 [(.bool false), (.bool false), (.bool false), (.bool false), (.vec 2 true []), (.bool false), (.vec 1 true []), (.vec 11 true []), (.vec 12 true []), (.int .i64 0), (.int .i64 0)] 1 [(0, (.t 51))], none, false⟩,
  ⟨(some 53), .app (.t 50) (.t 52) 11, none, false⟩,
  ⟨(some 54), .faddr (.t 5) 7, none, false⟩,
  ⟨none, .store (.t 54) (.t 53) 1, none, false⟩]
abbrev r97_12 : List MOp := [
  ⟨(some 55), .bin .add 0 (.t 39) (.k (.int .i64 1)), none, false⟩,
  ⟨(some 39), .mv (.t 55), none, false⟩]
abbrev b97_13 : MC := (.seq (.reg r97_8) (.seq (.cond (.t 40) .skip (.exit 0)) (.seq (.block 1 (.seq (.reg r97_9) (.seq (.reg r97_10) (.reg r97_11)))) (.reg r97_12))))
abbrev r97_14 : List MOp := [
  ⟨(some 56), .faddr (.t 2) 8, none, false⟩,
  ⟨(some 57), .load (.t 56) 1 false, none, false⟩,
  ⟨(some 58), .len (.t 57), none, false⟩,
  ⟨(some 59), .mv (.k (.int .i64 0)), none, false⟩]
abbrev r97_15 : List MOp := [
  ⟨(some 60), .bin .lss 0 (.t 59) (.t 58), none, false⟩]
abbrev r97_16 : List MOp := [
  ⟨(some 61), .iaddr (.t 57) (.t 59) 12, none, false⟩,
  ⟨(some 62), .load (.t 61) 12 true, none, false⟩,
  ⟨(some 9), .alloc [(.vec 1 true []), (.vec 9 true []), (.vec 1 true []), (.bool false), (.bool false), (.bool false), (.bool false), (.vec 2 true []), (.bool false), (.vec 1 true []), (.vec 11 true []), (.vec 12 true [])], none, false⟩,
  ⟨none, .store (.t 9) (.t 62) 12, none, false⟩]
abbrev r97_17 : List MOp := [
  ⟨(some 63), .faddr (.t 5) 8, none, false⟩,
  ⟨(some 64), .load (.t 63) 1 false, none, false⟩,
  ⟨(some 65), .load (.t 9) 12 true, none, false⟩,
  ⟨(some 66), .mv (.t 1), none, false⟩,
  ⟨(some 67), .bin .sub 0 (.t 66) (.k (.int .i64 1)), none, false⟩,
  ⟨(some 68), .call 131 [(.t 65), (.t 67)], none, false⟩,
  ⟨(some 69), .bslice 12 [(.vec 1 true []), (.vec 9 true []), (.vec 1 true []), (.bool false), (.bool false), (.bool false), (.bool false), (.vec 2 true []), (.bool false), (.vec 1 true []), (.vec 11 true []), (.vec 12 true [])] 1 [(0, (.t 68))], none, false⟩,
  ⟨(some 70), .app (.t 64) (.t 69) 12, none, false⟩,
  ⟨(some 71), .faddr (.t 5) 8, none, false⟩,
  ⟨none, .store (.t 71) (.t 70) 1, none, false⟩]
abbrev r97_18 : List MOp := [
  ⟨(some 72), .bin .add 0 (.t 59) (.k (.int .i64 1)), none, false⟩,
  ⟨(some 59), .mv (.t 72), none, false⟩]
abbrev b97_19 : MC := (.seq (.reg r97_15) (.seq (.cond (.t 60) .skip (.exit 2)) (.seq (.block 3 (.seq (.reg r97_16) (.draw [(0, 2), (1, 2), (0, 3), (1, 3), (2, 3), (0, 4), (1, 4), (2, 4), (0, 5), (1, 5), (0, 6), (1, 6)] r97_17))) (.reg r97_18))))
abbrev r97_20 : List MOp := [
  ⟨(some 73), .faddr (.t 5) 8, none, false⟩,
  ⟨(some 74), .load (.t 73) 1 false, none, false⟩,
  ⟨(some 75), .mv (.t 1), none, false⟩,
  ⟨(some 76), .bin .sub 0 (.t 75) (.k (.int .i64 1)), none, false⟩,
  ⟨(some 77), .call 132 [(.t 74), (.t 76)], none, false⟩,
  ⟨(some 78), .faddr (.t 5) 8, none, false⟩,
  ⟨none, .store (.t 78) (.t 77) 1, none, false⟩]
abbrev r97_21 : List MOp := [
  ⟨(some 79), .load (.t 5) 9 true, none, false⟩,
  ⟨(some 80), .call 133 [(.t 79)], none, false⟩]
abbrev r97_22 : List MOp := [
  ⟨(some 81), .call 68 [], none, false⟩,
  ⟨none, .store (.t 4) (.t 81) 9, none, false⟩]
abbrev r97_23 : List MOp := [
  ⟨(some 82), .load (.t 5) 9 true, none, false⟩,
  ⟨none, .store (.t 4) (.t 82) 9, none, false⟩]
abbrev m97 : MC := (.seq (.reg r97_0) (.seq (.seq (.reg r97_1) (.cond (.t 25) (.seq (.reg r97_2) .ret) .skip)) (.seq (.reg r97_3) (.seq (.seq (.reg r97_4) (.cond (.t 31) (.reg r97_5) .skip)) (.seq (.reg r97_6) (.seq (.seq (.reg r97_7) (.block 0 (.loop b97_13))) (.seq (.seq (.reg r97_14) (.block 2 (.loop b97_19))) (.seq (.reg r97_20) (.seq (.seq (.reg r97_21) (.cond (.t 80) (.seq (.reg r97_22) .ret) .skip)) (.seq (.reg r97_23) .ret))))))))))
abbrev rs97 : List RV := [(.cell 4 27 9 true)]
/- hallmark.shape.Height -/
abbrev r98_0 : List MOp := [
  ⟨(some 1), .box (.t 0), none, false⟩,
  ⟨(some 2), .mv (.k (.int .i64 0)), none, false⟩]
abbrev r98_1 : List MOp := [
  ⟨(some 3), .mv (.k (.int .i64 (-1))), none, false⟩]
abbrev r98_2 : List MOp := [
  ⟨(some 10), .faddr (.t 1) 7, none, false⟩,
  ⟨(some 11), .load (.t 10) 1 false, none, false⟩,
  ⟨(some 12), .len (.t 11), none, false⟩,
  ⟨(some 13), .mv (.k (.int .i64 0)), none, false⟩]
abbrev r98_3 : List MOp := [
  ⟨(some 14), .bin .lss 0 (.t 13) (.t 12), none, false⟩]
abbrev r98_4 : List MOp := [
  ⟨(some 15), .iaddr (.t 11) (.t 13) 11, none, false⟩,
  ⟨(some 16), .load (.t 15) 11 true, none, false⟩,
  ⟨(some 5), .alloc [(.bool false), (.bool false), (.bool false), (.bool false), (.vec 2 true []), (.bool false), (.vec 1 true []), (.vec 11 true []), (.vec 12 true []), (.int .i64 0), (.int .i64 0)], none, false⟩,
  ⟨none, .store (.t 5) (.t 16) 11, none, false⟩]
abbrev r98_5 : List MOp := [
  ⟨(some 17), .mv (.t 3), none, false⟩,
  ⟨(some 18), .faddr (.t 5) 0, none, false⟩,
  ⟨(some 19), .load (.t 18) 9 true, none, false⟩,
  ⟨(some 20), .call 98 [(.t 19)], none, false⟩,
  ⟨(some 21), .minmax true (.t 17) (.t 20), none, false⟩,
  ⟨(some 3), .mv (.t 21), none, false⟩]
abbrev r98_6 : List MOp := [
  ⟨(some 22), .bin .add 0 (.t 13) (.k (.int .i64 1)), none, false⟩,
  ⟨(some 13), .mv (.t 22), none, false⟩]
abbrev b98_7 : MC := (.seq (.reg r98_3) (.seq (.cond (.t 14) .skip (.exit 0)) (.seq (.block 1 (.seq (.reg r98_4) (.reg r98_5))) (.reg r98_6))))
abbrev r98_8 : List MOp := [
  ⟨(some 23), .faddr (.t 1) 8, none, false⟩,
  ⟨(some 24), .load (.t 23) 1 false, none, false⟩,
  ⟨(some 25), .len (.t 24), none, false⟩,
  ⟨(some 26), .mv (.k (.int .i64 0)), none, false⟩]
abbrev r98_9 : List MOp := [
  ⟨(some 27), .bin .lss 0 (.t 26) (.t 25), none, false⟩]
abbrev r98_10 : List MOp := [
  ⟨(some 28), .iaddr (.t 24) (.t 26) 12, none, false⟩,
  ⟨(some 29), .load (.t 28) 12 true, none, false⟩,
  ⟨(some 7), .alloc [(.vec 1 true []), (.vec 9 true []), (.vec 1 true []), (.bool false), (.bool false), (.bool false), (.bool false), (.vec 2 true []), (.bool false), (.vec 1 true []), (.vec 11 true []), (.vec 12 true [])], none, false⟩,
  ⟨none, .store (.t 7) (.t 29) 12, none, false⟩]
abbrev r98_11 : List MOp := [
  ⟨(some 30), .mv (.t 3), none, false⟩,
  ⟨(some 31), .faddr (.t 7) 3, none, false⟩,
  ⟨(some 32), .load (.t 31) 9 true, none, false⟩,
  ⟨(some 33), .call 98 [(.t 32)], none, false⟩,
  ⟨(some 34), .minmax true (.t 30) (.t 33), none, false⟩,
  ⟨(some 3), .mv (.t 34), none, false⟩]
abbrev r98_12 : List MOp := [
  ⟨(some 35), .faddr (.t 7) 1, none, false⟩,
  ⟨(some 36), .load (.t 35) 1 false, none, false⟩,
  ⟨(some 37), .len (.t 36), none, false⟩,
  ⟨(some 38), .mv (.k (.int .i64 0)), none, false⟩]
abbrev r98_13 : List MOp := [
  ⟨(some 39), .bin .lss 0 (.t 38) (.t 37), none, false⟩]
abbrev r98_14 : List MOp := [
  ⟨(some 40), .iaddr (.t 36) (.t 38) 9, none, false⟩,
  ⟨(some 41), .load (.t 40) 9 true, none, false⟩,
  ⟨(some 9), .alloc [(.bool false), (.bool false), (.bool false), (.bool false), (.vec 2 true []), (.bool false), (.vec 1 true []), (.vec 11 true []), (.vec 12 true [])], none, false⟩,
  ⟨none, .store (.t 9) (.t 41) 9, none, false⟩]
abbrev r98_15 : List MOp := [
  ⟨(some 42), .mv (.t 3), none, false⟩,
  ⟨(some 43), .load (.t 9) 9 true, none, false⟩,
  ⟨(some 44), .call 98 [(.t 43)], none, false⟩,
  ⟨(some 45), .minmax true (.t 42) (.t 44), none, false⟩,
  ⟨(some 3), .mv (.t 45), none, false⟩]
abbrev r98_16 : List MOp := [
  ⟨(some 46), .bin .add 0 (.t 38) (.k (.int .i64 1)), none, false⟩,
  ⟨(some 38), .mv (.t 46), none, false⟩]
abbrev b98_17 : MC := (.seq (.reg r98_13) (.seq (.cond (.t 39) .skip (.exit 4)) (.seq (.block 5 (.seq (.reg r98_14) (.reg r98_15))) (.reg r98_16))))
abbrev r98_18 : List MOp := [
  ⟨(some 47), .bin .add 0 (.t 26) (.k (.int .i64 1)), none, false⟩,
  ⟨(some 26), .mv (.t 47), none, false⟩]
abbrev b98_19 : MC := (.seq (.reg r98_9) (.seq (.cond (.t 27) .skip (.exit 2)) (.seq (.block 3 (.seq (.reg r98_10) (.seq (.reg r98_11) (.seq (.reg r98_12) (.block 4 (.loop b98_17)))))) (.reg r98_18))))
abbrev r98_20 : List MOp := [
  ⟨(some 48), .mv (.t 3), none, false⟩,
  ⟨(some 49), .bin .add 0 (.t 48) (.k (.int .i64 1)), none, false⟩,
  ⟨(some 2), .mv (.t 49), none, false⟩]
abbrev m98 : MC := (.seq (.reg r98_0) (.seq (.reg r98_1) (.seq (.seq (.reg r98_2) (.block 0 (.loop b98_7))) (.seq (.seq (.reg r98_8) (.block 2 (.loop b98_19))) (.seq (.reg r98_20) .ret)))))
abbrev rs98 : List RV := [(.tmp 2)]
/- hallmark.lattice.nearer -/
abbrev r101_0 : List MOp := [
  ⟨(some 6), .mv (.k (.str ⟨#[]⟩)), none, false⟩]
abbrev r101_1 : List MOp := [
  ⟨(some 10), .mv (.t 0), none, false⟩,
  ⟨(some 11), .mv (.t 1), none, false⟩,
  ⟨(some 12), .call 102 [(.t 10), (.t 11)], none, false⟩,
  ⟨(some 9), .mv (.t 12), none, false⟩,
  ⟨(some 13), .ext (.t 9) 0, none, false⟩,
  ⟨(some 14), .ext (.t 9) 1, none, false⟩,
  ⟨(some 7), .mv (.t 13), none, false⟩,
  ⟨(some 8), .mv (.t 14), none, false⟩]
abbrev r101_2 : List MOp := [
  ⟨(some 15), .mv (.t 0), none, false⟩,
  ⟨(some 16), .bin .eql 0 (.t 15) (.k (.str ⟨#[]⟩)), none, false⟩,
  ⟨(some 17), .mv (.t 16), none, false⟩,
  ⟨(some 18), .mv (.t 1), some (17, false), true⟩,
  ⟨(some 19), .bin .neq 0 (.t 18) (.k (.str ⟨#[]⟩)), some (17, false), true⟩,
  ⟨(some 20), .mv (.t 19), some (17, false), true⟩,
  ⟨(some 21), .mv (.t 7), some (20, true), true⟩,
  ⟨(some 22), .mv (.t 2), some (20, true), true⟩,
  ⟨(some 23), .bin .mul 0 (.t 21) (.t 22), some (20, true), true⟩,
  ⟨(some 24), .bin .lss 0 (.t 23) (.k (.int .i64 0)), some (20, true), true⟩,
  ⟨(some 25), .pick (.t 20) (.t 24) (.k (.bool false)), some (17, false), true⟩,
  ⟨(some 26), .pick (.t 17) (.k (.bool true)) (.t 25), none, false⟩]
abbrev r101_3 : List MOp := [
  ⟨(some 27), .mv (.t 1), none, false⟩,
  ⟨(some 6), .mv (.t 27), none, false⟩]
abbrev r101_4 : List MOp := [
  ⟨(some 28), .mv (.t 0), none, false⟩,
  ⟨(some 6), .mv (.t 28), none, false⟩]
abbrev m101 : MC := (.seq (.reg r101_0) (.seq (.reg r101_1) (.seq (.seq (.reg r101_2) (.cond (.t 26) (.seq (.reg r101_3) .ret) .skip)) (.seq (.reg r101_4) .ret))))
abbrev rs101 : List RV := [(.tmp 6)]
/- hallmark.tens.Cmp -/
abbrev r102_0 : List MOp := [
  ⟨(some 4), .mv (.k (.int .i64 0)), none, false⟩,
  ⟨(some 5), .mv (.k (.int .i64 0)), none, false⟩]
abbrev r102_1 : List MOp := [
  ⟨(some 10), .mv (.t 0), none, false⟩,
  ⟨(some 11), .call 37 [(.t 10)], none, false⟩,
  ⟨(some 12), .un .not (.t 11), none, false⟩,
  ⟨(some 13), .mv (.t 12), none, false⟩,
  ⟨(some 14), .mv (.t 1), some (13, false), false⟩,
  ⟨(some 15), .call 37 [(.t 14)], some (13, false), false⟩,
  ⟨(some 16), .un .not (.t 15), some (13, false), false⟩,
  ⟨(some 17), .pick (.t 13) (.k (.bool true)) (.t 16), none, false⟩]
abbrev r102_2 : List MOp := [
  ⟨(some 4), .mv (.k (.int .i64 0)), none, false⟩,
  ⟨(some 5), .mv (.k (.int .i64 1)), none, false⟩]
abbrev r102_3 : List MOp := [
  ⟨(some 19), .mv (.t 0), none, false⟩,
  ⟨(some 20), .call 73 [(.t 19)], none, false⟩,
  ⟨(some 18), .mv (.t 20), none, false⟩,
  ⟨(some 21), .ext (.t 18) 0, none, false⟩,
  ⟨(some 22), .ext (.t 18) 1, none, false⟩,
  ⟨(some 6), .mv (.t 21), none, false⟩,
  ⟨(some 7), .mv (.t 22), none, false⟩]
abbrev r102_4 : List MOp := [
  ⟨(some 24), .mv (.t 1), none, false⟩,
  ⟨(some 25), .call 73 [(.t 24)], none, false⟩,
  ⟨(some 23), .mv (.t 25), none, false⟩,
  ⟨(some 26), .ext (.t 23) 0, none, false⟩,
  ⟨(some 27), .ext (.t 23) 1, none, false⟩,
  ⟨(some 8), .mv (.t 26), none, false⟩,
  ⟨(some 9), .mv (.t 27), none, false⟩]
abbrev r102_5 : List MOp := [
  ⟨(some 29), .mv (.t 6), none, false⟩,
  ⟨(some 30), .mv (.t 29), none, false⟩,
  ⟨(some 31), .mv (.t 8), some (30, true), true⟩,
  ⟨(some 32), .pick (.t 30) (.t 31) (.k (.bool false)), none, false⟩,
  ⟨(some 28), .mv (.t 32), none, false⟩]
abbrev r102_6 : List MOp := [
  ⟨(some 33), .mv (.t 9), none, false⟩,
  ⟨(some 34), .mv (.t 7), none, false⟩,
  ⟨(some 35), .call 76 [(.t 33), (.t 34)], none, false⟩,
  ⟨(some 4), .mv (.t 35), none, false⟩,
  ⟨(some 5), .mv (.k (.int .i64 0)), none, false⟩]
abbrev r102_7 : List MOp := [
  ⟨(some 37), .mv (.t 6), none, false⟩,
  ⟨(some 36), .mv (.t 37), none, false⟩]
abbrev r102_8 : List MOp := [
  ⟨(some 4), .mv (.k (.int .i64 (-1))), none, false⟩,
  ⟨(some 5), .mv (.k (.int .i64 0)), none, false⟩]
abbrev r102_9 : List MOp := [
  ⟨(some 39), .mv (.t 8), none, false⟩,
  ⟨(some 38), .mv (.t 39), none, false⟩]
abbrev r102_10 : List MOp := [
  ⟨(some 4), .mv (.k (.int .i64 1)), none, false⟩,
  ⟨(some 5), .mv (.k (.int .i64 0)), none, false⟩]
abbrev r102_11 : List MOp := [
  ⟨(some 40), .mv (.t 7), none, false⟩,
  ⟨(some 41), .mv (.t 9), none, false⟩,
  ⟨(some 42), .call 76 [(.t 40), (.t 41)], none, false⟩,
  ⟨(some 4), .mv (.t 42), none, false⟩,
  ⟨(some 5), .mv (.k (.int .i64 0)), none, false⟩]
abbrev m102 : MC := (.seq (.reg r102_0) (.seq (.seq (.reg r102_1) (.cond (.t 17) (.seq (.reg r102_2) .ret) .skip)) (.seq (.reg r102_3) (.seq (.reg r102_4) (.seq (.block 0 (.seq (.reg r102_5) (.cond (.t 28) (.seq (.reg r102_6) .ret) (.seq (.reg r102_7) (.cond (.t 36) (.seq (.reg r102_8) .ret) (.seq (.reg r102_9) (.cond (.t 38) (.seq (.reg r102_10) .ret) .skip))))))) (.seq (.reg r102_11) .ret))))))
abbrev rs102 : List RV := [(.tmp 4), (.tmp 5)]
/- hallmark.tens.text -/
abbrev r107_0 : List MOp := [
  ⟨(some 2), .mv (.k (.str ⟨#[]⟩)), none, false⟩]
abbrev r107_1 : List MOp := [
  ⟨(some 3), .mv (.k (.int .i64 0)), none, false⟩]
abbrev r107_2 : List MOp := [
  ⟨(some 4), .mv (.t 3), none, false⟩,
  ⟨(some 5), .mv (.t 0), none, false⟩,
  ⟨(some 6), .len (.t 5), none, false⟩,
  ⟨(some 7), .bin .sub 0 (.t 6) (.k (.int .i64 1)), none, false⟩,
  ⟨(some 8), .bin .lss 0 (.t 4) (.t 7), none, false⟩,
  ⟨(some 9), .mv (.t 8), none, false⟩,
  ⟨(some 10), .mv (.t 0), some (9, true), false⟩,
  ⟨(some 11), .mv (.t 3), some (9, true), false⟩,
  ⟨(some 12), .iaddr (.t 10) (.t 11) 1, some (9, true), false⟩,
  ⟨(some 13), .load (.t 12) 1 false, some (9, true), false⟩,
  ⟨(some 14), .bin .eql 0 (.t 13) (.k (.int .u8 48)), some (9, true), false⟩,
  ⟨(some 15), .pick (.t 9) (.t 14) (.k (.bool false)), none, false⟩]
abbrev r107_3 : List MOp := [
  ⟨(some 16), .mv (.t 3), none, false⟩,
  ⟨(some 17), .bin .add 0 (.t 16) (.k (.int .i64 1)), none, false⟩,
  ⟨(some 3), .mv (.t 17), none, false⟩]
abbrev b107_4 : MC := (.seq (.seq (.reg r107_2) (.cond (.t 15) .skip (.exit 0))) (.block 1 (.reg r107_3)))
abbrev r107_5 : List MOp := [
  ⟨(some 18), .mv (.t 0), none, false⟩,
  ⟨(some 19), .mv (.t 3), none, false⟩,
  ⟨(some 20), .mv (.t 0), none, false⟩,
  ⟨(some 21), .len (.t 20), none, false⟩,
  ⟨(some 22), .mv (.t 0), none, false⟩,
  ⟨(some 23), .len (.t 22), none, false⟩,
  ⟨(some 24), .slc (.t 18) 1 (some (.t 19)) (some (.t 21)) (some (.t 23)), none, false⟩,
  ⟨(some 25), .b2s (.t 24), none, false⟩,
  ⟨(some 2), .mv (.t 25), none, false⟩]
abbrev m107 : MC := (.seq (.reg r107_0) (.seq (.reg r107_1) (.seq (.block 0 (.loop b107_4)) (.seq (.reg r107_5) .ret))))
abbrev rs107 : List RV := [(.tmp 2)]
/- cmp.Or[int] -/
abbrev r108_0 : List MOp := [
  ⟨(some 2), .mv (.k (.int .i64 0)), none, false⟩]
abbrev r108_1 : List MOp := [
  ⟨(some 3), .mv (.k (.int .i64 0)), none, false⟩]
abbrev r108_2 : List MOp := [
  ⟨(some 6), .mv (.t 0), none, false⟩,
  ⟨(some 7), .len (.t 6), none, false⟩,
  ⟨(some 8), .mv (.k (.int .i64 0)), none, false⟩]
abbrev r108_3 : List MOp := [
  ⟨(some 9), .bin .lss 0 (.t 8) (.t 7), none, false⟩]
abbrev r108_4 : List MOp := [
  ⟨(some 10), .iaddr (.t 6) (.t 8) 1, none, false⟩,
  ⟨(some 11), .load (.t 10) 1 false, none, false⟩,
  ⟨(some 5), .mv (.t 11), none, false⟩]
abbrev r108_5 : List MOp := [
  ⟨(some 12), .mv (.t 5), none, false⟩,
  ⟨(some 13), .mv (.t 3), none, false⟩,
  ⟨(some 14), .bin .neq 0 (.t 12) (.t 13), none, false⟩]
abbrev r108_6 : List MOp := [
  ⟨(some 15), .mv (.t 5), none, false⟩,
  ⟨(some 2), .mv (.t 15), none, false⟩]
abbrev r108_7 : List MOp := [
  ⟨(some 16), .bin .add 0 (.t 8) (.k (.int .i64 1)), none, false⟩,
  ⟨(some 8), .mv (.t 16), none, false⟩]
abbrev b108_8 : MC := (.seq (.reg r108_3) (.seq (.cond (.t 9) .skip (.exit 0)) (.seq (.block 1 (.seq (.reg r108_4) (.seq (.reg r108_5) (.cond (.t 14) (.seq (.reg r108_6) .ret) .skip)))) (.reg r108_7))))
abbrev r108_9 : List MOp := [
  ⟨(some 17), .mv (.t 3), none, false⟩,
  ⟨(some 2), .mv (.t 17), none, false⟩]
abbrev m108 : MC := (.seq (.reg r108_0) (.seq (.reg r108_1) (.seq (.seq (.reg r108_2) (.block 0 (.loop b108_8))) (.seq (.reg r108_9) .ret))))
abbrev rs108 : List RV := [(.tmp 2)]
/- hallmark.shape.truth -/
abbrev r109_0 : List MOp := [
  ⟨(some 4), .mv (.k (.int .i64 0)), none, false⟩]
abbrev r109_1 : List MOp := [
  ⟨(some 6), .mv (.t 0), none, false⟩,
  ⟨(some 7), .mv (.t 1), none, false⟩,
  ⟨(some 8), .bin .eql 1 (.t 6) (.t 7), none, false⟩,
  ⟨(some 5), .mv (.t 8), none, false⟩]
abbrev r109_2 : List MOp := [
  ⟨(some 4), .mv (.k (.int .i64 0)), none, false⟩]
abbrev r109_3 : List MOp := [
  ⟨(some 10), .mv (.t 1), none, false⟩,
  ⟨(some 9), .mv (.t 10), none, false⟩]
abbrev r109_4 : List MOp := [
  ⟨(some 4), .mv (.k (.int .i64 (-1))), none, false⟩]
abbrev r109_5 : List MOp := [
  ⟨(some 4), .mv (.k (.int .i64 1)), none, false⟩]
abbrev m109 : MC := (.seq (.reg r109_0) (.seq (.block 0 (.seq (.reg r109_1) (.cond (.t 5) (.seq (.reg r109_2) .ret) (.seq (.reg r109_3) (.cond (.t 9) (.seq (.reg r109_4) .ret) .skip))))) (.seq (.reg r109_5) .ret)))
abbrev rs109 : List RV := [(.tmp 4)]
/- slices.CompareFunc[[]hallmark.api.Span,[]hallmark.api.Span,hallmark.api.Span,hallmark.api.Span] -/
abbrev r110_0 : List MOp := [
  ⟨(some 6), .mv (.k (.int .i64 0)), none, false⟩]
abbrev r110_1 : List MOp := [
  ⟨(some 11), .mv (.t 0), none, false⟩,
  ⟨(some 12), .len (.t 11), none, false⟩,
  ⟨(some 13), .mv (.k (.int .i64 0)), none, false⟩]
abbrev r110_2 : List MOp := [
  ⟨(some 14), .bin .lss 0 (.t 13) (.t 12), none, false⟩]
abbrev r110_3 : List MOp := [
  ⟨(some 15), .mv (.t 13), none, false⟩,
  ⟨(some 16), .iaddr (.t 11) (.t 13) 2, none, false⟩,
  ⟨(some 17), .load (.t 16) 2 true, none, false⟩,
  ⟨(some 8), .alloc [(.str ⟨#[]⟩), (.str ⟨#[]⟩)], none, false⟩,
  ⟨(some 7), .mv (.t 15), none, false⟩,
  ⟨none, .store (.t 8) (.t 17) 2, none, false⟩]
abbrev r110_4 : List MOp := [
  ⟨(some 18), .mv (.t 7), none, false⟩,
  ⟨(some 19), .mv (.t 1), none, false⟩,
  ⟨(some 20), .len (.t 19), none, false⟩,
  ⟨(some 21), .bin .geq 0 (.t 18) (.t 20), none, false⟩]
abbrev r110_5 : List MOp := [
  ⟨(some 6), .mv (.k (.int .i64 1)), none, false⟩]
abbrev r110_6 : List MOp := [
  ⟨(some 22), .mv (.t 1), none, false⟩,
  ⟨(some 23), .mv (.t 7), none, false⟩,
  ⟨(some 24), .iaddr (.t 22) (.t 23) 2, none, false⟩,
  ⟨(some 25), .load (.t 24) 2 true, none, false⟩,
  ⟨(some 9), .alloc [(.str ⟨#[]⟩), (.str ⟨#[]⟩)], none, false⟩,
  ⟨none, .store (.t 9) (.t 25) 2, none, false⟩]
abbrev r110_7 : List MOp := [
  ⟨(some 26), .mv (.t 2), none, false⟩,
  ⟨(some 27), .load (.t 8) 2 true, none, false⟩,
  ⟨(some 28), .load (.t 9) 2 true, none, false⟩,
  ⟨(some 29), .dcall (.t 26) [(.t 27), (.t 28)], none, false⟩,
  ⟨(some 10), .mv (.t 29), none, false⟩]
abbrev r110_8 : List MOp := [
  ⟨(some 30), .mv (.t 10), none, false⟩,
  ⟨(some 31), .bin .neq 0 (.t 30) (.k (.int .i64 0)), none, false⟩]
abbrev r110_9 : List MOp := [
  ⟨(some 32), .mv (.t 10), none, false⟩,
  ⟨(some 6), .mv (.t 32), none, false⟩]
abbrev r110_10 : List MOp := [
  ⟨(some 33), .bin .add 0 (.t 13) (.k (.int .i64 1)), none, false⟩,
  ⟨(some 13), .mv (.t 33), none, false⟩]
abbrev b110_11 : MC := (.seq (.reg r110_2) (.seq (.cond (.t 14) .skip (.exit 0)) (.seq (.block 1 (.seq (.reg r110_3) (.seq (.seq (.reg r110_4) (.cond (.t 21) (.seq (.reg r110_5) .ret) .skip)) (.seq (.reg r110_6) (.seq (.reg r110_7) (.seq (.reg r110_8) (.cond (.t 31) (.seq (.reg r110_9) .ret) .skip))))))) (.reg r110_10))))
abbrev r110_12 : List MOp := [
  ⟨(some 34), .mv (.t 0), none, false⟩,
  ⟨(some 35), .len (.t 34), none, false⟩,
  ⟨(some 36), .mv (.t 1), none, false⟩,
  ⟨(some 37), .len (.t 36), none, false⟩,
  ⟨(some 38), .bin .lss 0 (.t 35) (.t 37), none, false⟩]
abbrev r110_13 : List MOp := [
  ⟨(some 6), .mv (.k (.int .i64 (-1))), none, false⟩]
abbrev r110_14 : List MOp := [
  ⟨(some 6), .mv (.k (.int .i64 0)), none, false⟩]
abbrev m110 : MC := (.seq (.reg r110_0) (.seq (.seq (.reg r110_1) (.block 0 (.loop b110_11))) (.seq (.seq (.reg r110_12) (.cond (.t 38) (.seq (.reg r110_13) .ret) .skip)) (.seq (.reg r110_14) .ret))))
abbrev rs110 : List RV := [(.tmp 6)]
/- hallmark.shape.span -/
abbrev r111_0 : List MOp := [
  ⟨(some 2), .box (.t 0), none, false⟩,
  ⟨(some 3), .box (.t 1), none, false⟩,
  ⟨(some 4), .mv (.k (.int .i64 0)), none, false⟩]
abbrev r111_1 : List MOp := [
  ⟨(some 5), .faddr (.t 2) 0, none, false⟩,
  ⟨(some 6), .load (.t 5) 1 false, none, false⟩,
  ⟨(some 7), .faddr (.t 3) 0, none, false⟩,
  ⟨(some 8), .load (.t 7) 1 false, none, false⟩,
  ⟨(some 9), .call 136 [(.t 6), (.t 8), (.k (.int .i64 (-1)))], none, false⟩,
  ⟨(some 10), .faddr (.t 2) 1, none, false⟩,
  ⟨(some 11), .load (.t 10) 1 false, none, false⟩,
  ⟨(some 12), .faddr (.t 3) 1, none, false⟩,
  ⟨(some 13), .load (.t 12) 1 false, none, false⟩,
  ⟨(some 14), .call 136 [(.t 11), (.t 13), (.k (.int .i64 1))], none, false⟩,
  ⟨(some 15), .bslice 1 [(.int .i64 0)] 2 [(0, (.t 9)), (1, (.t 14))], none, false⟩,
  ⟨(some 16), .call 108 [(.t 15)], none, false⟩,
  ⟨(some 4), .mv (.t 16), none, false⟩]
abbrev m111 : MC := (.seq (.reg r111_0) (.seq (.draw [(0, 2), (1, 2), (0, 3), (1, 3), (0, 5), (1, 5), (2, 5), (3, 5), (4, 5), (0, 6), (1, 6), (2, 6), (3, 6), (4, 6), (0, 7), (1, 7), (2, 7), (3, 7), (4, 7), (5, 7), (6, 7), (0, 8), (1, 8), (2, 8), (3, 8), (4, 8), (5, 8), (6, 8)] r111_1) .ret))
abbrev rs111 : List RV := [(.tmp 4)]
/- slices.Compare[[]string,string] -/
abbrev r112_0 : List MOp := [
  ⟨(some 4), .mv (.k (.int .i64 0)), none, false⟩]
abbrev r112_1 : List MOp := [
  ⟨(some 9), .mv (.t 0), none, false⟩,
  ⟨(some 10), .len (.t 9), none, false⟩,
  ⟨(some 11), .mv (.k (.int .i64 0)), none, false⟩]
abbrev r112_2 : List MOp := [
  ⟨(some 12), .bin .lss 0 (.t 11) (.t 10), none, false⟩]
abbrev r112_3 : List MOp := [
  ⟨(some 13), .mv (.t 11), none, false⟩,
  ⟨(some 14), .iaddr (.t 9) (.t 11) 1, none, false⟩,
  ⟨(some 15), .load (.t 14) 1 false, none, false⟩,
  ⟨(some 5), .mv (.t 13), none, false⟩,
  ⟨(some 6), .mv (.t 15), none, false⟩]
abbrev r112_4 : List MOp := [
  ⟨(some 16), .mv (.t 5), none, false⟩,
  ⟨(some 17), .mv (.t 1), none, false⟩,
  ⟨(some 18), .len (.t 17), none, false⟩,
  ⟨(some 19), .bin .geq 0 (.t 16) (.t 18), none, false⟩]
abbrev r112_5 : List MOp := [
  ⟨(some 4), .mv (.k (.int .i64 1)), none, false⟩]
abbrev r112_6 : List MOp := [
  ⟨(some 20), .mv (.t 1), none, false⟩,
  ⟨(some 21), .mv (.t 5), none, false⟩,
  ⟨(some 22), .iaddr (.t 20) (.t 21) 1, none, false⟩,
  ⟨(some 23), .load (.t 22) 1 false, none, false⟩,
  ⟨(some 7), .mv (.t 23), none, false⟩]
abbrev r112_7 : List MOp := [
  ⟨(some 24), .mv (.t 6), none, false⟩,
  ⟨(some 25), .mv (.t 7), none, false⟩,
  ⟨(some 26), .call 137 [(.t 24), (.t 25)], none, false⟩,
  ⟨(some 8), .mv (.t 26), none, false⟩]
abbrev r112_8 : List MOp := [
  ⟨(some 27), .mv (.t 8), none, false⟩,
  ⟨(some 28), .bin .neq 0 (.t 27) (.k (.int .i64 0)), none, false⟩]
abbrev r112_9 : List MOp := [
  ⟨(some 29), .mv (.t 8), none, false⟩,
  ⟨(some 4), .mv (.t 29), none, false⟩]
abbrev r112_10 : List MOp := [
  ⟨(some 30), .bin .add 0 (.t 11) (.k (.int .i64 1)), none, false⟩,
  ⟨(some 11), .mv (.t 30), none, false⟩]
abbrev b112_11 : MC := (.seq (.reg r112_2) (.seq (.cond (.t 12) .skip (.exit 0)) (.seq (.block 1 (.seq (.reg r112_3) (.seq (.seq (.reg r112_4) (.cond (.t 19) (.seq (.reg r112_5) .ret) .skip)) (.seq (.reg r112_6) (.seq (.reg r112_7) (.seq (.reg r112_8) (.cond (.t 28) (.seq (.reg r112_9) .ret) .skip))))))) (.reg r112_10))))
abbrev r112_12 : List MOp := [
  ⟨(some 31), .mv (.t 0), none, false⟩,
  ⟨(some 32), .len (.t 31), none, false⟩,
  ⟨(some 33), .mv (.t 1), none, false⟩,
  ⟨(some 34), .len (.t 33), none, false⟩,
  ⟨(some 35), .bin .lss 0 (.t 32) (.t 34), none, false⟩]
abbrev r112_13 : List MOp := [
  ⟨(some 4), .mv (.k (.int .i64 (-1))), none, false⟩]
abbrev r112_14 : List MOp := [
  ⟨(some 4), .mv (.k (.int .i64 0)), none, false⟩]
abbrev m112 : MC := (.seq (.reg r112_0) (.seq (.seq (.reg r112_1) (.block 0 (.loop b112_11))) (.seq (.seq (.reg r112_12) (.cond (.t 35) (.seq (.reg r112_13) .ret) .skip)) (.seq (.reg r112_14) .ret))))
abbrev rs112 : List RV := [(.tmp 4)]
/- slices.CompareFunc[[]hallmark.api.Arr,[]hallmark.api.Arr,hallmark.api.Arr,hallmark.api.Arr] -/
abbrev r113_0 : List MOp := [
  ⟨(some 6), .mv (.k (.int .i64 0)), none, false⟩]
abbrev r113_1 : List MOp := [
  ⟨(some 11), .mv (.t 0), none, false⟩,
  ⟨(some 12), .len (.t 11), none, false⟩,
  ⟨(some 13), .mv (.k (.int .i64 0)), none, false⟩]
abbrev r113_2 : List MOp := [
  ⟨(some 14), .bin .lss 0 (.t 13) (.t 12), none, false⟩]
abbrev r113_3 : List MOp := [
  ⟨(some 15), .mv (.t 13), none, false⟩,
  ⟨(some 16), .iaddr (.t 11) (.t 13) 11, none, false⟩,
  ⟨(some 17), .load (.t 16) 11 true, none, false⟩,
  ⟨(some 8), .alloc [(.bool false), (.bool false), (.bool false), (.bool false), (.vec 2 true []), (.bool false), (.vec 1 true []), (.vec 11 true []), (.vec 12 true []), (.int .i64 0), (.int .i64 0)], none, false⟩,
  ⟨(some 7), .mv (.t 15), none, false⟩,
  ⟨none, .store (.t 8) (.t 17) 11, none, false⟩]
abbrev r113_4 : List MOp := [
  ⟨(some 18), .mv (.t 7), none, false⟩,
  ⟨(some 19), .mv (.t 1), none, false⟩,
  ⟨(some 20), .len (.t 19), none, false⟩,
  ⟨(some 21), .bin .geq 0 (.t 18) (.t 20), none, false⟩]
abbrev r113_5 : List MOp := [
  ⟨(some 6), .mv (.k (.int .i64 1)), none, false⟩]
abbrev r113_6 : List MOp := [
  ⟨(some 22), .mv (.t 1), none, false⟩,
  ⟨(some 23), .mv (.t 7), none, false⟩,
  ⟨(some 24), .iaddr (.t 22) (.t 23) 11, none, false⟩,
  ⟨(some 25), .load (.t 24) 11 true, none, false⟩,
  ⟨(some 9), .alloc [(.bool false), (.bool false), (.bool false), (.bool false), (.vec 2 true []), (.bool false), (.vec 1 true []), (.vec 11 true []), (.vec 12 true []), (.int .i64 0), (.int .i64 0)], none, false⟩,
  ⟨none, .store (.t 9) (.t 25) 11, none, false⟩]
abbrev r113_7 : List MOp := [
  ⟨(some 26), .mv (.t 2), none, false⟩,
  ⟨(some 27), .load (.t 8) 11 true, none, false⟩,
  ⟨(some 28), .load (.t 9) 11 true, none, false⟩,
  ⟨(some 29), .dcall (.t 26) [(.t 27), (.t 28)], none, false⟩,
  ⟨(some 10), .mv (.t 29), none, false⟩]
abbrev r113_8 : List MOp := [
  ⟨(some 30), .mv (.t 10), none, false⟩,
  ⟨(some 31), .bin .neq 0 (.t 30) (.k (.int .i64 0)), none, false⟩]
abbrev r113_9 : List MOp := [
  ⟨(some 32), .mv (.t 10), none, false⟩,
  ⟨(some 6), .mv (.t 32), none, false⟩]
abbrev r113_10 : List MOp := [
  ⟨(some 33), .bin .add 0 (.t 13) (.k (.int .i64 1)), none, false⟩,
  ⟨(some 13), .mv (.t 33), none, false⟩]
abbrev b113_11 : MC := (.seq (.reg r113_2) (.seq (.cond (.t 14) .skip (.exit 0)) (.seq (.block 1 (.seq (.reg r113_3) (.seq (.seq (.reg r113_4) (.cond (.t 21) (.seq (.reg r113_5) .ret) .skip)) (.seq (.reg r113_6) (.seq (.reg r113_7) (.seq (.reg r113_8) (.cond (.t 31) (.seq (.reg r113_9) .ret) .skip))))))) (.reg r113_10))))
abbrev r113_12 : List MOp := [
  ⟨(some 34), .mv (.t 0), none, false⟩,
  ⟨(some 35), .len (.t 34), none, false⟩,
  ⟨(some 36), .mv (.t 1), none, false⟩,
  ⟨(some 37), .len (.t 36), none, false⟩,
  ⟨(some 38), .bin .lss 0 (.t 35) (.t 37), none, false⟩]
abbrev r113_13 : List MOp := [
  ⟨(some 6), .mv (.k (.int .i64 (-1))), none, false⟩]
abbrev r113_14 : List MOp := [
  ⟨(some 6), .mv (.k (.int .i64 0)), none, false⟩]
abbrev m113 : MC := (.seq (.reg r113_0) (.seq (.seq (.reg r113_1) (.block 0 (.loop b113_11))) (.seq (.seq (.reg r113_12) (.cond (.t 38) (.seq (.reg r113_13) .ret) .skip)) (.seq (.reg r113_14) .ret))))
abbrev rs113 : List RV := [(.tmp 6)]
/- slices.CompareFunc[[]hallmark.api.Obj,[]hallmark.api.Obj,hallmark.api.Obj,hallmark.api.Obj] -/
abbrev r115_0 : List MOp := [
  ⟨(some 6), .mv (.k (.int .i64 0)), none, false⟩]
abbrev r115_1 : List MOp := [
  ⟨(some 11), .mv (.t 0), none, false⟩,
  ⟨(some 12), .len (.t 11), none, false⟩,
  ⟨(some 13), .mv (.k (.int .i64 0)), none, false⟩]
abbrev r115_2 : List MOp := [
  ⟨(some 14), .bin .lss 0 (.t 13) (.t 12), none, false⟩]
abbrev r115_3 : List MOp := [
  ⟨(some 15), .mv (.t 13), none, false⟩,
  ⟨(some 16), .iaddr (.t 11) (.t 13) 12, none, false⟩,
  ⟨(some 17), .load (.t 16) 12 true, none, false⟩,
  ⟨(some 8), .alloc [(.vec 1 true []), (.vec 9 true []), (.vec 1 true []), (.bool false), (.bool false), (.bool false), (.bool false), (.vec 2 true []), (.bool false), (.vec 1 true []), (.vec 11 true []), (.vec 12 true [])], none, false⟩,
  ⟨(some 7), .mv (.t 15), none, false⟩,
  ⟨none, .store (.t 8) (.t 17) 12, none, false⟩]
abbrev r115_4 : List MOp := [
  ⟨(some 18), .mv (.t 7), none, false⟩,
  ⟨(some 19), .mv (.t 1), none, false⟩,
  ⟨(some 20), .len (.t 19), none, false⟩,
  ⟨(some 21), .bin .geq 0 (.t 18) (.t 20), none, false⟩]
abbrev r115_5 : List MOp := [
  ⟨(some 6), .mv (.k (.int .i64 1)), none, false⟩]
abbrev r115_6 : List MOp := [
  ⟨(some 22), .mv (.t 1), none, false⟩,
  ⟨(some 23), .mv (.t 7), none, false⟩,
  ⟨(some 24), .iaddr (.t 22) (.t 23) 12, none, false⟩,
  ⟨(some 25), .load (.t 24) 12 true, none, false⟩,
  ⟨(some 9), .alloc [(.vec 1 true []), (.vec 9 true []), (.vec 1 true []), (.bool false), (.bool false), (.bool false), (.bool false), (.vec 2 true []), (.bool false), (.vec 1 true []), (.vec 11 true []), (.vec 12 true [])], none, false⟩,
  ⟨none, .store (.t 9) (.t 25) 12, none, false⟩]
abbrev r115_7 : List MOp := [
  ⟨(some 26), .mv (.t 2), none, false⟩,
  ⟨(some 27), .load (.t 8) 12 true, none, false⟩,
  ⟨(some 28), .load (.t 9) 12 true, none, false⟩,
  ⟨(some 29), .dcall (.t 26) [(.t 27), (.t 28)], none, false⟩,
  ⟨(some 10), .mv (.t 29), none, false⟩]
abbrev r115_8 : List MOp := [
  ⟨(some 30), .mv (.t 10), none, false⟩,
  ⟨(some 31), .bin .neq 0 (.t 30) (.k (.int .i64 0)), none, false⟩]
abbrev r115_9 : List MOp := [
  ⟨(some 32), .mv (.t 10), none, false⟩,
  ⟨(some 6), .mv (.t 32), none, false⟩]
abbrev r115_10 : List MOp := [
  ⟨(some 33), .bin .add 0 (.t 13) (.k (.int .i64 1)), none, false⟩,
  ⟨(some 13), .mv (.t 33), none, false⟩]
abbrev b115_11 : MC := (.seq (.reg r115_2) (.seq (.cond (.t 14) .skip (.exit 0)) (.seq (.block 1 (.seq (.reg r115_3) (.seq (.seq (.reg r115_4) (.cond (.t 21) (.seq (.reg r115_5) .ret) .skip)) (.seq (.reg r115_6) (.seq (.reg r115_7) (.seq (.reg r115_8) (.cond (.t 31) (.seq (.reg r115_9) .ret) .skip))))))) (.reg r115_10))))
abbrev r115_12 : List MOp := [
  ⟨(some 34), .mv (.t 0), none, false⟩,
  ⟨(some 35), .len (.t 34), none, false⟩,
  ⟨(some 36), .mv (.t 1), none, false⟩,
  ⟨(some 37), .len (.t 36), none, false⟩,
  ⟨(some 38), .bin .lss 0 (.t 35) (.t 37), none, false⟩]
abbrev r115_13 : List MOp := [
  ⟨(some 6), .mv (.k (.int .i64 (-1))), none, false⟩]
abbrev r115_14 : List MOp := [
  ⟨(some 6), .mv (.k (.int .i64 0)), none, false⟩]
abbrev m115 : MC := (.seq (.reg r115_0) (.seq (.seq (.reg r115_1) (.block 0 (.loop b115_11))) (.seq (.seq (.reg r115_12) (.cond (.t 38) (.seq (.reg r115_13) .ret) .skip)) (.seq (.reg r115_14) .ret))))
abbrev rs115 : List RV := [(.tmp 6)]
/- cmp.Less[string] -/
abbrev r121_0 : List MOp := [
  ⟨(some 4), .mv (.k (.bool false)), none, false⟩]
abbrev r121_1 : List MOp := [
  ⟨(some 5), .mv (.t 0), none, false⟩,
  ⟨(some 6), .call 145 [(.t 5)], none, false⟩,
  ⟨(some 7), .mv (.t 6), none, false⟩,
  ⟨(some 8), .mv (.t 1), some (7, true), false⟩,
  ⟨(some 9), .call 145 [(.t 8)], some (7, true), false⟩,
  ⟨(some 10), .un .not (.t 9), some (7, true), false⟩,
  ⟨(some 11), .pick (.t 7) (.t 10) (.k (.bool false)), none, false⟩,
  ⟨(some 12), .mv (.t 11), none, false⟩,
  ⟨(some 13), .mv (.t 0), some (12, false), false⟩,
  ⟨(some 14), .mv (.t 1), some (12, false), false⟩,
  ⟨(some 15), .bin .lss 0 (.t 13) (.t 14), some (12, false), false⟩,
  ⟨(some 16), .pick (.t 12) (.k (.bool true)) (.t 15), none, false⟩,
  ⟨(some 4), .mv (.t 16), none, false⟩]
abbrev m121 : MC := (.seq (.reg r121_0) (.seq (.reg r121_1) .ret))
abbrev rs121 : List RV := [(.tmp 4)]
/- slices.Concat[[]hallmark.api.Span,hallmark.api.Span] -/
abbrev r123_0 : List MOp := [
  ⟨(some 2), .mv (.k (.vec 2 true [])), none, false⟩]
abbrev r123_1 : List MOp := [
  ⟨(some 3), .mv (.k (.int .i64 0)), none, false⟩]
abbrev r123_2 : List MOp := [
  ⟨(some 9), .mv (.t 0), none, false⟩,
  ⟨(some 10), .len (.t 9), none, false⟩,
  ⟨(some 11), .mv (.k (.int .i64 0)), none, false⟩]
abbrev r123_3 : List MOp := [
  ⟨(some 12), .bin .lss 0 (.t 11) (.t 10), none, false⟩]
abbrev r123_4 : List MOp := [
  ⟨(some 13), .iaddr (.t 9) (.t 11) 1, none, false⟩,
  ⟨(some 14), .load (.t 13) 1 false, none, false⟩,
  ⟨(some 5), .mv (.t 14), none, false⟩]
abbrev r123_5 : List MOp := [
  ⟨(some 15), .mv (.t 3), none, false⟩,
  ⟨(some 16), .mv (.t 5), none, false⟩,
  ⟨(some 17), .len (.t 16), none, false⟩,
  ⟨(some 18), .bin .add 0 (.t 15) (.t 17), none, false⟩,
  ⟨(some 3), .mv (.t 18), none, false⟩]
abbrev r123_6 : List MOp := [
  ⟨(some 19), .mv (.t 3), none, false⟩,
  ⟨(some 20), .bin .lss 0 (.t 19) (.k (.int .i64 0)), none, false⟩]
abbrev r123_7 : List MOp := [
  ⟨(some 21), .mkif 9 (.k (.str ⟨#[108, 101, 110, 32, 111, 117, 116, 32, 111, 102, 32, 114, 97, 110, 103, 101]⟩)), none, false⟩,
  ⟨none, .bad, none, false⟩]
abbrev r123_8 : List MOp := [
  ⟨(some 22), .bin .add 0 (.t 11) (.k (.int .i64 1)), none, false⟩,
  ⟨(some 11), .mv (.t 22), none, false⟩]
abbrev b123_9 : MC := (.seq (.reg r123_3) (.seq (.cond (.t 12) .skip (.exit 0)) (.seq (.block 1 (.seq (.reg r123_4) (.seq (.reg r123_5) (.seq (.reg r123_6) (.cond (.t 20) (.reg r123_7) .skip))))) (.reg r123_8))))
abbrev r123_10 : List MOp := [
  ⟨(some 23), .mv (.t 3), none, false⟩,
  ⟨(some 24), .call 146 [(.k (.vec 2 true [])), (.t 23)], none, false⟩,
  ⟨(some 6), .mv (.t 24), none, false⟩]
abbrev r123_11 : List MOp := [
  ⟨(some 25), .mv (.t 0), none, false⟩,
  ⟨(some 26), .len (.t 25), none, false⟩,
  ⟨(some 27), .mv (.k (.int .i64 0)), none, false⟩]
abbrev r123_12 : List MOp := [
  ⟨(some 28), .bin .lss 0 (.t 27) (.t 26), none, false⟩]
abbrev r123_13 : List MOp := [
  ⟨(some 29), .iaddr (.t 25) (.t 27) 1, none, false⟩,
  ⟨(some 30), .load (.t 29) 1 false, none, false⟩,
  ⟨(some 8), .mv (.t 30), none, false⟩]
abbrev r123_14 : List MOp := [
  ⟨(some 31), .mv (.t 6), none, false⟩,
  ⟨(some 32), .mv (.t 8), none, false⟩,
  ⟨(some 33), .app (.t 31) (.t 32) 2, none, false⟩,
  ⟨(some 6), .mv (.t 33), none, false⟩]
abbrev r123_15 : List MOp := [
  ⟨(some 34), .bin .add 0 (.t 27) (.k (.int .i64 1)), none, false⟩,
  ⟨(some 27), .mv (.t 34), none, false⟩]
abbrev b123_16 : MC := (.seq (.reg r123_12) (.seq (.cond (.t 28) .skip (.exit 2)) (.seq (.block 3 (.seq (.reg r123_13) (.reg r123_14))) (.reg r123_15))))
abbrev r123_17 : List MOp := [
  ⟨(some 35), .mv (.t 6), none, false⟩,
  ⟨(some 2), .mv (.t 35), none, false⟩]
abbrev m123 : MC := (.seq (.reg r123_0) (.seq (.reg r123_1) (.seq (.seq (.reg r123_2) (.block 0 (.loop b123_9))) (.seq (.reg r123_10) (.seq (.seq (.reg r123_11) (.block 2 (.loop b123_16))) (.seq (.reg r123_17) .ret))))))
abbrev rs123 : List RV := [(.tmp 2)]
/- hallmark.tidy.lesser -/
abbrev r124_0 : List MOp := [
  ⟨(some 4), .mv (.k (.str ⟨#[]⟩)), none, false⟩]
abbrev r124_1 : List MOp := [
  ⟨(some 8), .mv (.t 0), none, false⟩,
  ⟨(some 9), .mv (.t 1), none, false⟩,
  ⟨(some 10), .call 102 [(.t 8), (.t 9)], none, false⟩,
  ⟨(some 7), .mv (.t 10), none, false⟩,
  ⟨(some 11), .ext (.t 7) 0, none, false⟩,
  ⟨(some 12), .ext (.t 7) 1, none, false⟩,
  ⟨(some 5), .mv (.t 11), none, false⟩,
  ⟨(some 6), .mv (.t 12), none, false⟩]
abbrev r124_2 : List MOp := [
  ⟨(some 13), .mv (.t 0), none, false⟩,
  ⟨(some 14), .bin .eql 0 (.t 13) (.k (.str ⟨#[]⟩)), none, false⟩,
  ⟨(some 15), .mv (.t 14), none, false⟩,
  ⟨(some 16), .mv (.t 1), some (15, false), true⟩,
  ⟨(some 17), .bin .neq 0 (.t 16) (.k (.str ⟨#[]⟩)), some (15, false), true⟩,
  ⟨(some 18), .mv (.t 17), some (15, false), true⟩,
  ⟨(some 19), .mv (.t 5), some (18, true), true⟩,
  ⟨(some 20), .bin .leq 0 (.t 19) (.k (.int .i64 0)), some (18, true), true⟩,
  ⟨(some 21), .pick (.t 18) (.t 20) (.k (.bool false)), some (15, false), true⟩,
  ⟨(some 22), .pick (.t 15) (.k (.bool true)) (.t 21), none, false⟩]
abbrev r124_3 : List MOp := [
  ⟨(some 23), .mv (.t 0), none, false⟩,
  ⟨(some 4), .mv (.t 23), none, false⟩]
abbrev r124_4 : List MOp := [
  ⟨(some 24), .mv (.t 1), none, false⟩,
  ⟨(some 4), .mv (.t 24), none, false⟩]
abbrev m124 : MC := (.seq (.reg r124_0) (.seq (.seq (.reg r124_1) (.seq (.reg r124_2) (.cond (.t 22) (.seq (.reg r124_3) .ret) .skip))) (.seq (.reg r124_4) .ret)))
abbrev rs124 : List RV := [(.tmp 4)]
/- hallmark.tidy.greater -/
abbrev r125_0 : List MOp := [
  ⟨(some 4), .mv (.k (.str ⟨#[]⟩)), none, false⟩]
abbrev r125_1 : List MOp := [
  ⟨(some 8), .mv (.t 0), none, false⟩,
  ⟨(some 9), .mv (.t 1), none, false⟩,
  ⟨(some 10), .call 102 [(.t 8), (.t 9)], none, false⟩,
  ⟨(some 7), .mv (.t 10), none, false⟩,
  ⟨(some 11), .ext (.t 7) 0, none, false⟩,
  ⟨(some 12), .ext (.t 7) 1, none, false⟩,
  ⟨(some 5), .mv (.t 11), none, false⟩,
  ⟨(some 6), .mv (.t 12), none, false⟩]
abbrev r125_2 : List MOp := [
  ⟨(some 13), .mv (.t 0), none, false⟩,
  ⟨(some 14), .bin .eql 0 (.t 13) (.k (.str ⟨#[]⟩)), none, false⟩,
  ⟨(some 15), .mv (.t 14), none, false⟩,
  ⟨(some 16), .mv (.t 1), some (15, false), true⟩,
  ⟨(some 17), .bin .neq 0 (.t 16) (.k (.str ⟨#[]⟩)), some (15, false), true⟩,
  ⟨(some 18), .mv (.t 17), some (15, false), true⟩,
  ⟨(some 19), .mv (.t 5), some (18, true), true⟩,
  ⟨(some 20), .bin .geq 0 (.t 19) (.k (.int .i64 0)), some (18, true), true⟩,
  ⟨(some 21), .pick (.t 18) (.t 20) (.k (.bool false)), some (15, false), true⟩,
  ⟨(some 22), .pick (.t 15) (.k (.bool true)) (.t 21), none, false⟩]
abbrev r125_3 : List MOp := [
  ⟨(some 23), .mv (.t 0), none, false⟩,
  ⟨(some 4), .mv (.t 23), none, false⟩]
abbrev r125_4 : List MOp := [
  ⟨(some 24), .mv (.t 1), none, false⟩,
  ⟨(some 4), .mv (.t 24), none, false⟩]
abbrev m125 : MC := (.seq (.reg r125_0) (.seq (.seq (.reg r125_1) (.seq (.reg r125_2) (.cond (.t 22) (.seq (.reg r125_3) .ret) .skip))) (.seq (.reg r125_4) .ret)))
abbrev rs125 : List RV := [(.tmp 4)]
/- slices.Grow[[]string,string] -/
abbrev r126_0 : List MOp := [
  ⟨(some 4), .mv (.k (.vec 1 true [])), none, false⟩]
abbrev r126_1 : List MOp := [
  ⟨(some 5), .mv (.t 1), none, false⟩,
  ⟨(some 6), .bin .lss 0 (.t 5) (.k (.int .i64 0)), none, false⟩]
abbrev r126_2 : List MOp := [
  ⟨(some 7), .mkif 9 (.k (.str ⟨#[99, 97, 110, 110, 111, 116, 32, 98, 101, 32, 110, 101, 103, 97, 116, 105, 118, 101]⟩)), none, false⟩,
  ⟨none, .bad, none, false⟩]
abbrev r126_3 : List MOp := [
  ⟨(some 8), .mv (.t 1), none, false⟩,
  ⟨(some 9), .mv (.t 0), none, false⟩,
  ⟨(some 10), .cap (.t 9), none, false⟩,
  ⟨(some 11), .mv (.t 0), none, false⟩,
  ⟨(some 12), .len (.t 11), none, false⟩,
  ⟨(some 13), .bin .sub 0 (.t 10) (.t 12), none, false⟩,
  ⟨(some 14), .bin .sub 0 (.t 8) (.t 13), none, false⟩,
  ⟨(some 1), .mv (.t 14), none, false⟩]
abbrev r126_4 : List MOp := [
  ⟨(some 15), .mv (.t 1), none, false⟩,
  ⟨(some 16), .bin .gtr 0 (.t 15) (.k (.int .i64 0)), none, false⟩]
abbrev r126_5 : List MOp := [
  ⟨(some 17), .mv (.t 0), none, false⟩,
  ⟨(some 18), .mv (.t 0), none, false⟩,
  ⟨(some 19), .cap (.t 18), none, false⟩,
  ⟨(some 20), .slc (.t 17) 1 none (some (.t 19)) none, none, false⟩,
  ⟨(some 21), .mv (.t 1), none, false⟩,
  ⟨(some 22), .appz (.t 20) (.t 21) 1 [(.str ⟨#[]⟩)], none, false⟩,
  ⟨(some 23), .mv (.t 0), none, false⟩,
  ⟨(some 24), .len (.t 23), none, false⟩,
  ⟨(some 25), .slc (.t 22) 1 none (some (.t 24)) none, none, false⟩,
  ⟨(some 0), .mv (.t 25), none, false⟩]
abbrev r126_6 : List MOp := [
  ⟨(some 26), .mv (.t 0), none, false⟩,
  ⟨(some 4), .mv (.t 26), none, false⟩]
abbrev m126 : MC := (.seq (.reg r126_0) (.seq (.seq (.reg r126_1) (.cond (.t 6) (.reg r126_2) .skip)) (.seq (.seq (.reg r126_3) (.seq (.reg r126_4) (.cond (.t 16) (.reg r126_5) .skip))) (.seq (.reg r126_6) .ret))))
abbrev rs126 : List RV := [(.tmp 4)]
/- slices.Concat[[]hallmark.api.Arr,hallmark.api.Arr] -/
abbrev r127_0 : List MOp := [
  ⟨(some 2), .mv (.k (.vec 11 true [])), none, false⟩]
abbrev r127_1 : List MOp := [
  ⟨(some 3), .mv (.k (.int .i64 0)), none, false⟩]
abbrev r127_2 : List MOp := [
  ⟨(some 9), .mv (.t 0), none, false⟩,
  ⟨(some 10), .len (.t 9), none, false⟩,
  ⟨(some 11), .mv (.k (.int .i64 0)), none, false⟩]
abbrev r127_3 : List MOp := [
  ⟨(some 12), .bin .lss 0 (.t 11) (.t 10), none, false⟩]
abbrev r127_4 : List MOp := [
  ⟨(some 13), .iaddr (.t 9) (.t 11) 1, none, false⟩,
  ⟨(some 14), .load (.t 13) 1 false, none, false⟩,
  ⟨(some 5), .mv (.t 14), none, false⟩]
abbrev r127_5 : List MOp := [
  ⟨(some 15), .mv (.t 3), none, false⟩,
  ⟨(some 16), .mv (.t 5), none, false⟩,
  ⟨(some 17), .len (.t 16), none, false⟩,
  ⟨(some 18), .bin .add 0 (.t 15) (.t 17), none, false⟩,
  ⟨(some 3), .mv (.t 18), none, false⟩]
abbrev r127_6 : List MOp := [
  ⟨(some 19), .mv (.t 3), none, false⟩,
  ⟨(some 20), .bin .lss 0 (.t 19) (.k (.int .i64 0)), none, false⟩]
abbrev r127_7 : List MOp := [
  ⟨(some 21), .mkif 9 (.k (.str ⟨#[108, 101, 110, 32, 111, 117, 116, 32, 111, 102, 32, 114, 97, 110, 103, 101]⟩)), none, false⟩,
  ⟨none, .bad, none, false⟩]
abbrev r127_8 : List MOp := [
  ⟨(some 22), .bin .add 0 (.t 11) (.k (.int .i64 1)), none, false⟩,
  ⟨(some 11), .mv (.t 22), none, false⟩]
abbrev b127_9 : MC := (.seq (.reg r127_3) (.seq (.cond (.t 12) .skip (.exit 0)) (.seq (.block 1 (.seq (.reg r127_4) (.seq (.reg r127_5) (.seq (.reg r127_6) (.cond (.t 20) (.reg r127_7) .skip))))) (.reg r127_8))))
abbrev r127_10 : List MOp := [
  ⟨(some 23), .mv (.t 3), none, false⟩,
  ⟨(some 24), .call 147 [(.k (.vec 11 true [])), (.t 23)], none, false⟩,
  ⟨(some 6), .mv (.t 24), none, false⟩]
abbrev r127_11 : List MOp := [
  ⟨(some 25), .mv (.t 0), none, false⟩,
  ⟨(some 26), .len (.t 25), none, false⟩,
  ⟨(some 27), .mv (.k (.int .i64 0)), none, false⟩]
abbrev r127_12 : List MOp := [
  ⟨(some 28), .bin .lss 0 (.t 27) (.t 26), none, false⟩]
abbrev r127_13 : List MOp := [
  ⟨(some 29), .iaddr (.t 25) (.t 27) 1, none, false⟩,
  ⟨(some 30), .load (.t 29) 1 false, none, false⟩,
  ⟨(some 8), .mv (.t 30), none, false⟩]
abbrev r127_14 : List MOp := [
  ⟨(some 31), .mv (.t 6), none, false⟩,
  ⟨(some 32), .mv (.t 8), none, false⟩,
  ⟨(some 33), .app (.t 31) (.t 32) 11, none, false⟩,
  ⟨(some 6), .mv (.t 33), none, false⟩]
abbrev r127_15 : List MOp := [
  ⟨(some 34), .bin .add 0 (.t 27) (.k (.int .i64 1)), none, false⟩,
  ⟨(some 27), .mv (.t 34), none, false⟩]
abbrev b127_16 : MC := (.seq (.reg r127_12) (.seq (.cond (.t 28) .skip (.exit 2)) (.seq (.block 3 (.seq (.reg r127_13) (.reg r127_14))) (.reg r127_15))))
abbrev r127_17 : List MOp := [
  ⟨(some 35), .mv (.t 6), none, false⟩,
  ⟨(some 2), .mv (.t 35), none, false⟩]
abbrev m127 : MC := (.seq (.reg r127_0) (.seq (.reg r127_1) (.seq (.seq (.reg r127_2) (.block 0 (.loop b127_9))) (.seq (.reg r127_10) (.seq (.seq (.reg r127_11) (.block 2 (.loop b127_16))) (.seq (.reg r127_17) .ret))))))
abbrev rs127 : List RV := [(.tmp 2)]
/- slices.Grow[[]hallmark.api.Obj,hallmark.api.Obj] -/
abbrev r128_0 : List MOp := [
  ⟨(some 4), .mv (.k (.vec 12 true [])), none, false⟩]
abbrev r128_1 : List MOp := [
  ⟨(some 5), .mv (.t 1), none, false⟩,
  ⟨(some 6), .bin .lss 0 (.t 5) (.k (.int .i64 0)), none, false⟩]
abbrev r128_2 : List MOp := [
  ⟨(some 7), .mkif 9 (.k (.str ⟨#[99, 97, 110, 110, 111, 116, 32, 98, 101, 32, 110, 101, 103, 97, 116, 105, 118, 101]⟩)), none, false⟩,
  ⟨none, .bad, none, false⟩]
abbrev r128_3 : List MOp := [
  ⟨(some 8), .mv (.t 1), none, false⟩,
  ⟨(some 9), .mv (.t 0), none, false⟩,
  ⟨(some 10), .cap (.t 9), none, false⟩,
  ⟨(some 11), .mv (.t 0), none, false⟩,
  ⟨(some 12), .len (.t 11), none, false⟩,
  ⟨(some 13), .bin .sub 0 (.t 10) (.t 12), none, false⟩,
  ⟨(some 14), .bin .sub 0 (.t 8) (.t 13), none, false⟩,
  ⟨(some 1), .mv (.t 14), none, false⟩]
abbrev r128_4 : List MOp := [
  ⟨(some 15), .mv (.t 1), none, false⟩,
  ⟨(some 16), .bin .gtr 0 (.t 15) (.k (.int .i64 0)), none, false⟩]
abbrev r128_5 : List MOp := [
  ⟨(some 17), .mv (.t 0), none, false⟩,
  ⟨(some 18), .mv (.t 0), none, false⟩,
  ⟨(some 19), .cap (.t 18), none, false⟩,
  ⟨(some 20), .slc (.t 17) 12 none (some (.t 19)) none, none, false⟩,
  ⟨(some 21), .mv (.t 1), none, false⟩,
  ⟨(some 22), .appz (.t 20) (.t 21) 12 [(.vec 1 true []), (.vec 9 true []), (.vec 1 true []), (.bool false), (.bool false), (.bool false), (.bool false), (.vec 2 true []), (.bool false), (.vec 1 true []), (.vec 11 true []), (.vec 12 true [])], none, false⟩,
  ⟨(some 23), .mv (.t 0), none, false⟩,
  ⟨(some 24), .len (.t 23), none, false⟩,
  ⟨(some 25), .slc (.t 22) 12 none (some (.t 24)) none, none, false⟩,
  ⟨(some 0), .mv (.t 25), none, false⟩]
abbrev r128_6 : List MOp := [
  ⟨(some 26), .mv (.t 0), none, false⟩,
  ⟨(some 4), .mv (.t 26), none, false⟩]
abbrev m128 : MC := (.seq (.reg r128_0) (.seq (.seq (.reg r128_1) (.cond (.t 6) (.reg r128_2) .skip)) (.seq (.seq (.reg r128_3) (.seq (.reg r128_4) (.cond (.t 16) (.reg r128_5) .skip))) (.seq (.reg r128_6) .ret))))
abbrev rs128 : List RV := [(.tmp 4)]
/- slices.pdqsortOrdered[string] -/
abbrev r129_0 : List MOp := [
  ⟨(some 8), .mv (.k (.bool true)), none, false⟩]
abbrev r129_1 : List MOp := [
  ⟨(some 9), .mv (.k (.bool true)), none, false⟩]
abbrev r129_2 : List MOp := [
  ⟨(some 19), .mv (.t 2), none, false⟩,
  ⟨(some 20), .mv (.t 1), none, false⟩,
  ⟨(some 21), .bin .sub 0 (.t 19) (.t 20), none, false⟩,
  ⟨(some 10), .mv (.t 21), none, false⟩]
abbrev r129_3 : List MOp := [
  ⟨(some 22), .mv (.t 10), none, false⟩,
  ⟨(some 23), .bin .leq 0 (.t 22) (.k (.int .i64 12)), none, false⟩]
abbrev r129_4 : List MOp := [
  ⟨(some 24), .mv (.t 0), none, false⟩,
  ⟨(some 25), .mv (.t 1), none, false⟩,
  ⟨(some 26), .mv (.t 2), none, false⟩,
  ⟨(some 27), .call 148 [(.t 24), (.t 25), (.t 26)], none, false⟩]
abbrev r129_5 : List MOp := [
  ⟨(some 28), .mv (.t 3), none, false⟩,
  ⟨(some 29), .bin .eql 0 (.t 28) (.k (.int .i64 0)), none, false⟩]
abbrev r129_6 : List MOp := [
  ⟨(some 30), .mv (.t 0), none, false⟩,
  ⟨(some 31), .mv (.t 1), none, false⟩,
  ⟨(some 32), .mv (.t 2), none, false⟩,
  ⟨(some 33), .call 149 [(.t 30), (.t 31), (.t 32)], none, false⟩]
abbrev r129_7 : List MOp := [
  ⟨(some 34), .mv (.t 8), none, false⟩,
  ⟨(some 35), .un .not (.t 34), none, false⟩]
abbrev r129_8 : List MOp := [
  ⟨(some 36), .mv (.t 0), none, false⟩,
  ⟨(some 37), .mv (.t 1), none, false⟩,
  ⟨(some 38), .mv (.t 2), none, false⟩,
  ⟨(some 39), .call 150 [(.t 36), (.t 37), (.t 38)], none, false⟩]
abbrev r129_9 : List MOp := [
  ⟨(some 40), .mv (.t 3), none, false⟩,
  ⟨(some 41), .bin .sub 0 (.t 40) (.k (.int .i64 1)), none, false⟩,
  ⟨(some 3), .mv (.t 41), none, false⟩]
abbrev r129_10 : List MOp := [
  ⟨(some 43), .mv (.t 0), none, false⟩,
  ⟨(some 44), .mv (.t 1), none, false⟩,
  ⟨(some 45), .mv (.t 2), none, false⟩,
  ⟨(some 46), .call 151 [(.t 43), (.t 44), (.t 45)], none, false⟩,
  ⟨(some 42), .mv (.t 46), none, false⟩,
  ⟨(some 47), .ext (.t 42) 0, none, false⟩,
  ⟨(some 48), .ext (.t 42) 1, none, false⟩,
  ⟨(some 11), .mv (.t 47), none, false⟩,
  ⟨(some 12), .mv (.t 48), none, false⟩]
abbrev r129_11 : List MOp := [
  ⟨(some 49), .mv (.t 12), none, false⟩,
  ⟨(some 50), .bin .eql 0 (.t 49) (.k (.int .i64 2)), none, false⟩]
abbrev r129_12 : List MOp := [
  ⟨(some 51), .mv (.t 0), none, false⟩,
  ⟨(some 52), .mv (.t 1), none, false⟩,
  ⟨(some 53), .mv (.t 2), none, false⟩,
  ⟨(some 54), .call 152 [(.t 51), (.t 52), (.t 53)], none, false⟩]
abbrev r129_13 : List MOp := [
  ⟨(some 55), .mv (.t 2), none, false⟩,
  ⟨(some 56), .bin .sub 0 (.t 55) (.k (.int .i64 1)), none, false⟩,
  ⟨(some 57), .mv (.t 11), none, false⟩,
  ⟨(some 58), .mv (.t 1), none, false⟩,
  ⟨(some 59), .bin .sub 0 (.t 57) (.t 58), none, false⟩,
  ⟨(some 60), .bin .sub 0 (.t 56) (.t 59), none, false⟩,
  ⟨(some 11), .mv (.t 60), none, false⟩]
abbrev r129_14 : List MOp := [
  ⟨(some 12), .mv (.k (.int .i64 1)), none, false⟩]
abbrev r129_15 : List MOp := [
  ⟨(some 61), .mv (.t 8), none, false⟩,
  ⟨(some 62), .mv (.t 61), none, false⟩,
  ⟨(some 63), .mv (.t 9), some (62, true), true⟩,
  ⟨(some 64), .pick (.t 62) (.t 63) (.k (.bool false)), none, false⟩,
  ⟨(some 65), .mv (.t 64), none, false⟩,
  ⟨(some 66), .mv (.t 12), some (65, true), true⟩,
  ⟨(some 67), .bin .eql 0 (.t 66) (.k (.int .i64 1)), some (65, true), true⟩,
  ⟨(some 68), .pick (.t 65) (.t 67) (.k (.bool false)), none, false⟩]
abbrev r129_16 : List MOp := [
  ⟨(some 69), .mv (.t 0), none, false⟩,
  ⟨(some 70), .mv (.t 1), none, false⟩,
  ⟨(some 71), .mv (.t 2), none, false⟩,
  ⟨(some 72), .call 153 [(.t 69), (.t 70), (.t 71)], none, false⟩]
abbrev r129_17 : List MOp := [
  ⟨(some 73), .mv (.t 1), none, false⟩,
  ⟨(some 74), .bin .gtr 0 (.t 73) (.k (.int .i64 0)), none, false⟩,
  ⟨(some 75), .mv (.t 74), none, false⟩,
  ⟨(some 76), .mv (.t 0), some (75, true), false⟩,
  ⟨(some 77), .mv (.t 1), some (75, true), false⟩,
  ⟨(some 78), .bin .sub 0 (.t 77) (.k (.int .i64 1)), some (75, true), false⟩,
  ⟨(some 79), .iaddr (.t 76) (.t 78) 1, some (75, true), false⟩,
  ⟨(some 80), .load (.t 79) 1 false, some (75, true), false⟩,
  ⟨(some 81), .mv (.t 0), some (75, true), false⟩,
  ⟨(some 82), .mv (.t 11), some (75, true), false⟩,
  ⟨(some 83), .iaddr (.t 81) (.t 82) 1, some (75, true), false⟩,
  ⟨(some 84), .load (.t 83) 1 false, some (75, true), false⟩,
  ⟨(some 85), .call 121 [(.t 80), (.t 84)], some (75, true), false⟩,
  ⟨(some 86), .un .not (.t 85), some (75, true), false⟩,
  ⟨(some 87), .pick (.t 75) (.t 86) (.k (.bool false)), none, false⟩]
abbrev r129_18 : List MOp := [
  ⟨(some 88), .mv (.t 0), none, false⟩,
  ⟨(some 89), .mv (.t 1), none, false⟩,
  ⟨(some 90), .mv (.t 2), none, false⟩,
  ⟨(some 91), .mv (.t 11), none, false⟩,
  ⟨(some 92), .call 154 [(.t 88), (.t 89), (.t 90), (.t 91)], none, false⟩,
  ⟨(some 13), .mv (.t 92), none, false⟩]
abbrev r129_19 : List MOp := [
  ⟨(some 93), .mv (.t 13), none, false⟩,
  ⟨(some 1), .mv (.t 93), none, false⟩]
abbrev r129_20 : List MOp := [
  ⟨(some 95), .mv (.t 0), none, false⟩,
  ⟨(some 96), .mv (.t 1), none, false⟩,
  ⟨(some 97), .mv (.t 2), none, false⟩,
  ⟨(some 98), .mv (.t 11), none, false⟩,
  ⟨(some 99), .call 155 [(.t 95), (.t 96), (.t 97), (.t 98)], none, false⟩,
  ⟨(some 94), .mv (.t 99), none, false⟩,
  ⟨(some 100), .ext (.t 94) 0, none, false⟩,
  ⟨(some 101), .ext (.t 94) 1, none, false⟩,
  ⟨(some 14), .mv (.t 100), none, false⟩,
  ⟨(some 15), .mv (.t 101), none, false⟩]
abbrev r129_21 : List MOp := [
  ⟨(some 102), .mv (.t 15), none, false⟩,
  ⟨(some 9), .mv (.t 102), none, false⟩]
abbrev r129_22 : List MOp := [
  ⟨(some 103), .mv (.t 14), none, false⟩,
  ⟨(some 104), .mv (.t 1), none, false⟩,
  ⟨(some 105), .bin .sub 0 (.t 103) (.t 104), none, false⟩,
  ⟨(some 106), .mv (.t 2), none, false⟩,
  ⟨(some 107), .mv (.t 14), none, false⟩,
  ⟨(some 108), .bin .sub 0 (.t 106) (.t 107), none, false⟩,
  ⟨(some 16), .mv (.t 105), none, false⟩,
  ⟨(some 17), .mv (.t 108), none, false⟩]
abbrev r129_23 : List MOp := [
  ⟨(some 109), .mv (.t 10), none, false⟩,
  ⟨(some 110), .bin .quo 0 (.t 109) (.k (.int .i64 8)), none, false⟩,
  ⟨(some 18), .mv (.t 110), none, false⟩]
abbrev r129_24 : List MOp := [
  ⟨(some 111), .mv (.t 16), none, false⟩,
  ⟨(some 112), .mv (.t 17), none, false⟩,
  ⟨(some 113), .bin .lss 0 (.t 111) (.t 112), none, false⟩]
abbrev r129_25 : List MOp := [
  ⟨(some 114), .mv (.t 16), none, false⟩,
  ⟨(some 115), .mv (.t 18), none, false⟩,
  ⟨(some 116), .bin .geq 0 (.t 114) (.t 115), none, false⟩,
  ⟨(some 8), .mv (.t 116), none, false⟩]
abbrev r129_26 : List MOp := [
  ⟨(some 117), .mv (.t 0), none, false⟩,
  ⟨(some 118), .mv (.t 1), none, false⟩,
  ⟨(some 119), .mv (.t 14), none, false⟩,
  ⟨(some 120), .mv (.t 3), none, false⟩,
  ⟨(some 121), .call 129 [(.t 117), (.t 118), (.t 119), (.t 120)], none, false⟩]
abbrev r129_27 : List MOp := [
  ⟨(some 122), .mv (.t 14), none, false⟩,
  ⟨(some 123), .bin .add 0 (.t 122) (.k (.int .i64 1)), none, false⟩,
  ⟨(some 1), .mv (.t 123), none, false⟩]
abbrev r129_28 : List MOp := [
  ⟨(some 124), .mv (.t 17), none, false⟩,
  ⟨(some 125), .mv (.t 18), none, false⟩,
  ⟨(some 126), .bin .geq 0 (.t 124) (.t 125), none, false⟩,
  ⟨(some 8), .mv (.t 126), none, false⟩]
abbrev r129_29 : List MOp := [
  ⟨(some 127), .mv (.t 0), none, false⟩,
  ⟨(some 128), .mv (.t 14), none, false⟩,
  ⟨(some 129), .bin .add 0 (.t 128) (.k (.int .i64 1)), none, false⟩,
  ⟨(some 130), .mv (.t 2), none, false⟩,
  ⟨(some 131), .mv (.t 3), none, false⟩,
  ⟨(some 132), .call 129 [(.t 127), (.t 129), (.t 130), (.t 131)], none, false⟩]
abbrev r129_30 : List MOp := [
  ⟨(some 133), .mv (.t 14), none, false⟩,
  ⟨(some 2), .mv (.t 133), none, false⟩]
abbrev b129_31 : MC := (.block 1 (.seq (.reg r129_2) (.seq (.seq (.reg r129_3) (.cond (.t 23) (.seq (.reg r129_4) .ret) .skip)) (.seq (.seq (.reg r129_5) (.cond (.t 29) (.seq (.reg r129_6) .ret) .skip)) (.seq (.seq (.reg r129_7) (.cond (.t 35) (.seq (.reg r129_8) (.reg r129_9)) .skip)) (.seq (.reg r129_10) (.seq (.seq (.reg r129_11) (.cond (.t 50) (.seq (.reg r129_12) (.seq (.reg r129_13) (.reg r129_14))) .skip)) (.seq (.seq (.reg r129_15) (.cond (.t 68) (.seq (.reg r129_16) (.cond (.t 72) .ret .skip)) .skip)) (.seq (.seq (.draw [(3, 4), (3, 5), (3, 8), (4, 8), (5, 8), (6, 8), (7, 8), (3, 9), (4, 9), (5, 9), (6, 9), (7, 9), (8, 9), (3, 10), (4, 10), (5, 10), (6, 10), (7, 10), (3, 11), (4, 11), (5, 11), (6, 11), (7, 11)] r129_17) (.cond (.t 87) (.seq (.reg r129_18) (.seq (.reg r129_19) (.exit 1))) .skip)) (.seq (.reg r129_20) (.seq (.reg r129_21) (.seq (.reg r129_22) (.seq (.reg r129_23) (.seq (.reg r129_24) (.cond (.t 113) (.seq (.reg r129_25) (.seq (.reg r129_26) (.reg r129_27))) (.seq (.reg r129_28) (.seq (.reg r129_29) (.reg r129_30))))))))))))))))))
abbrev m129 : MC := (.seq (.reg r129_0) (.seq (.reg r129_1) (.block 0 (.loop b129_31))))
abbrev rs129 : List RV := []
/- math.bits.Len -/
abbrev r130_0 : List MOp := [
  ⟨(some 2), .mv (.k (.int .i64 0)), none, false⟩]
abbrev r130_1 : List MOp := [
  ⟨(some 3), .mv (.t 0), none, false⟩,
  ⟨(some 4), .conv .u32 (.t 3), none, false⟩,
  ⟨(some 5), .call 156 [(.t 4)], none, false⟩,
  ⟨(some 2), .mv (.t 5), none, false⟩]
abbrev r130_2 : List MOp := [
  ⟨(some 6), .mv (.t 0), none, false⟩,
  ⟨(some 7), .call 157 [(.t 6)], none, false⟩,
  ⟨(some 2), .mv (.t 7), none, false⟩]
abbrev m130 : MC := (.seq (.reg r130_0) (.seq (.cond (.k (.bool false)) (.seq (.reg r130_1) .ret) .skip) (.seq (.reg r130_2) .ret)))
abbrev rs130 : List RV := [(.tmp 2)]
/- hallmark.tidy.objects -/
abbrev r132_0 : List MOp := [
  ⟨(some 4), .mv (.k (.vec 12 true [])), none, false⟩]
abbrev r132_1 : List MOp := [
  ⟨(some 5), .mv (.t 0), none, false⟩,
  ⟨(some 6), .call 61 [(.t 5)], none, false⟩,
  ⟨(some 0), .mv (.t 6), none, false⟩]
abbrev r132_2 : List MOp := [
  ⟨(some 7), .mv (.t 0), none, false⟩,
  ⟨(some 8), .call 159 [(.t 7), (.k (.fn 160 [] []))], none, false⟩]
abbrev r132_3 : List MOp := [
  ⟨(some 9), .mv (.t 0), none, false⟩,
  ⟨(some 10), .call 162 [(.t 9), (.k (.fn 163 [] []))], none, false⟩,
  ⟨(some 11), .call 161 [(.t 10)], none, false⟩,
  ⟨(some 0), .mv (.t 11), none, false⟩]
abbrev r132_4 : List MOp := [
  ⟨(some 12), .mv (.t 0), none, false⟩,
  ⟨(some 13), .len (.t 12), none, false⟩,
  ⟨(some 14), .bin .gtr 0 (.t 13) (.k (.int .i64 4)), none, false⟩]
abbrev r132_5 : List MOp := [
  ⟨(some 15), .mv (.t 0), none, false⟩,
  ⟨(some 16), .slc (.t 15) 12 none (some (.k (.int .i64 3))) (some (.k (.int .i64 3))), none, false⟩,
  ⟨(some 17), .mv (.t 0), none, false⟩,
  ⟨(some 18), .slc (.t 17) 12 (some (.k (.int .i64 3))) none none, none, false⟩,
  ⟨(some 19), .call 120 [(.t 18)], none, false⟩,
  ⟨(some 20), .mv (.t 1), none, false⟩,
  ⟨(some 21), .call 131 [(.t 19), (.t 20)], none, false⟩,
  ⟨(some 22), .bslice 12 [(.vec 1 true []), (.vec 9 true []), (.vec 1 true []), (.bool false), (.bool false), (.bool false), (.bool false), (.vec 2 true []), (.bool false), (.vec 1 true []), (.vec 11 true []), (.vec 12 true [])] 1 [(0, (.t 21))], none, false⟩,
  ⟨(some 23), .app (.t 16) (.t 22) 12, none, false⟩,
  ⟨(some 0), .mv (.t 23), none, false⟩]
abbrev r132_6 : List MOp := [
  ⟨(some 24), .mv (.t 0), none, false⟩,
  ⟨(some 4), .mv (.t 24), none, false⟩]
abbrev m132 : MC := (.seq (.reg r132_0) (.scope (.seq (.reg r132_1) (.seq (.label 0) (.seq (.reg r132_2) (.seq (.reg r132_3) (.seq (.seq (.reg r132_4) (.cond (.t 14) (.seq (.draw [(0, 2), (1, 2), (0, 3), (1, 3), (0, 4), (1, 4), (0, 5), (1, 5), (2, 5), (3, 5), (4, 5), (0, 6), (1, 6), (0, 7), (1, 7)] r132_5) (.goto 0)) .skip)) (.seq (.reg r132_6) .ret))))))))
abbrev rs132 : List RV := [(.tmp 4)]
/- hallmark.tidy.laidOut -/
abbrev r133_0 : List MOp := [
  ⟨(some 1), .box (.t 0), none, false⟩,
  ⟨(some 2), .mv (.k (.bool false)), none, false⟩]
abbrev r133_1 : List MOp := [
  ⟨(some 3), .load (.t 1) 9 true, none, false⟩,
  ⟨(some 4), .build [(.str ⟨#[]⟩), (.str ⟨#[]⟩)] [], none, false⟩,
  ⟨(some 5), .bslice 2 [(.str ⟨#[]⟩), (.str ⟨#[]⟩)] 1 [(0, (.t 4))], none, false⟩,
  ⟨(some 6), .call 68 [], none, false⟩,
  ⟨(some 7), .build [(.bool false), (.bool false), (.bool false), (.bool false), (.vec 2 true []), (.bool false), (.vec 1 true []), (.vec 11 true []), (.vec 12 true []), (.int .i64 0), (.int .i64 0)] [(0, 9, (.t 6)), (10, 1, (.k (.int .i64 (-1))))], none, false⟩,
  ⟨(some 8), .bslice 11 [(.bool false), (.bool false), (.bool false), (.bool false), (.vec 2 true []), (.bool false), (.vec 1 true []), (.vec 11 true []), (.vec 12 true []), (.int .i64 0), (.int .i64 0)] 1 [(0, (.t 7))], none, false⟩,
  ⟨(some 9), .call 68 [], none, false⟩,
  ⟨(some 10), .build [(.vec 1 true []), (.vec 9 true []), (.vec 1 true []), (.bool false), (.bool false), (.bool false), (.bool false), (.vec 2 true []), (.bool false), (.vec 1 true []), (.vec 11 true []), (.vec 12 true [])] [(3, 9, (.t 9))], none, false⟩,
  ⟨(some 11), .bslice 12 [(.vec 1 true []), (.vec 9 true []), (.vec 1 true []), (.bool false), (.bool false), (.bool false), (.bool false), (.vec 2 true []), (.bool false), (.vec 1 true []), (.vec 11 true []), (.vec 12 true [])] 1 [(0, (.t 10))], none, false⟩,
  ⟨(some 12), .build [(.bool false), (.bool false), (.bool false), (.bool false), (.vec 2 true []), (.bool false), (.vec 1 true []), (.vec 11 true []), (.vec 12 true [])] [(1, 1, (.k (.bool true))), (2, 1, (.k (.bool true))), (3, 1, (.k (.bool true))), (4, 1, (.t 5)), (5, 1, (.k (.bool true))), (7, 1, (.t 8)), (8, 1, (.t 11))], none, false⟩,
  ⟨(some 13), .call 44 [(.t 3), (.t 12)], none, false⟩,
  ⟨(some 2), .mv (.t 13), none, false⟩]
abbrev m133 : MC := (.seq (.reg r133_0) (.seq (.draw [(0, 1), (0, 2), (0, 3), (1, 3), (2, 3), (0, 4), (1, 4), (2, 4), (0, 5), (1, 5), (2, 5), (0, 6), (1, 6), (2, 6), (4, 6), (5, 6), (0, 7), (1, 7), (2, 7), (4, 7), (5, 7), (0, 8), (1, 8), (2, 8), (4, 8), (5, 8), (0, 9)] r133_1) .ret))
abbrev rs133 : List RV := [(.tmp 2)]
/- hallmark.shape.bound -/
abbrev r136_0 : List MOp := [
  ⟨(some 6), .mv (.k (.int .i64 0)), none, false⟩]
abbrev r136_1 : List MOp := [
  ⟨(some 8), .mv (.t 0), none, false⟩,
  ⟨(some 9), .mv (.t 1), none, false⟩,
  ⟨(some 10), .bin .eql 0 (.t 8) (.t 9), none, false⟩,
  ⟨(some 7), .mv (.t 10), none, false⟩]
abbrev r136_2 : List MOp := [
  ⟨(some 6), .mv (.k (.int .i64 0)), none, false⟩]
abbrev r136_3 : List MOp := [
  ⟨(some 12), .mv (.t 0), none, false⟩,
  ⟨(some 13), .bin .eql 0 (.t 12) (.k (.str ⟨#[]⟩)), none, false⟩,
  ⟨(some 11), .mv (.t 13), none, false⟩]
abbrev r136_4 : List MOp := [
  ⟨(some 14), .mv (.t 2), none, false⟩,
  ⟨(some 6), .mv (.t 14), none, false⟩]
abbrev r136_5 : List MOp := [
  ⟨(some 16), .mv (.t 1), none, false⟩,
  ⟨(some 17), .bin .eql 0 (.t 16) (.k (.str ⟨#[]⟩)), none, false⟩,
  ⟨(some 15), .mv (.t 17), none, false⟩]
abbrev r136_6 : List MOp := [
  ⟨(some 18), .mv (.t 2), none, false⟩,
  ⟨(some 19), .un .neg (.t 18), none, false⟩,
  ⟨(some 6), .mv (.t 19), none, false⟩]
abbrev r136_7 : List MOp := [
  ⟨(some 20), .mv (.t 0), none, false⟩,
  ⟨(some 21), .mv (.t 1), none, false⟩,
  ⟨(some 22), .call 86 [(.t 20), (.t 21)], none, false⟩,
  ⟨(some 6), .mv (.t 22), none, false⟩]
abbrev m136 : MC := (.seq (.reg r136_0) (.seq (.block 0 (.seq (.reg r136_1) (.cond (.t 7) (.seq (.reg r136_2) .ret) (.seq (.reg r136_3) (.cond (.t 11) (.seq (.reg r136_4) .ret) (.seq (.reg r136_5) (.cond (.t 15) (.seq (.reg r136_6) .ret) .skip))))))) (.seq (.reg r136_7) .ret)))
abbrev rs136 : List RV := [(.tmp 6)]
/- cmp.Compare[string] -/
abbrev r137_0 : List MOp := [
  ⟨(some 4), .mv (.k (.int .i64 0)), none, false⟩]
abbrev r137_1 : List MOp := [
  ⟨(some 7), .mv (.t 0), none, false⟩,
  ⟨(some 8), .call 145 [(.t 7)], none, false⟩,
  ⟨(some 5), .mv (.t 8), none, false⟩]
abbrev r137_2 : List MOp := [
  ⟨(some 9), .mv (.t 1), none, false⟩,
  ⟨(some 10), .call 145 [(.t 9)], none, false⟩,
  ⟨(some 6), .mv (.t 10), none, false⟩]
abbrev r137_3 : List MOp := [
  ⟨(some 11), .mv (.t 5), none, false⟩]
abbrev r137_4 : List MOp := [
  ⟨(some 12), .mv (.t 6), none, false⟩]
abbrev r137_5 : List MOp := [
  ⟨(some 4), .mv (.k (.int .i64 0)), none, false⟩]
abbrev r137_6 : List MOp := [
  ⟨(some 4), .mv (.k (.int .i64 (-1))), none, false⟩]
abbrev r137_7 : List MOp := [
  ⟨(some 13), .mv (.t 6), none, false⟩]
abbrev r137_8 : List MOp := [
  ⟨(some 4), .mv (.k (.int .i64 1)), none, false⟩]
abbrev r137_9 : List MOp := [
  ⟨(some 14), .mv (.t 0), none, false⟩,
  ⟨(some 15), .mv (.t 1), none, false⟩,
  ⟨(some 16), .bin .lss 0 (.t 14) (.t 15), none, false⟩]
abbrev r137_10 : List MOp := [
  ⟨(some 4), .mv (.k (.int .i64 (-1))), none, false⟩]
abbrev r137_11 : List MOp := [
  ⟨(some 17), .mv (.t 0), none, false⟩,
  ⟨(some 18), .mv (.t 1), none, false⟩,
  ⟨(some 19), .bin .gtr 0 (.t 17) (.t 18), none, false⟩]
abbrev r137_12 : List MOp := [
  ⟨(some 4), .mv (.k (.int .i64 1)), none, false⟩]
abbrev r137_13 : List MOp := [
  ⟨(some 4), .mv (.k (.int .i64 0)), none, false⟩]
abbrev m137 : MC := (.seq (.reg r137_0) (.seq (.reg r137_1) (.seq (.reg r137_2) (.seq (.seq (.reg r137_3) (.cond (.t 11) (.seq (.seq (.reg r137_4) (.cond (.t 12) (.seq (.reg r137_5) .ret) .skip)) (.seq (.reg r137_6) .ret)) .skip)) (.seq (.seq (.reg r137_7) (.cond (.t 13) (.seq (.reg r137_8) .ret) .skip)) (.seq (.seq (.reg r137_9) (.cond (.t 16) (.seq (.reg r137_10) .ret) .skip)) (.seq (.seq (.reg r137_11) (.cond (.t 19) (.seq (.reg r137_12) .ret) .skip)) (.seq (.reg r137_13) .ret))))))))
abbrev rs137 : List RV := [(.tmp 4)]
/- cmp.isNaN[string] -/
abbrev r145_0 : List MOp := [
  ⟨(some 2), .mv (.k (.bool false)), none, false⟩]
abbrev r145_1 : List MOp := [
  ⟨(some 3), .mv (.t 0), none, false⟩,
  ⟨(some 4), .mv (.t 0), none, false⟩,
  ⟨(some 5), .bin .neq 0 (.t 3) (.t 4), none, false⟩,
  ⟨(some 2), .mv (.t 5), none, false⟩]
abbrev m145 : MC := (.seq (.reg r145_0) (.seq (.reg r145_1) .ret))
abbrev rs145 : List RV := [(.tmp 2)]
/- slices.Grow[[]hallmark.api.Span,hallmark.api.Span] -/
abbrev r146_0 : List MOp := [
  ⟨(some 4), .mv (.k (.vec 2 true [])), none, false⟩]
abbrev r146_1 : List MOp := [
  ⟨(some 5), .mv (.t 1), none, false⟩,
  ⟨(some 6), .bin .lss 0 (.t 5) (.k (.int .i64 0)), none, false⟩]
abbrev r146_2 : List MOp := [
  ⟨(some 7), .mkif 9 (.k (.str ⟨#[99, 97, 110, 110, 111, 116, 32, 98, 101, 32, 110, 101, 103, 97, 116, 105, 118, 101]⟩)), none, false⟩,
  ⟨none, .bad, none, false⟩]
abbrev r146_3 : List MOp := [
  ⟨(some 8), .mv (.t 1), none, false⟩,
  ⟨(some 9), .mv (.t 0), none, false⟩,
  ⟨(some 10), .cap (.t 9), none, false⟩,
  ⟨(some 11), .mv (.t 0), none, false⟩,
  ⟨(some 12), .len (.t 11), none, false⟩,
  ⟨(some 13), .bin .sub 0 (.t 10) (.t 12), none, false⟩,
  ⟨(some 14), .bin .sub 0 (.t 8) (.t 13), none, false⟩,
  ⟨(some 1), .mv (.t 14), none, false⟩]
abbrev r146_4 : List MOp := [
  ⟨(some 15), .mv (.t 1), none, false⟩,
  ⟨(some 16), .bin .gtr 0 (.t 15) (.k (.int .i64 0)), none, false⟩]
abbrev r146_5 : List MOp := [
  ⟨(some 17), .mv (.t 0), none, false⟩,
  ⟨(some 18), .mv (.t 0), none, false⟩,
  ⟨(some 19), .cap (.t 18), none, false⟩,
  ⟨(some 20), .slc (.t 17) 2 none (some (.t 19)) none, none, false⟩,
  ⟨(some 21), .mv (.t 1), none, false⟩,
  ⟨(some 22), .appz (.t 20) (.t 21) 2 [(.str ⟨#[]⟩), (.str ⟨#[]⟩)], none, false⟩,
  ⟨(some 23), .mv (.t 0), none, false⟩,
  ⟨(some 24), .len (.t 23), none, false⟩,
  ⟨(some 25), .slc (.t 22) 2 none (some (.t 24)) none, none, false⟩,
  ⟨(some 0), .mv (.t 25), none, false⟩]
abbrev r146_6 : List MOp := [
  ⟨(some 26), .mv (.t 0), none, false⟩,
  ⟨(some 4), .mv (.t 26), none, false⟩]
abbrev m146 : MC := (.seq (.reg r146_0) (.seq (.seq (.reg r146_1) (.cond (.t 6) (.reg r146_2) .skip)) (.seq (.seq (.reg r146_3) (.seq (.reg r146_4) (.cond (.t 16) (.reg r146_5) .skip))) (.seq (.reg r146_6) .ret))))
abbrev rs146 : List RV := [(.tmp 4)]
/- slices.Grow[[]hallmark.api.Arr,hallmark.api.Arr] -/
abbrev r147_0 : List MOp := [
  ⟨(some 4), .mv (.k (.vec 11 true [])), none, false⟩]
abbrev r147_1 : List MOp := [
  ⟨(some 5), .mv (.t 1), none, false⟩,
  ⟨(some 6), .bin .lss 0 (.t 5) (.k (.int .i64 0)), none, false⟩]
abbrev r147_2 : List MOp := [
  ⟨(some 7), .mkif 9 (.k (.str ⟨#[99, 97, 110, 110, 111, 116, 32, 98, 101, 32, 110, 101, 103, 97, 116, 105, 118, 101]⟩)), none, false⟩,
  ⟨none, .bad, none, false⟩]
abbrev r147_3 : List MOp := [
  ⟨(some 8), .mv (.t 1), none, false⟩,
  ⟨(some 9), .mv (.t 0), none, false⟩,
  ⟨(some 10), .cap (.t 9), none, false⟩,
  ⟨(some 11), .mv (.t 0), none, false⟩,
  ⟨(some 12), .len (.t 11), none, false⟩,
  ⟨(some 13), .bin .sub 0 (.t 10) (.t 12), none, false⟩,
  ⟨(some 14), .bin .sub 0 (.t 8) (.t 13), none, false⟩,
  ⟨(some 1), .mv (.t 14), none, false⟩]
abbrev r147_4 : List MOp := [
  ⟨(some 15), .mv (.t 1), none, false⟩,
  ⟨(some 16), .bin .gtr 0 (.t 15) (.k (.int .i64 0)), none, false⟩]
abbrev r147_5 : List MOp := [
  ⟨(some 17), .mv (.t 0), none, false⟩,
  ⟨(some 18), .mv (.t 0), none, false⟩,
  ⟨(some 19), .cap (.t 18), none, false⟩,
  ⟨(some 20), .slc (.t 17) 11 none (some (.t 19)) none, none, false⟩,
  ⟨(some 21), .mv (.t 1), none, false⟩,
  ⟨(some 22), .appz (.t 20) (.t 21) 11 [(.bool false), (.bool false), (.bool false), (.bool false), (.vec 2 true []), (.bool false), (.vec 1 true []), (.vec 11 true []), (.vec 12 true []), (.int .i64 0), (.int .i64 0)], none, false⟩,
  ⟨(some 23), .mv (.t 0), none, false⟩,
  ⟨(some 24), .len (.t 23), none, false⟩,
  ⟨(some 25), .slc (.t 22) 11 none (some (.t 24)) none, none, false⟩,
  ⟨(some 0), .mv (.t 25), none, false⟩]
abbrev r147_6 : List MOp := [
  ⟨(some 26), .mv (.t 0), none, false⟩,
  ⟨(some 4), .mv (.t 26), none, false⟩]
abbrev m147 : MC := (.seq (.reg r147_0) (.seq (.seq (.reg r147_1) (.cond (.t 6) (.reg r147_2) .skip)) (.seq (.seq (.reg r147_3) (.seq (.reg r147_4) (.cond (.t 16) (.reg r147_5) .skip))) (.seq (.reg r147_6) .ret))))
abbrev rs147 : List RV := [(.tmp 4)]
/- slices.insertionSortOrdered[string] -/
abbrev r148_0 : List MOp := [
  ⟨(some 8), .mv (.t 1), none, false⟩,
  ⟨(some 9), .bin .add 0 (.t 8) (.k (.int .i64 1)), none, false⟩,
  ⟨(some 6), .mv (.t 9), none, false⟩]
abbrev r148_1 : List MOp := [
  ⟨(some 10), .mv (.t 6), none, false⟩,
  ⟨(some 11), .mv (.t 2), none, false⟩,
  ⟨(some 12), .bin .lss 0 (.t 10) (.t 11), none, false⟩]
abbrev r148_2 : List MOp := [
  ⟨(some 15), .mv (.t 6), none, false⟩,
  ⟨(some 7), .mv (.t 15), none, false⟩]
abbrev r148_3 : List MOp := [
  ⟨(some 16), .mv (.t 7), none, false⟩,
  ⟨(some 17), .mv (.t 1), none, false⟩,
  ⟨(some 18), .bin .gtr 0 (.t 16) (.t 17), none, false⟩,
  ⟨(some 19), .mv (.t 18), none, false⟩,
  ⟨(some 20), .mv (.t 0), some (19, true), false⟩,
  ⟨(some 21), .mv (.t 7), some (19, true), false⟩,
  ⟨(some 22), .iaddr (.t 20) (.t 21) 1, some (19, true), false⟩,
  ⟨(some 23), .load (.t 22) 1 false, some (19, true), false⟩,
  ⟨(some 24), .mv (.t 0), some (19, true), false⟩,
  ⟨(some 25), .mv (.t 7), some (19, true), false⟩,
  ⟨(some 26), .bin .sub 0 (.t 25) (.k (.int .i64 1)), some (19, true), false⟩,
  ⟨(some 27), .iaddr (.t 24) (.t 26) 1, some (19, true), false⟩,
  ⟨(some 28), .load (.t 27) 1 false, some (19, true), false⟩,
  ⟨(some 29), .call 121 [(.t 23), (.t 28)], some (19, true), false⟩,
  ⟨(some 30), .pick (.t 19) (.t 29) (.k (.bool false)), none, false⟩]
abbrev r148_4 : List MOp := [
  ⟨(some 33), .mv (.t 0), none, false⟩,
  ⟨(some 34), .mv (.t 7), none, false⟩,
  ⟨(some 35), .mv (.t 0), none, false⟩,
  ⟨(some 36), .mv (.t 7), none, false⟩,
  ⟨(some 37), .bin .sub 0 (.t 36) (.k (.int .i64 1)), none, false⟩,
  ⟨(some 38), .mv (.t 0), none, false⟩,
  ⟨(some 39), .mv (.t 7), none, false⟩,
  ⟨(some 40), .bin .sub 0 (.t 39) (.k (.int .i64 1)), none, false⟩,
  ⟨(some 41), .iaddr (.t 38) (.t 40) 1, none, false⟩,
  ⟨(some 42), .load (.t 41) 1 false, none, false⟩,
  ⟨(some 43), .mv (.t 0), none, false⟩,
  ⟨(some 44), .mv (.t 7), none, false⟩,
  ⟨(some 45), .iaddr (.t 43) (.t 44) 1, none, false⟩,
  ⟨(some 46), .load (.t 45) 1 false, none, false⟩,
  ⟨(some 47), .iaddr (.t 33) (.t 34) 1, none, false⟩,
  ⟨none, .store (.t 47) (.t 42) 1, none, false⟩,
  ⟨(some 48), .iaddr (.t 35) (.t 37) 1, none, false⟩,
  ⟨none, .store (.t 48) (.t 46) 1, none, false⟩]
abbrev r148_5 : List MOp := [
  ⟨(some 31), .mv (.t 7), none, false⟩,
  ⟨(some 32), .bin .sub 0 (.t 31) (.k (.int .i64 1)), none, false⟩,
  ⟨(some 7), .mv (.t 32), none, false⟩]
abbrev b148_6 : MC := (.seq (.seq (.draw [(0, 1), (4, 5), (4, 8), (5, 8), (6, 8), (7, 8), (4, 9), (5, 9), (6, 9), (7, 9), (8, 9), (4, 10), (5, 10), (6, 10), (7, 10), (8, 10), (4, 11), (5, 11), (6, 11), (7, 11), (4, 12), (5, 12), (6, 12), (7, 12)] r148_3) (.cond (.t 30) .skip (.exit 2))) (.seq (.block 3 (.draw [(0, 1), (0, 2), (1, 2), (0, 3), (1, 3), (2, 3), (0, 4), (1, 4), (2, 4), (0, 5), (1, 5), (2, 5), (3, 5), (4, 5), (0, 6), (1, 6), (2, 6), (3, 6), (4, 6), (5, 6), (0, 7), (1, 7), (2, 7), (3, 7), (4, 7), (5, 7), (0, 8), (1, 8), (2, 8), (3, 8), (4, 8), (0, 9), (1, 9), (2, 9), (3, 9), (4, 9), (0, 10), (1, 10), (2, 10), (3, 10), (4, 10), (5, 10), (6, 10), (7, 10), (8, 10), (9, 10), (0, 11), (1, 11), (2, 11), (3, 11), (4, 11), (5, 11), (6, 11), (7, 11), (8, 11), (9, 11), (10, 11), (0, 12), (1, 12), (2, 12), (3, 12), (4, 12), (5, 12), (6, 12), (7, 12), (8, 12), (9, 12), (0, 13), (1, 13), (2, 13), (3, 13), (4, 13), (5, 13), (6, 13), (7, 13), (8, 13), (9, 13), (2, 14), (3, 14), (4, 14), (2, 15), (3, 15), (4, 15)] r148_4)) (.reg r148_5)))
abbrev r148_7 : List MOp := [
  ⟨(some 13), .mv (.t 6), none, false⟩,
  ⟨(some 14), .bin .add 0 (.t 13) (.k (.int .i64 1)), none, false⟩,
  ⟨(some 6), .mv (.t 14), none, false⟩]
abbrev b148_8 : MC := (.seq (.seq (.reg r148_1) (.cond (.t 12) .skip (.exit 0))) (.seq (.block 1 (.seq (.reg r148_2) (.block 2 (.loop b148_6)))) (.reg r148_7)))
abbrev m148 : MC := (.seq (.reg r148_0) (.block 0 (.loop b148_8)))
abbrev rs148 : List RV := []
/- math.bits.Len64 -/
abbrev r157_0 : List MOp := [
  ⟨(some 2), .mv (.k (.int .i64 0)), none, false⟩]
abbrev r157_1 : List MOp := [
  ⟨(some 3), .mv (.t 0), none, false⟩,
  ⟨(some 4), .bin .geq 0 (.t 3) (.k (.int .u64 4294967296)), none, false⟩]
abbrev r157_2 : List MOp := [
  ⟨(some 5), .mv (.t 0), none, false⟩,
  ⟨(some 6), .bin .shr 0 (.t 5) (.k (.int .u64 32)), none, false⟩,
  ⟨(some 0), .mv (.t 6), none, false⟩]
abbrev r157_3 : List MOp := [
  ⟨(some 2), .mv (.k (.int .i64 32)), none, false⟩]
abbrev r157_4 : List MOp := [
  ⟨(some 7), .mv (.t 0), none, false⟩,
  ⟨(some 8), .bin .geq 0 (.t 7) (.k (.int .u64 65536)), none, false⟩]
abbrev r157_5 : List MOp := [
  ⟨(some 9), .mv (.t 0), none, false⟩,
  ⟨(some 10), .bin .shr 0 (.t 9) (.k (.int .u64 16)), none, false⟩,
  ⟨(some 0), .mv (.t 10), none, false⟩]
abbrev r157_6 : List MOp := [
  ⟨(some 11), .mv (.t 2), none, false⟩,
  ⟨(some 12), .bin .add 0 (.t 11) (.k (.int .i64 16)), none, false⟩,
  ⟨(some 2), .mv (.t 12), none, false⟩]
abbrev r157_7 : List MOp := [
  ⟨(some 13), .mv (.t 0), none, false⟩,
  ⟨(some 14), .bin .geq 0 (.t 13) (.k (.int .u64 256)), none, false⟩]
abbrev r157_8 : List MOp := [
  ⟨(some 15), .mv (.t 0), none, false⟩,
  ⟨(some 16), .bin .shr 0 (.t 15) (.k (.int .u64 8)), none, false⟩,
  ⟨(some 0), .mv (.t 16), none, false⟩]
abbrev r157_9 : List MOp := [
  ⟨(some 17), .mv (.t 2), none, false⟩,
  ⟨(some 18), .bin .add 0 (.t 17) (.k (.int .i64 8)), none, false⟩,
  ⟨(some 2), .mv (.t 18), none, false⟩]
abbrev r157_10 : List MOp := [
  ⟨(some 19), .mv (.t 2), none, false⟩,
  ⟨(some 20), .mv (.t 0), none, false⟩,
  ⟨(some 21), .conv .u8 (.t 20), none, false⟩,
  ⟨(some 22), .sidx (.k (.str ⟨#[0, 1, 2, 2, 3, 3, 3, 3, 4, 4, 4, 4, 4, 4, 4, 4, 5, 5, 5, 5, 5, 5, 5, 5, 5, 5, 5, 5, 5, 5, 5, 5, 6, 6, 6, 6, 6, 6, 6, 6, 6, 6, 6, 6, 6, 6, 6, 6, 6, 6, 6, 6, 6, 6, 6, 6, 6, 6, 6, 6, 6, 6, 6, 6, 7, 7, 7, 7, 7, 7, 7, 7, 7, 7, 7, 7, 7, 7, 7, 7, 7, 7, 7, 7, 7, 7, 7, 7, 7, 7, 7, 7, 7, 7, 7, 7, 7, 7, 7, 7, 7, 7, 7, 7, 7, 7, 7, 7, 7, 7, 7, 7, 7, 7, 7, 7, 7, 7, 7, 7, 7, 7, 7, 7, 7, 7, 7, 7, 8, 8, 8, 8, 8, 8, 8, 8, 8, 8, 8, 8, 8, 8, 8, 8, 8, 8, 8, 8, 8, 8, 8, 8, 8, 8, 8, 8, 8, 8, 8, 8, 8, 8, 8, 8, 8, 8, 8, 8, 8, 8, 8, 8, 8, 8, 8, 8, 8, 8, 8, 8, 8, 8, 8, 8, 8, 8, 8, 8, 8, 8, 8, 8, 8, 8, 8, 8, 8, 8, 8, 8, 8, 8, 8, 8, 8, 8, 8, 8, 8, 8, 8, 8, 8, 8, 8, 8, 8, 8, 8, 8, 8, 8, 8, 8, 8, 8, 8, 8, 8, 8, 8, 8, 8, 8, 8, 8, 8, 8, 8, 8, 8, 8, 8, 8, 8, 8, 8, 8, 8, 8, 8, 8, 8, 8, 8, 8]⟩)) (.t 21), none, false⟩,
  ⟨(some 23), .conv .i64 (.t 22), none, false⟩,
  ⟨(some 24), .bin .add 0 (.t 19) (.t 23), none, false⟩,
  ⟨(some 2), .mv (.t 24), none, false⟩]
abbrev m157 : MC := (.seq (.reg r157_0) (.seq (.seq (.reg r157_1) (.cond (.t 4) (.seq (.reg r157_2) (.reg r157_3)) .skip)) (.seq (.seq (.reg r157_4) (.cond (.t 8) (.seq (.reg r157_5) (.reg r157_6)) .skip)) (.seq (.seq (.reg r157_7) (.cond (.t 14) (.seq (.reg r157_8) (.reg r157_9)) .skip)) (.seq (.reg r157_10) .ret)))))
abbrev rs157 : List RV := [(.tmp 2)]
/- slices.SortStableFunc[[]hallmark.api.Obj,hallmark.api.Obj] -/
abbrev r159_0 : List MOp := [
  ⟨(some 4), .mv (.t 0), none, false⟩,
  ⟨(some 5), .mv (.t 0), none, false⟩,
  ⟨(some 6), .len (.t 5), none, false⟩,
  ⟨(some 7), .mv (.t 1), none, false⟩,
  ⟨(some 8), .call 173 [(.t 4), (.t 6), (.t 7)], none, false⟩]
abbrev m159 : MC := (.reg r159_0)
abbrev rs159 : List RV := []
/- hallmark.tidy.outermost -/
abbrev r161_0 : List MOp := [
  ⟨(some 2), .mv (.k (.vec 12 true [])), none, false⟩]
abbrev r161_1 : List MOp := [
  ⟨(some 3), .mv (.k (.int .i64 0)), none, false⟩]
abbrev r161_2 : List MOp := [
  ⟨(some 7), .mv (.t 3), none, false⟩,
  ⟨(some 8), .mv (.t 0), none, false⟩,
  ⟨(some 9), .len (.t 8), none, false⟩,
  ⟨(some 10), .bin .lss 0 (.t 7) (.t 9), none, false⟩]
abbrev r161_3 : List MOp := [
  ⟨(some 4), .mv (.k (.bool false)), none, false⟩]
abbrev r161_4 : List MOp := [
  ⟨(some 11), .mv (.t 0), none, false⟩,
  ⟨(some 12), .len (.t 11), none, false⟩,
  ⟨(some 13), .mv (.k (.int .i64 0)), none, false⟩]
abbrev r161_5 : List MOp := [
  ⟨(some 14), .bin .lss 0 (.t 13) (.t 12), none, false⟩]
abbrev r161_6 : List MOp := [
  ⟨(some 15), .mv (.t 13), none, false⟩,
  ⟨(some 16), .iaddr (.t 11) (.t 13) 12, none, false⟩,
  ⟨(some 17), .load (.t 16) 12 true, none, false⟩,
  ⟨(some 6), .alloc [(.vec 1 true []), (.vec 9 true []), (.vec 1 true []), (.bool false), (.bool false), (.bool false), (.bool false), (.vec 2 true []), (.bool false), (.vec 1 true []), (.vec 11 true []), (.vec 12 true [])], none, false⟩,
  ⟨(some 5), .mv (.t 15), none, false⟩,
  ⟨none, .store (.t 6) (.t 17) 12, none, false⟩]
abbrev r161_7 : List MOp := [
  ⟨(some 18), .mv (.t 4), none, false⟩,
  ⟨(some 19), .mv (.t 18), none, false⟩,
  ⟨(some 20), .mv (.t 5), some (19, false), false⟩,
  ⟨(some 21), .mv (.t 3), some (19, false), false⟩,
  ⟨(some 22), .bin .neq 0 (.t 20) (.t 21), some (19, false), false⟩,
  ⟨(some 23), .mv (.t 22), some (19, false), false⟩,
  ⟨(some 24), .mv (.t 0), some (23, true), false⟩,
  ⟨(some 25), .mv (.t 3), some (23, true), false⟩,
  ⟨(some 26), .iaddr (.t 24) (.t 25) 12, some (23, true), false⟩,
  ⟨(some 27), .load (.t 26) 12 true, some (23, true), false⟩,
  ⟨(some 28), .call 119 [(.t 27)], some (23, true), false⟩,
  ⟨(some 29), .load (.t 6) 12 true, some (23, true), false⟩,
  ⟨(some 30), .call 119 [(.t 29)], some (23, true), false⟩,
  ⟨(some 31), .call 174 [(.t 28), (.t 30)], some (23, true), false⟩,
  ⟨(some 32), .pick (.t 23) (.t 31) (.k (.bool false)), some (19, false), false⟩,
  ⟨(some 33), .pick (.t 19) (.k (.bool true)) (.t 32), none, false⟩,
  ⟨(some 4), .mv (.t 33), none, false⟩]
abbrev r161_8 : List MOp := [
  ⟨(some 34), .bin .add 0 (.t 13) (.k (.int .i64 1)), none, false⟩,
  ⟨(some 13), .mv (.t 34), none, false⟩]
abbrev b161_9 : MC := (.seq (.reg r161_5) (.seq (.cond (.t 14) .skip (.exit 2)) (.seq (.block 3 (.seq (.reg r161_6) (.draw [(2, 3), (6, 7), (6, 11), (7, 11), (8, 11), (9, 11), (10, 11)] r161_7))) (.reg r161_8))))
abbrev r161_10 : List MOp := [
  ⟨(some 35), .mv (.t 4), none, false⟩]
abbrev r161_11 : List MOp := [
  ⟨(some 36), .mv (.t 0), none, false⟩,
  ⟨(some 37), .mv (.t 3), none, false⟩,
  ⟨(some 38), .mv (.t 3), none, false⟩,
  ⟨(some 39), .bin .add 0 (.t 38) (.k (.int .i64 1)), none, false⟩,
  ⟨(some 40), .call 175 [(.t 36), (.t 37), (.t 39)], none, false⟩,
  ⟨(some 0), .mv (.t 40), none, false⟩]
abbrev r161_12 : List MOp := [
  ⟨(some 41), .mv (.t 3), none, false⟩,
  ⟨(some 42), .bin .add 0 (.t 41) (.k (.int .i64 1)), none, false⟩,
  ⟨(some 3), .mv (.t 42), none, false⟩]
abbrev b161_13 : MC := (.seq (.seq (.reg r161_2) (.cond (.t 10) .skip (.exit 0))) (.block 1 (.seq (.reg r161_3) (.seq (.seq (.reg r161_4) (.block 2 (.loop b161_9))) (.seq (.reg r161_10) (.cond (.t 35) (.reg r161_11) (.reg r161_12)))))))
abbrev r161_14 : List MOp := [
  ⟨(some 43), .mv (.t 0), none, false⟩,
  ⟨(some 2), .mv (.t 43), none, false⟩]
abbrev m161 : MC := (.seq (.reg r161_0) (.seq (.seq (.reg r161_1) (.block 0 (.loop b161_13))) (.seq (.reg r161_14) .ret)))
abbrev rs161 : List RV := [(.tmp 2)]
/- slices.CompactFunc[[]hallmark.api.Obj,hallmark.api.Obj] -/
abbrev r162_0 : List MOp := [
  ⟨(some 4), .mv (.k (.vec 12 true [])), none, false⟩]
abbrev r162_1 : List MOp := [
  ⟨(some 8), .mv (.t 0), none, false⟩,
  ⟨(some 9), .len (.t 8), none, false⟩,
  ⟨(some 10), .bin .lss 0 (.t 9) (.k (.int .i64 2)), none, false⟩]
abbrev r162_2 : List MOp := [
  ⟨(some 11), .mv (.t 0), none, false⟩,
  ⟨(some 4), .mv (.t 11), none, false⟩]
abbrev r162_3 : List MOp := [
  ⟨(some 5), .mv (.k (.int .i64 1)), none, false⟩]
abbrev r162_4 : List MOp := [
  ⟨(some 12), .mv (.t 5), none, false⟩,
  ⟨(some 13), .mv (.t 0), none, false⟩,
  ⟨(some 14), .len (.t 13), none, false⟩,
  ⟨(some 15), .bin .lss 0 (.t 12) (.t 14), none, false⟩]
abbrev r162_5 : List MOp := [
  ⟨(some 18), .mv (.t 1), none, false⟩,
  ⟨(some 19), .mv (.t 0), none, false⟩,
  ⟨(some 20), .mv (.t 5), none, false⟩,
  ⟨(some 21), .iaddr (.t 19) (.t 20) 12, none, false⟩,
  ⟨(some 22), .load (.t 21) 12 true, none, false⟩,
  ⟨(some 23), .mv (.t 0), none, false⟩,
  ⟨(some 24), .mv (.t 5), none, false⟩,
  ⟨(some 25), .bin .sub 0 (.t 24) (.k (.int .i64 1)), none, false⟩,
  ⟨(some 26), .iaddr (.t 23) (.t 25) 12, none, false⟩,
  ⟨(some 27), .load (.t 26) 12 true, none, false⟩,
  ⟨(some 28), .dcall (.t 18) [(.t 22), (.t 27)], none, false⟩]
abbrev r162_6 : List MOp := [
  ⟨(some 29), .mv (.t 0), none, false⟩,
  ⟨(some 30), .mv (.t 5), none, false⟩,
  ⟨(some 31), .slc (.t 29) 12 (some (.t 30)) none none, none, false⟩,
  ⟨(some 6), .mv (.t 31), none, false⟩]
abbrev r162_7 : List MOp := [
  ⟨(some 7), .mv (.k (.int .i64 1)), none, false⟩]
abbrev r162_8 : List MOp := [
  ⟨(some 32), .mv (.t 7), none, false⟩,
  ⟨(some 33), .mv (.t 6), none, false⟩,
  ⟨(some 34), .len (.t 33), none, false⟩,
  ⟨(some 35), .bin .lss 0 (.t 32) (.t 34), none, false⟩]
abbrev r162_9 : List MOp := [
  ⟨(some 38), .mv (.t 1), none, false⟩,
  ⟨(some 39), .mv (.t 6), none, false⟩,
  ⟨(some 40), .mv (.t 7), none, false⟩,
  ⟨(some 41), .iaddr (.t 39) (.t 40) 12, none, false⟩,
  ⟨(some 42), .load (.t 41) 12 true, none, false⟩,
  ⟨(some 43), .mv (.t 6), none, false⟩,
  ⟨(some 44), .mv (.t 7), none, false⟩,
  ⟨(some 45), .bin .sub 0 (.t 44) (.k (.int .i64 1)), none, false⟩,
  ⟨(some 46), .iaddr (.t 43) (.t 45) 12, none, false⟩,
  ⟨(some 47), .load (.t 46) 12 true, none, false⟩,
  ⟨(some 48), .dcall (.t 38) [(.t 42), (.t 47)], none, false⟩,
  ⟨(some 49), .un .not (.t 48), none, false⟩]
abbrev r162_10 : List MOp := [
  ⟨(some 50), .mv (.t 0), none, false⟩,
  ⟨(some 51), .mv (.t 5), none, false⟩,
  ⟨(some 52), .mv (.t 6), none, false⟩,
  ⟨(some 53), .mv (.t 7), none, false⟩,
  ⟨(some 54), .iaddr (.t 52) (.t 53) 12, none, false⟩,
  ⟨(some 55), .load (.t 54) 12 true, none, false⟩,
  ⟨(some 56), .iaddr (.t 50) (.t 51) 12, none, false⟩,
  ⟨none, .store (.t 56) (.t 55) 12, none, false⟩]
abbrev r162_11 : List MOp := [
  ⟨(some 57), .mv (.t 5), none, false⟩,
  ⟨(some 58), .bin .add 0 (.t 57) (.k (.int .i64 1)), none, false⟩,
  ⟨(some 5), .mv (.t 58), none, false⟩]
abbrev r162_12 : List MOp := [
  ⟨(some 36), .mv (.t 7), none, false⟩,
  ⟨(some 37), .bin .add 0 (.t 36) (.k (.int .i64 1)), none, false⟩,
  ⟨(some 7), .mv (.t 37), none, false⟩]
abbrev b162_13 : MC := (.seq (.seq (.reg r162_8) (.cond (.t 35) .skip (.exit 2))) (.seq (.block 3 (.seq (.draw [(0, 1), (0, 2), (1, 2), (0, 3), (0, 4), (0, 5), (1, 5), (2, 5), (3, 5), (4, 5), (0, 6), (1, 6), (2, 6), (3, 6), (4, 6), (5, 6), (0, 7), (1, 7), (2, 7), (3, 7), (4, 7), (5, 7), (0, 8), (1, 8), (2, 8), (3, 8), (4, 8), (0, 9), (1, 9), (2, 9), (3, 9), (4, 9)] r162_9) (.cond (.t 49) (.seq (.reg r162_10) (.reg r162_11)) .skip))) (.reg r162_12)))
abbrev r162_14 : List MOp := [
  ⟨(some 59), .mv (.t 0), none, false⟩,
  ⟨(some 60), .mv (.t 5), none, false⟩,
  ⟨(some 61), .slc (.t 59) 12 (some (.t 60)) none none, none, false⟩,
  ⟨none, .bad, none, false⟩]
abbrev r162_15 : List MOp := [
  ⟨(some 62), .mv (.t 0), none, false⟩,
  ⟨(some 63), .mv (.t 5), none, false⟩,
  ⟨(some 64), .slc (.t 62) 12 none (some (.t 63)) none, none, false⟩,
  ⟨(some 4), .mv (.t 64), none, false⟩]
abbrev r162_16 : List MOp := [
  ⟨(some 16), .mv (.t 5), none, false⟩,
  ⟨(some 17), .bin .add 0 (.t 16) (.k (.int .i64 1)), none, false⟩,
  ⟨(some 5), .mv (.t 17), none, false⟩]
abbrev b162_17 : MC := (.seq (.seq (.reg r162_4) (.cond (.t 15) .skip (.exit 0))) (.seq (.block 1 (.seq (.draw [(0, 1), (0, 2), (1, 2), (0, 3), (0, 4), (0, 5), (1, 5), (2, 5), (3, 5), (4, 5), (0, 6), (1, 6), (2, 6), (3, 6), (4, 6), (5, 6), (0, 7), (1, 7), (2, 7), (3, 7), (4, 7), (5, 7), (0, 8), (1, 8), (2, 8), (3, 8), (4, 8), (0, 9), (1, 9), (2, 9), (3, 9), (4, 9)] r162_5) (.cond (.t 28) (.seq (.reg r162_6) (.seq (.seq (.reg r162_7) (.block 2 (.loop b162_13))) (.seq (.reg r162_14) (.seq (.reg r162_15) .ret)))) .skip))) (.reg r162_16)))
abbrev r162_18 : List MOp := [
  ⟨(some 65), .mv (.t 0), none, false⟩,
  ⟨(some 4), .mv (.t 65), none, false⟩]
abbrev m162 : MC := (.seq (.reg r162_0) (.seq (.seq (.reg r162_1) (.cond (.t 10) (.seq (.reg r162_2) .ret) .skip)) (.seq (.seq (.reg r162_3) (.block 0 (.loop b162_17))) (.seq (.reg r162_18) .ret))))
abbrev rs162 : List RV := [(.tmp 4)]
/- slices.stableCmpFunc[hallmark.api.Obj] -/
abbrev r173_0 : List MOp := [
  ⟨(some 6), .mv (.k (.int .i64 20)), none, false⟩]
abbrev r173_1 : List MOp := [
  ⟨(some 10), .mv (.t 6), none, false⟩,
  ⟨(some 7), .mv (.k (.int .i64 0)), none, false⟩,
  ⟨(some 8), .mv (.t 10), none, false⟩]
abbrev r173_2 : List MOp := [
  ⟨(some 11), .mv (.t 8), none, false⟩,
  ⟨(some 12), .mv (.t 1), none, false⟩,
  ⟨(some 13), .bin .leq 0 (.t 11) (.t 12), none, false⟩]
abbrev r173_3 : List MOp := [
  ⟨(some 14), .mv (.t 0), none, false⟩,
  ⟨(some 15), .mv (.t 7), none, false⟩,
  ⟨(some 16), .mv (.t 8), none, false⟩,
  ⟨(some 17), .mv (.t 2), none, false⟩,
  ⟨(some 18), .call 178 [(.t 14), (.t 15), (.t 16), (.t 17)], none, false⟩]
abbrev r173_4 : List MOp := [
  ⟨(some 19), .mv (.t 8), none, false⟩,
  ⟨(some 7), .mv (.t 19), none, false⟩]
abbrev r173_5 : List MOp := [
  ⟨(some 20), .mv (.t 8), none, false⟩,
  ⟨(some 21), .mv (.t 6), none, false⟩,
  ⟨(some 22), .bin .add 0 (.t 20) (.t 21), none, false⟩,
  ⟨(some 8), .mv (.t 22), none, false⟩]
abbrev b173_6 : MC := (.seq (.seq (.reg r173_2) (.cond (.t 13) .skip (.exit 0))) (.block 1 (.seq (.reg r173_3) (.seq (.reg r173_4) (.reg r173_5)))))
abbrev r173_7 : List MOp := [
  ⟨(some 23), .mv (.t 0), none, false⟩,
  ⟨(some 24), .mv (.t 7), none, false⟩,
  ⟨(some 25), .mv (.t 1), none, false⟩,
  ⟨(some 26), .mv (.t 2), none, false⟩,
  ⟨(some 27), .call 178 [(.t 23), (.t 24), (.t 25), (.t 26)], none, false⟩]
abbrev r173_8 : List MOp := [
  ⟨(some 28), .mv (.t 6), none, false⟩,
  ⟨(some 29), .mv (.t 1), none, false⟩,
  ⟨(some 30), .bin .lss 0 (.t 28) (.t 29), none, false⟩]
abbrev r173_9 : List MOp := [
  ⟨(some 31), .mv (.t 6), none, false⟩,
  ⟨(some 32), .bin .mul 0 (.k (.int .i64 2)) (.t 31), none, false⟩,
  ⟨(some 7), .mv (.k (.int .i64 0)), none, false⟩,
  ⟨(some 8), .mv (.t 32), none, false⟩]
abbrev r173_10 : List MOp := [
  ⟨(some 33), .mv (.t 8), none, false⟩,
  ⟨(some 34), .mv (.t 1), none, false⟩,
  ⟨(some 35), .bin .leq 0 (.t 33) (.t 34), none, false⟩]
abbrev r173_11 : List MOp := [
  ⟨(some 36), .mv (.t 0), none, false⟩,
  ⟨(some 37), .mv (.t 7), none, false⟩,
  ⟨(some 38), .mv (.t 7), none, false⟩,
  ⟨(some 39), .mv (.t 6), none, false⟩,
  ⟨(some 40), .bin .add 0 (.t 38) (.t 39), none, false⟩,
  ⟨(some 41), .mv (.t 8), none, false⟩,
  ⟨(some 42), .mv (.t 2), none, false⟩,
  ⟨(some 43), .call 179 [(.t 36), (.t 37), (.t 40), (.t 41), (.t 42)], none, false⟩]
abbrev r173_12 : List MOp := [
  ⟨(some 44), .mv (.t 8), none, false⟩,
  ⟨(some 7), .mv (.t 44), none, false⟩]
abbrev r173_13 : List MOp := [
  ⟨(some 45), .mv (.t 8), none, false⟩,
  ⟨(some 46), .mv (.t 6), none, false⟩,
  ⟨(some 47), .bin .mul 0 (.k (.int .i64 2)) (.t 46), none, false⟩,
  ⟨(some 48), .bin .add 0 (.t 45) (.t 47), none, false⟩,
  ⟨(some 8), .mv (.t 48), none, false⟩]
abbrev b173_14 : MC := (.seq (.seq (.reg r173_10) (.cond (.t 35) .skip (.exit 4))) (.block 5 (.seq (.reg r173_11) (.seq (.reg r173_12) (.reg r173_13)))))
abbrev r173_15 : List MOp := [
  ⟨(some 49), .mv (.t 7), none, false⟩,
  ⟨(some 50), .mv (.t 6), none, false⟩,
  ⟨(some 51), .bin .add 0 (.t 49) (.t 50), none, false⟩,
  ⟨(some 9), .mv (.t 51), none, false⟩]
abbrev r173_16 : List MOp := [
  ⟨(some 52), .mv (.t 9), none, false⟩,
  ⟨(some 53), .mv (.t 1), none, false⟩,
  ⟨(some 54), .bin .lss 0 (.t 52) (.t 53), none, false⟩]
abbrev r173_17 : List MOp := [
  ⟨(some 55), .mv (.t 0), none, false⟩,
  ⟨(some 56), .mv (.t 7), none, false⟩,
  ⟨(some 57), .mv (.t 9), none, false⟩,
  ⟨(some 58), .mv (.t 1), none, false⟩,
  ⟨(some 59), .mv (.t 2), none, false⟩,
  ⟨(some 60), .call 179 [(.t 55), (.t 56), (.t 57), (.t 58), (.t 59)], none, false⟩]
abbrev r173_18 : List MOp := [
  ⟨(some 61), .mv (.t 6), none, false⟩,
  ⟨(some 62), .bin .mul 0 (.t 61) (.k (.int .i64 2)), none, false⟩,
  ⟨(some 6), .mv (.t 62), none, false⟩]
abbrev b173_19 : MC := (.seq (.seq (.reg r173_8) (.cond (.t 30) .skip (.exit 2))) (.block 3 (.seq (.reg r173_9) (.seq (.block 4 (.loop b173_14)) (.seq (.seq (.reg r173_15) (.seq (.reg r173_16) (.cond (.t 54) (.reg r173_17) .skip))) (.reg r173_18))))))
abbrev m173 : MC := (.seq (.reg r173_0) (.seq (.reg r173_1) (.seq (.block 0 (.loop b173_6)) (.seq (.reg r173_7) (.block 2 (.loop b173_19))))))
abbrev rs173 : List RV := []
/- slices.insertionSortCmpFunc[hallmark.api.Obj] -/
abbrev r178_0 : List MOp := [
  ⟨(some 10), .mv (.t 1), none, false⟩,
  ⟨(some 11), .bin .add 0 (.t 10) (.k (.int .i64 1)), none, false⟩,
  ⟨(some 8), .mv (.t 11), none, false⟩]
abbrev r178_1 : List MOp := [
  ⟨(some 12), .mv (.t 8), none, false⟩,
  ⟨(some 13), .mv (.t 2), none, false⟩,
  ⟨(some 14), .bin .lss 0 (.t 12) (.t 13), none, false⟩]
abbrev r178_2 : List MOp := [
  ⟨(some 17), .mv (.t 8), none, false⟩,
  ⟨(some 9), .mv (.t 17), none, false⟩]
abbrev r178_3 : List MOp := [
  ⟨(some 18), .mv (.t 9), none, false⟩,
  ⟨(some 19), .mv (.t 1), none, false⟩,
  ⟨(some 20), .bin .gtr 0 (.t 18) (.t 19), none, false⟩,
  ⟨(some 21), .mv (.t 20), none, false⟩,
  ⟨(some 22), .mv (.t 3), some (21, true), false⟩,
  ⟨(some 23), .mv (.t 0), some (21, true), false⟩,
  ⟨(some 24), .mv (.t 9), some (21, true), false⟩,
  ⟨(some 25), .iaddr (.t 23) (.t 24) 12, some (21, true), false⟩,
  ⟨(some 26), .load (.t 25) 12 true, some (21, true), false⟩,
  ⟨(some 27), .mv (.t 0), some (21, true), false⟩,
  ⟨(some 28), .mv (.t 9), some (21, true), false⟩,
  ⟨(some 29), .bin .sub 0 (.t 28) (.k (.int .i64 1)), some (21, true), false⟩,
  ⟨(some 30), .iaddr (.t 27) (.t 29) 12, some (21, true), false⟩,
  ⟨(some 31), .load (.t 30) 12 true, some (21, true), false⟩,
  ⟨(some 32), .dcall (.t 22) [(.t 26), (.t 31)], some (21, true), false⟩,
  ⟨(some 33), .bin .lss 0 (.t 32) (.k (.int .i64 0)), some (21, true), false⟩,
  ⟨(some 34), .pick (.t 21) (.t 33) (.k (.bool false)), none, false⟩]
abbrev r178_4 : List MOp := [
  ⟨(some 37), .mv (.t 0), none, false⟩,
  ⟨(some 38), .mv (.t 9), none, false⟩,
  ⟨(some 39), .mv (.t 0), none, false⟩,
  ⟨(some 40), .mv (.t 9), none, false⟩,
  ⟨(some 41), .bin .sub 0 (.t 40) (.k (.int .i64 1)), none, false⟩,
  ⟨(some 42), .mv (.t 0), none, false⟩,
  ⟨(some 43), .mv (.t 9), none, false⟩,
  ⟨(some 44), .bin .sub 0 (.t 43) (.k (.int .i64 1)), none, false⟩,
  ⟨(some 45), .iaddr (.t 42) (.t 44) 12, none, false⟩,
  ⟨(some 46), .load (.t 45) 12 true, none, false⟩,
  ⟨(some 47), .mv (.t 0), none, false⟩,
  ⟨(some 48), .mv (.t 9), none, false⟩,
  ⟨(some 49), .iaddr (.t 47) (.t 48) 12, none, false⟩,
  ⟨(some 50), .load (.t 49) 12 true, none, false⟩,
  ⟨(some 51), .iaddr (.t 37) (.t 38) 12, none, false⟩,
  ⟨none, .store (.t 51) (.t 46) 12, none, false⟩,
  ⟨(some 52), .iaddr (.t 39) (.t 41) 12, none, false⟩,
  ⟨none, .store (.t 52) (.t 50) 12, none, false⟩]
abbrev r178_5 : List MOp := [
  ⟨(some 35), .mv (.t 9), none, false⟩,
  ⟨(some 36), .bin .sub 0 (.t 35) (.k (.int .i64 1)), none, false⟩,
  ⟨(some 9), .mv (.t 36), none, false⟩]
abbrev b178_6 : MC := (.seq (.seq (.draw [(0, 1), (4, 5), (4, 6), (5, 6), (4, 7), (4, 8), (4, 9), (5, 9), (6, 9), (7, 9), (8, 9), (4, 10), (5, 10), (6, 10), (7, 10), (8, 10), (9, 10), (4, 11), (5, 11), (6, 11), (7, 11), (8, 11), (9, 11), (4, 12), (5, 12), (6, 12), (7, 12), (8, 12), (4, 13), (5, 13), (6, 13), (7, 13), (8, 13)] r178_3) (.cond (.t 34) .skip (.exit 2))) (.seq (.block 3 (.draw [(0, 1), (0, 2), (1, 2), (0, 3), (1, 3), (2, 3), (0, 4), (1, 4), (2, 4), (0, 5), (1, 5), (2, 5), (3, 5), (4, 5), (0, 6), (1, 6), (2, 6), (3, 6), (4, 6), (5, 6), (0, 7), (1, 7), (2, 7), (3, 7), (4, 7), (5, 7), (0, 8), (1, 8), (2, 8), (3, 8), (4, 8), (0, 9), (1, 9), (2, 9), (3, 9), (4, 9), (0, 10), (1, 10), (2, 10), (3, 10), (4, 10), (5, 10), (6, 10), (7, 10), (8, 10), (9, 10), (0, 11), (1, 11), (2, 11), (3, 11), (4, 11), (5, 11), (6, 11), (7, 11), (8, 11), (9, 11), (10, 11), (0, 12), (1, 12), (2, 12), (3, 12), (4, 12), (5, 12), (6, 12), (7, 12), (8, 12), (9, 12), (0, 13), (1, 13), (2, 13), (3, 13), (4, 13), (5, 13), (6, 13), (7, 13), (8, 13), (9, 13), (2, 14), (3, 14), (4, 14), (2, 15), (3, 15), (4, 15)] r178_4)) (.reg r178_5)))
abbrev r178_7 : List MOp := [
  ⟨(some 15), .mv (.t 8), none, false⟩,
  ⟨(some 16), .bin .add 0 (.t 15) (.k (.int .i64 1)), none, false⟩,
  ⟨(some 8), .mv (.t 16), none, false⟩]
abbrev b178_8 : MC := (.seq (.seq (.reg r178_1) (.cond (.t 14) .skip (.exit 0))) (.seq (.block 1 (.seq (.reg r178_2) (.block 2 (.loop b178_6)))) (.reg r178_7)))
abbrev m178 : MC := (.seq (.reg r178_0) (.block 0 (.loop b178_8)))
abbrev rs178 : List RV := []
def tab (f : Nat) : Option (MC × Nat × List RV) := (if Nat.blt f 66 then (if Nat.blt f 32 then (if Nat.blt f 16 then (if Nat.blt f 9 then (if Nat.blt f 6 then (if Nat.blt f 4 then (if f = 3 then some (m3, 92, rs3) else none) else (if Nat.blt f 5 then (if f = 4 then some (m4, 15, rs4) else none) else (if f = 5 then some (m5, 10, rs5) else none))) else (if Nat.blt f 7 then (if f = 6 then some (m6, 14, rs6) else none) else (if Nat.blt f 8 then (if f = 7 then some (m7, 16, rs7) else none) else (if f = 8 then some (m8, 14, rs8) else none)))) else (if Nat.blt f 12 then (if Nat.blt f 10 then (if f = 9 then some (m9, 96, rs9) else none) else (if Nat.blt f 11 then (if f = 10 then some (m10, 16, rs10) else none) else (if f = 11 then some (m11, 15, rs11) else none))) else (if Nat.blt f 14 then (if Nat.blt f 13 then (if f = 12 then some (m12, 15, rs12) else none) else (if f = 13 then some (m13, 62, rs13) else none)) else (if Nat.blt f 15 then (if f = 14 then some (m14, 11, rs14) else none) else (if f = 15 then some (m15, 19, rs15) else none))))) else (if Nat.blt f 25 then (if Nat.blt f 20 then (if Nat.blt f 17 then (if f = 16 then some (m16, 51, rs16) else none) else (if Nat.blt f 18 then (if f = 17 then some (m17, 61, rs17) else none) else (if f = 18 then some (m18, 40, rs18) else none))) else (if Nat.blt f 23 then (if Nat.blt f 22 then (if f = 20 then some (m20, 8, rs20) else none) else (if f = 22 then some (m22, 27, rs22) else none)) else (if Nat.blt f 24 then (if f = 23 then some (m23, 2, rs23) else none) else (if f = 24 then some (m24, 25, rs24) else none)))) else (if Nat.blt f 28 then (if Nat.blt f 26 then (if f = 25 then some (m25, 20, rs25) else none) else (if Nat.blt f 27 then (if f = 26 then some (m26, 27, rs26) else none) else (if f = 27 then some (m27, 26, rs27) else none))) else (if Nat.blt f 30 then (if Nat.blt f 29 then (if f = 28 then some (m28, 27, rs28) else none) else (if f = 29 then some (m29, 27, rs29) else none)) else (if Nat.blt f 31 then (if f = 30 then some (m30, 11, rs30) else none) else (if f = 31 then some (m31, 109, rs31) else none)))))) else (if Nat.blt f 50 then (if Nat.blt f 41 then (if Nat.blt f 36 then (if Nat.blt f 33 then (if f = 32 then some (m32, 27, rs32) else none) else (if Nat.blt f 34 then (if f = 33 then some (m33, 2, rs33) else none) else (if f = 34 then some (m34, 37, rs34) else none))) else (if Nat.blt f 37 then (if f = 36 then some (m36, 43, rs36) else none) else (if Nat.blt f 38 then (if f = 37 then some (m37, 38, rs37) else none) else (if f = 38 then some (m38, 5, rs38) else none)))) else (if Nat.blt f 46 then (if Nat.blt f 44 then (if f = 41 then some (m41, 52, rs41) else none) else (if Nat.blt f 45 then (if f = 44 then some (m44, 9, rs44) else none) else (if f = 45 then some (m45, 94, rs45) else none))) else (if Nat.blt f 48 then (if Nat.blt f 47 then (if f = 46 then some (m46, 56, rs46) else none) else (if f = 47 then some (m47, 64, rs47) else none)) else (if Nat.blt f 49 then (if f = 48 then some (m48, 149, rs48) else none) else (if f = 49 then some (m49, 10, rs49) else none))))) else (if Nat.blt f 59 then (if Nat.blt f 53 then (if Nat.blt f 51 then (if f = 50 then some (m50, 59, rs50) else none) else (if Nat.blt f 52 then (if f = 51 then some (m51, 17, rs51) else none) else (if f = 52 then some (m52, 52, rs52) else none))) else (if Nat.blt f 55 then (if Nat.blt f 54 then (if f = 53 then some (m53, 66, rs53) else none) else (if f = 54 then some (m54, 82, rs54) else none)) else (if Nat.blt f 58 then (if f = 55 then some (m55, 17, rs55) else none) else (if f = 58 then some (m58, 25, rs58) else none)))) else (if Nat.blt f 62 then (if Nat.blt f 60 then (if f = 59 then some (m59, 8, rs59) else none) else (if Nat.blt f 61 then (if f = 60 then some (m60, 8, rs60) else none) else (if f = 61 then some (m61, 8, rs61) else none))) else (if Nat.blt f 64 then (if Nat.blt f 63 then (if f = 62 then some (m62, 8, rs62) else none) else (if f = 63 then some (m63, 8, rs63) else none)) else (if Nat.blt f 65 then (if f = 64 then some (m64, 128, rs64) else none) else (if f = 65 then some (m65, 72, rs65) else none))))))) else (if Nat.blt f 110 then (if Nat.blt f 87 then (if Nat.blt f 74 then (if Nat.blt f 69 then (if Nat.blt f 67 then (if f = 66 then some (m66, 103, rs66) else none) else (if Nat.blt f 68 then (if f = 67 then some (m67, 50, rs67) else none) else (if f = 68 then some (m68, 2, rs68) else none))) else (if Nat.blt f 70 then (if f = 69 then some (m69, 9, rs69) else none) else (if Nat.blt f 73 then (if f = 70 then some (m70, 169, rs70) else none) else (if f = 73 then some (m73, 10, rs73) else none)))) else (if Nat.blt f 79 then (if Nat.blt f 75 then (if f = 74 then some (m74, 13, rs74) else none) else (if Nat.blt f 76 then (if f = 75 then some (m75, 78, rs75) else none) else (if f = 76 then some (m76, 26, rs76) else none))) else (if Nat.blt f 85 then (if Nat.blt f 80 then (if f = 79 then some (m79, 52, rs79) else none) else (if f = 80 then some (m80, 26, rs80) else none)) else (if Nat.blt f 86 then (if f = 85 then some (m85, 45, rs85) else none) else (if f = 86 then some (m86, 14, rs86) else none))))) else (if Nat.blt f 97 then (if Nat.blt f 91 then (if Nat.blt f 89 then (if f = 87 then some (m87, 29, rs87) else none) else (if Nat.blt f 90 then (if f = 89 then some (m89, 37, rs89) else none) else (if f = 90 then some (m90, 36, rs90) else none))) else (if Nat.blt f 93 then (if Nat.blt f 92 then (if f = 91 then some (m91, 62, rs91) else none) else (if f = 92 then some (m92, 36, rs92) else none)) else (if Nat.blt f 94 then (if f = 93 then some (m93, 11, rs93) else none) else (if f = 94 then some (m94, 61, rs94) else none)))) else (if Nat.blt f 102 then (if Nat.blt f 98 then (if f = 97 then some (m97, 83, rs97) else none) else (if Nat.blt f 101 then (if f = 98 then some (m98, 50, rs98) else none) else (if f = 101 then some (m101, 29, rs101) else none))) else (if Nat.blt f 108 then (if Nat.blt f 107 then (if f = 102 then some (m102, 43, rs102) else none) else (if f = 107 then some (m107, 26, rs107) else none)) else (if Nat.blt f 109 then (if f = 108 then some (m108, 18, rs108) else none) else (if f = 109 then some (m109, 11, rs109) else none)))))) else (if Nat.blt f 132 then (if Nat.blt f 124 then (if Nat.blt f 113 then (if Nat.blt f 111 then (if f = 110 then some (m110, 39, rs110) else none) else (if Nat.blt f 112 then (if f = 111 then some (m111, 17, rs111) else none) else (if f = 112 then some (m112, 36, rs112) else none))) else (if Nat.blt f 121 then (if Nat.blt f 115 then (if f = 113 then some (m113, 39, rs113) else none) else (if f = 115 then some (m115, 39, rs115) else none)) else (if Nat.blt f 123 then (if f = 121 then some (m121, 17, rs121) else none) else (if f = 123 then some (m123, 36, rs123) else none)))) else (if Nat.blt f 127 then (if Nat.blt f 125 then (if f = 124 then some (m124, 25, rs124) else none) else (if Nat.blt f 126 then (if f = 125 then some (m125, 25, rs125) else none) else (if f = 126 then some (m126, 27, rs126) else none))) else (if Nat.blt f 129 then (if Nat.blt f 128 then (if f = 127 then some (m127, 36, rs127) else none) else (if f = 128 then some (m128, 27, rs128) else none)) else (if Nat.blt f 130 then (if f = 129 then some (m129, 134, rs129) else none) else (if f = 130 then some (m130, 8, rs130) else none))))) else (if Nat.blt f 148 then (if Nat.blt f 137 then (if Nat.blt f 133 then (if f = 132 then some (m132, 25, rs132) else none) else (if Nat.blt f 136 then (if f = 133 then some (m133, 14, rs133) else none) else (if f = 136 then some (m136, 23, rs136) else none))) else (if Nat.blt f 146 then (if Nat.blt f 145 then (if f = 137 then some (m137, 20, rs137) else none) else (if f = 145 then some (m145, 6, rs145) else none)) else (if Nat.blt f 147 then (if f = 146 then some (m146, 27, rs146) else none) else (if f = 147 then some (m147, 27, rs147) else none)))) else (if Nat.blt f 161 then (if Nat.blt f 157 then (if f = 148 then some (m148, 49, rs148) else none) else (if Nat.blt f 159 then (if f = 157 then some (m157, 25, rs157) else none) else (if f = 159 then some (m159, 9, rs159) else none))) else (if Nat.blt f 173 then (if Nat.blt f 162 then (if f = 161 then some (m161, 44, rs161) else none) else (if f = 162 then some (m162, 66, rs162) else none)) else (if Nat.blt f 178 then (if f = 173 then some (m173, 63, rs173) else none) else (if f = 178 then some (m178, 53, rs178) else none))))))))
end Go.Proofs.YtjeegophpmpibaaGreatDoor.Pv
