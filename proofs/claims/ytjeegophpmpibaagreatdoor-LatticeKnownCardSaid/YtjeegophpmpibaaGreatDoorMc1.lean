/- The M-code of the functions that are reached, printed by program (part 1). No condition. -/
import Derived.Test.YtjeegophpmpibaaGreatDoorPv23
set_option linter.unusedVariables false
namespace Go.Proofs.YtjeegophpmpibaaGreatDoor.Pv
open Go
/- hallmark.hallmarklaw13.LatticeKnown -/
abbrev r3_0 : List MOp := [
  ⟨(some 0), .mv (.k (.bool false)), none, false⟩]
abbrev r3_1 : List MOp := [
  ⟨(some 4), .call 5 [(.k (.str ⟨#[49]⟩)), (.k (.str ⟨#[51]⟩))], none, false⟩,
  ⟨(some 5), .call 5 [(.k (.str ⟨#[55]⟩)), (.k (.str ⟨#[57]⟩))], none, false⟩,
  ⟨(some 6), .call 4 [(.t 4), (.t 5)], none, false⟩,
  ⟨(some 3), .mv (.t 6), none, false⟩,
  ⟨(some 7), .ext (.t 3) 0, none, false⟩,
  ⟨(some 8), .ext (.t 3) 1, none, false⟩,
  ⟨(some 1), .alloc [(.bool false), (.bool false), (.bool false), (.bool false), (.vec 2 true []), (.bool false), (.vec 1 true []), (.vec 11 true []), (.vec 12 true [])], none, false⟩,
  ⟨none, .store (.t 1) (.t 7) 9, none, false⟩,
  ⟨(some 2), .mv (.t 8), none, false⟩]
abbrev r3_2 : List MOp := [
  ⟨(some 9), .load (.t 1) 9 true, none, false⟩,
  ⟨(some 10), .mv (.t 2), none, false⟩,
  ⟨(some 11), .call 5 [(.k (.str ⟨#[49]⟩)), (.k (.str ⟨#[57]⟩))], none, false⟩,
  ⟨(some 12), .call 6 [(.t 9), (.t 10), (.t 11)], none, false⟩,
  ⟨(some 13), .un .not (.t 12), none, false⟩]
abbrev r3_3 : List MOp := [
  ⟨(some 0), .mv (.k (.bool false)), none, false⟩]
abbrev r3_4 : List MOp := [
  ⟨(some 15), .call 5 [(.k (.str ⟨#[49]⟩)), (.k (.str ⟨#[53]⟩))], none, false⟩,
  ⟨(some 16), .call 5 [(.k (.str ⟨#[51]⟩)), (.k (.str ⟨#[]⟩))], none, false⟩,
  ⟨(some 17), .call 7 [(.t 15), (.t 16)], none, false⟩,
  ⟨(some 14), .mv (.t 17), none, false⟩,
  ⟨(some 18), .ext (.t 14) 0, none, false⟩,
  ⟨(some 19), .ext (.t 14) 1, none, false⟩,
  ⟨none, .store (.t 1) (.t 18) 9, none, false⟩,
  ⟨(some 2), .mv (.t 19), none, false⟩]
abbrev r3_5 : List MOp := [
  ⟨(some 20), .load (.t 1) 9 true, none, false⟩,
  ⟨(some 21), .mv (.t 2), none, false⟩,
  ⟨(some 22), .call 5 [(.k (.str ⟨#[51]⟩)), (.k (.str ⟨#[53]⟩))], none, false⟩,
  ⟨(some 23), .call 6 [(.t 20), (.t 21), (.t 22)], none, false⟩,
  ⟨(some 24), .un .not (.t 23), none, false⟩]
abbrev r3_6 : List MOp := [
  ⟨(some 0), .mv (.k (.bool false)), none, false⟩]
abbrev r3_7 : List MOp := [
  ⟨(some 26), .call 5 [(.k (.str ⟨#[49]⟩)), (.k (.str ⟨#[50]⟩))], none, false⟩,
  ⟨(some 27), .call 5 [(.k (.str ⟨#[51]⟩)), (.k (.str ⟨#[52]⟩))], none, false⟩,
  ⟨(some 28), .call 7 [(.t 26), (.t 27)], none, false⟩,
  ⟨(some 25), .mv (.t 28), none, false⟩,
  ⟨(some 29), .ext (.t 25) 0, none, false⟩,
  ⟨(some 30), .ext (.t 25) 1, none, false⟩,
  ⟨none, .store (.t 1) (.t 29) 9, none, false⟩,
  ⟨(some 2), .mv (.t 30), none, false⟩]
abbrev r3_8 : List MOp := [
  ⟨(some 31), .load (.t 1) 9 true, none, false⟩,
  ⟨(some 32), .mv (.t 2), none, false⟩,
  ⟨(some 33), .build [(.bool false), (.bool false), (.bool false), (.bool false), (.vec 2 true []), (.bool false), (.vec 1 true []), (.vec 11 true []), (.vec 12 true [])] [], none, false⟩,
  ⟨(some 34), .call 6 [(.t 31), (.t 32), (.t 33)], none, false⟩,
  ⟨(some 35), .un .not (.t 34), none, false⟩]
abbrev r3_9 : List MOp := [
  ⟨(some 0), .mv (.k (.bool false)), none, false⟩]
abbrev r3_10 : List MOp := [
  ⟨(some 37), .build [(.bool false), (.bool false), (.bool false), (.bool false), (.vec 2 true []), (.bool false), (.vec 1 true []), (.vec 11 true []), (.vec 12 true [])] [(0, 1, (.k (.bool true)))], none, false⟩,
  ⟨(some 38), .call 8 [(.t 37), (.k (.int .u8 9))], none, false⟩,
  ⟨(some 36), .mv (.t 38), none, false⟩,
  ⟨(some 39), .ext (.t 36) 0, none, false⟩,
  ⟨(some 40), .ext (.t 36) 1, none, false⟩,
  ⟨none, .store (.t 1) (.t 39) 9, none, false⟩,
  ⟨(some 2), .mv (.t 40), none, false⟩]
abbrev r3_11 : List MOp := [
  ⟨(some 41), .load (.t 1) 9 true, none, false⟩,
  ⟨(some 42), .mv (.t 2), none, false⟩,
  ⟨(some 43), .build [(.str ⟨#[]⟩), (.str ⟨#[]⟩)] [], none, false⟩,
  ⟨(some 44), .bslice 2 [(.str ⟨#[]⟩), (.str ⟨#[]⟩)] 1 [(0, (.t 43))], none, false⟩,
  ⟨(some 45), .build [(.bool false), (.bool false), (.bool false), (.bool false), (.vec 2 true []), (.bool false), (.vec 1 true []), (.vec 11 true []), (.vec 12 true [])] [(1, 1, (.k (.bool true))), (4, 1, (.t 44))], none, false⟩,
  ⟨(some 46), .call 6 [(.t 41), (.t 42), (.t 45)], none, false⟩,
  ⟨(some 47), .un .not (.t 46), none, false⟩]
abbrev r3_12 : List MOp := [
  ⟨(some 0), .mv (.k (.bool false)), none, false⟩]
abbrev r3_13 : List MOp := [
  ⟨(some 49), .call 5 [(.k (.str ⟨#[49]⟩)), (.k (.str ⟨#[51]⟩))], none, false⟩,
  ⟨(some 50), .build [(.int .i64 0), (.str ⟨#[]⟩), (.str ⟨#[]⟩), (.vec 5 true []), (.vec 1 true [])] [(0, 1, (.k (.int .i64 3))), (1, 1, (.k (.str ⟨#[49]⟩)))], none, false⟩,
  ⟨(some 51), .call 9 [(.t 49), (.t 50)], none, false⟩,
  ⟨(some 48), .mv (.t 51), none, false⟩,
  ⟨(some 52), .ext (.t 48) 0, none, false⟩,
  ⟨(some 53), .ext (.t 48) 1, none, false⟩,
  ⟨none, .store (.t 1) (.t 52) 9, none, false⟩,
  ⟨(some 2), .mv (.t 53), none, false⟩]
abbrev r3_14 : List MOp := [
  ⟨(some 54), .load (.t 1) 9 true, none, false⟩,
  ⟨(some 55), .mv (.t 2), none, false⟩,
  ⟨(some 56), .call 5 [(.k (.str ⟨#[50]⟩)), (.k (.str ⟨#[51]⟩))], none, false⟩,
  ⟨(some 57), .call 6 [(.t 54), (.t 55), (.t 56)], none, false⟩,
  ⟨(some 58), .un .not (.t 57), none, false⟩]
abbrev r3_15 : List MOp := [
  ⟨(some 0), .mv (.k (.bool false)), none, false⟩]
abbrev r3_16 : List MOp := [
  ⟨(some 60), .call 5 [(.k (.str ⟨#[49]⟩)), (.k (.str ⟨#[51]⟩))], none, false⟩,
  ⟨(some 61), .call 5 [(.k (.str ⟨#[49]⟩)), (.k (.str ⟨#[52]⟩))], none, false⟩,
  ⟨(some 62), .call 10 [(.t 60), (.t 61)], none, false⟩,
  ⟨(some 59), .mv (.t 62), none, false⟩,
  ⟨(some 63), .ext (.t 59) 0, none, false⟩,
  ⟨(some 64), .ext (.t 59) 1, none, false⟩,
  ⟨none, .store (.t 1) (.t 63) 9, none, false⟩,
  ⟨(some 2), .mv (.t 64), none, false⟩]
abbrev r3_17 : List MOp := [
  ⟨(some 65), .load (.t 1) 9 true, none, false⟩,
  ⟨(some 66), .mv (.t 2), none, false⟩,
  ⟨(some 67), .call 5 [(.k (.str ⟨#[49]⟩)), (.k (.str ⟨#[]⟩))], none, false⟩,
  ⟨(some 68), .call 6 [(.t 65), (.t 66), (.t 67)], none, false⟩,
  ⟨(some 69), .un .not (.t 68), none, false⟩]
abbrev r3_18 : List MOp := [
  ⟨(some 0), .mv (.k (.bool false)), none, false⟩]
abbrev r3_19 : List MOp := [
  ⟨(some 71), .bslice 1 [(.str ⟨#[]⟩)] 1 [(0, (.k (.str ⟨#[97]⟩)))], none, false⟩,
  ⟨(some 72), .build [(.bool false), (.bool false), (.bool false), (.bool false), (.vec 2 true []), (.bool false), (.vec 1 true []), (.vec 11 true []), (.vec 12 true [])] [(6, 1, (.t 71))], none, false⟩,
  ⟨(some 73), .bslice 1 [(.str ⟨#[]⟩)] 1 [(0, (.k (.str ⟨#[98]⟩)))], none, false⟩,
  ⟨(some 74), .build [(.bool false), (.bool false), (.bool false), (.bool false), (.vec 2 true []), (.bool false), (.vec 1 true []), (.vec 11 true []), (.vec 12 true [])] [(6, 1, (.t 73))], none, false⟩,
  ⟨(some 75), .call 10 [(.t 72), (.t 74)], none, false⟩,
  ⟨(some 70), .mv (.t 75), none, false⟩,
  ⟨(some 76), .ext (.t 70) 0, none, false⟩,
  ⟨(some 77), .ext (.t 70) 1, none, false⟩,
  ⟨none, .store (.t 1) (.t 76) 9, none, false⟩,
  ⟨(some 2), .mv (.t 77), none, false⟩]
abbrev r3_20 : List MOp := [
  ⟨(some 78), .load (.t 1) 9 true, none, false⟩,
  ⟨(some 79), .mv (.t 2), none, false⟩,
  ⟨(some 80), .build [(.bool false), (.bool false), (.bool false), (.bool false), (.vec 2 true []), (.bool false), (.vec 1 true []), (.vec 11 true []), (.vec 12 true [])] [(5, 1, (.k (.bool true)))], none, false⟩,
  ⟨(some 81), .call 6 [(.t 78), (.t 79), (.t 80)], none, false⟩,
  ⟨(some 82), .un .not (.t 81), none, false⟩]
abbrev r3_21 : List MOp := [
  ⟨(some 0), .mv (.k (.bool false)), none, false⟩]
abbrev r3_22 : List MOp := [
  ⟨(some 84), .bslice 1 [(.str ⟨#[]⟩)] 2 [(0, (.k (.str ⟨#[98]⟩))), (1, (.k (.str ⟨#[97]⟩)))], none, false⟩,
  ⟨(some 85), .build [(.bool false), (.bool false), (.bool false), (.bool false), (.vec 2 true []), (.bool false), (.vec 1 true []), (.vec 11 true []), (.vec 12 true [])] [(6, 1, (.t 84))], none, false⟩,
  ⟨(some 86), .build [(.bool false), (.bool false), (.bool false), (.bool false), (.vec 2 true []), (.bool false), (.vec 1 true []), (.vec 11 true []), (.vec 12 true [])] [], none, false⟩,
  ⟨(some 87), .call 4 [(.t 85), (.t 86)], none, false⟩,
  ⟨(some 83), .mv (.t 87), none, false⟩,
  ⟨(some 88), .ext (.t 83) 0, none, false⟩,
  ⟨(some 89), .ext (.t 83) 1, none, false⟩,
  ⟨(some 2), .mv (.t 89), none, false⟩]
abbrev r3_23 : List MOp := [
  ⟨(some 90), .mv (.t 2), none, false⟩,
  ⟨(some 91), .bin .eql 0 (.t 90) (.k (.int .i64 1)), none, false⟩,
  ⟨(some 0), .mv (.t 91), none, false⟩]
abbrev m3 : MC := (.seq (.reg r3_0) (.seq (.reg r3_1) (.seq (.seq (.draw [(0, 1), (0, 2), (1, 2)] r3_2) (.cond (.t 13) (.seq (.reg r3_3) .ret) .skip)) (.seq (.reg r3_4) (.seq (.seq (.draw [(0, 1), (0, 2), (1, 2)] r3_5) (.cond (.t 24) (.seq (.reg r3_6) .ret) .skip)) (.seq (.reg r3_7) (.seq (.seq (.reg r3_8) (.cond (.t 35) (.seq (.reg r3_9) .ret) .skip)) (.seq (.reg r3_10) (.seq (.seq (.reg r3_11) (.cond (.t 47) (.seq (.reg r3_12) .ret) .skip)) (.seq (.reg r3_13) (.seq (.seq (.draw [(0, 1), (0, 2), (1, 2)] r3_14) (.cond (.t 58) (.seq (.reg r3_15) .ret) .skip)) (.seq (.reg r3_16) (.seq (.seq (.draw [(0, 1), (0, 2), (1, 2)] r3_17) (.cond (.t 69) (.seq (.reg r3_18) .ret) .skip)) (.seq (.reg r3_19) (.seq (.seq (.reg r3_20) (.cond (.t 82) (.seq (.reg r3_21) .ret) .skip)) (.seq (.reg r3_22) (.seq (.reg r3_23) .ret)))))))))))))))))
abbrev rs3 : List RV := [(.tmp 0)]
/- hallmark.lattice.Join -/
abbrev r4_0 : List MOp := [
  ⟨(some 2), .box (.t 0), none, false⟩,
  ⟨(some 3), .box (.t 1), none, false⟩,
  ⟨(some 4), .alloc [(.bool false), (.bool false), (.bool false), (.bool false), (.vec 2 true []), (.bool false), (.vec 1 true []), (.vec 11 true []), (.vec 12 true [])], none, false⟩,
  ⟨(some 5), .mv (.k (.int .i64 0)), none, false⟩]
abbrev r4_1 : List MOp := [
  ⟨(some 6), .load (.t 2) 9 true, none, false⟩,
  ⟨(some 7), .load (.t 3) 9 true, none, false⟩,
  ⟨(some 8), .bslice 9 [(.bool false), (.bool false), (.bool false), (.bool false), (.vec 2 true []), (.bool false), (.vec 1 true []), (.vec 11 true []), (.vec 12 true [])] 2 [(0, (.t 6)), (1, (.t 7))], none, false⟩,
  ⟨(some 9), .call 11 [(.t 8)], none, false⟩,
  ⟨(some 10), .un .not (.t 9), none, false⟩]
abbrev r4_2 : List MOp := [
  ⟨(some 11), .build [(.bool false), (.bool false), (.bool false), (.bool false), (.vec 2 true []), (.bool false), (.vec 1 true []), (.vec 11 true []), (.vec 12 true [])] [], none, false⟩,
  ⟨none, .store (.t 4) (.t 11) 9, none, false⟩,
  ⟨(some 5), .mv (.k (.int .i64 1)), none, false⟩]
abbrev r4_3 : List MOp := [
  ⟨(some 12), .load (.t 2) 9 true, none, false⟩,
  ⟨(some 13), .load (.t 3) 9 true, none, false⟩,
  ⟨(some 14), .call 12 [(.t 12), (.t 13)], none, false⟩,
  ⟨none, .store (.t 4) (.t 14) 9, none, false⟩,
  ⟨(some 5), .mv (.k (.int .i64 0)), none, false⟩]
abbrev m4 : MC := (.seq (.reg r4_0) (.seq (.seq (.reg r4_1) (.cond (.t 10) (.seq (.reg r4_2) .ret) .skip)) (.seq (.reg r4_3) .ret)))
abbrev rs4 : List RV := [(.cell 4 27 9 true), (.tmp 5)]
/- hallmark.hallmarklaw13.span -/
abbrev r5_0 : List MOp := [
  ⟨(some 4), .alloc [(.bool false), (.bool false), (.bool false), (.bool false), (.vec 2 true []), (.bool false), (.vec 1 true []), (.vec 11 true []), (.vec 12 true [])], none, false⟩]
abbrev r5_1 : List MOp := [
  ⟨(some 5), .mv (.t 0), none, false⟩,
  ⟨(some 6), .mv (.t 1), none, false⟩,
  ⟨(some 7), .build [(.str ⟨#[]⟩), (.str ⟨#[]⟩)] [(0, 1, (.t 5)), (1, 1, (.t 6))], none, false⟩,
  ⟨(some 8), .bslice 2 [(.str ⟨#[]⟩), (.str ⟨#[]⟩)] 1 [(0, (.t 7))], none, false⟩,
  ⟨(some 9), .build [(.bool false), (.bool false), (.bool false), (.bool false), (.vec 2 true []), (.bool false), (.vec 1 true []), (.vec 11 true []), (.vec 12 true [])] [(4, 1, (.t 8))], none, false⟩,
  ⟨none, .store (.t 4) (.t 9) 9, none, false⟩]
abbrev m5 : MC := (.seq (.reg r5_0) (.seq (.reg r5_1) .ret))
abbrev rs5 : List RV := [(.cell 4 27 9 true)]
/- hallmark.hallmarklaw13.is -/
abbrev r6_0 : List MOp := [
  ⟨(some 3), .box (.t 0), none, false⟩,
  ⟨(some 5), .box (.t 2), none, false⟩,
  ⟨(some 6), .mv (.k (.bool false)), none, false⟩]
abbrev r6_1 : List MOp := [
  ⟨(some 7), .mv (.t 1), none, false⟩,
  ⟨(some 8), .bin .eql 0 (.t 7) (.k (.int .i64 0)), none, false⟩,
  ⟨(some 9), .mv (.t 8), none, false⟩,
  ⟨(some 10), .load (.t 3) 9 true, some (9, true), false⟩,
  ⟨(some 11), .load (.t 5) 9 true, some (9, true), false⟩,
  ⟨(some 12), .call 13 [(.t 10), (.t 11)], some (9, true), false⟩,
  ⟨(some 13), .pick (.t 9) (.t 12) (.k (.bool false)), none, false⟩,
  ⟨(some 6), .mv (.t 13), none, false⟩]
abbrev m6 : MC := (.seq (.reg r6_0) (.seq (.reg r6_1) .ret))
abbrev rs6 : List RV := [(.tmp 6)]
/- hallmark.lattice.Meet -/
abbrev r7_0 : List MOp := [
  ⟨(some 2), .box (.t 0), none, false⟩,
  ⟨(some 3), .box (.t 1), none, false⟩,
  ⟨(some 4), .alloc [(.bool false), (.bool false), (.bool false), (.bool false), (.vec 2 true []), (.bool false), (.vec 1 true []), (.vec 11 true []), (.vec 12 true [])], none, false⟩,
  ⟨(some 5), .mv (.k (.int .i64 0)), none, false⟩]
abbrev r7_1 : List MOp := [
  ⟨(some 6), .load (.t 2) 9 true, none, false⟩,
  ⟨(some 7), .load (.t 3) 9 true, none, false⟩,
  ⟨(some 8), .bslice 9 [(.bool false), (.bool false), (.bool false), (.bool false), (.vec 2 true []), (.bool false), (.vec 1 true []), (.vec 11 true []), (.vec 12 true [])] 2 [(0, (.t 6)), (1, (.t 7))], none, false⟩,
  ⟨(some 9), .call 11 [(.t 8)], none, false⟩,
  ⟨(some 10), .un .not (.t 9), none, false⟩]
abbrev r7_2 : List MOp := [
  ⟨(some 11), .build [(.bool false), (.bool false), (.bool false), (.bool false), (.vec 2 true []), (.bool false), (.vec 1 true []), (.vec 11 true []), (.vec 12 true [])] [], none, false⟩,
  ⟨none, .store (.t 4) (.t 11) 9, none, false⟩,
  ⟨(some 5), .mv (.k (.int .i64 1)), none, false⟩]
abbrev r7_3 : List MOp := [
  ⟨(some 12), .load (.t 2) 9 true, none, false⟩,
  ⟨(some 13), .load (.t 3) 9 true, none, false⟩,
  ⟨(some 14), .call 15 [(.t 12), (.t 13)], none, false⟩,
  ⟨(some 15), .call 14 [(.t 14)], none, false⟩,
  ⟨none, .store (.t 4) (.t 15) 9, none, false⟩,
  ⟨(some 5), .mv (.k (.int .i64 0)), none, false⟩]
abbrev m7 : MC := (.seq (.reg r7_0) (.seq (.seq (.reg r7_1) (.cond (.t 10) (.seq (.reg r7_2) .ret) .skip)) (.seq (.reg r7_3) .ret)))
abbrev rs7 : List RV := [(.cell 4 27 9 true), (.tmp 5)]
/- hallmark.lattice.Only -/
abbrev r8_0 : List MOp := [
  ⟨(some 2), .box (.t 0), none, false⟩,
  ⟨(some 4), .alloc [(.bool false), (.bool false), (.bool false), (.bool false), (.vec 2 true []), (.bool false), (.vec 1 true []), (.vec 11 true []), (.vec 12 true [])], none, false⟩,
  ⟨(some 5), .mv (.k (.int .i64 0)), none, false⟩]
abbrev r8_1 : List MOp := [
  ⟨(some 6), .load (.t 2) 9 true, none, false⟩,
  ⟨(some 7), .bslice 9 [(.bool false), (.bool false), (.bool false), (.bool false), (.vec 2 true []), (.bool false), (.vec 1 true []), (.vec 11 true []), (.vec 12 true [])] 1 [(0, (.t 6))], none, false⟩,
  ⟨(some 8), .call 11 [(.t 7)], none, false⟩,
  ⟨(some 9), .un .not (.t 8), none, false⟩]
abbrev r8_2 : List MOp := [
  ⟨(some 10), .build [(.bool false), (.bool false), (.bool false), (.bool false), (.vec 2 true []), (.bool false), (.vec 1 true []), (.vec 11 true []), (.vec 12 true [])] [], none, false⟩,
  ⟨none, .store (.t 4) (.t 10) 9, none, false⟩,
  ⟨(some 5), .mv (.k (.int .i64 1)), none, false⟩]
abbrev r8_3 : List MOp := [
  ⟨(some 11), .load (.t 2) 9 true, none, false⟩,
  ⟨(some 12), .mv (.t 1), none, false⟩,
  ⟨(some 13), .call 16 [(.t 11), (.t 12)], none, false⟩,
  ⟨none, .store (.t 4) (.t 13) 9, none, false⟩,
  ⟨(some 5), .mv (.k (.int .i64 0)), none, false⟩]
abbrev m8 : MC := (.seq (.reg r8_0) (.seq (.seq (.reg r8_1) (.cond (.t 9) (.seq (.reg r8_2) .ret) .skip)) (.seq (.reg r8_3) .ret)))
abbrev rs8 : List RV := [(.cell 4 27 9 true), (.tmp 5)]
/- hallmark.lattice.Minus -/
abbrev r9_0 : List MOp := [
  ⟨(some 2), .box (.t 0), none, false⟩,
  ⟨(some 3), .box (.t 1), none, false⟩,
  ⟨(some 4), .alloc [(.bool false), (.bool false), (.bool false), (.bool false), (.vec 2 true []), (.bool false), (.vec 1 true []), (.vec 11 true []), (.vec 12 true [])], none, false⟩,
  ⟨(some 5), .mv (.k (.int .i64 0)), none, false⟩]
abbrev r9_1 : List MOp := [
  ⟨(some 7), .load (.t 2) 9 true, none, false⟩,
  ⟨(some 8), .bslice 9 [(.bool false), (.bool false), (.bool false), (.bool false), (.vec 2 true []), (.bool false), (.vec 1 true []), (.vec 11 true []), (.vec 12 true [])] 1 [(0, (.t 7))], none, false⟩,
  ⟨(some 9), .call 11 [(.t 8)], none, false⟩,
  ⟨(some 10), .un .not (.t 9), none, false⟩,
  ⟨(some 11), .mv (.t 10), none, false⟩,
  ⟨(some 12), .load (.t 3) 5 true, some (11, false), false⟩,
  ⟨(some 13), .call 17 [(.t 12)], some (11, false), false⟩,
  ⟨(some 14), .un .not (.t 13), some (11, false), false⟩,
  ⟨(some 15), .pick (.t 11) (.k (.bool true)) (.t 14), none, false⟩]
abbrev r9_2 : List MOp := [
  ⟨(some 16), .build [(.bool false), (.bool false), (.bool false), (.bool false), (.vec 2 true []), (.bool false), (.vec 1 true []), (.vec 11 true []), (.vec 12 true [])] [], none, false⟩,
  ⟨none, .store (.t 4) (.t 16) 9, none, false⟩,
  ⟨(some 5), .mv (.k (.int .i64 1)), none, false⟩]
abbrev r9_3 : List MOp := [
  ⟨(some 18), .faddr (.t 3) 0, none, false⟩,
  ⟨(some 19), .load (.t 18) 1 false, none, false⟩,
  ⟨(some 20), .bin .leq 0 (.t 19) (.k (.int .i64 2)), none, false⟩,
  ⟨(some 17), .mv (.t 20), none, false⟩]
abbrev r9_4 : List MOp := [
  ⟨(some 21), .load (.t 2) 9 true, none, false⟩,
  ⟨(some 22), .faddr (.t 3) 0, none, false⟩,
  ⟨(some 23), .load (.t 22) 1 false, none, false⟩,
  ⟨(some 24), .bin .shl 0 (.k (.int .u8 1)) (.t 23), none, false⟩,
  ⟨(some 25), .bin .andNot 0 (.k (.int .u8 127)) (.t 24), none, false⟩,
  ⟨(some 26), .call 16 [(.t 21), (.t 25)], none, false⟩,
  ⟨none, .store (.t 4) (.t 26) 9, none, false⟩,
  ⟨(some 5), .mv (.k (.int .i64 0)), none, false⟩]
abbrev r9_5 : List MOp := [
  ⟨(some 28), .faddr (.t 2) 0, none, false⟩,
  ⟨(some 29), .load (.t 28) 1 false, none, false⟩,
  ⟨(some 27), .mv (.t 29), none, false⟩]
abbrev r9_6 : List MOp := [
  ⟨(some 31), .faddr (.t 3) 0, none, false⟩,
  ⟨(some 32), .load (.t 31) 1 false, none, false⟩,
  ⟨(some 33), .bin .eql 0 (.t 32) (.k (.int .i64 3)), none, false⟩,
  ⟨(some 34), .mv (.t 33), none, false⟩,
  ⟨(some 35), .faddr (.t 2) 4, some (34, true), true⟩,
  ⟨(some 36), .load (.t 35) 1 false, some (34, true), true⟩,
  ⟨(some 37), .len (.t 36), some (34, true), true⟩,
  ⟨(some 38), .bin .gtr 0 (.t 37) (.k (.int .i64 0)), some (34, true), true⟩,
  ⟨(some 39), .pick (.t 34) (.t 38) (.k (.bool false)), none, false⟩,
  ⟨(some 30), .mv (.t 39), none, false⟩]
abbrev r9_7 : List MOp := [
  ⟨(some 40), .faddr (.t 2) 4, none, false⟩,
  ⟨(some 41), .load (.t 40) 1 false, none, false⟩,
  ⟨(some 42), .iaddr (.t 41) (.k (.int .i64 0)) 2, none, false⟩,
  ⟨(some 43), .load (.t 42) 2 true, none, false⟩,
  ⟨(some 44), .faddr (.t 3) 1, none, false⟩,
  ⟨(some 45), .load (.t 44) 1 false, none, false⟩,
  ⟨(some 46), .call 18 [(.t 43), (.t 45)], none, false⟩,
  ⟨(some 47), .faddr (.t 2) 4, none, false⟩,
  ⟨none, .store (.t 47) (.t 46) 1, none, false⟩]
abbrev r9_8 : List MOp := [
  ⟨(some 49), .faddr (.t 3) 0, none, false⟩,
  ⟨(some 50), .load (.t 49) 1 false, none, false⟩,
  ⟨(some 51), .bin .eql 0 (.t 50) (.k (.int .i64 4)), none, false⟩,
  ⟨(some 48), .mv (.t 51), none, false⟩]
abbrev r9_9 : List MOp := [
  ⟨(some 52), .faddr (.t 2) 6, none, false⟩,
  ⟨(some 53), .load (.t 52) 1 false, none, false⟩,
  ⟨(some 54), .call 20 [(.t 53)], none, false⟩,
  ⟨(some 55), .mkfn 21 [] [(.t 3)], none, false⟩,
  ⟨(some 56), .call 19 [(.t 54), (.t 55)], none, false⟩,
  ⟨(some 57), .faddr (.t 2) 6, none, false⟩,
  ⟨none, .store (.t 57) (.t 56) 1, none, false⟩]
abbrev r9_10 : List MOp := [
  ⟨(some 59), .faddr (.t 3) 0, none, false⟩,
  ⟨(some 60), .load (.t 59) 1 false, none, false⟩,
  ⟨(some 61), .bin .eql 0 (.t 60) (.k (.int .i64 5)), none, false⟩,
  ⟨(some 62), .mv (.t 61), none, false⟩,
  ⟨(some 63), .faddr (.t 3) 3, some (62, true), false⟩,
  ⟨(some 64), .load (.t 63) 1 false, some (62, true), false⟩,
  ⟨(some 65), .len (.t 64), some (62, true), false⟩,
  ⟨(some 66), .bin .eql 0 (.t 65) (.k (.int .i64 0)), some (62, true), false⟩,
  ⟨(some 67), .pick (.t 62) (.t 66) (.k (.bool false)), none, false⟩,
  ⟨(some 68), .mv (.t 67), none, false⟩,
  ⟨(some 69), .faddr (.t 2) 7, some (68, true), false⟩,
  ⟨(some 70), .load (.t 69) 1 false, some (68, true), false⟩,
  ⟨(some 71), .len (.t 70), some (68, true), false⟩,
  ⟨(some 72), .bin .gtr 0 (.t 71) (.k (.int .i64 0)), some (68, true), false⟩,
  ⟨(some 73), .pick (.t 68) (.t 72) (.k (.bool false)), none, false⟩,
  ⟨(some 74), .mv (.t 73), none, false⟩,
  ⟨(some 75), .faddr (.t 2) 7, some (74, true), false⟩,
  ⟨(some 76), .load (.t 75) 1 false, some (74, true), false⟩,
  ⟨(some 77), .iaddr (.t 76) (.k (.int .i64 0)) 11, some (74, true), false⟩,
  ⟨(some 78), .faddr (.t 77) 9, some (74, true), false⟩,
  ⟨(some 79), .load (.t 78) 1 false, some (74, true), false⟩,
  ⟨(some 80), .bin .eql 0 (.t 79) (.k (.int .i64 0)), some (74, true), false⟩,
  ⟨(some 81), .pick (.t 74) (.t 80) (.k (.bool false)), none, false⟩,
  ⟨(some 58), .mv (.t 81), none, false⟩]
abbrev r9_11 : List MOp := [
  ⟨(some 82), .faddr (.t 2) 7, none, false⟩,
  ⟨(some 83), .load (.t 82) 1 false, none, false⟩,
  ⟨(some 84), .iaddr (.t 83) (.k (.int .i64 0)) 11, none, false⟩,
  ⟨(some 85), .load (.t 84) 11 true, none, false⟩,
  ⟨(some 6), .alloc [(.bool false), (.bool false), (.bool false), (.bool false), (.vec 2 true []), (.bool false), (.vec 1 true []), (.vec 11 true []), (.vec 12 true []), (.int .i64 0), (.int .i64 0)], none, false⟩,
  ⟨none, .store (.t 6) (.t 85) 11, none, false⟩]
abbrev r9_12 : List MOp := [
  ⟨(some 86), .faddr (.t 6) 9, none, false⟩,
  ⟨none, .store (.t 86) (.k (.int .i64 1)) 1, none, false⟩]
abbrev r9_13 : List MOp := [
  ⟨(some 87), .load (.t 6) 11 true, none, false⟩,
  ⟨(some 88), .bslice 11 [(.bool false), (.bool false), (.bool false), (.bool false), (.vec 2 true []), (.bool false), (.vec 1 true []), (.vec 11 true []), (.vec 12 true []), (.int .i64 0), (.int .i64 0)] 1 [(0, (.t 87))], none, false⟩,
  ⟨(some 89), .faddr (.t 2) 7, none, false⟩,
  ⟨none, .store (.t 89) (.t 88) 1, none, false⟩]
abbrev r9_14 : List MOp := [
  ⟨(some 90), .faddr (.t 6) 10, none, false⟩,
  ⟨(some 91), .load (.t 90) 1 false, none, false⟩,
  ⟨(some 92), .bin .eql 0 (.t 91) (.k (.int .i64 0)), none, false⟩]
abbrev r9_15 : List MOp := [
  ⟨(some 93), .faddr (.t 2) 7, none, false⟩,
  ⟨none, .store (.t 93) (.k (.vec 11 true [])) 1, none, false⟩]
abbrev r9_16 : List MOp := [
  ⟨(some 94), .load (.t 2) 9 true, none, false⟩,
  ⟨(some 95), .call 14 [(.t 94)], none, false⟩,
  ⟨none, .store (.t 4) (.t 95) 9, none, false⟩,
  ⟨(some 5), .mv (.k (.int .i64 0)), none, false⟩]
abbrev m9 : MC := (.seq (.reg r9_0) (.seq (.seq (.reg r9_1) (.cond (.t 15) (.seq (.reg r9_2) .ret) .skip)) (.seq (.block 0 (.seq (.reg r9_3) (.cond (.t 17) (.seq (.draw [(0, 1), (0, 2), (0, 3), (0, 4)] r9_4) .ret) (.seq (.reg r9_5) (.cond (.t 27) .skip (.seq (.reg r9_6) (.cond (.t 30) (.draw [(0, 4), (1, 4), (2, 4), (3, 4), (0, 5), (1, 5), (2, 5), (3, 5)] r9_7) (.seq (.reg r9_8) (.cond (.t 48) (.reg r9_9) (.seq (.reg r9_10) (.cond (.t 58) (.seq (.reg r9_11) (.seq (.reg r9_12) (.seq (.reg r9_13) (.seq (.reg r9_14) (.cond (.t 92) (.reg r9_15) .skip))))) .skip))))))))))) (.seq (.reg r9_16) .ret))))
abbrev rs9 : List RV := [(.cell 4 27 9 true), (.tmp 5)]
/- hallmark.lattice.Widen -/
abbrev r10_0 : List MOp := [
  ⟨(some 2), .box (.t 0), none, false⟩,
  ⟨(some 3), .box (.t 1), none, false⟩,
  ⟨(some 4), .alloc [(.bool false), (.bool false), (.bool false), (.bool false), (.vec 2 true []), (.bool false), (.vec 1 true []), (.vec 11 true []), (.vec 12 true [])], none, false⟩,
  ⟨(some 5), .mv (.k (.int .i64 0)), none, false⟩]
abbrev r10_1 : List MOp := [
  ⟨(some 6), .load (.t 2) 9 true, none, false⟩,
  ⟨(some 7), .load (.t 3) 9 true, none, false⟩,
  ⟨(some 8), .bslice 9 [(.bool false), (.bool false), (.bool false), (.bool false), (.vec 2 true []), (.bool false), (.vec 1 true []), (.vec 11 true []), (.vec 12 true [])] 2 [(0, (.t 6)), (1, (.t 7))], none, false⟩,
  ⟨(some 9), .call 11 [(.t 8)], none, false⟩,
  ⟨(some 10), .un .not (.t 9), none, false⟩]
abbrev r10_2 : List MOp := [
  ⟨(some 11), .build [(.bool false), (.bool false), (.bool false), (.bool false), (.vec 2 true []), (.bool false), (.vec 1 true []), (.vec 11 true []), (.vec 12 true [])] [], none, false⟩,
  ⟨none, .store (.t 4) (.t 11) 9, none, false⟩,
  ⟨(some 5), .mv (.k (.int .i64 1)), none, false⟩]
abbrev r10_3 : List MOp := [
  ⟨(some 12), .load (.t 2) 9 true, none, false⟩,
  ⟨(some 13), .load (.t 3) 9 true, none, false⟩,
  ⟨(some 14), .call 23 [], none, false⟩,
  ⟨(some 15), .call 22 [(.t 12), (.t 13), (.t 14)], none, false⟩,
  ⟨none, .store (.t 4) (.t 15) 9, none, false⟩,
  ⟨(some 5), .mv (.k (.int .i64 0)), none, false⟩]
abbrev m10 : MC := (.seq (.reg r10_0) (.seq (.seq (.reg r10_1) (.cond (.t 10) (.seq (.reg r10_2) .ret) .skip)) (.seq (.draw [(0, 1), (0, 2), (1, 2)] r10_3) .ret)))
abbrev rs10 : List RV := [(.cell 4 27 9 true), (.tmp 5)]
/- hallmark.lattice.formed -/
abbrev r11_0 : List MOp := [
  ⟨(some 2), .mv (.k (.bool false)), none, false⟩]
abbrev r11_1 : List MOp := [
  ⟨(some 5), .mv (.t 0), none, false⟩,
  ⟨(some 6), .len (.t 5), none, false⟩,
  ⟨(some 7), .mv (.k (.int .i64 0)), none, false⟩]
abbrev r11_2 : List MOp := [
  ⟨(some 8), .bin .lss 0 (.t 7) (.t 6), none, false⟩]
abbrev r11_3 : List MOp := [
  ⟨(some 9), .iaddr (.t 5) (.t 7) 9, none, false⟩,
  ⟨(some 10), .load (.t 9) 9 true, none, false⟩,
  ⟨(some 4), .alloc [(.bool false), (.bool false), (.bool false), (.bool false), (.vec 2 true []), (.bool false), (.vec 1 true []), (.vec 11 true []), (.vec 12 true [])], none, false⟩,
  ⟨none, .store (.t 4) (.t 10) 9, none, false⟩]
abbrev r11_4 : List MOp := [
  ⟨(some 11), .load (.t 4) 9 true, none, false⟩,
  ⟨(some 12), .call 24 [(.t 11)], none, false⟩,
  ⟨(some 13), .un .not (.t 12), none, false⟩]
abbrev r11_5 : List MOp := [
  ⟨(some 2), .mv (.k (.bool false)), none, false⟩]
abbrev r11_6 : List MOp := [
  ⟨(some 14), .bin .add 0 (.t 7) (.k (.int .i64 1)), none, false⟩,
  ⟨(some 7), .mv (.t 14), none, false⟩]
abbrev b11_7 : MC := (.seq (.reg r11_2) (.seq (.cond (.t 8) .skip (.exit 0)) (.seq (.block 1 (.seq (.reg r11_3) (.seq (.reg r11_4) (.cond (.t 13) (.seq (.reg r11_5) .ret) .skip)))) (.reg r11_6))))
abbrev r11_8 : List MOp := [
  ⟨(some 2), .mv (.k (.bool true)), none, false⟩]
abbrev m11 : MC := (.seq (.reg r11_0) (.seq (.seq (.reg r11_1) (.block 0 (.loop b11_7))) (.seq (.reg r11_8) .ret)))
abbrev rs11 : List RV := [(.tmp 2)]
/- hallmark.lattice.join -/
abbrev r12_0 : List MOp := [
  ⟨(some 2), .box (.t 0), none, false⟩,
  ⟨(some 3), .box (.t 1), none, false⟩,
  ⟨(some 4), .alloc [(.bool false), (.bool false), (.bool false), (.bool false), (.vec 2 true []), (.bool false), (.vec 1 true []), (.vec 11 true []), (.vec 12 true [])], none, false⟩]
abbrev r12_1 : List MOp := [
  ⟨(some 8), .load (.t 2) 9 true, none, false⟩,
  ⟨(some 9), .load (.t 3) 9 true, none, false⟩,
  ⟨(some 10), .call 25 [(.t 8), (.t 9)], none, false⟩,
  ⟨(some 7), .mv (.t 10), none, false⟩,
  ⟨(some 11), .ext (.t 7) 0, none, false⟩,
  ⟨(some 12), .ext (.t 7) 1, none, false⟩,
  ⟨(some 5), .alloc [(.bool false), (.bool false), (.bool false), (.bool false), (.vec 2 true []), (.bool false), (.vec 1 true []), (.vec 11 true []), (.vec 12 true [])], none, false⟩,
  ⟨none, .store (.t 5) (.t 11) 9, none, false⟩,
  ⟨(some 6), .mv (.t 12), none, false⟩]
abbrev r12_2 : List MOp := [
  ⟨(some 13), .load (.t 5) 9 true, none, false⟩,
  ⟨(some 14), .call 14 [(.t 13)], none, false⟩,
  ⟨none, .store (.t 4) (.t 14) 9, none, false⟩]
abbrev m12 : MC := (.seq (.reg r12_0) (.seq (.reg r12_1) (.seq (.reg r12_2) .ret)))
abbrev rs12 : List RV := [(.cell 4 27 9 true)]
/- hallmark.hallmarkkit.SameType -/
abbrev r13_0 : List MOp := [
  ⟨(some 2), .box (.t 0), none, false⟩,
  ⟨(some 3), .box (.t 1), none, false⟩,
  ⟨(some 4), .mv (.k (.bool false)), none, false⟩]
abbrev r13_1 : List MOp := [
  ⟨(some 5), .faddr (.t 2) 0, none, false⟩,
  ⟨(some 6), .load (.t 5) 1 false, none, false⟩,
  ⟨(some 7), .faddr (.t 3) 0, none, false⟩,
  ⟨(some 8), .load (.t 7) 1 false, none, false⟩,
  ⟨(some 9), .bin .neq 1 (.t 6) (.t 8), none, false⟩,
  ⟨(some 10), .mv (.t 9), none, false⟩,
  ⟨(some 11), .faddr (.t 2) 1, some (10, false), true⟩,
  ⟨(some 12), .load (.t 11) 1 false, some (10, false), true⟩,
  ⟨(some 13), .faddr (.t 3) 1, some (10, false), true⟩,
  ⟨(some 14), .load (.t 13) 1 false, some (10, false), true⟩,
  ⟨(some 15), .bin .neq 1 (.t 12) (.t 14), some (10, false), true⟩,
  ⟨(some 16), .pick (.t 10) (.k (.bool true)) (.t 15), none, false⟩,
  ⟨(some 17), .mv (.t 16), none, false⟩,
  ⟨(some 18), .faddr (.t 2) 2, some (17, false), true⟩,
  ⟨(some 19), .load (.t 18) 1 false, some (17, false), true⟩,
  ⟨(some 20), .faddr (.t 3) 2, some (17, false), true⟩,
  ⟨(some 21), .load (.t 20) 1 false, some (17, false), true⟩,
  ⟨(some 22), .bin .neq 1 (.t 19) (.t 21), some (17, false), true⟩,
  ⟨(some 23), .pick (.t 17) (.k (.bool true)) (.t 22), none, false⟩,
  ⟨(some 24), .mv (.t 23), none, false⟩,
  ⟨(some 25), .faddr (.t 2) 3, some (24, false), true⟩,
  ⟨(some 26), .load (.t 25) 1 false, some (24, false), true⟩,
  ⟨(some 27), .faddr (.t 3) 3, some (24, false), true⟩,
  ⟨(some 28), .load (.t 27) 1 false, some (24, false), true⟩,
  ⟨(some 29), .bin .neq 1 (.t 26) (.t 28), some (24, false), true⟩,
  ⟨(some 30), .pick (.t 24) (.k (.bool true)) (.t 29), none, false⟩,
  ⟨(some 31), .mv (.t 30), none, false⟩,
  ⟨(some 32), .faddr (.t 2) 5, some (31, false), true⟩,
  ⟨(some 33), .load (.t 32) 1 false, some (31, false), true⟩,
  ⟨(some 34), .faddr (.t 3) 5, some (31, false), true⟩,
  ⟨(some 35), .load (.t 34) 1 false, some (31, false), true⟩,
  ⟨(some 36), .bin .neq 1 (.t 33) (.t 35), some (31, false), true⟩,
  ⟨(some 37), .pick (.t 31) (.k (.bool true)) (.t 36), none, false⟩]
abbrev r13_2 : List MOp := [
  ⟨(some 4), .mv (.k (.bool false)), none, false⟩]
abbrev r13_3 : List MOp := [
  ⟨(some 38), .faddr (.t 2) 4, none, false⟩,
  ⟨(some 39), .load (.t 38) 1 false, none, false⟩,
  ⟨(some 40), .faddr (.t 3) 4, none, false⟩,
  ⟨(some 41), .load (.t 40) 1 false, none, false⟩,
  ⟨(some 42), .call 26 [(.t 39), (.t 41)], none, false⟩,
  ⟨(some 43), .un .not (.t 42), none, false⟩]
abbrev r13_4 : List MOp := [
  ⟨(some 4), .mv (.k (.bool false)), none, false⟩]
abbrev r13_5 : List MOp := [
  ⟨(some 44), .faddr (.t 2) 6, none, false⟩,
  ⟨(some 45), .load (.t 44) 1 false, none, false⟩,
  ⟨(some 46), .faddr (.t 3) 6, none, false⟩,
  ⟨(some 47), .load (.t 46) 1 false, none, false⟩,
  ⟨(some 48), .call 27 [(.t 45), (.t 47)], none, false⟩,
  ⟨(some 49), .un .not (.t 48), none, false⟩]
abbrev r13_6 : List MOp := [
  ⟨(some 4), .mv (.k (.bool false)), none, false⟩]
abbrev r13_7 : List MOp := [
  ⟨(some 50), .faddr (.t 2) 7, none, false⟩,
  ⟨(some 51), .load (.t 50) 1 false, none, false⟩,
  ⟨(some 52), .faddr (.t 3) 7, none, false⟩,
  ⟨(some 53), .load (.t 52) 1 false, none, false⟩,
  ⟨(some 54), .call 28 [(.t 51), (.t 53)], none, false⟩,
  ⟨(some 55), .un .not (.t 54), none, false⟩]
abbrev r13_8 : List MOp := [
  ⟨(some 4), .mv (.k (.bool false)), none, false⟩]
abbrev r13_9 : List MOp := [
  ⟨(some 56), .faddr (.t 2) 8, none, false⟩,
  ⟨(some 57), .load (.t 56) 1 false, none, false⟩,
  ⟨(some 58), .faddr (.t 3) 8, none, false⟩,
  ⟨(some 59), .load (.t 58) 1 false, none, false⟩,
  ⟨(some 60), .call 29 [(.t 57), (.t 59)], none, false⟩,
  ⟨(some 61), .un .not (.t 60), none, false⟩]
abbrev r13_10 : List MOp := [
  ⟨(some 4), .mv (.k (.bool false)), none, false⟩]
abbrev r13_11 : List MOp := [
  ⟨(some 4), .mv (.k (.bool true)), none, false⟩]
abbrev m13 : MC := (.seq (.reg r13_0) (.seq (.seq (.reg r13_1) (.cond (.t 37) (.seq (.reg r13_2) .ret) .skip)) (.seq (.seq (.reg r13_3) (.cond (.t 43) (.seq (.reg r13_4) .ret) .skip)) (.seq (.seq (.reg r13_5) (.cond (.t 49) (.seq (.reg r13_6) .ret) .skip)) (.seq (.seq (.reg r13_7) (.cond (.t 55) (.seq (.reg r13_8) .ret) .skip)) (.seq (.seq (.reg r13_9) (.cond (.t 61) (.seq (.reg r13_10) .ret) .skip)) (.seq (.reg r13_11) .ret)))))))
abbrev rs13 : List RV := [(.tmp 4)]
/- hallmark.lattice.tidied -/
abbrev r14_0 : List MOp := [
  ⟨(some 1), .box (.t 0), none, false⟩,
  ⟨(some 2), .alloc [(.bool false), (.bool false), (.bool false), (.bool false), (.vec 2 true []), (.bool false), (.vec 1 true []), (.vec 11 true []), (.vec 12 true [])], none, false⟩]
abbrev r14_1 : List MOp := [
  ⟨(some 6), .load (.t 1) 9 true, none, false⟩,
  ⟨(some 7), .call 30 [(.t 6)], none, false⟩,
  ⟨(some 5), .mv (.t 7), none, false⟩,
  ⟨(some 8), .ext (.t 5) 0, none, false⟩,
  ⟨(some 9), .ext (.t 5) 1, none, false⟩,
  ⟨(some 3), .alloc [(.bool false), (.bool false), (.bool false), (.bool false), (.vec 2 true []), (.bool false), (.vec 1 true []), (.vec 11 true []), (.vec 12 true [])], none, false⟩,
  ⟨none, .store (.t 3) (.t 8) 9, none, false⟩,
  ⟨(some 4), .mv (.t 9), none, false⟩]
abbrev r14_2 : List MOp := [
  ⟨(some 10), .load (.t 3) 9 true, none, false⟩,
  ⟨none, .store (.t 2) (.t 10) 9, none, false⟩]
abbrev m14 : MC := (.seq (.reg r14_0) (.seq (.reg r14_1) (.seq (.reg r14_2) .ret)))
abbrev rs14 : List RV := [(.cell 2 27 9 true)]
/- hallmark.lattice.common -/
abbrev r15_0 : List MOp := [
  ⟨(some 2), .box (.t 0), none, false⟩,
  ⟨(some 3), .box (.t 1), none, false⟩,
  ⟨(some 4), .alloc [(.bool false), (.bool false), (.bool false), (.bool false), (.vec 2 true []), (.bool false), (.vec 1 true []), (.vec 11 true []), (.vec 12 true [])], none, false⟩]
abbrev r15_1 : List MOp := [
  ⟨(some 6), .faddr (.t 2) 0, none, false⟩,
  ⟨(some 7), .load (.t 6) 1 false, none, false⟩,
  ⟨(some 5), .mv (.t 7), none, false⟩]
abbrev r15_2 : List MOp := [
  ⟨(some 8), .load (.t 3) 9 true, none, false⟩,
  ⟨(some 9), .call 31 [(.t 8)], none, false⟩,
  ⟨none, .store (.t 4) (.t 9) 9, none, false⟩]
abbrev r15_3 : List MOp := [
  ⟨(some 11), .faddr (.t 3) 0, none, false⟩,
  ⟨(some 12), .load (.t 11) 1 false, none, false⟩,
  ⟨(some 10), .mv (.t 12), none, false⟩]
abbrev r15_4 : List MOp := [
  ⟨(some 13), .load (.t 2) 9 true, none, false⟩,
  ⟨(some 14), .call 31 [(.t 13)], none, false⟩,
  ⟨none, .store (.t 4) (.t 14) 9, none, false⟩]
abbrev r15_5 : List MOp := [
  ⟨(some 15), .load (.t 2) 9 true, none, false⟩,
  ⟨(some 16), .load (.t 3) 9 true, none, false⟩,
  ⟨(some 17), .call 33 [], none, false⟩,
  ⟨(some 18), .call 32 [(.t 15), (.t 16), (.t 17)], none, false⟩,
  ⟨none, .store (.t 4) (.t 18) 9, none, false⟩]
abbrev m15 : MC := (.seq (.reg r15_0) (.seq (.block 0 (.seq (.reg r15_1) (.cond (.t 5) (.seq (.reg r15_2) .ret) (.seq (.reg r15_3) (.cond (.t 10) (.seq (.reg r15_4) .ret) .skip))))) (.seq (.draw [(0, 1), (0, 2), (1, 2)] r15_5) .ret)))
abbrev rs15 : List RV := [(.cell 4 27 9 true)]
/- hallmark.lattice.only -/
abbrev r16_0 : List MOp := [
  ⟨(some 2), .box (.t 0), none, false⟩,
  ⟨(some 3), .box (.t 1), none, false⟩,
  ⟨(some 4), .alloc [(.bool false), (.bool false), (.bool false), (.bool false), (.vec 2 true []), (.bool false), (.vec 1 true []), (.vec 11 true []), (.vec 12 true [])], none, false⟩]
abbrev r16_1 : List MOp := [
  ⟨(some 6), .faddr (.t 2) 0, none, false⟩,
  ⟨(some 7), .load (.t 6) 1 false, none, false⟩]
abbrev r16_2 : List MOp := [
  ⟨(some 8), .load (.t 3) 1 false, none, false⟩,
  ⟨(some 9), .call 34 [(.t 8)], none, false⟩,
  ⟨none, .store (.t 4) (.t 9) 9, none, false⟩]
abbrev r16_3 : List MOp := [
  ⟨(some 10), .mkfn 35 [] [(.t 3)], none, false⟩,
  ⟨(some 5), .mv (.t 10), none, false⟩]
abbrev r16_4 : List MOp := [
  ⟨(some 11), .faddr (.t 2) 1, none, false⟩,
  ⟨(some 12), .load (.t 11) 1 false, none, false⟩,
  ⟨(some 13), .mv (.t 12), none, false⟩,
  ⟨(some 14), .mv (.t 5), some (13, true), false⟩,
  ⟨(some 15), .dcall (.t 14) [(.k (.int .i64 0))], some (13, true), false⟩,
  ⟨(some 16), .pick (.t 13) (.t 15) (.k (.bool false)), none, false⟩,
  ⟨(some 17), .faddr (.t 2) 1, none, false⟩,
  ⟨none, .store (.t 17) (.t 16) 1, none, false⟩]
abbrev r16_5 : List MOp := [
  ⟨(some 18), .faddr (.t 2) 2, none, false⟩,
  ⟨(some 19), .load (.t 18) 1 false, none, false⟩,
  ⟨(some 20), .mv (.t 19), none, false⟩,
  ⟨(some 21), .mv (.t 5), some (20, true), false⟩,
  ⟨(some 22), .dcall (.t 21) [(.k (.int .i64 1))], some (20, true), false⟩,
  ⟨(some 23), .pick (.t 20) (.t 22) (.k (.bool false)), none, false⟩,
  ⟨(some 24), .faddr (.t 2) 2, none, false⟩,
  ⟨none, .store (.t 24) (.t 23) 1, none, false⟩]
abbrev r16_6 : List MOp := [
  ⟨(some 25), .faddr (.t 2) 3, none, false⟩,
  ⟨(some 26), .load (.t 25) 1 false, none, false⟩,
  ⟨(some 27), .mv (.t 26), none, false⟩,
  ⟨(some 28), .mv (.t 5), some (27, true), false⟩,
  ⟨(some 29), .dcall (.t 28) [(.k (.int .i64 2))], some (27, true), false⟩,
  ⟨(some 30), .pick (.t 27) (.t 29) (.k (.bool false)), none, false⟩,
  ⟨(some 31), .faddr (.t 2) 3, none, false⟩,
  ⟨none, .store (.t 31) (.t 30) 1, none, false⟩]
abbrev r16_7 : List MOp := [
  ⟨(some 32), .mv (.t 5), none, false⟩,
  ⟨(some 33), .dcall (.t 32) [(.k (.int .i64 3))], none, false⟩,
  ⟨(some 34), .un .not (.t 33), none, false⟩]
abbrev r16_8 : List MOp := [
  ⟨(some 35), .faddr (.t 2) 4, none, false⟩,
  ⟨none, .store (.t 35) (.k (.vec 2 true [])) 1, none, false⟩]
abbrev r16_9 : List MOp := [
  ⟨(some 36), .mv (.t 5), none, false⟩,
  ⟨(some 37), .dcall (.t 36) [(.k (.int .i64 4))], none, false⟩,
  ⟨(some 38), .un .not (.t 37), none, false⟩]
abbrev r16_10 : List MOp := [
  ⟨(some 39), .faddr (.t 2) 5, none, false⟩,
  ⟨none, .store (.t 39) (.k (.bool false)) 1, none, false⟩,
  ⟨(some 40), .faddr (.t 2) 6, none, false⟩,
  ⟨none, .store (.t 40) (.k (.vec 1 true [])) 1, none, false⟩]
abbrev r16_11 : List MOp := [
  ⟨(some 41), .mv (.t 5), none, false⟩,
  ⟨(some 42), .dcall (.t 41) [(.k (.int .i64 5))], none, false⟩,
  ⟨(some 43), .un .not (.t 42), none, false⟩]
abbrev r16_12 : List MOp := [
  ⟨(some 44), .faddr (.t 2) 7, none, false⟩,
  ⟨none, .store (.t 44) (.k (.vec 11 true [])) 1, none, false⟩]
abbrev r16_13 : List MOp := [
  ⟨(some 45), .mv (.t 5), none, false⟩,
  ⟨(some 46), .dcall (.t 45) [(.k (.int .i64 6))], none, false⟩,
  ⟨(some 47), .un .not (.t 46), none, false⟩]
abbrev r16_14 : List MOp := [
  ⟨(some 48), .faddr (.t 2) 8, none, false⟩,
  ⟨none, .store (.t 48) (.k (.vec 12 true [])) 1, none, false⟩]
abbrev r16_15 : List MOp := [
  ⟨(some 49), .load (.t 2) 9 true, none, false⟩,
  ⟨(some 50), .call 14 [(.t 49)], none, false⟩,
  ⟨none, .store (.t 4) (.t 50) 9, none, false⟩]
abbrev m16 : MC := (.seq (.reg r16_0) (.seq (.seq (.reg r16_1) (.cond (.t 7) (.seq (.reg r16_2) .ret) .skip)) (.seq (.reg r16_3) (.seq (.reg r16_4) (.seq (.reg r16_5) (.seq (.reg r16_6) (.seq (.seq (.reg r16_7) (.cond (.t 34) (.reg r16_8) .skip)) (.seq (.seq (.reg r16_9) (.cond (.t 38) (.reg r16_10) .skip)) (.seq (.seq (.reg r16_11) (.cond (.t 43) (.reg r16_12) .skip)) (.seq (.seq (.reg r16_13) (.cond (.t 47) (.reg r16_14) .skip)) (.seq (.reg r16_15) .ret)))))))))))
abbrev rs16 : List RV := [(.cell 4 27 9 true)]
/- hallmark.value.Formed -/
abbrev r17_0 : List MOp := [
  ⟨(some 1), .box (.t 0), none, false⟩,
  ⟨(some 2), .mv (.k (.bool false)), none, false⟩]
abbrev r17_1 : List MOp := [
  ⟨(some 3), .faddr (.t 1) 0, none, false⟩,
  ⟨(some 4), .load (.t 3) 1 false, none, false⟩]
abbrev r17_2 : List MOp := [
  ⟨(some 6), .bin .eql 0 (.t 4) (.k (.int .i64 0)), none, false⟩,
  ⟨(some 5), .mv (.t 6), none, false⟩]
abbrev r17_3 : List MOp := [
  ⟨(some 7), .bin .eql 0 (.t 4) (.k (.int .i64 1)), none, false⟩,
  ⟨(some 5), .mv (.t 7), none, false⟩]
abbrev r17_4 : List MOp := [
  ⟨(some 8), .bin .eql 0 (.t 4) (.k (.int .i64 2)), none, false⟩,
  ⟨(some 5), .mv (.t 8), none, false⟩]
abbrev r17_5 : List MOp := [
  ⟨(some 9), .load (.t 1) 5 true, none, false⟩,
  ⟨(some 10), .call 36 [(.t 9), (.k (.bool false)), (.k (.bool false)), (.k (.bool false)), (.k (.bool false))], none, false⟩,
  ⟨(some 2), .mv (.t 10), none, false⟩]
abbrev r17_6 : List MOp := [
  ⟨(some 12), .bin .eql 0 (.t 4) (.k (.int .i64 3)), none, false⟩,
  ⟨(some 11), .mv (.t 12), none, false⟩]
abbrev r17_7 : List MOp := [
  ⟨(some 13), .load (.t 1) 5 true, none, false⟩,
  ⟨(some 14), .call 36 [(.t 13), (.k (.bool true)), (.k (.bool false)), (.k (.bool false)), (.k (.bool false))], none, false⟩,
  ⟨(some 15), .mv (.t 14), none, false⟩,
  ⟨(some 16), .faddr (.t 1) 1, some (15, true), false⟩,
  ⟨(some 17), .load (.t 16) 1 false, some (15, true), false⟩,
  ⟨(some 18), .call 37 [(.t 17)], some (15, true), false⟩,
  ⟨(some 19), .pick (.t 15) (.t 18) (.k (.bool false)), none, false⟩,
  ⟨(some 2), .mv (.t 19), none, false⟩]
abbrev r17_8 : List MOp := [
  ⟨(some 21), .bin .eql 0 (.t 4) (.k (.int .i64 4)), none, false⟩,
  ⟨(some 20), .mv (.t 21), none, false⟩]
abbrev r17_9 : List MOp := [
  ⟨(some 22), .load (.t 1) 5 true, none, false⟩,
  ⟨(some 23), .call 36 [(.t 22), (.k (.bool false)), (.k (.bool true)), (.k (.bool false)), (.k (.bool false))], none, false⟩,
  ⟨(some 24), .mv (.t 23), none, false⟩,
  ⟨(some 25), .faddr (.t 1) 2, some (24, true), false⟩,
  ⟨(some 26), .load (.t 25) 1 false, some (24, true), false⟩,
  ⟨(some 27), .call 38 [(.t 26)], some (24, true), false⟩,
  ⟨(some 28), .pick (.t 24) (.t 27) (.k (.bool false)), none, false⟩,
  ⟨(some 2), .mv (.t 28), none, false⟩]
abbrev r17_10 : List MOp := [
  ⟨(some 30), .bin .eql 0 (.t 4) (.k (.int .i64 5)), none, false⟩,
  ⟨(some 29), .mv (.t 30), none, false⟩]
abbrev r17_11 : List MOp := [
  ⟨(some 31), .load (.t 1) 5 true, none, false⟩,
  ⟨(some 32), .call 36 [(.t 31), (.k (.bool false)), (.k (.bool false)), (.k (.bool true)), (.k (.bool false))], none, false⟩,
  ⟨(some 33), .mv (.t 32), none, false⟩,
  ⟨(some 34), .faddr (.t 1) 3, some (33, true), false⟩,
  ⟨(some 35), .load (.t 34) 1 false, some (33, true), false⟩,
  ⟨(some 36), .call 39 [(.t 35)], some (33, true), false⟩,
  ⟨(some 37), .pick (.t 33) (.t 36) (.k (.bool false)), none, false⟩,
  ⟨(some 2), .mv (.t 37), none, false⟩]
abbrev r17_12 : List MOp := [
  ⟨(some 39), .bin .eql 0 (.t 4) (.k (.int .i64 6)), none, false⟩,
  ⟨(some 38), .mv (.t 39), none, false⟩]
abbrev r17_13 : List MOp := [
  ⟨(some 40), .load (.t 1) 5 true, none, false⟩,
  ⟨(some 41), .call 36 [(.t 40), (.k (.bool false)), (.k (.bool false)), (.k (.bool true)), (.k (.bool true))], none, false⟩,
  ⟨(some 42), .mv (.t 41), none, false⟩,
  ⟨(some 43), .faddr (.t 1) 3, some (42, true), false⟩,
  ⟨(some 44), .load (.t 43) 1 false, some (42, true), false⟩,
  ⟨(some 45), .len (.t 44), some (42, true), false⟩,
  ⟨(some 46), .faddr (.t 1) 4, some (42, true), false⟩,
  ⟨(some 47), .load (.t 46) 1 false, some (42, true), false⟩,
  ⟨(some 48), .len (.t 47), some (42, true), false⟩,
  ⟨(some 49), .bin .eql 0 (.t 45) (.t 48), some (42, true), false⟩,
  ⟨(some 50), .pick (.t 42) (.t 49) (.k (.bool false)), none, false⟩,
  ⟨(some 51), .mv (.t 50), none, false⟩,
  ⟨(some 52), .faddr (.t 1) 4, some (51, true), false⟩,
  ⟨(some 53), .load (.t 52) 1 false, some (51, true), false⟩,
  ⟨(some 54), .call 40 [(.t 53)], some (51, true), false⟩,
  ⟨(some 55), .pick (.t 51) (.t 54) (.k (.bool false)), none, false⟩,
  ⟨(some 56), .mv (.t 55), none, false⟩,
  ⟨(some 57), .faddr (.t 1) 3, some (56, true), false⟩,
  ⟨(some 58), .load (.t 57) 1 false, some (56, true), false⟩,
  ⟨(some 59), .call 39 [(.t 58)], some (56, true), false⟩,
  ⟨(some 60), .pick (.t 56) (.t 59) (.k (.bool false)), none, false⟩,
  ⟨(some 2), .mv (.t 60), none, false⟩]
abbrev r17_14 : List MOp := [
  ⟨(some 2), .mv (.k (.bool false)), none, false⟩]
abbrev m17 : MC := (.seq (.reg r17_0) (.seq (.seq (.reg r17_1) (.block 0 (.seq (.seq (.reg r17_2) (.cond (.t 5) .skip (.seq (.reg r17_3) (.cond (.t 5) .skip (.reg r17_4))))) (.cond (.t 5) (.seq (.reg r17_5) .ret) (.seq (.reg r17_6) (.cond (.t 11) (.seq (.reg r17_7) .ret) (.seq (.reg r17_8) (.cond (.t 20) (.seq (.reg r17_9) .ret) (.seq (.reg r17_10) (.cond (.t 29) (.seq (.reg r17_11) .ret) (.seq (.reg r17_12) (.cond (.t 38) (.seq (.reg r17_13) .ret) .skip)))))))))))) (.seq (.reg r17_14) .ret)))
abbrev rs17 : List RV := [(.tmp 2)]
/- hallmark.lattice.without -/
abbrev r18_0 : List MOp := [
  ⟨(some 2), .box (.t 0), none, false⟩,
  ⟨(some 4), .mv (.k (.vec 2 true [])), none, false⟩]
abbrev r18_1 : List MOp := [
  ⟨(some 6), .faddr (.t 2) 0, none, false⟩,
  ⟨(some 7), .load (.t 6) 1 false, none, false⟩,
  ⟨(some 8), .mv (.t 1), none, false⟩,
  ⟨(some 9), .bin .eql 0 (.t 7) (.t 8), none, false⟩,
  ⟨(some 10), .mv (.t 9), none, false⟩,
  ⟨(some 11), .faddr (.t 2) 1, some (10, true), true⟩,
  ⟨(some 12), .load (.t 11) 1 false, some (10, true), true⟩,
  ⟨(some 13), .mv (.t 1), some (10, true), true⟩,
  ⟨(some 14), .bin .eql 0 (.t 12) (.t 13), some (10, true), true⟩,
  ⟨(some 15), .pick (.t 10) (.t 14) (.k (.bool false)), none, false⟩,
  ⟨(some 5), .mv (.t 15), none, false⟩]
abbrev r18_2 : List MOp := [
  ⟨(some 4), .mv (.k (.vec 2 true [])), none, false⟩]
abbrev r18_3 : List MOp := [
  ⟨(some 17), .faddr (.t 2) 0, none, false⟩,
  ⟨(some 18), .load (.t 17) 1 false, none, false⟩,
  ⟨(some 19), .mv (.t 1), none, false⟩,
  ⟨(some 20), .bin .eql 0 (.t 18) (.t 19), none, false⟩,
  ⟨(some 16), .mv (.t 20), none, false⟩]
abbrev r18_4 : List MOp := [
  ⟨(some 22), .mv (.t 1), none, false⟩,
  ⟨(some 23), .call 41 [(.t 22), (.k (.str ⟨#[49]⟩))], none, false⟩,
  ⟨(some 21), .mv (.t 23), none, false⟩,
  ⟨(some 24), .ext (.t 21) 0, none, false⟩,
  ⟨(some 25), .ext (.t 21) 1, none, false⟩,
  ⟨(some 26), .faddr (.t 2) 0, none, false⟩,
  ⟨none, .store (.t 26) (.t 24) 1, none, false⟩]
abbrev r18_5 : List MOp := [
  ⟨(some 28), .faddr (.t 2) 1, none, false⟩,
  ⟨(some 29), .load (.t 28) 1 false, none, false⟩,
  ⟨(some 30), .mv (.t 1), none, false⟩,
  ⟨(some 31), .bin .eql 0 (.t 29) (.t 30), none, false⟩,
  ⟨(some 27), .mv (.t 31), none, false⟩]
abbrev r18_6 : List MOp := [
  ⟨(some 33), .mv (.t 1), none, false⟩,
  ⟨(some 34), .call 42 [(.t 33), (.k (.str ⟨#[49]⟩))], none, false⟩,
  ⟨(some 32), .mv (.t 34), none, false⟩,
  ⟨(some 35), .ext (.t 32) 0, none, false⟩,
  ⟨(some 36), .ext (.t 32) 1, none, false⟩,
  ⟨(some 37), .faddr (.t 2) 1, none, false⟩,
  ⟨none, .store (.t 37) (.t 35) 1, none, false⟩]
abbrev r18_7 : List MOp := [
  ⟨(some 38), .load (.t 2) 2 true, none, false⟩,
  ⟨(some 39), .bslice 2 [(.str ⟨#[]⟩), (.str ⟨#[]⟩)] 1 [(0, (.t 38))], none, false⟩,
  ⟨(some 4), .mv (.t 39), none, false⟩]
abbrev m18 : MC := (.seq (.reg r18_0) (.seq (.block 0 (.seq (.reg r18_1) (.cond (.t 5) (.seq (.reg r18_2) .ret) (.seq (.reg r18_3) (.cond (.t 16) (.reg r18_4) (.seq (.reg r18_5) (.cond (.t 27) (.reg r18_6) .skip))))))) (.seq (.reg r18_7) .ret)))
abbrev rs18 : List RV := [(.tmp 4)]
/- slices.Clone[[]string,string] -/
abbrev r20_0 : List MOp := [
  ⟨(some 2), .mv (.k (.vec 1 true [])), none, false⟩]
abbrev r20_1 : List MOp := [
  ⟨(some 3), .mv (.t 0), none, false⟩,
  ⟨(some 4), .nilcmp false (.t 3), none, false⟩]
abbrev r20_2 : List MOp := [
  ⟨(some 2), .mv (.k (.vec 1 true [])), none, false⟩]
abbrev r20_3 : List MOp := [
  ⟨(some 5), .bslice 1 [(.str ⟨#[]⟩)] 0 [], none, false⟩,
  ⟨(some 6), .mv (.t 0), none, false⟩,
  ⟨(some 7), .app (.t 5) (.t 6) 1, none, false⟩,
  ⟨(some 2), .mv (.t 7), none, false⟩]
abbrev m20 : MC := (.seq (.reg r20_0) (.seq (.seq (.reg r20_1) (.cond (.t 4) (.seq (.reg r20_2) .ret) .skip)) (.seq (.reg r20_3) .ret)))
abbrev rs20 : List RV := [(.tmp 2)]
/- hallmark.lattice.widen -/
abbrev r22_0 : List MOp := [
  ⟨(some 3), .box (.t 0), none, false⟩,
  ⟨(some 4), .box (.t 1), none, false⟩,
  ⟨(some 5), .box (.t 2), none, false⟩,
  ⟨(some 6), .alloc [(.bool false), (.bool false), (.bool false), (.bool false), (.vec 2 true []), (.bool false), (.vec 1 true []), (.vec 11 true []), (.vec 12 true [])], none, false⟩]
abbrev r22_1 : List MOp := [
  ⟨(some 9), .load (.t 3) 9 true, none, false⟩,
  ⟨(some 10), .load (.t 4) 9 true, none, false⟩,
  ⟨(some 11), .call 12 [(.t 9), (.t 10)], none, false⟩,
  ⟨(some 7), .alloc [(.bool false), (.bool false), (.bool false), (.bool false), (.vec 2 true []), (.bool false), (.vec 1 true []), (.vec 11 true []), (.vec 12 true [])], none, false⟩,
  ⟨none, .store (.t 7) (.t 11) 9, none, false⟩]
abbrev r22_2 : List MOp := [
  ⟨(some 12), .load (.t 3) 9 true, none, false⟩,
  ⟨(some 13), .call 14 [(.t 12)], none, false⟩,
  ⟨(some 8), .alloc [(.bool false), (.bool false), (.bool false), (.bool false), (.vec 2 true []), (.bool false), (.vec 1 true []), (.vec 11 true []), (.vec 12 true [])], none, false⟩,
  ⟨none, .store (.t 8) (.t 13) 9, none, false⟩]
abbrev r22_3 : List MOp := [
  ⟨(some 14), .faddr (.t 7) 0, none, false⟩,
  ⟨(some 15), .load (.t 14) 1 false, none, false⟩,
  ⟨(some 16), .mv (.t 15), none, false⟩,
  ⟨(some 17), .load (.t 7) 9 true, some (16, false), false⟩,
  ⟨(some 18), .load (.t 8) 9 true, some (16, false), false⟩,
  ⟨(some 19), .call 44 [(.t 17), (.t 18)], some (16, false), false⟩,
  ⟨(some 20), .pick (.t 16) (.k (.bool true)) (.t 19), none, false⟩]
abbrev r22_4 : List MOp := [
  ⟨(some 21), .load (.t 7) 9 true, none, false⟩,
  ⟨none, .store (.t 6) (.t 21) 9, none, false⟩]
abbrev r22_5 : List MOp := [
  ⟨(some 22), .load (.t 8) 9 true, none, false⟩,
  ⟨(some 23), .load (.t 7) 9 true, none, false⟩,
  ⟨(some 24), .load (.t 5) 4 true, none, false⟩,
  ⟨(some 25), .call 32 [(.t 22), (.t 23), (.t 24)], none, false⟩,
  ⟨(some 26), .call 14 [(.t 25)], none, false⟩,
  ⟨none, .store (.t 6) (.t 26) 9, none, false⟩]
abbrev m22 : MC := (.seq (.reg r22_0) (.seq (.reg r22_1) (.seq (.reg r22_2) (.seq (.seq (.reg r22_3) (.cond (.t 20) (.seq (.reg r22_4) .ret) .skip)) (.seq (.reg r22_5) .ret)))))
abbrev rs22 : List RV := [(.cell 6 27 9 true)]
/- hallmark.lattice.wides -/
abbrev r23_0 : List MOp := [
  ⟨(some 0), .alloc [.nilf, .nilf, .nilf, .nilf], none, false⟩]
abbrev r23_1 : List MOp := [
  ⟨(some 1), .build [.nilf, .nilf, .nilf, .nilf] [(0, 1, (.k (.fn 45 [] []))), (1, 1, (.k (.fn 46 [] []))), (2, 1, (.k (.fn 47 [] []))), (3, 1, (.k (.fn 48 [] [])))], none, false⟩,
  ⟨none, .store (.t 0) (.t 1) 4, none, false⟩]
abbrev m23 : MC := (.seq (.reg r23_0) (.seq (.reg r23_1) .ret))
abbrev rs23 : List RV := [(.cell 0 56 4 true)]
/- hallmark.shape.Formed -/
abbrev r24_0 : List MOp := [
  ⟨(some 1), .box (.t 0), none, false⟩,
  ⟨(some 2), .mv (.k (.bool false)), none, false⟩]
abbrev r24_1 : List MOp := [
  ⟨(some 6), .load (.t 1) 9 true, none, false⟩,
  ⟨(some 3), .alloc [(.bool false), (.bool false), (.bool false), (.bool false), (.vec 2 true []), (.bool false), (.vec 1 true []), (.vec 11 true []), (.vec 12 true [])], none, false⟩,
  ⟨none, .store (.t 3) (.t 6) 9, none, false⟩]
abbrev r24_2 : List MOp := [
  ⟨(some 7), .load (.t 3) 9 true, none, false⟩,
  ⟨(some 8), .mkfn 49 [(.t 7)] [], none, false⟩,
  ⟨(some 9), .load (.t 3) 9 true, none, false⟩,
  ⟨(some 10), .mkfn 50 [(.t 9)] [], none, false⟩,
  ⟨(some 11), .load (.t 3) 9 true, none, false⟩,
  ⟨(some 12), .mkfn 51 [(.t 11)] [], none, false⟩,
  ⟨(some 13), .load (.t 3) 9 true, none, false⟩,
  ⟨(some 14), .mkfn 52 [(.t 13)] [], none, false⟩,
  ⟨(some 15), .load (.t 3) 9 true, none, false⟩,
  ⟨(some 16), .mkfn 53 [(.t 15)] [], none, false⟩,
  ⟨(some 17), .build [.nilf, .nilf, .nilf, .nilf, .nilf] [(0, 1, (.t 8)), (1, 1, (.t 10)), (2, 1, (.t 12)), (3, 1, (.t 14)), (4, 1, (.t 16))], none, false⟩,
  ⟨(some 18), .mv (.k (.int .i64 0)), none, false⟩]
abbrev r24_3 : List MOp := [
  ⟨(some 19), .bin .lss 0 (.t 18) (.k (.int .i64 5)), none, false⟩]
abbrev r24_4 : List MOp := [
  ⟨(some 20), .aidx (.t 17) (.t 18) 5 1 false, none, false⟩,
  ⟨(some 5), .mv (.t 20), none, false⟩]
abbrev r24_5 : List MOp := [
  ⟨(some 21), .mv (.t 5), none, false⟩,
  ⟨(some 22), .dcall (.t 21) [], none, false⟩,
  ⟨(some 23), .un .not (.t 22), none, false⟩]
abbrev r24_6 : List MOp := [
  ⟨(some 2), .mv (.k (.bool false)), none, false⟩]
abbrev r24_7 : List MOp := [
  ⟨(some 24), .bin .add 0 (.t 18) (.k (.int .i64 1)), none, false⟩,
  ⟨(some 18), .mv (.t 24), none, false⟩]
abbrev b24_8 : MC := (.seq (.reg r24_3) (.seq (.cond (.t 19) .skip (.exit 0)) (.seq (.block 1 (.seq (.reg r24_4) (.seq (.reg r24_5) (.cond (.t 23) (.seq (.reg r24_6) .ret) .skip)))) (.reg r24_7))))
abbrev r24_9 : List MOp := [
  ⟨(some 2), .mv (.k (.bool true)), none, false⟩]
abbrev m24 : MC := (.seq (.reg r24_0) (.seq (.reg r24_1) (.seq (.seq (.reg r24_2) (.block 0 (.loop b24_8))) (.seq (.reg r24_9) .ret))))
abbrev rs24 : List RV := [(.tmp 2)]
/- hallmark.tidy.Sum -/
abbrev r25_0 : List MOp := [
  ⟨(some 2), .box (.t 0), none, false⟩,
  ⟨(some 3), .box (.t 1), none, false⟩,
  ⟨(some 4), .alloc [(.bool false), (.bool false), (.bool false), (.bool false), (.vec 2 true []), (.bool false), (.vec 1 true []), (.vec 11 true []), (.vec 12 true [])], none, false⟩,
  ⟨(some 5), .mv (.k (.int .i64 0)), none, false⟩]
abbrev r25_1 : List MOp := [
  ⟨(some 6), .load (.t 2) 9 true, none, false⟩,
  ⟨(some 7), .call 24 [(.t 6)], none, false⟩,
  ⟨(some 8), .un .not (.t 7), none, false⟩,
  ⟨(some 9), .mv (.t 8), none, false⟩,
  ⟨(some 10), .load (.t 3) 9 true, some (9, false), false⟩,
  ⟨(some 11), .call 24 [(.t 10)], some (9, false), false⟩,
  ⟨(some 12), .un .not (.t 11), some (9, false), false⟩,
  ⟨(some 13), .pick (.t 9) (.k (.bool true)) (.t 12), none, false⟩]
abbrev r25_2 : List MOp := [
  ⟨(some 14), .build [(.bool false), (.bool false), (.bool false), (.bool false), (.vec 2 true []), (.bool false), (.vec 1 true []), (.vec 11 true []), (.vec 12 true [])] [], none, false⟩,
  ⟨none, .store (.t 4) (.t 14) 9, none, false⟩,
  ⟨(some 5), .mv (.k (.int .i64 1)), none, false⟩]
abbrev r25_3 : List MOp := [
  ⟨(some 15), .load (.t 2) 9 true, none, false⟩,
  ⟨(some 16), .load (.t 3) 9 true, none, false⟩,
  ⟨(some 17), .bslice 9 [(.bool false), (.bool false), (.bool false), (.bool false), (.vec 2 true []), (.bool false), (.vec 1 true []), (.vec 11 true []), (.vec 12 true [])] 2 [(0, (.t 15)), (1, (.t 16))], none, false⟩,
  ⟨(some 18), .call 54 [(.t 17)], none, false⟩,
  ⟨(some 19), .call 31 [(.t 18)], none, false⟩,
  ⟨none, .store (.t 4) (.t 19) 9, none, false⟩,
  ⟨(some 5), .mv (.k (.int .i64 0)), none, false⟩]
abbrev m25 : MC := (.seq (.reg r25_0) (.seq (.seq (.reg r25_1) (.cond (.t 13) (.seq (.reg r25_2) .ret) .skip)) (.seq (.reg r25_3) .ret)))
abbrev rs25 : List RV := [(.cell 4 27 9 true), (.tmp 5)]
/- hallmark.hallmarkkit.SameSpans -/
abbrev r26_0 : List MOp := [
  ⟨(some 4), .mv (.k (.bool false)), none, false⟩]
abbrev r26_1 : List MOp := [
  ⟨(some 6), .mv (.t 0), none, false⟩,
  ⟨(some 7), .len (.t 6), none, false⟩,
  ⟨(some 8), .mv (.t 1), none, false⟩,
  ⟨(some 9), .len (.t 8), none, false⟩,
  ⟨(some 10), .bin .neq 0 (.t 7) (.t 9), none, false⟩]
abbrev r26_2 : List MOp := [
  ⟨(some 4), .mv (.k (.bool false)), none, false⟩]
abbrev r26_3 : List MOp := [
  ⟨(some 5), .mv (.k (.int .i64 0)), none, false⟩]
abbrev r26_4 : List MOp := [
  ⟨(some 11), .mv (.t 5), none, false⟩,
  ⟨(some 12), .mv (.t 0), none, false⟩,
  ⟨(some 13), .len (.t 12), none, false⟩,
  ⟨(some 14), .bin .lss 0 (.t 11) (.t 13), none, false⟩]
abbrev r26_5 : List MOp := [
  ⟨(some 17), .mv (.t 0), none, false⟩,
  ⟨(some 18), .mv (.t 5), none, false⟩,
  ⟨(some 19), .iaddr (.t 17) (.t 18) 2, none, false⟩,
  ⟨(some 20), .load (.t 19) 2 true, none, false⟩,
  ⟨(some 21), .mv (.t 1), none, false⟩,
  ⟨(some 22), .mv (.t 5), none, false⟩,
  ⟨(some 23), .iaddr (.t 21) (.t 22) 2, none, false⟩,
  ⟨(some 24), .load (.t 23) 2 true, none, false⟩,
  ⟨(some 25), .call 55 [(.t 20), (.t 24)], none, false⟩,
  ⟨(some 26), .un .not (.t 25), none, false⟩]
abbrev r26_6 : List MOp := [
  ⟨(some 4), .mv (.k (.bool false)), none, false⟩]
abbrev r26_7 : List MOp := [
  ⟨(some 15), .mv (.t 5), none, false⟩,
  ⟨(some 16), .bin .add 0 (.t 15) (.k (.int .i64 1)), none, false⟩,
  ⟨(some 5), .mv (.t 16), none, false⟩]
abbrev b26_8 : MC := (.seq (.seq (.reg r26_4) (.cond (.t 14) .skip (.exit 0))) (.seq (.block 1 (.seq (.draw [(0, 1), (0, 4), (1, 4), (2, 4), (3, 4), (0, 5), (1, 5), (2, 5), (3, 5), (4, 5), (0, 6), (1, 6), (2, 6), (3, 6), (0, 7), (1, 7), (2, 7), (3, 7)] r26_5) (.cond (.t 26) (.seq (.reg r26_6) .ret) .skip))) (.reg r26_7)))
abbrev r26_9 : List MOp := [
  ⟨(some 4), .mv (.k (.bool true)), none, false⟩]
abbrev m26 : MC := (.seq (.reg r26_0) (.seq (.seq (.reg r26_1) (.cond (.t 10) (.seq (.reg r26_2) .ret) .skip)) (.seq (.seq (.reg r26_3) (.block 0 (.loop b26_8))) (.seq (.reg r26_9) .ret))))
abbrev rs26 : List RV := [(.tmp 4)]
/- hallmark.hallmarkkit.SameStrings -/
abbrev r27_0 : List MOp := [
  ⟨(some 4), .mv (.k (.bool false)), none, false⟩]
abbrev r27_1 : List MOp := [
  ⟨(some 6), .mv (.t 0), none, false⟩,
  ⟨(some 7), .len (.t 6), none, false⟩,
  ⟨(some 8), .mv (.t 1), none, false⟩,
  ⟨(some 9), .len (.t 8), none, false⟩,
  ⟨(some 10), .bin .neq 0 (.t 7) (.t 9), none, false⟩]
abbrev r27_2 : List MOp := [
  ⟨(some 4), .mv (.k (.bool false)), none, false⟩]
abbrev r27_3 : List MOp := [
  ⟨(some 5), .mv (.k (.int .i64 0)), none, false⟩]
abbrev r27_4 : List MOp := [
  ⟨(some 11), .mv (.t 5), none, false⟩,
  ⟨(some 12), .mv (.t 0), none, false⟩,
  ⟨(some 13), .len (.t 12), none, false⟩,
  ⟨(some 14), .bin .lss 0 (.t 11) (.t 13), none, false⟩]
abbrev r27_5 : List MOp := [
  ⟨(some 17), .mv (.t 0), none, false⟩,
  ⟨(some 18), .mv (.t 5), none, false⟩,
  ⟨(some 19), .iaddr (.t 17) (.t 18) 1, none, false⟩,
  ⟨(some 20), .load (.t 19) 1 false, none, false⟩,
  ⟨(some 21), .mv (.t 1), none, false⟩,
  ⟨(some 22), .mv (.t 5), none, false⟩,
  ⟨(some 23), .iaddr (.t 21) (.t 22) 1, none, false⟩,
  ⟨(some 24), .load (.t 23) 1 false, none, false⟩,
  ⟨(some 25), .bin .neq 0 (.t 20) (.t 24), none, false⟩]
abbrev r27_6 : List MOp := [
  ⟨(some 4), .mv (.k (.bool false)), none, false⟩]
abbrev r27_7 : List MOp := [
  ⟨(some 15), .mv (.t 5), none, false⟩,
  ⟨(some 16), .bin .add 0 (.t 15) (.k (.int .i64 1)), none, false⟩,
  ⟨(some 5), .mv (.t 16), none, false⟩]
abbrev b27_8 : MC := (.seq (.seq (.reg r27_4) (.cond (.t 14) .skip (.exit 0))) (.seq (.block 1 (.seq (.draw [(0, 1), (0, 4), (1, 4), (2, 4), (3, 4), (0, 5), (1, 5), (2, 5), (3, 5), (4, 5), (0, 6), (1, 6), (2, 6), (3, 6), (0, 7), (1, 7), (2, 7), (3, 7)] r27_5) (.cond (.t 25) (.seq (.reg r27_6) .ret) .skip))) (.reg r27_7)))
abbrev r27_9 : List MOp := [
  ⟨(some 4), .mv (.k (.bool true)), none, false⟩]
abbrev m27 : MC := (.seq (.reg r27_0) (.seq (.seq (.reg r27_1) (.cond (.t 10) (.seq (.reg r27_2) .ret) .skip)) (.seq (.seq (.reg r27_3) (.block 0 (.loop b27_8))) (.seq (.reg r27_9) .ret))))
abbrev rs27 : List RV := [(.tmp 4)]
/- hallmark.hallmarkkit.SameArrs -/
abbrev r28_0 : List MOp := [
  ⟨(some 4), .mv (.k (.bool false)), none, false⟩]
abbrev r28_1 : List MOp := [
  ⟨(some 6), .mv (.t 0), none, false⟩,
  ⟨(some 7), .len (.t 6), none, false⟩,
  ⟨(some 8), .mv (.t 1), none, false⟩,
  ⟨(some 9), .len (.t 8), none, false⟩,
  ⟨(some 10), .bin .neq 0 (.t 7) (.t 9), none, false⟩]
abbrev r28_2 : List MOp := [
  ⟨(some 4), .mv (.k (.bool false)), none, false⟩]
abbrev r28_3 : List MOp := [
  ⟨(some 5), .mv (.k (.int .i64 0)), none, false⟩]
abbrev r28_4 : List MOp := [
  ⟨(some 11), .mv (.t 5), none, false⟩,
  ⟨(some 12), .mv (.t 0), none, false⟩,
  ⟨(some 13), .len (.t 12), none, false⟩,
  ⟨(some 14), .bin .lss 0 (.t 11) (.t 13), none, false⟩]
abbrev r28_5 : List MOp := [
  ⟨(some 17), .mv (.t 0), none, false⟩,
  ⟨(some 18), .mv (.t 5), none, false⟩,
  ⟨(some 19), .iaddr (.t 17) (.t 18) 11, none, false⟩,
  ⟨(some 20), .load (.t 19) 11 true, none, false⟩,
  ⟨(some 21), .mv (.t 1), none, false⟩,
  ⟨(some 22), .mv (.t 5), none, false⟩,
  ⟨(some 23), .iaddr (.t 21) (.t 22) 11, none, false⟩,
  ⟨(some 24), .load (.t 23) 11 true, none, false⟩,
  ⟨(some 25), .call 56 [(.t 20), (.t 24)], none, false⟩,
  ⟨(some 26), .un .not (.t 25), none, false⟩]
abbrev r28_6 : List MOp := [
  ⟨(some 4), .mv (.k (.bool false)), none, false⟩]
abbrev r28_7 : List MOp := [
  ⟨(some 15), .mv (.t 5), none, false⟩,
  ⟨(some 16), .bin .add 0 (.t 15) (.k (.int .i64 1)), none, false⟩,
  ⟨(some 5), .mv (.t 16), none, false⟩]
abbrev b28_8 : MC := (.seq (.seq (.reg r28_4) (.cond (.t 14) .skip (.exit 0))) (.seq (.block 1 (.seq (.draw [(0, 1), (0, 4), (1, 4), (2, 4), (3, 4), (0, 5), (1, 5), (2, 5), (3, 5), (4, 5), (0, 6), (1, 6), (2, 6), (3, 6), (0, 7), (1, 7), (2, 7), (3, 7)] r28_5) (.cond (.t 26) (.seq (.reg r28_6) .ret) .skip))) (.reg r28_7)))
abbrev r28_9 : List MOp := [
  ⟨(some 4), .mv (.k (.bool true)), none, false⟩]
abbrev m28 : MC := (.seq (.reg r28_0) (.seq (.seq (.reg r28_1) (.cond (.t 10) (.seq (.reg r28_2) .ret) .skip)) (.seq (.seq (.reg r28_3) (.block 0 (.loop b28_8))) (.seq (.reg r28_9) .ret))))
abbrev rs28 : List RV := [(.tmp 4)]
/- hallmark.hallmarkkit.SameObjs -/
abbrev r29_0 : List MOp := [
  ⟨(some 4), .mv (.k (.bool false)), none, false⟩]
abbrev r29_1 : List MOp := [
  ⟨(some 6), .mv (.t 0), none, false⟩,
  ⟨(some 7), .len (.t 6), none, false⟩,
  ⟨(some 8), .mv (.t 1), none, false⟩,
  ⟨(some 9), .len (.t 8), none, false⟩,
  ⟨(some 10), .bin .neq 0 (.t 7) (.t 9), none, false⟩]
abbrev r29_2 : List MOp := [
  ⟨(some 4), .mv (.k (.bool false)), none, false⟩]
abbrev r29_3 : List MOp := [
  ⟨(some 5), .mv (.k (.int .i64 0)), none, false⟩]
abbrev r29_4 : List MOp := [
  ⟨(some 11), .mv (.t 5), none, false⟩,
  ⟨(some 12), .mv (.t 0), none, false⟩,
  ⟨(some 13), .len (.t 12), none, false⟩,
  ⟨(some 14), .bin .lss 0 (.t 11) (.t 13), none, false⟩]
abbrev r29_5 : List MOp := [
  ⟨(some 17), .mv (.t 0), none, false⟩,
  ⟨(some 18), .mv (.t 5), none, false⟩,
  ⟨(some 19), .iaddr (.t 17) (.t 18) 12, none, false⟩,
  ⟨(some 20), .load (.t 19) 12 true, none, false⟩,
  ⟨(some 21), .mv (.t 1), none, false⟩,
  ⟨(some 22), .mv (.t 5), none, false⟩,
  ⟨(some 23), .iaddr (.t 21) (.t 22) 12, none, false⟩,
  ⟨(some 24), .load (.t 23) 12 true, none, false⟩,
  ⟨(some 25), .call 57 [(.t 20), (.t 24)], none, false⟩,
  ⟨(some 26), .un .not (.t 25), none, false⟩]
abbrev r29_6 : List MOp := [
  ⟨(some 4), .mv (.k (.bool false)), none, false⟩]
abbrev r29_7 : List MOp := [
  ⟨(some 15), .mv (.t 5), none, false⟩,
  ⟨(some 16), .bin .add 0 (.t 15) (.k (.int .i64 1)), none, false⟩,
  ⟨(some 5), .mv (.t 16), none, false⟩]
abbrev b29_8 : MC := (.seq (.seq (.reg r29_4) (.cond (.t 14) .skip (.exit 0))) (.seq (.block 1 (.seq (.draw [(0, 1), (0, 4), (1, 4), (2, 4), (3, 4), (0, 5), (1, 5), (2, 5), (3, 5), (4, 5), (0, 6), (1, 6), (2, 6), (3, 6), (0, 7), (1, 7), (2, 7), (3, 7)] r29_5) (.cond (.t 26) (.seq (.reg r29_6) .ret) .skip))) (.reg r29_7)))
abbrev r29_9 : List MOp := [
  ⟨(some 4), .mv (.k (.bool true)), none, false⟩]
abbrev m29 : MC := (.seq (.reg r29_0) (.seq (.seq (.reg r29_1) (.cond (.t 10) (.seq (.reg r29_2) .ret) .skip)) (.seq (.seq (.reg r29_3) (.block 0 (.loop b29_8))) (.seq (.reg r29_9) .ret))))
abbrev rs29 : List RV := [(.tmp 4)]
/- hallmark.tidy.Tidy -/
abbrev r30_0 : List MOp := [
  ⟨(some 1), .box (.t 0), none, false⟩,
  ⟨(some 2), .alloc [(.bool false), (.bool false), (.bool false), (.bool false), (.vec 2 true []), (.bool false), (.vec 1 true []), (.vec 11 true []), (.vec 12 true [])], none, false⟩,
  ⟨(some 3), .mv (.k (.int .i64 0)), none, false⟩]
abbrev r30_1 : List MOp := [
  ⟨(some 4), .load (.t 1) 9 true, none, false⟩,
  ⟨(some 5), .call 24 [(.t 4)], none, false⟩,
  ⟨(some 6), .un .not (.t 5), none, false⟩]
abbrev r30_2 : List MOp := [
  ⟨(some 7), .build [(.bool false), (.bool false), (.bool false), (.bool false), (.vec 2 true []), (.bool false), (.vec 1 true []), (.vec 11 true []), (.vec 12 true [])] [], none, false⟩,
  ⟨none, .store (.t 2) (.t 7) 9, none, false⟩,
  ⟨(some 3), .mv (.k (.int .i64 1)), none, false⟩]
abbrev r30_3 : List MOp := [
  ⟨(some 8), .load (.t 1) 9 true, none, false⟩,
  ⟨(some 9), .call 58 [(.t 8)], none, false⟩,
  ⟨(some 10), .call 31 [(.t 9)], none, false⟩,
  ⟨none, .store (.t 2) (.t 10) 9, none, false⟩,
  ⟨(some 3), .mv (.k (.int .i64 0)), none, false⟩]
abbrev m30 : MC := (.seq (.reg r30_0) (.seq (.seq (.reg r30_1) (.cond (.t 6) (.seq (.reg r30_2) .ret) .skip)) (.seq (.reg r30_3) .ret)))
abbrev rs30 : List RV := [(.cell 2 27 9 true), (.tmp 3)]
/- hallmark.shape.Twin -/
abbrev r31_0 : List MOp := [
  ⟨(some 1), .box (.t 0), none, false⟩,
  ⟨(some 2), .alloc [(.bool false), (.bool false), (.bool false), (.bool false), (.vec 2 true []), (.bool false), (.vec 1 true []), (.vec 11 true []), (.vec 12 true [])], none, false⟩]
abbrev r31_1 : List MOp := [
  ⟨(some 7), .faddr (.t 1) 4, none, false⟩,
  ⟨(some 8), .load (.t 7) 1 false, none, false⟩,
  ⟨(some 9), .call 59 [(.t 8)], none, false⟩,
  ⟨(some 10), .faddr (.t 1) 6, none, false⟩,
  ⟨(some 11), .load (.t 10) 1 false, none, false⟩,
  ⟨(some 12), .call 20 [(.t 11)], none, false⟩,
  ⟨(some 13), .faddr (.t 1) 4, none, false⟩,
  ⟨none, .store (.t 13) (.t 9) 1, none, false⟩,
  ⟨(some 14), .faddr (.t 1) 6, none, false⟩,
  ⟨none, .store (.t 14) (.t 12) 1, none, false⟩]
abbrev r31_2 : List MOp := [
  ⟨(some 15), .faddr (.t 1) 7, none, false⟩,
  ⟨(some 16), .load (.t 15) 1 false, none, false⟩,
  ⟨(some 17), .call 60 [(.t 16)], none, false⟩,
  ⟨(some 18), .faddr (.t 1) 8, none, false⟩,
  ⟨(some 19), .load (.t 18) 1 false, none, false⟩,
  ⟨(some 20), .call 61 [(.t 19)], none, false⟩,
  ⟨(some 21), .faddr (.t 1) 7, none, false⟩,
  ⟨none, .store (.t 21) (.t 17) 1, none, false⟩,
  ⟨(some 22), .faddr (.t 1) 8, none, false⟩,
  ⟨none, .store (.t 22) (.t 20) 1, none, false⟩]
abbrev r31_3 : List MOp := [
  ⟨(some 23), .faddr (.t 1) 7, none, false⟩,
  ⟨(some 24), .load (.t 23) 1 false, none, false⟩,
  ⟨(some 25), .len (.t 24), none, false⟩,
  ⟨(some 26), .mv (.k (.int .i64 0)), none, false⟩]
abbrev r31_4 : List MOp := [
  ⟨(some 27), .bin .lss 0 (.t 26) (.t 25), none, false⟩]
abbrev r31_5 : List MOp := [
  ⟨(some 28), .mv (.t 26), none, false⟩,
  ⟨(some 3), .mv (.t 28), none, false⟩]
abbrev r31_6 : List MOp := [
  ⟨(some 29), .faddr (.t 1) 7, none, false⟩,
  ⟨(some 30), .load (.t 29) 1 false, none, false⟩,
  ⟨(some 31), .mv (.t 3), none, false⟩,
  ⟨(some 32), .faddr (.t 1) 7, none, false⟩,
  ⟨(some 33), .load (.t 32) 1 false, none, false⟩,
  ⟨(some 34), .mv (.t 3), none, false⟩,
  ⟨(some 35), .iaddr (.t 33) (.t 34) 11, none, false⟩,
  ⟨(some 36), .faddr (.t 35) 0, none, false⟩,
  ⟨(some 37), .load (.t 36) 9 true, none, false⟩,
  ⟨(some 38), .call 31 [(.t 37)], none, false⟩,
  ⟨(some 39), .iaddr (.t 30) (.t 31) 11, none, false⟩,
  ⟨(some 40), .faddr (.t 39) 0, none, false⟩,
  ⟨none, .store (.t 40) (.t 38) 9, none, false⟩]
abbrev r31_7 : List MOp := [
  ⟨(some 41), .bin .add 0 (.t 26) (.k (.int .i64 1)), none, false⟩,
  ⟨(some 26), .mv (.t 41), none, false⟩]
abbrev b31_8 : MC := (.seq (.reg r31_4) (.seq (.cond (.t 27) .skip (.exit 0)) (.seq (.block 1 (.seq (.reg r31_5) (.draw [(0, 2), (1, 2), (0, 3), (1, 3), (2, 3), (0, 4), (1, 4), (2, 4), (0, 5), (1, 5), (2, 5), (3, 5), (4, 5), (0, 6), (1, 6), (2, 6), (0, 7), (1, 7), (2, 7), (0, 8), (1, 8), (2, 8), (0, 9), (1, 9), (2, 9)] r31_6))) (.reg r31_7))))
abbrev r31_9 : List MOp := [
  ⟨(some 42), .faddr (.t 1) 8, none, false⟩,
  ⟨(some 43), .load (.t 42) 1 false, none, false⟩,
  ⟨(some 44), .len (.t 43), none, false⟩,
  ⟨(some 45), .mv (.k (.int .i64 0)), none, false⟩]
abbrev r31_10 : List MOp := [
  ⟨(some 46), .bin .lss 0 (.t 45) (.t 44), none, false⟩]
abbrev r31_11 : List MOp := [
  ⟨(some 47), .mv (.t 45), none, false⟩,
  ⟨(some 4), .mv (.t 47), none, false⟩]
abbrev r31_12 : List MOp := [
  ⟨(some 48), .faddr (.t 1) 8, none, false⟩,
  ⟨(some 49), .load (.t 48) 1 false, none, false⟩,
  ⟨(some 50), .mv (.t 4), none, false⟩,
  ⟨(some 51), .iaddr (.t 49) (.t 50) 12, none, false⟩,
  ⟨(some 5), .mv (.t 51), none, false⟩]
abbrev r31_13 : List MOp := [
  ⟨(some 52), .mv (.t 5), none, false⟩,
  ⟨(some 53), .mv (.t 5), none, false⟩,
  ⟨(some 54), .mv (.t 5), none, false⟩,
  ⟨(some 55), .mv (.t 5), none, false⟩,
  ⟨(some 56), .nilck (.t 55), none, false⟩,
  ⟨(some 57), .faddr (.t 56) 0, none, false⟩,
  ⟨(some 58), .load (.t 57) 1 false, none, false⟩,
  ⟨(some 59), .call 20 [(.t 58)], none, false⟩,
  ⟨(some 60), .mv (.t 5), none, false⟩,
  ⟨(some 61), .nilck (.t 60), none, false⟩,
  ⟨(some 62), .faddr (.t 61) 2, none, false⟩,
  ⟨(some 63), .load (.t 62) 1 false, none, false⟩,
  ⟨(some 64), .call 62 [(.t 63)], none, false⟩,
  ⟨(some 65), .mv (.t 5), none, false⟩,
  ⟨(some 66), .nilck (.t 65), none, false⟩,
  ⟨(some 67), .faddr (.t 66) 1, none, false⟩,
  ⟨(some 68), .load (.t 67) 1 false, none, false⟩,
  ⟨(some 69), .call 63 [(.t 68)], none, false⟩,
  ⟨(some 70), .nilck (.t 52), none, false⟩,
  ⟨(some 71), .faddr (.t 70) 0, none, false⟩,
  ⟨none, .store (.t 71) (.t 59) 1, none, false⟩,
  ⟨(some 72), .nilck (.t 53), none, false⟩,
  ⟨(some 73), .faddr (.t 72) 2, none, false⟩,
  ⟨none, .store (.t 73) (.t 64) 1, none, false⟩,
  ⟨(some 74), .nilck (.t 54), none, false⟩,
  ⟨(some 75), .faddr (.t 74) 1, none, false⟩,
  ⟨none, .store (.t 75) (.t 69) 1, none, false⟩]
abbrev r31_14 : List MOp := [
  ⟨(some 76), .mv (.t 5), none, false⟩,
  ⟨(some 77), .nilck (.t 76), none, false⟩,
  ⟨(some 78), .faddr (.t 77) 1, none, false⟩,
  ⟨(some 79), .load (.t 78) 1 false, none, false⟩,
  ⟨(some 80), .len (.t 79), none, false⟩,
  ⟨(some 81), .mv (.k (.int .i64 0)), none, false⟩]
abbrev r31_15 : List MOp := [
  ⟨(some 82), .bin .lss 0 (.t 81) (.t 80), none, false⟩]
abbrev r31_16 : List MOp := [
  ⟨(some 83), .mv (.t 81), none, false⟩,
  ⟨(some 6), .mv (.t 83), none, false⟩]
abbrev r31_17 : List MOp := [
  ⟨(some 84), .mv (.t 5), none, false⟩,
  ⟨(some 85), .nilck (.t 84), none, false⟩,
  ⟨(some 86), .faddr (.t 85) 1, none, false⟩,
  ⟨(some 87), .load (.t 86) 1 false, none, false⟩,
  ⟨(some 88), .mv (.t 6), none, false⟩,
  ⟨(some 89), .mv (.t 5), none, false⟩,
  ⟨(some 90), .nilck (.t 89), none, false⟩,
  ⟨(some 91), .faddr (.t 90) 1, none, false⟩,
  ⟨(some 92), .load (.t 91) 1 false, none, false⟩,
  ⟨(some 93), .mv (.t 6), none, false⟩,
  ⟨(some 94), .iaddr (.t 92) (.t 93) 9, none, false⟩,
  ⟨(some 95), .load (.t 94) 9 true, none, false⟩,
  ⟨(some 96), .call 31 [(.t 95)], none, false⟩,
  ⟨(some 97), .iaddr (.t 87) (.t 88) 9, none, false⟩,
  ⟨none, .store (.t 97) (.t 96) 9, none, false⟩]
abbrev r31_18 : List MOp := [
  ⟨(some 98), .bin .add 0 (.t 81) (.k (.int .i64 1)), none, false⟩,
  ⟨(some 81), .mv (.t 98), none, false⟩]
abbrev b31_19 : MC := (.seq (.reg r31_15) (.seq (.cond (.t 82) .skip (.exit 4)) (.seq (.block 5 (.seq (.reg r31_16) (.draw [(0, 4), (1, 4), (2, 4), (3, 4), (0, 5), (1, 5), (2, 5), (3, 5), (4, 5), (0, 6), (1, 6), (2, 6), (3, 6), (4, 6), (0, 7), (1, 7), (2, 7), (3, 7), (4, 7), (0, 8), (1, 8), (2, 8), (3, 8), (4, 8), (0, 9), (1, 9), (2, 9), (3, 9), (4, 9), (5, 9), (6, 9), (7, 9), (8, 9), (0, 10), (1, 10), (2, 10), (3, 10), (4, 10), (0, 11), (1, 11), (2, 11), (3, 11), (4, 11), (0, 12), (1, 12), (2, 12), (3, 12), (4, 12)] r31_17))) (.reg r31_18))))
abbrev r31_20 : List MOp := [
  ⟨(some 99), .mv (.t 5), none, false⟩,
  ⟨(some 100), .mv (.t 5), none, false⟩,
  ⟨(some 101), .nilck (.t 100), none, false⟩,
  ⟨(some 102), .faddr (.t 101) 3, none, false⟩,
  ⟨(some 103), .load (.t 102) 9 true, none, false⟩,
  ⟨(some 104), .call 31 [(.t 103)], none, false⟩,
  ⟨(some 105), .nilck (.t 99), none, false⟩,
  ⟨(some 106), .faddr (.t 105) 3, none, false⟩,
  ⟨none, .store (.t 106) (.t 104) 9, none, false⟩]
abbrev r31_21 : List MOp := [
  ⟨(some 107), .bin .add 0 (.t 45) (.k (.int .i64 1)), none, false⟩,
  ⟨(some 45), .mv (.t 107), none, false⟩]
abbrev b31_22 : MC := (.seq (.reg r31_10) (.seq (.cond (.t 46) .skip (.exit 2)) (.seq (.block 3 (.seq (.reg r31_11) (.seq (.reg r31_12) (.seq (.draw [(0, 1), (0, 2), (1, 2), (0, 3), (1, 3), (2, 3), (0, 4), (1, 4), (2, 4), (0, 5), (1, 5), (2, 5), (0, 6), (1, 6), (2, 6), (0, 7), (1, 7), (2, 7), (0, 8), (1, 8), (2, 8), (3, 8), (4, 8), (5, 8), (6, 8), (7, 8), (0, 9), (1, 9), (2, 9), (3, 9), (4, 9), (5, 9), (6, 9), (7, 9), (0, 10), (1, 10), (2, 10), (3, 10), (4, 10), (5, 10), (6, 10), (7, 10), (0, 11), (1, 11), (2, 11), (3, 11), (4, 11), (5, 11), (6, 11), (7, 11), (0, 12), (1, 12), (2, 12), (0, 13), (1, 13), (2, 13), (3, 13), (4, 13), (5, 13), (6, 13), (7, 13), (8, 13), (9, 13), (10, 13), (11, 13), (12, 13), (0, 14), (1, 14), (2, 14), (3, 14), (4, 14), (5, 14), (6, 14), (7, 14), (8, 14), (9, 14), (10, 14), (11, 14), (12, 14), (0, 15), (1, 15), (2, 15), (3, 15), (4, 15), (5, 15), (6, 15), (7, 15), (8, 15), (9, 15), (10, 15), (11, 15), (12, 15), (0, 16), (1, 16), (2, 16), (3, 16), (4, 16), (5, 16), (6, 16), (7, 16), (8, 16), (9, 16), (10, 16), (11, 16), (12, 16), (0, 17), (1, 17), (2, 17), (1, 18), (2, 18), (1, 19), (2, 19), (1, 20), (2, 20), (2, 21), (2, 22), (2, 23)] r31_13) (.seq (.seq (.reg r31_14) (.block 4 (.loop b31_19))) (.reg r31_20)))))) (.reg r31_21))))
abbrev r31_23 : List MOp := [
  ⟨(some 108), .load (.t 1) 9 true, none, false⟩,
  ⟨none, .store (.t 2) (.t 108) 9, none, false⟩]
abbrev m31 : MC := (.seq (.reg r31_0) (.seq (.draw [(0, 3), (1, 3), (2, 3), (0, 4), (1, 4), (2, 4), (5, 6)] r31_1) (.seq (.draw [(0, 3), (1, 3), (2, 3), (0, 4), (1, 4), (2, 4), (5, 6)] r31_2) (.seq (.seq (.reg r31_3) (.block 0 (.loop b31_8))) (.seq (.seq (.reg r31_9) (.block 2 (.loop b31_22))) (.seq (.reg r31_23) .ret))))))
abbrev rs31 : List RV := [(.cell 2 27 9 true)]
/- hallmark.lattice.through -/
abbrev r32_0 : List MOp := [
  ⟨(some 3), .box (.t 0), none, false⟩,
  ⟨(some 4), .box (.t 1), none, false⟩,
  ⟨(some 5), .box (.t 2), none, false⟩,
  ⟨(some 6), .alloc [(.bool false), (.bool false), (.bool false), (.bool false), (.vec 2 true []), (.bool false), (.vec 1 true []), (.vec 11 true []), (.vec 12 true [])], none, false⟩]
abbrev r32_1 : List MOp := [
  ⟨(some 10), .load (.t 3) 9 true, none, false⟩,
  ⟨(some 11), .load (.t 4) 9 true, none, false⟩,
  ⟨(some 12), .build [(.bool false), (.bool false), (.bool false), (.bool false), (.vec 2 true []), (.bool false), (.vec 1 true []), (.vec 11 true []), (.vec 12 true []), (.bool false), (.bool false), (.bool false), (.bool false), (.vec 2 true []), (.bool false), (.vec 1 true []), (.vec 11 true []), (.vec 12 true []), (.bool false), (.bool false), (.bool false), (.bool false), (.vec 2 true []), (.bool false), (.vec 1 true []), (.vec 11 true []), (.vec 12 true [])] [(0, 9, (.t 10)), (9, 9, (.t 11))], none, false⟩,
  ⟨(some 13), .box (.t 12), none, false⟩,
  ⟨(some 7), .mv (.t 13), none, false⟩]
abbrev r32_2 : List MOp := [
  ⟨(some 14), .mv (.k (.int .i64 0)), none, false⟩]
abbrev r32_3 : List MOp := [
  ⟨(some 15), .bin .lss 0 (.t 14) (.k (.int .i64 4)), none, false⟩]
abbrev r32_4 : List MOp := [
  ⟨(some 16), .nilck (.t 5), none, false⟩,
  ⟨(some 17), .iaddrp (.t 16) (.t 14) 4 1, none, false⟩,
  ⟨(some 18), .load (.t 17) 1 false, none, false⟩,
  ⟨(some 9), .mv (.t 18), none, false⟩]
abbrev r32_5 : List MOp := [
  ⟨(some 19), .mv (.t 9), none, false⟩,
  ⟨(some 20), .mv (.t 7), none, false⟩,
  ⟨(some 21), .dcall (.t 19) [(.t 20)], none, false⟩]
abbrev r32_6 : List MOp := [
  ⟨(some 22), .bin .add 0 (.t 14) (.k (.int .i64 1)), none, false⟩,
  ⟨(some 14), .mv (.t 22), none, false⟩]
abbrev b32_7 : MC := (.seq (.reg r32_3) (.seq (.cond (.t 15) .skip (.exit 0)) (.seq (.block 1 (.seq (.reg r32_4) (.reg r32_5))) (.reg r32_6))))
abbrev r32_8 : List MOp := [
  ⟨(some 23), .mv (.t 7), none, false⟩,
  ⟨(some 24), .nilck (.t 23), none, false⟩,
  ⟨(some 25), .faddr (.t 24) 18, none, false⟩,
  ⟨(some 26), .load (.t 25) 9 true, none, false⟩,
  ⟨none, .store (.t 6) (.t 26) 9, none, false⟩]
abbrev m32 : MC := (.seq (.reg r32_0) (.seq (.reg r32_1) (.seq (.seq (.reg r32_2) (.block 0 (.loop b32_7))) (.seq (.reg r32_8) .ret))))
abbrev rs32 : List RV := [(.cell 6 27 9 true)]
/- hallmark.lattice.commons -/
abbrev r33_0 : List MOp := [
  ⟨(some 0), .alloc [.nilf, .nilf, .nilf, .nilf], none, false⟩]
abbrev r33_1 : List MOp := [
  ⟨(some 1), .build [.nilf, .nilf, .nilf, .nilf] [(0, 1, (.k (.fn 64 [] []))), (1, 1, (.k (.fn 65 [] []))), (2, 1, (.k (.fn 66 [] []))), (3, 1, (.k (.fn 67 [] [])))], none, false⟩,
  ⟨none, .store (.t 0) (.t 1) 4, none, false⟩]
abbrev m33 : MC := (.seq (.reg r33_0) (.seq (.reg r33_1) .ret))
abbrev rs33 : List RV := [(.cell 0 56 4 true)]
/- hallmark.shape.OfKinds -/
abbrev r34_0 : List MOp := [
  ⟨(some 1), .box (.t 0), none, false⟩,
  ⟨(some 2), .alloc [(.bool false), (.bool false), (.bool false), (.bool false), (.vec 2 true []), (.bool false), (.vec 1 true []), (.vec 11 true []), (.vec 12 true [])], none, false⟩]
abbrev r34_1 : List MOp := [
  ⟨(some 5), .load (.t 1) 1 false, none, false⟩,
  ⟨(some 6), .bin .and 0 (.t 5) (.k (.int .u8 127)), none, false⟩,
  ⟨(some 7), .bin .eql 0 (.t 6) (.k (.int .u8 127)), none, false⟩]
abbrev r34_2 : List MOp := [
  ⟨(some 8), .call 68 [], none, false⟩,
  ⟨none, .store (.t 2) (.t 8) 9, none, false⟩]
abbrev r34_3 : List MOp := [
  ⟨(some 9), .mkfn 69 [] [(.t 1)], none, false⟩,
  ⟨(some 3), .mv (.t 9), none, false⟩]
abbrev r34_4 : List MOp := [
  ⟨(some 10), .mv (.t 3), none, false⟩,
  ⟨(some 11), .dcall (.t 10) [(.k (.int .i64 0))], none, false⟩,
  ⟨(some 12), .mv (.t 3), none, false⟩,
  ⟨(some 13), .dcall (.t 12) [(.k (.int .i64 1))], none, false⟩,
  ⟨(some 14), .mv (.t 3), none, false⟩,
  ⟨(some 15), .dcall (.t 14) [(.k (.int .i64 2))], none, false⟩,
  ⟨(some 16), .mv (.t 3), none, false⟩,
  ⟨(some 17), .dcall (.t 16) [(.k (.int .i64 4))], none, false⟩,
  ⟨(some 18), .build [(.bool false), (.bool false), (.bool false), (.bool false), (.vec 2 true []), (.bool false), (.vec 1 true []), (.vec 11 true []), (.vec 12 true [])] [(1, 1, (.t 11)), (2, 1, (.t 13)), (3, 1, (.t 15)), (5, 1, (.t 17))], none, false⟩,
  ⟨(some 4), .alloc [(.bool false), (.bool false), (.bool false), (.bool false), (.vec 2 true []), (.bool false), (.vec 1 true []), (.vec 11 true []), (.vec 12 true [])], none, false⟩,
  ⟨none, .store (.t 4) (.t 18) 9, none, false⟩]
abbrev r34_5 : List MOp := [
  ⟨(some 19), .mv (.t 3), none, false⟩,
  ⟨(some 20), .dcall (.t 19) [(.k (.int .i64 3))], none, false⟩]
abbrev r34_6 : List MOp := [
  ⟨(some 21), .build [(.str ⟨#[]⟩), (.str ⟨#[]⟩)] [], none, false⟩,
  ⟨(some 22), .bslice 2 [(.str ⟨#[]⟩), (.str ⟨#[]⟩)] 1 [(0, (.t 21))], none, false⟩,
  ⟨(some 23), .faddr (.t 4) 4, none, false⟩,
  ⟨none, .store (.t 23) (.t 22) 1, none, false⟩]
abbrev r34_7 : List MOp := [
  ⟨(some 24), .mv (.t 3), none, false⟩,
  ⟨(some 25), .dcall (.t 24) [(.k (.int .i64 5))], none, false⟩]
abbrev r34_8 : List MOp := [
  ⟨(some 26), .call 68 [], none, false⟩,
  ⟨(some 27), .build [(.bool false), (.bool false), (.bool false), (.bool false), (.vec 2 true []), (.bool false), (.vec 1 true []), (.vec 11 true []), (.vec 12 true []), (.int .i64 0), (.int .i64 0)] [(0, 9, (.t 26)), (10, 1, (.k (.int .i64 (-1))))], none, false⟩,
  ⟨(some 28), .bslice 11 [(.bool false), (.bool false), (.bool false), (.bool false), (.vec 2 true []), (.bool false), (.vec 1 true []), (.vec 11 true []), (.vec 12 true []), (.int .i64 0), (.int .i64 0)] 1 [(0, (.t 27))], none, false⟩,
  ⟨(some 29), .faddr (.t 4) 7, none, false⟩,
  ⟨none, .store (.t 29) (.t 28) 1, none, false⟩]
abbrev r34_9 : List MOp := [
  ⟨(some 30), .mv (.t 3), none, false⟩,
  ⟨(some 31), .dcall (.t 30) [(.k (.int .i64 6))], none, false⟩]
abbrev r34_10 : List MOp := [
  ⟨(some 32), .call 68 [], none, false⟩,
  ⟨(some 33), .build [(.vec 1 true []), (.vec 9 true []), (.vec 1 true []), (.bool false), (.bool false), (.bool false), (.bool false), (.vec 2 true []), (.bool false), (.vec 1 true []), (.vec 11 true []), (.vec 12 true [])] [(3, 9, (.t 32))], none, false⟩,
  ⟨(some 34), .bslice 12 [(.vec 1 true []), (.vec 9 true []), (.vec 1 true []), (.bool false), (.bool false), (.bool false), (.bool false), (.vec 2 true []), (.bool false), (.vec 1 true []), (.vec 11 true []), (.vec 12 true [])] 1 [(0, (.t 33))], none, false⟩,
  ⟨(some 35), .faddr (.t 4) 8, none, false⟩,
  ⟨none, .store (.t 35) (.t 34) 1, none, false⟩]
abbrev r34_11 : List MOp := [
  ⟨(some 36), .load (.t 4) 9 true, none, false⟩,
  ⟨none, .store (.t 2) (.t 36) 9, none, false⟩]
abbrev m34 : MC := (.seq (.reg r34_0) (.seq (.seq (.reg r34_1) (.cond (.t 7) (.seq (.reg r34_2) .ret) .skip)) (.seq (.reg r34_3) (.seq (.reg r34_4) (.seq (.seq (.reg r34_5) (.cond (.t 20) (.reg r34_6) .skip)) (.seq (.seq (.reg r34_7) (.cond (.t 25) (.reg r34_8) .skip)) (.seq (.seq (.reg r34_9) (.cond (.t 31) (.reg r34_10) .skip)) (.seq (.reg r34_11) .ret))))))))
abbrev rs34 : List RV := [(.cell 2 27 9 true)]
/- hallmark.value.empty -/
abbrev r36_0 : List MOp := [
  ⟨(some 5), .box (.t 0), none, false⟩,
  ⟨(some 10), .mv (.k (.bool false)), none, false⟩]
abbrev r36_1 : List MOp := [
  ⟨(some 11), .mv (.t 1), none, false⟩,
  ⟨(some 12), .mv (.t 11), none, false⟩,
  ⟨(some 13), .faddr (.t 5) 1, some (12, false), true⟩,
  ⟨(some 14), .load (.t 13) 1 false, some (12, false), true⟩,
  ⟨(some 15), .bin .eql 0 (.t 14) (.k (.str ⟨#[]⟩)), some (12, false), true⟩,
  ⟨(some 16), .pick (.t 12) (.k (.bool true)) (.t 15), none, false⟩,
  ⟨(some 17), .mv (.t 16), none, false⟩,
  ⟨(some 18), .mv (.t 2), some (17, true), true⟩,
  ⟨(some 19), .mv (.t 18), some (17, true), true⟩,
  ⟨(some 20), .faddr (.t 5) 2, some (19, false), true⟩,
  ⟨(some 21), .load (.t 20) 1 false, some (19, false), true⟩,
  ⟨(some 22), .bin .eql 0 (.t 21) (.k (.str ⟨#[]⟩)), some (19, false), true⟩,
  ⟨(some 23), .pick (.t 19) (.k (.bool true)) (.t 22), some (17, true), true⟩,
  ⟨(some 24), .pick (.t 17) (.t 23) (.k (.bool false)), none, false⟩,
  ⟨(some 25), .mv (.t 24), none, false⟩,
  ⟨(some 26), .mv (.t 3), some (25, true), true⟩,
  ⟨(some 27), .mv (.t 26), some (25, true), true⟩,
  ⟨(some 28), .faddr (.t 5) 3, some (27, false), true⟩,
  ⟨(some 29), .load (.t 28) 1 false, some (27, false), true⟩,
  ⟨(some 30), .len (.t 29), some (27, false), true⟩,
  ⟨(some 31), .bin .eql 0 (.t 30) (.k (.int .i64 0)), some (27, false), true⟩,
  ⟨(some 32), .pick (.t 27) (.k (.bool true)) (.t 31), some (25, true), true⟩,
  ⟨(some 33), .pick (.t 25) (.t 32) (.k (.bool false)), none, false⟩,
  ⟨(some 34), .mv (.t 33), none, false⟩,
  ⟨(some 35), .mv (.t 4), some (34, true), true⟩,
  ⟨(some 36), .mv (.t 35), some (34, true), true⟩,
  ⟨(some 37), .faddr (.t 5) 4, some (36, false), true⟩,
  ⟨(some 38), .load (.t 37) 1 false, some (36, false), true⟩,
  ⟨(some 39), .len (.t 38), some (36, false), true⟩,
  ⟨(some 40), .bin .eql 0 (.t 39) (.k (.int .i64 0)), some (36, false), true⟩,
  ⟨(some 41), .pick (.t 36) (.k (.bool true)) (.t 40), some (34, true), true⟩,
  ⟨(some 42), .pick (.t 34) (.t 41) (.k (.bool false)), none, false⟩,
  ⟨(some 10), .mv (.t 42), none, false⟩]
abbrev m36 : MC := (.seq (.reg r36_0) (.seq (.reg r36_1) .ret))
abbrev rs36 : List RV := [(.tmp 10)]
/- hallmark.tens.Formed -/
abbrev r37_0 : List MOp := [
  ⟨(some 2), .mv (.k (.bool false)), none, false⟩]
abbrev r37_1 : List MOp := [
  ⟨(some 4), .mv (.t 0), none, false⟩,
  ⟨(some 5), .bin .eql 0 (.t 4) (.k (.str ⟨#[48]⟩)), none, false⟩]
abbrev r37_2 : List MOp := [
  ⟨(some 2), .mv (.k (.bool true)), none, false⟩]
abbrev r37_3 : List MOp := [
  ⟨(some 6), .mv (.t 0), none, false⟩,
  ⟨(some 7), .bin .neq 0 (.t 6) (.k (.str ⟨#[]⟩)), none, false⟩,
  ⟨(some 8), .mv (.t 7), none, false⟩,
  ⟨(some 9), .mv (.t 0), some (8, true), false⟩,
  ⟨(some 10), .sidx (.t 9) (.k (.int .i64 0)), some (8, true), false⟩,
  ⟨(some 11), .bin .eql 0 (.t 10) (.k (.int .u8 45)), some (8, true), false⟩,
  ⟨(some 12), .pick (.t 8) (.t 11) (.k (.bool false)), none, false⟩]
abbrev r37_4 : List MOp := [
  ⟨(some 13), .mv (.t 0), none, false⟩,
  ⟨(some 14), .sslc (.t 13) (some (.k (.int .i64 1))) none, none, false⟩,
  ⟨(some 0), .mv (.t 14), none, false⟩]
abbrev r37_5 : List MOp := [
  ⟨(some 15), .mv (.t 0), none, false⟩,
  ⟨(some 16), .bin .eql 0 (.t 15) (.k (.str ⟨#[]⟩)), none, false⟩,
  ⟨(some 17), .mv (.t 16), none, false⟩,
  ⟨(some 18), .mv (.t 0), some (17, false), false⟩,
  ⟨(some 19), .sidx (.t 18) (.k (.int .i64 0)), some (17, false), false⟩,
  ⟨(some 20), .bin .eql 0 (.t 19) (.k (.int .u8 48)), some (17, false), false⟩,
  ⟨(some 21), .pick (.t 17) (.k (.bool true)) (.t 20), none, false⟩]
abbrev r37_6 : List MOp := [
  ⟨(some 2), .mv (.k (.bool false)), none, false⟩]
abbrev r37_7 : List MOp := [
  ⟨(some 22), .mv (.t 0), none, false⟩,
  ⟨(some 23), .slen (.t 22), none, false⟩,
  ⟨(some 24), .mv (.k (.int .i64 0)), none, false⟩]
abbrev r37_8 : List MOp := [
  ⟨(some 25), .bin .lss 0 (.t 24) (.t 23), none, false⟩]
abbrev r37_9 : List MOp := [
  ⟨(some 26), .mv (.t 24), none, false⟩,
  ⟨(some 3), .mv (.t 26), none, false⟩]
abbrev r37_10 : List MOp := [
  ⟨(some 27), .mv (.t 0), none, false⟩,
  ⟨(some 28), .mv (.t 3), none, false⟩,
  ⟨(some 29), .sidx (.t 27) (.t 28), none, false⟩,
  ⟨(some 30), .bin .lss 0 (.t 29) (.k (.int .u8 48)), none, false⟩,
  ⟨(some 31), .mv (.t 30), none, false⟩,
  ⟨(some 32), .mv (.t 0), some (31, false), false⟩,
  ⟨(some 33), .mv (.t 3), some (31, false), false⟩,
  ⟨(some 34), .sidx (.t 32) (.t 33), some (31, false), false⟩,
  ⟨(some 35), .bin .gtr 0 (.t 34) (.k (.int .u8 57)), some (31, false), false⟩,
  ⟨(some 36), .pick (.t 31) (.k (.bool true)) (.t 35), none, false⟩]
abbrev r37_11 : List MOp := [
  ⟨(some 2), .mv (.k (.bool false)), none, false⟩]
abbrev r37_12 : List MOp := [
  ⟨(some 37), .bin .add 0 (.t 24) (.k (.int .i64 1)), none, false⟩,
  ⟨(some 24), .mv (.t 37), none, false⟩]
abbrev b37_13 : MC := (.seq (.reg r37_8) (.seq (.cond (.t 25) .skip (.exit 0)) (.seq (.block 1 (.seq (.reg r37_9) (.seq (.reg r37_10) (.cond (.t 36) (.seq (.reg r37_11) .ret) .skip)))) (.reg r37_12))))
abbrev r37_14 : List MOp := [
  ⟨(some 2), .mv (.k (.bool true)), none, false⟩]
abbrev m37 : MC := (.seq (.reg r37_0) (.seq (.seq (.reg r37_1) (.cond (.t 5) (.seq (.reg r37_2) .ret) .skip)) (.seq (.seq (.reg r37_3) (.cond (.t 12) (.reg r37_4) .skip)) (.seq (.seq (.reg r37_5) (.cond (.t 21) (.seq (.reg r37_6) .ret) .skip)) (.seq (.seq (.reg r37_7) (.block 0 (.loop b37_13))) (.seq (.reg r37_14) .ret))))))
abbrev rs37 : List RV := [(.tmp 2)]
/- hallmark.utf.Valid -/
abbrev r38_0 : List MOp := [
  ⟨(some 2), .mv (.k (.bool false)), none, false⟩]
abbrev r38_1 : List MOp := [
  ⟨(some 3), .mv (.t 0), none, false⟩,
  ⟨(some 4), .call 70 [(.t 3)], none, false⟩,
  ⟨(some 2), .mv (.t 4), none, false⟩]
abbrev m38 : MC := (.seq (.reg r38_0) (.seq (.reg r38_1) .ret))
abbrev rs38 : List RV := [(.tmp 2)]
/- hallmark.tens.Add -/
abbrev r41_0 : List MOp := [
  ⟨(some 4), .mv (.k (.str ⟨#[]⟩)), none, false⟩,
  ⟨(some 5), .mv (.k (.int .i64 0)), none, false⟩]
abbrev r41_1 : List MOp := [
  ⟨(some 10), .mv (.t 0), none, false⟩,
  ⟨(some 11), .call 37 [(.t 10)], none, false⟩,
  ⟨(some 12), .un .not (.t 11), none, false⟩,
  ⟨(some 13), .mv (.t 12), none, false⟩,
  ⟨(some 14), .mv (.t 1), some (13, false), false⟩,
  ⟨(some 15), .call 37 [(.t 14)], some (13, false), false⟩,
  ⟨(some 16), .un .not (.t 15), some (13, false), false⟩,
  ⟨(some 17), .pick (.t 13) (.k (.bool true)) (.t 16), none, false⟩]
abbrev r41_2 : List MOp := [
  ⟨(some 4), .mv (.k (.str ⟨#[]⟩)), none, false⟩,
  ⟨(some 5), .mv (.k (.int .i64 1)), none, false⟩]
abbrev r41_3 : List MOp := [
  ⟨(some 19), .mv (.t 0), none, false⟩,
  ⟨(some 20), .call 73 [(.t 19)], none, false⟩,
  ⟨(some 18), .mv (.t 20), none, false⟩,
  ⟨(some 21), .ext (.t 18) 0, none, false⟩,
  ⟨(some 22), .ext (.t 18) 1, none, false⟩,
  ⟨(some 6), .mv (.t 21), none, false⟩,
  ⟨(some 7), .mv (.t 22), none, false⟩]
abbrev r41_4 : List MOp := [
  ⟨(some 24), .mv (.t 1), none, false⟩,
  ⟨(some 25), .call 73 [(.t 24)], none, false⟩,
  ⟨(some 23), .mv (.t 25), none, false⟩,
  ⟨(some 26), .ext (.t 23) 0, none, false⟩,
  ⟨(some 27), .ext (.t 23) 1, none, false⟩,
  ⟨(some 8), .mv (.t 26), none, false⟩,
  ⟨(some 9), .mv (.t 27), none, false⟩]
abbrev r41_5 : List MOp := [
  ⟨(some 29), .mv (.t 6), none, false⟩,
  ⟨(some 30), .mv (.t 8), none, false⟩,
  ⟨(some 31), .bin .eql 1 (.t 29) (.t 30), none, false⟩,
  ⟨(some 28), .mv (.t 31), none, false⟩]
abbrev r41_6 : List MOp := [
  ⟨(some 32), .mv (.t 6), none, false⟩,
  ⟨(some 33), .mv (.t 7), none, false⟩,
  ⟨(some 34), .mv (.t 9), none, false⟩,
  ⟨(some 35), .call 75 [(.t 33), (.t 34)], none, false⟩,
  ⟨(some 36), .call 74 [(.t 32), (.t 35)], none, false⟩,
  ⟨(some 4), .mv (.t 36), none, false⟩,
  ⟨(some 5), .mv (.k (.int .i64 0)), none, false⟩]
abbrev r41_7 : List MOp := [
  ⟨(some 38), .mv (.t 7), none, false⟩,
  ⟨(some 39), .mv (.t 9), none, false⟩,
  ⟨(some 40), .call 76 [(.t 38), (.t 39)], none, false⟩,
  ⟨(some 41), .bin .lss 0 (.t 40) (.k (.int .i64 0)), none, false⟩,
  ⟨(some 37), .mv (.t 41), none, false⟩]
abbrev r41_8 : List MOp := [
  ⟨(some 42), .mv (.t 8), none, false⟩,
  ⟨(some 43), .mv (.t 9), none, false⟩,
  ⟨(some 44), .mv (.t 7), none, false⟩,
  ⟨(some 45), .call 77 [(.t 43), (.t 44)], none, false⟩,
  ⟨(some 46), .call 74 [(.t 42), (.t 45)], none, false⟩,
  ⟨(some 4), .mv (.t 46), none, false⟩,
  ⟨(some 5), .mv (.k (.int .i64 0)), none, false⟩]
abbrev r41_9 : List MOp := [
  ⟨(some 47), .mv (.t 6), none, false⟩,
  ⟨(some 48), .mv (.t 7), none, false⟩,
  ⟨(some 49), .mv (.t 9), none, false⟩,
  ⟨(some 50), .call 77 [(.t 48), (.t 49)], none, false⟩,
  ⟨(some 51), .call 74 [(.t 47), (.t 50)], none, false⟩,
  ⟨(some 4), .mv (.t 51), none, false⟩,
  ⟨(some 5), .mv (.k (.int .i64 0)), none, false⟩]
abbrev m41 : MC := (.seq (.reg r41_0) (.seq (.seq (.reg r41_1) (.cond (.t 17) (.seq (.reg r41_2) .ret) .skip)) (.seq (.reg r41_3) (.seq (.reg r41_4) (.seq (.block 0 (.seq (.reg r41_5) (.cond (.t 28) (.seq (.reg r41_6) .ret) (.seq (.reg r41_7) (.cond (.t 37) (.seq (.reg r41_8) .ret) .skip))))) (.seq (.reg r41_9) .ret))))))
abbrev rs41 : List RV := [(.tmp 4), (.tmp 5)]
/- hallmark.shape.Same -/
abbrev r44_0 : List MOp := [
  ⟨(some 2), .box (.t 0), none, false⟩,
  ⟨(some 3), .box (.t 1), none, false⟩,
  ⟨(some 4), .mv (.k (.bool false)), none, false⟩]
abbrev r44_1 : List MOp := [
  ⟨(some 5), .load (.t 2) 9 true, none, false⟩,
  ⟨(some 6), .load (.t 3) 9 true, none, false⟩,
  ⟨(some 7), .call 79 [(.t 5), (.t 6)], none, false⟩,
  ⟨(some 8), .bin .eql 0 (.t 7) (.k (.int .i64 0)), none, false⟩,
  ⟨(some 4), .mv (.t 8), none, false⟩]
abbrev m44 : MC := (.seq (.reg r44_0) (.seq (.reg r44_1) .ret))
abbrev rs44 : List RV := [(.tmp 4)]
/- (*hallmark.lattice.part).wideFlags -/
abbrev r45_0 : List MOp := [
  ⟨(some 3), .mv (.t 0), none, false⟩,
  ⟨(some 4), .mv (.t 0), none, false⟩,
  ⟨(some 5), .mv (.t 0), none, false⟩,
  ⟨(some 6), .mv (.t 0), none, false⟩,
  ⟨(some 7), .nilck (.t 6), none, false⟩,
  ⟨(some 8), .faddr (.t 7) 9, none, false⟩,
  ⟨(some 9), .faddr (.t 8) 1, none, false⟩,
  ⟨(some 10), .load (.t 9) 1 false, none, false⟩,
  ⟨(some 11), .mv (.t 0), none, false⟩,
  ⟨(some 12), .nilck (.t 11), none, false⟩,
  ⟨(some 13), .faddr (.t 12) 9, none, false⟩,
  ⟨(some 14), .faddr (.t 13) 2, none, false⟩,
  ⟨(some 15), .load (.t 14) 1 false, none, false⟩,
  ⟨(some 16), .mv (.t 0), none, false⟩,
  ⟨(some 17), .nilck (.t 16), none, false⟩,
  ⟨(some 18), .faddr (.t 17) 9, none, false⟩,
  ⟨(some 19), .faddr (.t 18) 3, none, false⟩,
  ⟨(some 20), .load (.t 19) 1 false, none, false⟩,
  ⟨(some 21), .nilck (.t 3), none, false⟩,
  ⟨(some 22), .faddr (.t 21) 18, none, false⟩,
  ⟨(some 23), .faddr (.t 22) 1, none, false⟩,
  ⟨none, .store (.t 23) (.t 10) 1, none, false⟩,
  ⟨(some 24), .nilck (.t 4), none, false⟩,
  ⟨(some 25), .faddr (.t 24) 18, none, false⟩,
  ⟨(some 26), .faddr (.t 25) 2, none, false⟩,
  ⟨none, .store (.t 26) (.t 15) 1, none, false⟩,
  ⟨(some 27), .nilck (.t 5), none, false⟩,
  ⟨(some 28), .faddr (.t 27) 18, none, false⟩,
  ⟨(some 29), .faddr (.t 28) 3, none, false⟩,
  ⟨none, .store (.t 29) (.t 20) 1, none, false⟩]
abbrev r45_1 : List MOp := [
  ⟨(some 30), .mv (.t 0), none, false⟩,
  ⟨(some 31), .nilck (.t 30), none, false⟩,
  ⟨(some 32), .faddr (.t 31) 0, none, false⟩,
  ⟨(some 33), .faddr (.t 32) 5, none, false⟩,
  ⟨(some 34), .load (.t 33) 1 false, none, false⟩,
  ⟨(some 35), .un .not (.t 34), none, false⟩,
  ⟨(some 36), .mv (.t 35), none, false⟩,
  ⟨(some 37), .mv (.t 0), some (36, true), true⟩,
  ⟨(some 38), .nilck (.t 37), some (36, true), true⟩,
  ⟨(some 39), .faddr (.t 38) 0, some (36, true), true⟩,
  ⟨(some 40), .faddr (.t 39) 6, some (36, true), true⟩,
  ⟨(some 41), .load (.t 40) 1 false, some (36, true), true⟩,
  ⟨(some 42), .len (.t 41), some (36, true), true⟩,
  ⟨(some 43), .bin .eql 0 (.t 42) (.k (.int .i64 0)), some (36, true), true⟩,
  ⟨(some 44), .pick (.t 36) (.t 43) (.k (.bool false)), none, false⟩,
  ⟨(some 2), .mv (.t 44), none, false⟩]
abbrev r45_2 : List MOp := [
  ⟨(some 45), .mv (.t 2), none, false⟩,
  ⟨(some 46), .mv (.t 45), none, false⟩,
  ⟨(some 47), .mv (.t 0), some (46, false), false⟩,
  ⟨(some 48), .nilck (.t 47), some (46, false), false⟩,
  ⟨(some 49), .faddr (.t 48) 0, some (46, false), false⟩,
  ⟨(some 50), .faddr (.t 49) 5, some (46, false), false⟩,
  ⟨(some 51), .load (.t 50) 1 false, some (46, false), false⟩,
  ⟨(some 52), .mv (.t 0), some (46, false), false⟩,
  ⟨(some 53), .nilck (.t 52), some (46, false), false⟩,
  ⟨(some 54), .faddr (.t 53) 9, some (46, false), false⟩,
  ⟨(some 55), .faddr (.t 54) 5, some (46, false), false⟩,
  ⟨(some 56), .load (.t 55) 1 false, some (46, false), false⟩,
  ⟨(some 57), .bin .eql 1 (.t 51) (.t 56), some (46, false), false⟩,
  ⟨(some 58), .mv (.t 57), some (46, false), false⟩,
  ⟨(some 59), .mv (.t 0), some (58, true), false⟩,
  ⟨(some 60), .nilck (.t 59), some (58, true), false⟩,
  ⟨(some 61), .faddr (.t 60) 0, some (58, true), false⟩,
  ⟨(some 62), .faddr (.t 61) 6, some (58, true), false⟩,
  ⟨(some 63), .load (.t 62) 1 false, some (58, true), false⟩,
  ⟨(some 64), .mv (.t 0), some (58, true), false⟩,
  ⟨(some 65), .nilck (.t 64), some (58, true), false⟩,
  ⟨(some 66), .faddr (.t 65) 9, some (58, true), false⟩,
  ⟨(some 67), .faddr (.t 66) 6, some (58, true), false⟩,
  ⟨(some 68), .load (.t 67) 1 false, some (58, true), false⟩,
  ⟨(some 69), .call 80 [(.t 63), (.t 68)], some (58, true), false⟩,
  ⟨(some 70), .pick (.t 58) (.t 69) (.k (.bool false)), some (46, false), false⟩,
  ⟨(some 71), .pick (.t 46) (.k (.bool true)) (.t 70), none, false⟩]
abbrev r45_3 : List MOp := [
  ⟨(some 72), .mv (.t 0), none, false⟩,
  ⟨(some 73), .mv (.t 0), none, false⟩,
  ⟨(some 74), .mv (.t 0), none, false⟩,
  ⟨(some 75), .nilck (.t 74), none, false⟩,
  ⟨(some 76), .faddr (.t 75) 9, none, false⟩,
  ⟨(some 77), .faddr (.t 76) 5, none, false⟩,
  ⟨(some 78), .load (.t 77) 1 false, none, false⟩,
  ⟨(some 79), .mv (.t 0), none, false⟩,
  ⟨(some 80), .nilck (.t 79), none, false⟩,
  ⟨(some 81), .faddr (.t 80) 9, none, false⟩,
  ⟨(some 82), .faddr (.t 81) 6, none, false⟩,
  ⟨(some 83), .load (.t 82) 1 false, none, false⟩,
  ⟨(some 84), .nilck (.t 72), none, false⟩,
  ⟨(some 85), .faddr (.t 84) 18, none, false⟩,
  ⟨(some 86), .faddr (.t 85) 5, none, false⟩,
  ⟨none, .store (.t 86) (.t 78) 1, none, false⟩,
  ⟨(some 87), .nilck (.t 73), none, false⟩,
  ⟨(some 88), .faddr (.t 87) 18, none, false⟩,
  ⟨(some 89), .faddr (.t 88) 6, none, false⟩,
  ⟨none, .store (.t 89) (.t 83) 1, none, false⟩]
abbrev r45_4 : List MOp := [
  ⟨(some 90), .mv (.t 0), none, false⟩,
  ⟨(some 91), .nilck (.t 90), none, false⟩,
  ⟨(some 92), .faddr (.t 91) 18, none, false⟩,
  ⟨(some 93), .faddr (.t 92) 5, none, false⟩,
  ⟨none, .store (.t 93) (.k (.bool true)) 1, none, false⟩]
abbrev m45 : MC := (.seq (.draw [(0, 1), (0, 2), (1, 2), (0, 3), (1, 3), (2, 3), (0, 4), (1, 4), (2, 4), (0, 5), (1, 5), (2, 5), (0, 6), (1, 6), (2, 6), (0, 7), (1, 7), (2, 7), (0, 8), (1, 8), (2, 8), (3, 8), (4, 8), (5, 8), (6, 8), (7, 8), (0, 9), (1, 9), (2, 9), (3, 9), (4, 9), (5, 9), (6, 9), (7, 9), (0, 10), (1, 10), (2, 10), (3, 10), (4, 10), (5, 10), (6, 10), (7, 10), (0, 11), (1, 11), (2, 11), (3, 11), (4, 11), (5, 11), (6, 11), (7, 11), (0, 12), (1, 12), (2, 12), (3, 12), (4, 12), (5, 12), (6, 12), (7, 12), (0, 13), (1, 13), (2, 13), (3, 13), (4, 13), (5, 13), (6, 13), (7, 13), (8, 13), (9, 13), (10, 13), (11, 13), (12, 13), (0, 14), (1, 14), (2, 14), (3, 14), (4, 14), (5, 14), (6, 14), (7, 14), (8, 14), (9, 14), (10, 14), (11, 14), (12, 14), (0, 15), (1, 15), (2, 15), (3, 15), (4, 15), (5, 15), (6, 15), (7, 15), (8, 15), (9, 15), (10, 15), (11, 15), (12, 15), (0, 16), (1, 16), (2, 16), (3, 16), (4, 16), (5, 16), (6, 16), (7, 16), (8, 16), (9, 16), (10, 16), (11, 16), (12, 16), (0, 17), (1, 17), (2, 17), (3, 17), (4, 17), (5, 17), (6, 17), (7, 17), (8, 17), (9, 17), (10, 17), (11, 17), (12, 17), (1, 18), (2, 18), (1, 19), (2, 19), (1, 20), (2, 20), (1, 21), (2, 21), (2, 22), (2, 23), (2, 24), (2, 25)] r45_0) (.seq (.reg r45_1) (.seq (.seq (.draw [(2, 7), (3, 7), (4, 7), (5, 7), (6, 7), (2, 8), (3, 8), (4, 8), (5, 8), (6, 8), (2, 9), (3, 9), (4, 9), (5, 9), (6, 9), (2, 10), (3, 10), (4, 10), (5, 10), (6, 10), (2, 11), (3, 11), (4, 11), (5, 11), (6, 11), (14, 19), (15, 19), (16, 19), (17, 19), (18, 19), (14, 20), (15, 20), (16, 20), (17, 20), (18, 20), (14, 21), (15, 21), (16, 21), (17, 21), (18, 21), (14, 22), (15, 22), (16, 22), (17, 22), (18, 22), (14, 23), (15, 23), (16, 23), (17, 23), (18, 23)] r45_2) (.cond (.t 71) (.seq (.draw [(0, 1), (0, 2), (1, 2), (0, 3), (1, 3), (0, 4), (1, 4), (0, 5), (1, 5), (0, 6), (1, 6), (0, 7), (1, 7), (2, 7), (3, 7), (4, 7), (5, 7), (6, 7), (0, 8), (1, 8), (2, 8), (3, 8), (4, 8), (5, 8), (6, 8), (0, 9), (1, 9), (2, 9), (3, 9), (4, 9), (5, 9), (6, 9), (0, 10), (1, 10), (2, 10), (3, 10), (4, 10), (5, 10), (6, 10), (0, 11), (1, 11), (2, 11), (3, 11), (4, 11), (5, 11), (6, 11), (1, 12), (1, 13), (1, 14), (1, 15)] r45_3) .ret) .skip)) (.reg r45_4))))
abbrev rs45 : List RV := []
/- (*hallmark.lattice.part).wideNumbers -/
abbrev r46_0 : List MOp := [
  ⟨(some 3), .mv (.t 0), none, false⟩,
  ⟨(some 4), .mv (.t 0), none, false⟩,
  ⟨(some 5), .nilck (.t 4), none, false⟩,
  ⟨(some 6), .faddr (.t 5) 9, none, false⟩,
  ⟨(some 7), .faddr (.t 6) 4, none, false⟩,
  ⟨(some 8), .load (.t 7) 1 false, none, false⟩,
  ⟨(some 9), .nilck (.t 3), none, false⟩,
  ⟨(some 10), .faddr (.t 9) 18, none, false⟩,
  ⟨(some 11), .faddr (.t 10) 4, none, false⟩,
  ⟨none, .store (.t 11) (.t 8) 1, none, false⟩]
abbrev r46_1 : List MOp := [
  ⟨(some 12), .mv (.t 0), none, false⟩,
  ⟨(some 13), .nilck (.t 12), none, false⟩,
  ⟨(some 14), .faddr (.t 13) 0, none, false⟩,
  ⟨(some 15), .faddr (.t 14) 4, none, false⟩,
  ⟨(some 16), .load (.t 15) 1 false, none, false⟩,
  ⟨(some 17), .len (.t 16), none, false⟩,
  ⟨(some 18), .bin .eql 0 (.t 17) (.k (.int .i64 0)), none, false⟩]
abbrev r46_2 : List MOp := [
  ⟨(some 19), .mv (.t 0), none, false⟩,
  ⟨(some 20), .nilck (.t 19), none, false⟩,
  ⟨(some 21), .faddr (.t 20) 0, none, false⟩,
  ⟨(some 22), .faddr (.t 21) 4, none, false⟩,
  ⟨(some 23), .load (.t 22) 1 false, none, false⟩,
  ⟨(some 24), .iaddr (.t 23) (.k (.int .i64 0)) 2, none, false⟩,
  ⟨(some 25), .load (.t 24) 2 true, none, false⟩,
  ⟨(some 2), .alloc [(.str ⟨#[]⟩), (.str ⟨#[]⟩)], none, false⟩,
  ⟨none, .store (.t 2) (.t 25) 2, none, false⟩]
abbrev r46_3 : List MOp := [
  ⟨(some 26), .mv (.t 0), none, false⟩,
  ⟨(some 27), .nilck (.t 26), none, false⟩,
  ⟨(some 28), .faddr (.t 27) 9, none, false⟩,
  ⟨(some 29), .faddr (.t 28) 4, none, false⟩,
  ⟨(some 30), .load (.t 29) 1 false, none, false⟩,
  ⟨(some 31), .iaddr (.t 30) (.k (.int .i64 0)) 2, none, false⟩,
  ⟨(some 32), .faddr (.t 31) 0, none, false⟩,
  ⟨(some 33), .load (.t 32) 1 false, none, false⟩,
  ⟨(some 34), .faddr (.t 2) 0, none, false⟩,
  ⟨(some 35), .load (.t 34) 1 false, none, false⟩,
  ⟨(some 36), .bin .neq 0 (.t 33) (.t 35), none, false⟩]
abbrev r46_4 : List MOp := [
  ⟨(some 37), .faddr (.t 2) 0, none, false⟩,
  ⟨none, .store (.t 37) (.k (.str ⟨#[]⟩)) 1, none, false⟩]
abbrev r46_5 : List MOp := [
  ⟨(some 38), .mv (.t 0), none, false⟩,
  ⟨(some 39), .nilck (.t 38), none, false⟩,
  ⟨(some 40), .faddr (.t 39) 9, none, false⟩,
  ⟨(some 41), .faddr (.t 40) 4, none, false⟩,
  ⟨(some 42), .load (.t 41) 1 false, none, false⟩,
  ⟨(some 43), .iaddr (.t 42) (.k (.int .i64 0)) 2, none, false⟩,
  ⟨(some 44), .faddr (.t 43) 1, none, false⟩,
  ⟨(some 45), .load (.t 44) 1 false, none, false⟩,
  ⟨(some 46), .faddr (.t 2) 1, none, false⟩,
  ⟨(some 47), .load (.t 46) 1 false, none, false⟩,
  ⟨(some 48), .bin .neq 0 (.t 45) (.t 47), none, false⟩]
abbrev r46_6 : List MOp := [
  ⟨(some 49), .faddr (.t 2) 1, none, false⟩,
  ⟨none, .store (.t 49) (.k (.str ⟨#[]⟩)) 1, none, false⟩]
abbrev r46_7 : List MOp := [
  ⟨(some 50), .mv (.t 0), none, false⟩,
  ⟨(some 51), .load (.t 2) 2 true, none, false⟩,
  ⟨(some 52), .bslice 2 [(.str ⟨#[]⟩), (.str ⟨#[]⟩)] 1 [(0, (.t 51))], none, false⟩,
  ⟨(some 53), .nilck (.t 50), none, false⟩,
  ⟨(some 54), .faddr (.t 53) 18, none, false⟩,
  ⟨(some 55), .faddr (.t 54) 4, none, false⟩,
  ⟨none, .store (.t 55) (.t 52) 1, none, false⟩]
abbrev m46 : MC := (.seq (.reg r46_0) (.seq (.seq (.reg r46_1) (.cond (.t 18) .ret .skip)) (.seq (.reg r46_2) (.seq (.seq (.draw [(0, 8), (1, 8), (2, 8), (3, 8), (4, 8), (5, 8), (6, 8), (7, 8), (0, 9), (1, 9), (2, 9), (3, 9), (4, 9), (5, 9), (6, 9), (7, 9)] r46_3) (.cond (.t 36) (.reg r46_4) .skip)) (.seq (.seq (.draw [(0, 8), (1, 8), (2, 8), (3, 8), (4, 8), (5, 8), (6, 8), (7, 8), (0, 9), (1, 9), (2, 9), (3, 9), (4, 9), (5, 9), (6, 9), (7, 9)] r46_5) (.cond (.t 48) (.reg r46_6) .skip)) (.reg r46_7))))))
abbrev rs46 : List RV := []
/- (*hallmark.lattice.part).wideArrays -/
abbrev r47_0 : List MOp := [
  ⟨(some 5), .mv (.t 0), none, false⟩,
  ⟨(some 6), .mv (.t 0), none, false⟩,
  ⟨(some 7), .nilck (.t 6), none, false⟩,
  ⟨(some 8), .faddr (.t 7) 9, none, false⟩,
  ⟨(some 9), .faddr (.t 8) 7, none, false⟩,
  ⟨(some 10), .load (.t 9) 1 false, none, false⟩,
  ⟨(some 11), .nilck (.t 5), none, false⟩,
  ⟨(some 12), .faddr (.t 11) 18, none, false⟩,
  ⟨(some 13), .faddr (.t 12) 7, none, false⟩,
  ⟨none, .store (.t 13) (.t 10) 1, none, false⟩]
abbrev r47_1 : List MOp := [
  ⟨(some 14), .mv (.t 0), none, false⟩,
  ⟨(some 15), .nilck (.t 14), none, false⟩,
  ⟨(some 16), .faddr (.t 15) 0, none, false⟩,
  ⟨(some 17), .faddr (.t 16) 7, none, false⟩,
  ⟨(some 18), .load (.t 17) 1 false, none, false⟩,
  ⟨(some 19), .len (.t 18), none, false⟩,
  ⟨(some 20), .bin .eql 0 (.t 19) (.k (.int .i64 0)), none, false⟩]
abbrev r47_2 : List MOp := [
  ⟨(some 21), .mv (.t 0), none, false⟩,
  ⟨(some 22), .nilck (.t 21), none, false⟩,
  ⟨(some 23), .faddr (.t 22) 0, none, false⟩,
  ⟨(some 24), .faddr (.t 23) 7, none, false⟩,
  ⟨(some 25), .load (.t 24) 1 false, none, false⟩,
  ⟨(some 26), .iaddr (.t 25) (.k (.int .i64 0)) 11, none, false⟩,
  ⟨(some 27), .load (.t 26) 11 true, none, false⟩,
  ⟨(some 28), .mv (.t 0), none, false⟩,
  ⟨(some 29), .nilck (.t 28), none, false⟩,
  ⟨(some 30), .faddr (.t 29) 9, none, false⟩,
  ⟨(some 31), .faddr (.t 30) 7, none, false⟩,
  ⟨(some 32), .load (.t 31) 1 false, none, false⟩,
  ⟨(some 33), .iaddr (.t 32) (.k (.int .i64 0)) 11, none, false⟩,
  ⟨(some 34), .load (.t 33) 11 true, none, false⟩,
  ⟨(some 2), .alloc [(.bool false), (.bool false), (.bool false), (.bool false), (.vec 2 true []), (.bool false), (.vec 1 true []), (.vec 11 true []), (.vec 12 true []), (.int .i64 0), (.int .i64 0)], none, false⟩,
  ⟨(some 3), .alloc [(.bool false), (.bool false), (.bool false), (.bool false), (.vec 2 true []), (.bool false), (.vec 1 true []), (.vec 11 true []), (.vec 12 true []), (.int .i64 0), (.int .i64 0)], none, false⟩,
  ⟨none, .store (.t 2) (.t 27) 11, none, false⟩,
  ⟨none, .store (.t 3) (.t 34) 11, none, false⟩]
abbrev r47_3 : List MOp := [
  ⟨(some 35), .faddr (.t 2) 0, none, false⟩,
  ⟨(some 36), .load (.t 35) 9 true, none, false⟩,
  ⟨(some 37), .faddr (.t 3) 0, none, false⟩,
  ⟨(some 38), .load (.t 37) 9 true, none, false⟩,
  ⟨(some 39), .call 81 [], none, false⟩,
  ⟨(some 40), .call 22 [(.t 36), (.t 38), (.t 39)], none, false⟩,
  ⟨(some 41), .faddr (.t 3) 9, none, false⟩,
  ⟨(some 42), .load (.t 41) 1 false, none, false⟩,
  ⟨(some 43), .faddr (.t 3) 10, none, false⟩,
  ⟨(some 44), .load (.t 43) 1 false, none, false⟩,
  ⟨(some 45), .build [(.bool false), (.bool false), (.bool false), (.bool false), (.vec 2 true []), (.bool false), (.vec 1 true []), (.vec 11 true []), (.vec 12 true []), (.int .i64 0), (.int .i64 0)] [(0, 9, (.t 40)), (9, 1, (.t 42)), (10, 1, (.t 44))], none, false⟩,
  ⟨(some 4), .alloc [(.bool false), (.bool false), (.bool false), (.bool false), (.vec 2 true []), (.bool false), (.vec 1 true []), (.vec 11 true []), (.vec 12 true []), (.int .i64 0), (.int .i64 0)], none, false⟩,
  ⟨none, .store (.t 4) (.t 45) 11, none, false⟩]
abbrev r47_4 : List MOp := [
  ⟨(some 46), .faddr (.t 3) 9, none, false⟩,
  ⟨(some 47), .load (.t 46) 1 false, none, false⟩,
  ⟨(some 48), .faddr (.t 2) 9, none, false⟩,
  ⟨(some 49), .load (.t 48) 1 false, none, false⟩,
  ⟨(some 50), .bin .neq 0 (.t 47) (.t 49), none, false⟩]
abbrev r47_5 : List MOp := [
  ⟨(some 51), .faddr (.t 4) 9, none, false⟩,
  ⟨none, .store (.t 51) (.k (.int .i64 0)) 1, none, false⟩]
abbrev r47_6 : List MOp := [
  ⟨(some 52), .faddr (.t 3) 10, none, false⟩,
  ⟨(some 53), .load (.t 52) 1 false, none, false⟩,
  ⟨(some 54), .faddr (.t 2) 10, none, false⟩,
  ⟨(some 55), .load (.t 54) 1 false, none, false⟩,
  ⟨(some 56), .bin .neq 0 (.t 53) (.t 55), none, false⟩]
abbrev r47_7 : List MOp := [
  ⟨(some 57), .faddr (.t 4) 10, none, false⟩,
  ⟨none, .store (.t 57) (.k (.int .i64 (-1))) 1, none, false⟩]
abbrev r47_8 : List MOp := [
  ⟨(some 58), .mv (.t 0), none, false⟩,
  ⟨(some 59), .load (.t 4) 11 true, none, false⟩,
  ⟨(some 60), .bslice 11 [(.bool false), (.bool false), (.bool false), (.bool false), (.vec 2 true []), (.bool false), (.vec 1 true []), (.vec 11 true []), (.vec 12 true []), (.int .i64 0), (.int .i64 0)] 1 [(0, (.t 59))], none, false⟩,
  ⟨(some 61), .nilck (.t 58), none, false⟩,
  ⟨(some 62), .faddr (.t 61) 18, none, false⟩,
  ⟨(some 63), .faddr (.t 62) 7, none, false⟩,
  ⟨none, .store (.t 63) (.t 60) 1, none, false⟩]
abbrev m47 : MC := (.seq (.reg r47_0) (.seq (.seq (.reg r47_1) (.cond (.t 20) .ret .skip)) (.seq (.draw [(0, 7), (1, 7), (2, 7), (3, 7), (4, 7), (5, 7), (6, 7), (0, 8), (1, 8), (2, 8), (3, 8), (4, 8), (5, 8), (6, 8), (0, 9), (1, 9), (2, 9), (3, 9), (4, 9), (5, 9), (6, 9), (0, 10), (1, 10), (2, 10), (3, 10), (4, 10), (5, 10), (6, 10), (0, 11), (1, 11), (2, 11), (3, 11), (4, 11), (5, 11), (6, 11), (0, 12), (1, 12), (2, 12), (3, 12), (4, 12), (5, 12), (6, 12), (0, 13), (1, 13), (2, 13), (3, 13), (4, 13), (5, 13), (6, 13), (0, 14), (1, 14), (2, 14), (3, 14), (4, 14), (5, 14), (6, 14), (7, 14), (8, 14), (9, 14), (10, 14), (11, 14), (12, 14), (13, 14), (0, 15), (1, 15), (2, 15), (3, 15), (4, 15), (5, 15), (6, 15), (7, 15), (8, 15), (9, 15), (10, 15), (11, 15), (12, 15), (13, 15), (14, 15), (7, 16), (8, 16), (9, 16), (10, 16), (11, 16), (12, 16), (13, 16)] r47_2) (.seq (.draw [(0, 2), (1, 2), (0, 3), (1, 3), (0, 4), (1, 4), (2, 4), (3, 4), (0, 6), (1, 6), (2, 6), (3, 6), (4, 6), (5, 6), (0, 7), (1, 7), (2, 7), (3, 7), (4, 7), (5, 7), (0, 8), (1, 8), (2, 8), (3, 8), (4, 8), (5, 8), (6, 8), (7, 8), (0, 9), (1, 9), (2, 9), (3, 9), (4, 9), (5, 9), (6, 9), (7, 9), (0, 11), (1, 11), (2, 11), (3, 11), (4, 11), (5, 11), (6, 11), (7, 11), (8, 11), (9, 11), (10, 11)] r47_3) (.seq (.seq (.reg r47_4) (.cond (.t 50) (.reg r47_5) .skip)) (.seq (.seq (.reg r47_6) (.cond (.t 56) (.reg r47_7) .skip)) (.reg r47_8)))))))
abbrev rs47 : List RV := []
/- (*hallmark.lattice.part).wideObjects -/
abbrev r48_0 : List MOp := [
  ⟨(some 16), .mv (.t 0), none, false⟩,
  ⟨(some 17), .mv (.t 0), none, false⟩,
  ⟨(some 18), .nilck (.t 17), none, false⟩,
  ⟨(some 19), .faddr (.t 18) 9, none, false⟩,
  ⟨(some 20), .faddr (.t 19) 8, none, false⟩,
  ⟨(some 21), .load (.t 20) 1 false, none, false⟩,
  ⟨(some 22), .nilck (.t 16), none, false⟩,
  ⟨(some 23), .faddr (.t 22) 18, none, false⟩,
  ⟨(some 24), .faddr (.t 23) 8, none, false⟩,
  ⟨none, .store (.t 24) (.t 21) 1, none, false⟩]
abbrev r48_1 : List MOp := [
  ⟨(some 25), .mv (.t 0), none, false⟩,
  ⟨(some 26), .nilck (.t 25), none, false⟩,
  ⟨(some 27), .faddr (.t 26) 0, none, false⟩,
  ⟨(some 28), .faddr (.t 27) 8, none, false⟩,
  ⟨(some 29), .load (.t 28) 1 false, none, false⟩,
  ⟨(some 30), .len (.t 29), none, false⟩,
  ⟨(some 31), .bin .eql 0 (.t 30) (.k (.int .i64 0)), none, false⟩,
  ⟨(some 32), .mv (.t 31), none, false⟩,
  ⟨(some 33), .mv (.t 0), some (32, false), false⟩,
  ⟨(some 34), .nilck (.t 33), some (32, false), false⟩,
  ⟨(some 35), .faddr (.t 34) 0, some (32, false), false⟩,
  ⟨(some 36), .faddr (.t 35) 8, some (32, false), false⟩,
  ⟨(some 37), .load (.t 36) 1 false, some (32, false), false⟩,
  ⟨(some 38), .build [(.bool false), (.bool false), (.bool false), (.bool false), (.vec 2 true []), (.bool false), (.vec 1 true []), (.vec 11 true []), (.vec 12 true [])] [(8, 1, (.t 37))], some (32, false), false⟩,
  ⟨(some 39), .mv (.t 0), some (32, false), false⟩,
  ⟨(some 40), .nilck (.t 39), some (32, false), false⟩,
  ⟨(some 41), .faddr (.t 40) 9, some (32, false), false⟩,
  ⟨(some 42), .faddr (.t 41) 8, some (32, false), false⟩,
  ⟨(some 43), .load (.t 42) 1 false, some (32, false), false⟩,
  ⟨(some 44), .build [(.bool false), (.bool false), (.bool false), (.bool false), (.vec 2 true []), (.bool false), (.vec 1 true []), (.vec 11 true []), (.vec 12 true [])] [(8, 1, (.t 43))], some (32, false), false⟩,
  ⟨(some 45), .call 44 [(.t 38), (.t 44)], some (32, false), false⟩,
  ⟨(some 46), .pick (.t 32) (.k (.bool true)) (.t 45), none, false⟩]
abbrev r48_2 : List MOp := [
  ⟨(some 48), .mv (.t 0), none, false⟩,
  ⟨(some 49), .nilck (.t 48), none, false⟩,
  ⟨(some 50), .faddr (.t 49) 0, none, false⟩,
  ⟨(some 51), .faddr (.t 50) 8, none, false⟩,
  ⟨(some 52), .load (.t 51) 1 false, none, false⟩,
  ⟨(some 53), .call 82 [(.t 52)], none, false⟩,
  ⟨(some 47), .mv (.t 53), none, false⟩,
  ⟨(some 54), .ext (.t 47) 0, none, false⟩,
  ⟨(some 55), .ext (.t 47) 1, none, false⟩,
  ⟨(some 2), .alloc [(.vec 1 true []), (.vec 9 true []), (.vec 1 true []), (.bool false), (.bool false), (.bool false), (.bool false), (.vec 2 true []), (.bool false), (.vec 1 true []), (.vec 11 true []), (.vec 12 true [])], none, false⟩,
  ⟨none, .store (.t 2) (.t 54) 12, none, false⟩,
  ⟨(some 3), .mv (.t 55), none, false⟩]
abbrev r48_3 : List MOp := [
  ⟨(some 57), .mv (.t 0), none, false⟩,
  ⟨(some 58), .nilck (.t 57), none, false⟩,
  ⟨(some 59), .faddr (.t 58) 9, none, false⟩,
  ⟨(some 60), .faddr (.t 59) 8, none, false⟩,
  ⟨(some 61), .load (.t 60) 1 false, none, false⟩,
  ⟨(some 62), .call 82 [(.t 61)], none, false⟩,
  ⟨(some 56), .mv (.t 62), none, false⟩,
  ⟨(some 63), .ext (.t 56) 0, none, false⟩,
  ⟨(some 64), .ext (.t 56) 1, none, false⟩,
  ⟨(some 4), .alloc [(.vec 1 true []), (.vec 9 true []), (.vec 1 true []), (.bool false), (.bool false), (.bool false), (.bool false), (.vec 2 true []), (.bool false), (.vec 1 true []), (.vec 11 true []), (.vec 12 true [])], none, false⟩,
  ⟨none, .store (.t 4) (.t 63) 12, none, false⟩,
  ⟨(some 5), .mv (.t 64), none, false⟩]
abbrev r48_4 : List MOp := [
  ⟨(some 65), .faddr (.t 2) 0, none, false⟩,
  ⟨(some 66), .load (.t 65) 1 false, none, false⟩,
  ⟨(some 67), .build [(.vec 1 true []), (.vec 9 true []), (.vec 1 true []), (.bool false), (.bool false), (.bool false), (.bool false), (.vec 2 true []), (.bool false), (.vec 1 true []), (.vec 11 true []), (.vec 12 true [])] [(0, 1, (.t 66))], none, false⟩,
  ⟨(some 6), .alloc [(.vec 1 true []), (.vec 9 true []), (.vec 1 true []), (.bool false), (.bool false), (.bool false), (.bool false), (.vec 2 true []), (.bool false), (.vec 1 true []), (.vec 11 true []), (.vec 12 true [])], none, false⟩,
  ⟨none, .store (.t 6) (.t 67) 12, none, false⟩]
abbrev r48_5 : List MOp := [
  ⟨(some 68), .faddr (.t 2) 0, none, false⟩,
  ⟨(some 69), .load (.t 68) 1 false, none, false⟩,
  ⟨(some 70), .len (.t 69), none, false⟩,
  ⟨(some 71), .mv (.k (.int .i64 0)), none, false⟩]
abbrev r48_6 : List MOp := [
  ⟨(some 72), .bin .lss 0 (.t 71) (.t 70), none, false⟩]
abbrev r48_7 : List MOp := [
  ⟨(some 73), .mv (.t 71), none, false⟩,
  ⟨(some 74), .iaddr (.t 69) (.t 71) 1, none, false⟩,
  ⟨(some 75), .load (.t 74) 1 false, none, false⟩,
  ⟨(some 7), .mv (.t 73), none, false⟩,
  ⟨(some 8), .mv (.t 75), none, false⟩]
abbrev r48_8 : List MOp := [
  ⟨(some 77), .load (.t 4) 12 true, none, false⟩,
  ⟨(some 78), .mv (.t 8), none, false⟩,
  ⟨(some 79), .call 83 [(.t 77), (.t 78)], none, false⟩,
  ⟨(some 76), .mv (.t 79), none, false⟩,
  ⟨(some 80), .ext (.t 76) 0, none, false⟩,
  ⟨(some 81), .ext (.t 76) 1, none, false⟩,
  ⟨(some 9), .alloc [(.bool false), (.bool false), (.bool false), (.bool false), (.vec 2 true []), (.bool false), (.vec 1 true []), (.vec 11 true []), (.vec 12 true [])], none, false⟩,
  ⟨none, .store (.t 9) (.t 80) 9, none, false⟩,
  ⟨(some 10), .mv (.t 81), none, false⟩]
abbrev r48_9 : List MOp := [
  ⟨(some 82), .faddr (.t 6) 1, none, false⟩,
  ⟨(some 83), .load (.t 82) 1 false, none, false⟩,
  ⟨(some 84), .faddr (.t 2) 1, none, false⟩,
  ⟨(some 85), .load (.t 84) 1 false, none, false⟩,
  ⟨(some 86), .mv (.t 7), none, false⟩,
  ⟨(some 87), .iaddr (.t 85) (.t 86) 9, none, false⟩,
  ⟨(some 88), .load (.t 87) 9 true, none, false⟩,
  ⟨(some 89), .load (.t 9) 9 true, none, false⟩,
  ⟨(some 90), .call 81 [], none, false⟩,
  ⟨(some 91), .call 22 [(.t 88), (.t 89), (.t 90)], none, false⟩,
  ⟨(some 92), .bslice 9 [(.bool false), (.bool false), (.bool false), (.bool false), (.vec 2 true []), (.bool false), (.vec 1 true []), (.vec 11 true []), (.vec 12 true [])] 1 [(0, (.t 91))], none, false⟩,
  ⟨(some 93), .app (.t 83) (.t 92) 9, none, false⟩,
  ⟨(some 94), .faddr (.t 6) 1, none, false⟩,
  ⟨none, .store (.t 94) (.t 93) 1, none, false⟩]
abbrev r48_10 : List MOp := [
  ⟨(some 95), .faddr (.t 6) 2, none, false⟩,
  ⟨(some 96), .load (.t 95) 1 false, none, false⟩,
  ⟨(some 97), .faddr (.t 2) 2, none, false⟩,
  ⟨(some 98), .load (.t 97) 1 false, none, false⟩,
  ⟨(some 99), .mv (.t 7), none, false⟩,
  ⟨(some 100), .iaddr (.t 98) (.t 99) 1, none, false⟩,
  ⟨(some 101), .load (.t 100) 1 false, none, false⟩,
  ⟨(some 102), .mv (.t 101), none, false⟩,
  ⟨(some 103), .mv (.t 10), some (102, true), true⟩,
  ⟨(some 104), .pick (.t 102) (.t 103) (.k (.bool false)), none, false⟩,
  ⟨(some 105), .bslice 1 [(.bool false)] 1 [(0, (.t 104))], none, false⟩,
  ⟨(some 106), .app (.t 96) (.t 105) 1, none, false⟩,
  ⟨(some 107), .faddr (.t 6) 2, none, false⟩,
  ⟨none, .store (.t 107) (.t 106) 1, none, false⟩]
abbrev r48_11 : List MOp := [
  ⟨(some 108), .bin .add 0 (.t 71) (.k (.int .i64 1)), none, false⟩,
  ⟨(some 71), .mv (.t 108), none, false⟩]
abbrev b48_12 : MC := (.seq (.reg r48_6) (.seq (.cond (.t 72) .skip (.exit 0)) (.seq (.block 1 (.seq (.reg r48_7) (.seq (.reg r48_8) (.seq (.draw [(0, 2), (1, 2), (0, 3), (1, 3), (0, 4), (1, 4), (2, 4), (3, 4), (0, 5), (1, 5), (0, 6), (1, 6), (0, 7), (1, 7), (2, 7), (3, 7), (4, 7), (5, 7), (6, 7), (0, 8), (1, 8), (2, 8), (3, 8), (4, 8), (5, 8), (6, 8), (7, 8), (0, 9), (1, 9), (0, 10), (1, 10)] r48_9) (.draw [(0, 2), (1, 2), (0, 3), (1, 3), (0, 4), (1, 4), (2, 4), (3, 4), (0, 5), (1, 5), (0, 6), (1, 6), (0, 7), (1, 7), (0, 8), (1, 8), (0, 9), (1, 9), (0, 10), (1, 10)] r48_10))))) (.reg r48_11))))
abbrev r48_13 : List MOp := [
  ⟨(some 109), .faddr (.t 4) 3, none, false⟩,
  ⟨(some 110), .load (.t 109) 9 true, none, false⟩,
  ⟨(some 111), .call 14 [(.t 110)], none, false⟩,
  ⟨(some 11), .alloc [(.bool false), (.bool false), (.bool false), (.bool false), (.vec 2 true []), (.bool false), (.vec 1 true []), (.vec 11 true []), (.vec 12 true [])], none, false⟩,
  ⟨none, .store (.t 11) (.t 111) 9, none, false⟩]
abbrev r48_14 : List MOp := [
  ⟨(some 112), .faddr (.t 4) 0, none, false⟩,
  ⟨(some 113), .load (.t 112) 1 false, none, false⟩,
  ⟨(some 114), .len (.t 113), none, false⟩,
  ⟨(some 115), .mv (.k (.int .i64 0)), none, false⟩]
abbrev r48_15 : List MOp := [
  ⟨(some 116), .bin .lss 0 (.t 115) (.t 114), none, false⟩]
abbrev r48_16 : List MOp := [
  ⟨(some 117), .mv (.t 115), none, false⟩,
  ⟨(some 118), .iaddr (.t 113) (.t 115) 1, none, false⟩,
  ⟨(some 119), .load (.t 118) 1 false, none, false⟩,
  ⟨(some 12), .mv (.t 117), none, false⟩,
  ⟨(some 13), .mv (.t 119), none, false⟩]
abbrev r48_17 : List MOp := [
  ⟨(some 121), .faddr (.t 2) 0, none, false⟩,
  ⟨(some 122), .load (.t 121) 1 false, none, false⟩,
  ⟨(some 123), .mv (.t 13), none, false⟩,
  ⟨(some 124), .call 84 [(.t 122), (.t 123)], none, false⟩,
  ⟨(some 120), .mv (.t 124), none, false⟩,
  ⟨(some 125), .ext (.t 120) 0, none, false⟩,
  ⟨(some 126), .ext (.t 120) 1, none, false⟩,
  ⟨(some 14), .mv (.t 125), none, false⟩,
  ⟨(some 15), .mv (.t 126), none, false⟩]
abbrev r48_18 : List MOp := [
  ⟨(some 127), .mv (.t 15), none, false⟩,
  ⟨(some 128), .un .not (.t 127), none, false⟩]
abbrev r48_19 : List MOp := [
  ⟨(some 129), .load (.t 11) 9 true, none, false⟩,
  ⟨(some 130), .faddr (.t 4) 1, none, false⟩,
  ⟨(some 131), .load (.t 130) 1 false, none, false⟩,
  ⟨(some 132), .mv (.t 12), none, false⟩,
  ⟨(some 133), .iaddr (.t 131) (.t 132) 9, none, false⟩,
  ⟨(some 134), .load (.t 133) 9 true, none, false⟩,
  ⟨(some 135), .call 12 [(.t 129), (.t 134)], none, false⟩,
  ⟨none, .store (.t 11) (.t 135) 9, none, false⟩]
abbrev r48_20 : List MOp := [
  ⟨(some 136), .bin .add 0 (.t 115) (.k (.int .i64 1)), none, false⟩,
  ⟨(some 115), .mv (.t 136), none, false⟩]
abbrev b48_21 : MC := (.seq (.reg r48_15) (.seq (.cond (.t 116) .skip (.exit 2)) (.seq (.block 3 (.seq (.reg r48_16) (.seq (.reg r48_17) (.seq (.reg r48_18) (.cond (.t 128) (.draw [(0, 1), (0, 2), (0, 3), (1, 3), (2, 3), (0, 4), (0, 5)] r48_19) .skip))))) (.reg r48_20))))
abbrev r48_22 : List MOp := [
  ⟨(some 137), .faddr (.t 2) 3, none, false⟩,
  ⟨(some 138), .load (.t 137) 9 true, none, false⟩,
  ⟨(some 139), .load (.t 11) 9 true, none, false⟩,
  ⟨(some 140), .call 81 [], none, false⟩,
  ⟨(some 141), .call 22 [(.t 138), (.t 139), (.t 140)], none, false⟩,
  ⟨(some 142), .faddr (.t 6) 3, none, false⟩,
  ⟨none, .store (.t 142) (.t 141) 9, none, false⟩]
abbrev r48_23 : List MOp := [
  ⟨(some 143), .mv (.t 0), none, false⟩,
  ⟨(some 144), .load (.t 6) 12 true, none, false⟩,
  ⟨(some 145), .bslice 12 [(.vec 1 true []), (.vec 9 true []), (.vec 1 true []), (.bool false), (.bool false), (.bool false), (.bool false), (.vec 2 true []), (.bool false), (.vec 1 true []), (.vec 11 true []), (.vec 12 true [])] 1 [(0, (.t 144))], none, false⟩,
  ⟨(some 146), .nilck (.t 143), none, false⟩,
  ⟨(some 147), .faddr (.t 146) 18, none, false⟩,
  ⟨(some 148), .faddr (.t 147) 8, none, false⟩,
  ⟨none, .store (.t 148) (.t 145) 1, none, false⟩]
abbrev m48 : MC := (.seq (.reg r48_0) (.seq (.seq (.draw [(8, 14), (9, 14), (10, 14), (11, 14), (12, 14), (13, 14), (8, 15), (9, 15), (10, 15), (11, 15), (12, 15), (13, 15), (8, 16), (9, 16), (10, 16), (11, 16), (12, 16), (13, 16), (8, 17), (9, 17), (10, 17), (11, 17), (12, 17), (13, 17), (8, 18), (9, 18), (10, 18), (11, 18), (12, 18), (13, 18), (8, 19), (9, 19), (10, 19), (11, 19), (12, 19), (13, 19)] r48_1) (.cond (.t 46) .ret .skip)) (.seq (.reg r48_2) (.seq (.reg r48_3) (.seq (.reg r48_4) (.seq (.seq (.reg r48_5) (.block 0 (.loop b48_12))) (.seq (.reg r48_13) (.seq (.seq (.reg r48_14) (.block 2 (.loop b48_21))) (.seq (.draw [(0, 2), (1, 2), (0, 3), (1, 3), (2, 3)] r48_22) (.reg r48_23))))))))))
abbrev rs48 : List RV := []
/- (hallmark.shape.piece).every -/
abbrev r49_0 : List MOp := [
  ⟨(some 1), .box (.t 0), none, false⟩,
  ⟨(some 2), .mv (.k (.bool false)), none, false⟩]
abbrev r49_1 : List MOp := [
  ⟨(some 3), .faddr (.t 1) 0, none, false⟩,
  ⟨(some 4), .load (.t 3) 1 false, none, false⟩,
  ⟨(some 5), .un .not (.t 4), none, false⟩,
  ⟨(some 6), .mv (.t 5), none, false⟩,
  ⟨(some 7), .load (.t 1) 9 true, some (6, false), false⟩,
  ⟨(some 8), .call 85 [(.t 7)], some (6, false), false⟩,
  ⟨(some 9), .pick (.t 6) (.k (.bool true)) (.t 8), none, false⟩,
  ⟨(some 2), .mv (.t 9), none, false⟩]
abbrev m49 : MC := (.seq (.reg r49_0) (.seq (.reg r49_1) .ret))
abbrev rs49 : List RV := [(.tmp 2)]
/- (hallmark.shape.piece).nums -/
abbrev r50_0 : List MOp := [
  ⟨(some 1), .box (.t 0), none, false⟩,
  ⟨(some 2), .mv (.k (.bool false)), none, false⟩]
abbrev r50_1 : List MOp := [
  ⟨(some 7), .faddr (.t 1) 4, none, false⟩,
  ⟨(some 8), .load (.t 7) 1 false, none, false⟩,
  ⟨(some 9), .len (.t 8), none, false⟩,
  ⟨(some 10), .mv (.k (.int .i64 0)), none, false⟩]
abbrev r50_2 : List MOp := [
  ⟨(some 11), .bin .lss 0 (.t 10) (.t 9), none, false⟩]
abbrev r50_3 : List MOp := [
  ⟨(some 12), .iaddr (.t 8) (.t 10) 2, none, false⟩,
  ⟨(some 13), .load (.t 12) 2 true, none, false⟩,
  ⟨(some 4), .alloc [(.str ⟨#[]⟩), (.str ⟨#[]⟩)], none, false⟩,
  ⟨none, .store (.t 4) (.t 13) 2, none, false⟩]
abbrev r50_4 : List MOp := [
  ⟨(some 14), .faddr (.t 4) 0, none, false⟩,
  ⟨(some 15), .load (.t 14) 1 false, none, false⟩,
  ⟨(some 16), .bin .eql 0 (.t 15) (.k (.str ⟨#[]⟩)), none, false⟩,
  ⟨(some 17), .mv (.t 16), none, false⟩,
  ⟨(some 18), .faddr (.t 4) 0, some (17, false), false⟩,
  ⟨(some 19), .load (.t 18) 1 false, some (17, false), false⟩,
  ⟨(some 20), .call 37 [(.t 19)], some (17, false), false⟩,
  ⟨(some 21), .pick (.t 17) (.k (.bool true)) (.t 20), none, false⟩,
  ⟨(some 22), .faddr (.t 4) 1, none, false⟩,
  ⟨(some 23), .load (.t 22) 1 false, none, false⟩,
  ⟨(some 24), .bin .eql 0 (.t 23) (.k (.str ⟨#[]⟩)), none, false⟩,
  ⟨(some 25), .mv (.t 24), none, false⟩,
  ⟨(some 26), .faddr (.t 4) 1, some (25, false), false⟩,
  ⟨(some 27), .load (.t 26) 1 false, some (25, false), false⟩,
  ⟨(some 28), .call 37 [(.t 27)], some (25, false), false⟩,
  ⟨(some 29), .pick (.t 25) (.k (.bool true)) (.t 28), none, false⟩,
  ⟨(some 5), .mv (.t 21), none, false⟩,
  ⟨(some 6), .mv (.t 29), none, false⟩]
abbrev r50_5 : List MOp := [
  ⟨(some 30), .mv (.t 5), none, false⟩,
  ⟨(some 31), .un .not (.t 30), none, false⟩,
  ⟨(some 32), .mv (.t 31), none, false⟩,
  ⟨(some 33), .mv (.t 6), some (32, false), false⟩,
  ⟨(some 34), .un .not (.t 33), some (32, false), false⟩,
  ⟨(some 35), .pick (.t 32) (.k (.bool true)) (.t 34), none, false⟩,
  ⟨(some 36), .mv (.t 35), none, false⟩,
  ⟨(some 37), .faddr (.t 4) 0, some (36, false), false⟩,
  ⟨(some 38), .load (.t 37) 1 false, some (36, false), false⟩,
  ⟨(some 39), .bin .neq 0 (.t 38) (.k (.str ⟨#[]⟩)), some (36, false), false⟩,
  ⟨(some 40), .mv (.t 39), some (36, false), false⟩,
  ⟨(some 41), .faddr (.t 4) 1, some (40, true), false⟩,
  ⟨(some 42), .load (.t 41) 1 false, some (40, true), false⟩,
  ⟨(some 43), .bin .neq 0 (.t 42) (.k (.str ⟨#[]⟩)), some (40, true), false⟩,
  ⟨(some 44), .pick (.t 40) (.t 43) (.k (.bool false)), some (36, false), false⟩,
  ⟨(some 45), .mv (.t 44), some (36, false), false⟩,
  ⟨(some 46), .faddr (.t 4) 0, some (45, true), false⟩,
  ⟨(some 47), .load (.t 46) 1 false, some (45, true), false⟩,
  ⟨(some 48), .faddr (.t 4) 1, some (45, true), false⟩,
  ⟨(some 49), .load (.t 48) 1 false, some (45, true), false⟩,
  ⟨(some 50), .call 86 [(.t 47), (.t 49)], some (45, true), false⟩,
  ⟨(some 51), .bin .gtr 0 (.t 50) (.k (.int .i64 0)), some (45, true), false⟩,
  ⟨(some 52), .pick (.t 45) (.t 51) (.k (.bool false)), some (36, false), false⟩,
  ⟨(some 53), .pick (.t 36) (.k (.bool true)) (.t 52), none, false⟩]
abbrev r50_6 : List MOp := [
  ⟨(some 2), .mv (.k (.bool false)), none, false⟩]
abbrev r50_7 : List MOp := [
  ⟨(some 54), .bin .add 0 (.t 10) (.k (.int .i64 1)), none, false⟩,
  ⟨(some 10), .mv (.t 54), none, false⟩]
abbrev b50_8 : MC := (.seq (.reg r50_2) (.seq (.cond (.t 11) .skip (.exit 0)) (.seq (.block 1 (.seq (.reg r50_3) (.seq (.draw [(0, 8), (1, 8), (2, 8), (3, 8), (4, 8), (5, 8), (6, 8), (7, 8), (0, 9), (1, 9), (2, 9), (3, 9), (4, 9), (5, 9), (6, 9), (7, 9), (0, 10), (1, 10), (2, 10), (3, 10), (4, 10), (5, 10), (6, 10), (7, 10), (7, 11), (7, 12), (7, 13), (7, 14), (7, 15), (15, 16)] r50_4) (.seq (.reg r50_5) (.cond (.t 53) (.seq (.reg r50_6) .ret) .skip))))) (.reg r50_7))))
abbrev r50_9 : List MOp := [
  ⟨(some 55), .faddr (.t 1) 4, none, false⟩,
  ⟨(some 56), .load (.t 55) 1 false, none, false⟩,
  ⟨(some 57), .len (.t 56), none, false⟩,
  ⟨(some 58), .bin .leq 0 (.t 57) (.k (.int .i64 1)), none, false⟩,
  ⟨(some 2), .mv (.t 58), none, false⟩]
abbrev m50 : MC := (.seq (.reg r50_0) (.seq (.seq (.reg r50_1) (.block 0 (.loop b50_8))) (.seq (.reg r50_9) .ret)))
abbrev rs50 : List RV := [(.tmp 2)]
/- (hallmark.shape.piece).texts -/
abbrev r51_0 : List MOp := [
  ⟨(some 1), .box (.t 0), none, false⟩,
  ⟨(some 2), .mv (.k (.bool false)), none, false⟩]
abbrev r51_1 : List MOp := [
  ⟨(some 3), .faddr (.t 1) 6, none, false⟩,
  ⟨(some 4), .load (.t 3) 1 false, none, false⟩,
  ⟨(some 5), .call 87 [(.t 4)], none, false⟩,
  ⟨(some 6), .mv (.t 5), none, false⟩,
  ⟨(some 7), .faddr (.t 1) 5, some (6, true), true⟩,
  ⟨(some 8), .load (.t 7) 1 false, some (6, true), true⟩,
  ⟨(some 9), .un .not (.t 8), some (6, true), true⟩,
  ⟨(some 10), .mv (.t 9), some (6, true), true⟩,
  ⟨(some 11), .faddr (.t 1) 6, some (10, false), true⟩,
  ⟨(some 12), .load (.t 11) 1 false, some (10, false), true⟩,
  ⟨(some 13), .len (.t 12), some (10, false), true⟩,
  ⟨(some 14), .bin .eql 0 (.t 13) (.k (.int .i64 0)), some (10, false), true⟩,
  ⟨(some 15), .pick (.t 10) (.k (.bool true)) (.t 14), some (6, true), true⟩,
  ⟨(some 16), .pick (.t 6) (.t 15) (.k (.bool false)), none, false⟩,
  ⟨(some 2), .mv (.t 16), none, false⟩]
abbrev m51 : MC := (.seq (.reg r51_0) (.seq (.reg r51_1) .ret))
abbrev rs51 : List RV := [(.tmp 2)]
/- (hallmark.shape.piece).arrays -/
abbrev r52_0 : List MOp := [
  ⟨(some 1), .box (.t 0), none, false⟩,
  ⟨(some 2), .mv (.k (.bool false)), none, false⟩]
abbrev r52_1 : List MOp := [
  ⟨(some 5), .faddr (.t 1) 7, none, false⟩,
  ⟨(some 6), .load (.t 5) 1 false, none, false⟩,
  ⟨(some 7), .len (.t 6), none, false⟩,
  ⟨(some 8), .mv (.k (.int .i64 0)), none, false⟩]
abbrev r52_2 : List MOp := [
  ⟨(some 9), .bin .lss 0 (.t 8) (.t 7), none, false⟩]
abbrev r52_3 : List MOp := [
  ⟨(some 10), .iaddr (.t 6) (.t 8) 11, none, false⟩,
  ⟨(some 11), .load (.t 10) 11 true, none, false⟩,
  ⟨(some 4), .alloc [(.bool false), (.bool false), (.bool false), (.bool false), (.vec 2 true []), (.bool false), (.vec 1 true []), (.vec 11 true []), (.vec 12 true []), (.int .i64 0), (.int .i64 0)], none, false⟩,
  ⟨none, .store (.t 4) (.t 11) 11, none, false⟩]
abbrev r52_4 : List MOp := [
  ⟨(some 12), .faddr (.t 4) 9, none, false⟩,
  ⟨(some 13), .load (.t 12) 1 false, none, false⟩,
  ⟨(some 14), .bin .lss 0 (.t 13) (.k (.int .i64 0)), none, false⟩,
  ⟨(some 15), .mv (.t 14), none, false⟩,
  ⟨(some 16), .faddr (.t 4) 10, some (15, false), false⟩,
  ⟨(some 17), .load (.t 16) 1 false, some (15, false), false⟩,
  ⟨(some 18), .bin .lss 0 (.t 17) (.k (.int .i64 (-1))), some (15, false), false⟩,
  ⟨(some 19), .pick (.t 15) (.k (.bool true)) (.t 18), none, false⟩,
  ⟨(some 20), .mv (.t 19), none, false⟩,
  ⟨(some 21), .faddr (.t 4) 10, some (20, false), false⟩,
  ⟨(some 22), .load (.t 21) 1 false, some (20, false), false⟩,
  ⟨(some 23), .bin .geq 0 (.t 22) (.k (.int .i64 0)), some (20, false), false⟩,
  ⟨(some 24), .mv (.t 23), some (20, false), false⟩,
  ⟨(some 25), .faddr (.t 4) 10, some (24, true), false⟩,
  ⟨(some 26), .load (.t 25) 1 false, some (24, true), false⟩,
  ⟨(some 27), .faddr (.t 4) 9, some (24, true), false⟩,
  ⟨(some 28), .load (.t 27) 1 false, some (24, true), false⟩,
  ⟨(some 29), .bin .lss 0 (.t 26) (.t 28), some (24, true), false⟩,
  ⟨(some 30), .pick (.t 24) (.t 29) (.k (.bool false)), some (20, false), false⟩,
  ⟨(some 31), .pick (.t 20) (.k (.bool true)) (.t 30), none, false⟩,
  ⟨(some 32), .mv (.t 31), none, false⟩,
  ⟨(some 33), .faddr (.t 4) 0, some (32, false), false⟩,
  ⟨(some 34), .load (.t 33) 9 true, some (32, false), false⟩,
  ⟨(some 35), .call 24 [(.t 34)], some (32, false), false⟩,
  ⟨(some 36), .un .not (.t 35), some (32, false), false⟩,
  ⟨(some 37), .pick (.t 32) (.k (.bool true)) (.t 36), none, false⟩,
  ⟨(some 38), .mv (.t 37), none, false⟩,
  ⟨(some 39), .faddr (.t 4) 0, some (38, false), false⟩,
  ⟨(some 40), .load (.t 39) 9 true, some (38, false), false⟩,
  ⟨(some 41), .call 88 [(.t 40)], some (38, false), false⟩,
  ⟨(some 42), .faddr (.t 4) 10, some (38, false), false⟩,
  ⟨(some 43), .load (.t 42) 1 false, some (38, false), false⟩,
  ⟨(some 44), .bin .eql 0 (.t 43) (.k (.int .i64 0)), some (38, false), false⟩,
  ⟨(some 45), .bin .neq 1 (.t 41) (.t 44), some (38, false), false⟩,
  ⟨(some 46), .pick (.t 38) (.k (.bool true)) (.t 45), none, false⟩]
abbrev r52_5 : List MOp := [
  ⟨(some 2), .mv (.k (.bool false)), none, false⟩]
abbrev r52_6 : List MOp := [
  ⟨(some 47), .bin .add 0 (.t 8) (.k (.int .i64 1)), none, false⟩,
  ⟨(some 8), .mv (.t 47), none, false⟩]
abbrev b52_7 : MC := (.seq (.reg r52_2) (.seq (.cond (.t 9) .skip (.exit 0)) (.seq (.block 1 (.seq (.reg r52_3) (.seq (.draw [(13, 15), (14, 15), (13, 16), (14, 16), (27, 30), (28, 30), (29, 30), (27, 31), (28, 31), (29, 31), (27, 32), (28, 32), (29, 32)] r52_4) (.cond (.t 46) (.seq (.reg r52_5) .ret) .skip)))) (.reg r52_6))))
abbrev r52_8 : List MOp := [
  ⟨(some 48), .faddr (.t 1) 7, none, false⟩,
  ⟨(some 49), .load (.t 48) 1 false, none, false⟩,
  ⟨(some 50), .len (.t 49), none, false⟩,
  ⟨(some 51), .bin .leq 0 (.t 50) (.k (.int .i64 1)), none, false⟩,
  ⟨(some 2), .mv (.t 51), none, false⟩]
abbrev m52 : MC := (.seq (.reg r52_0) (.seq (.seq (.reg r52_1) (.block 0 (.loop b52_7))) (.seq (.reg r52_8) .ret)))
abbrev rs52 : List RV := [(.tmp 2)]
/- (hallmark.shape.piece).objects -/
abbrev r53_0 : List MOp := [
  ⟨(some 1), .box (.t 0), none, false⟩,
  ⟨(some 2), .mv (.k (.bool false)), none, false⟩]
abbrev r53_1 : List MOp := [
  ⟨(some 7), .faddr (.t 1) 8, none, false⟩,
  ⟨(some 8), .load (.t 7) 1 false, none, false⟩,
  ⟨(some 9), .len (.t 8), none, false⟩,
  ⟨(some 10), .mv (.k (.int .i64 0)), none, false⟩]
abbrev r53_2 : List MOp := [
  ⟨(some 11), .bin .lss 0 (.t 10) (.t 9), none, false⟩]
abbrev r53_3 : List MOp := [
  ⟨(some 12), .iaddr (.t 8) (.t 10) 12, none, false⟩,
  ⟨(some 13), .load (.t 12) 12 true, none, false⟩,
  ⟨(some 4), .alloc [(.vec 1 true []), (.vec 9 true []), (.vec 1 true []), (.bool false), (.bool false), (.bool false), (.bool false), (.vec 2 true []), (.bool false), (.vec 1 true []), (.vec 11 true []), (.vec 12 true [])], none, false⟩,
  ⟨none, .store (.t 4) (.t 13) 12, none, false⟩]
abbrev r53_4 : List MOp := [
  ⟨(some 14), .faddr (.t 4) 0, none, false⟩,
  ⟨(some 15), .load (.t 14) 1 false, none, false⟩,
  ⟨(some 16), .len (.t 15), none, false⟩,
  ⟨(some 17), .faddr (.t 4) 1, none, false⟩,
  ⟨(some 18), .load (.t 17) 1 false, none, false⟩,
  ⟨(some 19), .len (.t 18), none, false⟩,
  ⟨(some 20), .bin .neq 0 (.t 16) (.t 19), none, false⟩,
  ⟨(some 21), .mv (.t 20), none, false⟩,
  ⟨(some 22), .faddr (.t 4) 0, some (21, false), false⟩,
  ⟨(some 23), .load (.t 22) 1 false, some (21, false), false⟩,
  ⟨(some 24), .len (.t 23), some (21, false), false⟩,
  ⟨(some 25), .faddr (.t 4) 2, some (21, false), false⟩,
  ⟨(some 26), .load (.t 25) 1 false, some (21, false), false⟩,
  ⟨(some 27), .len (.t 26), some (21, false), false⟩,
  ⟨(some 28), .bin .neq 0 (.t 24) (.t 27), some (21, false), false⟩,
  ⟨(some 29), .pick (.t 21) (.k (.bool true)) (.t 28), none, false⟩,
  ⟨(some 30), .mv (.t 29), none, false⟩,
  ⟨(some 31), .faddr (.t 4) 0, some (30, false), false⟩,
  ⟨(some 32), .load (.t 31) 1 false, some (30, false), false⟩,
  ⟨(some 33), .call 87 [(.t 32)], some (30, false), false⟩,
  ⟨(some 34), .un .not (.t 33), some (30, false), false⟩,
  ⟨(some 35), .pick (.t 30) (.k (.bool true)) (.t 34), none, false⟩,
  ⟨(some 36), .mv (.t 35), none, false⟩,
  ⟨(some 37), .faddr (.t 4) 3, some (36, false), false⟩,
  ⟨(some 38), .load (.t 37) 9 true, some (36, false), false⟩,
  ⟨(some 39), .call 24 [(.t 38)], some (36, false), false⟩,
  ⟨(some 40), .un .not (.t 39), some (36, false), false⟩,
  ⟨(some 41), .pick (.t 36) (.k (.bool true)) (.t 40), none, false⟩]
abbrev r53_5 : List MOp := [
  ⟨(some 2), .mv (.k (.bool false)), none, false⟩]
abbrev r53_6 : List MOp := [
  ⟨(some 42), .faddr (.t 4) 1, none, false⟩,
  ⟨(some 43), .load (.t 42) 1 false, none, false⟩,
  ⟨(some 44), .len (.t 43), none, false⟩,
  ⟨(some 45), .mv (.k (.int .i64 0)), none, false⟩]
abbrev r53_7 : List MOp := [
  ⟨(some 46), .bin .lss 0 (.t 45) (.t 44), none, false⟩]
abbrev r53_8 : List MOp := [
  ⟨(some 47), .mv (.t 45), none, false⟩,
  ⟨(some 48), .iaddr (.t 43) (.t 45) 9, none, false⟩,
  ⟨(some 49), .load (.t 48) 9 true, none, false⟩,
  ⟨(some 6), .alloc [(.bool false), (.bool false), (.bool false), (.bool false), (.vec 2 true []), (.bool false), (.vec 1 true []), (.vec 11 true []), (.vec 12 true [])], none, false⟩,
  ⟨(some 5), .mv (.t 47), none, false⟩,
  ⟨none, .store (.t 6) (.t 49) 9, none, false⟩]
abbrev r53_9 : List MOp := [
  ⟨(some 50), .load (.t 6) 9 true, none, false⟩,
  ⟨(some 51), .call 24 [(.t 50)], none, false⟩,
  ⟨(some 52), .un .not (.t 51), none, false⟩,
  ⟨(some 53), .mv (.t 52), none, false⟩,
  ⟨(some 54), .faddr (.t 4) 2, some (53, false), false⟩,
  ⟨(some 55), .load (.t 54) 1 false, some (53, false), false⟩,
  ⟨(some 56), .mv (.t 5), some (53, false), false⟩,
  ⟨(some 57), .iaddr (.t 55) (.t 56) 1, some (53, false), false⟩,
  ⟨(some 58), .load (.t 57) 1 false, some (53, false), false⟩,
  ⟨(some 59), .mv (.t 58), some (53, false), false⟩,
  ⟨(some 60), .load (.t 6) 9 true, some (59, true), false⟩,
  ⟨(some 61), .call 88 [(.t 60)], some (59, true), false⟩,
  ⟨(some 62), .pick (.t 59) (.t 61) (.k (.bool false)), some (53, false), false⟩,
  ⟨(some 63), .pick (.t 53) (.k (.bool true)) (.t 62), none, false⟩]
abbrev r53_10 : List MOp := [
  ⟨(some 2), .mv (.k (.bool false)), none, false⟩]
abbrev r53_11 : List MOp := [
  ⟨(some 64), .bin .add 0 (.t 45) (.k (.int .i64 1)), none, false⟩,
  ⟨(some 45), .mv (.t 64), none, false⟩]
abbrev b53_12 : MC := (.seq (.reg r53_7) (.seq (.cond (.t 46) .skip (.exit 2)) (.seq (.block 3 (.seq (.reg r53_8) (.seq (.reg r53_9) (.cond (.t 63) (.seq (.reg r53_10) .ret) .skip)))) (.reg r53_11))))
abbrev r53_13 : List MOp := [
  ⟨(some 65), .bin .add 0 (.t 10) (.k (.int .i64 1)), none, false⟩,
  ⟨(some 10), .mv (.t 65), none, false⟩]
abbrev b53_14 : MC := (.seq (.reg r53_2) (.seq (.cond (.t 11) .skip (.exit 0)) (.seq (.block 1 (.seq (.reg r53_3) (.seq (.seq (.reg r53_4) (.cond (.t 41) (.seq (.reg r53_5) .ret) .skip)) (.seq (.reg r53_6) (.block 2 (.loop b53_12)))))) (.reg r53_13))))
abbrev r53_15 : List MOp := [
  ⟨(some 2), .mv (.k (.bool true)), none, false⟩]
abbrev m53 : MC := (.seq (.reg r53_0) (.seq (.seq (.reg r53_1) (.block 0 (.loop b53_14))) (.seq (.reg r53_15) .ret)))
abbrev rs53 : List RV := [(.tmp 2)]
/- hallmark.tidy.together -/
abbrev r54_0 : List MOp := [
  ⟨(some 2), .alloc [(.bool false), (.bool false), (.bool false), (.bool false), (.vec 2 true []), (.bool false), (.vec 1 true []), (.vec 11 true []), (.vec 12 true [])], none, false⟩]
abbrev r54_1 : List MOp := [
  ⟨(some 6), .build [(.bool false), (.bool false), (.bool false), (.bool false), (.vec 2 true []), (.bool false), (.vec 1 true []), (.vec 11 true []), (.vec 12 true [])] [], none, false⟩,
  ⟨(some 3), .alloc [(.bool false), (.bool false), (.bool false), (.bool false), (.vec 2 true []), (.bool false), (.vec 1 true []), (.vec 11 true []), (.vec 12 true [])], none, false⟩,
  ⟨none, .store (.t 3) (.t 6) 9, none, false⟩]
abbrev r54_2 : List MOp := [
  ⟨(some 7), .mv (.t 0), none, false⟩,
  ⟨(some 8), .len (.t 7), none, false⟩,
  ⟨(some 9), .mv (.k (.int .i64 0)), none, false⟩]
abbrev r54_3 : List MOp := [
  ⟨(some 10), .bin .lss 0 (.t 9) (.t 8), none, false⟩]
abbrev r54_4 : List MOp := [
  ⟨(some 11), .iaddr (.t 7) (.t 9) 9, none, false⟩,
  ⟨(some 12), .load (.t 11) 9 true, none, false⟩,
  ⟨(some 5), .alloc [(.bool false), (.bool false), (.bool false), (.bool false), (.vec 2 true []), (.bool false), (.vec 1 true []), (.vec 11 true []), (.vec 12 true [])], none, false⟩,
  ⟨none, .store (.t 5) (.t 12) 9, none, false⟩]
abbrev r54_5 : List MOp := [
  ⟨(some 13), .faddr (.t 5) 0, none, false⟩,
  ⟨(some 14), .load (.t 13) 1 false, none, false⟩]
abbrev r54_6 : List MOp := [
  ⟨(some 15), .call 68 [], none, false⟩,
  ⟨none, .store (.t 2) (.t 15) 9, none, false⟩]
abbrev r54_7 : List MOp := [
  ⟨(some 16), .faddr (.t 3) 1, none, false⟩,
  ⟨(some 17), .load (.t 16) 1 false, none, false⟩,
  ⟨(some 18), .mv (.t 17), none, false⟩,
  ⟨(some 19), .faddr (.t 5) 1, some (18, false), true⟩,
  ⟨(some 20), .load (.t 19) 1 false, some (18, false), true⟩,
  ⟨(some 21), .pick (.t 18) (.k (.bool true)) (.t 20), none, false⟩,
  ⟨(some 22), .faddr (.t 3) 1, none, false⟩,
  ⟨none, .store (.t 22) (.t 21) 1, none, false⟩]
abbrev r54_8 : List MOp := [
  ⟨(some 23), .faddr (.t 3) 2, none, false⟩,
  ⟨(some 24), .load (.t 23) 1 false, none, false⟩,
  ⟨(some 25), .mv (.t 24), none, false⟩,
  ⟨(some 26), .faddr (.t 5) 2, some (25, false), true⟩,
  ⟨(some 27), .load (.t 26) 1 false, some (25, false), true⟩,
  ⟨(some 28), .pick (.t 25) (.k (.bool true)) (.t 27), none, false⟩,
  ⟨(some 29), .faddr (.t 3) 2, none, false⟩,
  ⟨none, .store (.t 29) (.t 28) 1, none, false⟩]
abbrev r54_9 : List MOp := [
  ⟨(some 30), .faddr (.t 3) 3, none, false⟩,
  ⟨(some 31), .load (.t 30) 1 false, none, false⟩,
  ⟨(some 32), .mv (.t 31), none, false⟩,
  ⟨(some 33), .faddr (.t 5) 3, some (32, false), true⟩,
  ⟨(some 34), .load (.t 33) 1 false, some (32, false), true⟩,
  ⟨(some 35), .pick (.t 32) (.k (.bool true)) (.t 34), none, false⟩,
  ⟨(some 36), .faddr (.t 3) 3, none, false⟩,
  ⟨none, .store (.t 36) (.t 35) 1, none, false⟩]
abbrev r54_10 : List MOp := [
  ⟨(some 37), .faddr (.t 3) 4, none, false⟩,
  ⟨(some 38), .load (.t 37) 1 false, none, false⟩,
  ⟨(some 39), .faddr (.t 5) 4, none, false⟩,
  ⟨(some 40), .load (.t 39) 1 false, none, false⟩,
  ⟨(some 41), .call 89 [(.t 38), (.t 40)], none, false⟩,
  ⟨(some 42), .faddr (.t 3) 4, none, false⟩,
  ⟨none, .store (.t 42) (.t 41) 1, none, false⟩]
abbrev r54_11 : List MOp := [
  ⟨(some 43), .faddr (.t 3) 5, none, false⟩,
  ⟨(some 44), .load (.t 43) 1 false, none, false⟩,
  ⟨(some 45), .mv (.t 44), none, false⟩,
  ⟨(some 46), .faddr (.t 5) 5, some (45, false), true⟩,
  ⟨(some 47), .load (.t 46) 1 false, some (45, false), true⟩,
  ⟨(some 48), .pick (.t 45) (.k (.bool true)) (.t 47), none, false⟩,
  ⟨(some 49), .faddr (.t 3) 5, none, false⟩,
  ⟨none, .store (.t 49) (.t 48) 1, none, false⟩]
abbrev r54_12 : List MOp := [
  ⟨(some 50), .faddr (.t 3) 6, none, false⟩,
  ⟨(some 51), .load (.t 50) 1 false, none, false⟩,
  ⟨(some 52), .faddr (.t 5) 6, none, false⟩,
  ⟨(some 53), .load (.t 52) 1 false, none, false⟩,
  ⟨(some 54), .bslice 1 [(.vec 1 true [])] 2 [(0, (.t 51)), (1, (.t 53))], none, false⟩,
  ⟨(some 55), .call 90 [(.t 54)], none, false⟩,
  ⟨(some 56), .faddr (.t 3) 6, none, false⟩,
  ⟨none, .store (.t 56) (.t 55) 1, none, false⟩]
abbrev r54_13 : List MOp := [
  ⟨(some 57), .faddr (.t 3) 7, none, false⟩,
  ⟨(some 58), .load (.t 57) 1 false, none, false⟩,
  ⟨(some 59), .faddr (.t 5) 7, none, false⟩,
  ⟨(some 60), .load (.t 59) 1 false, none, false⟩,
  ⟨(some 61), .call 91 [(.t 58), (.t 60)], none, false⟩,
  ⟨(some 62), .faddr (.t 3) 7, none, false⟩,
  ⟨none, .store (.t 62) (.t 61) 1, none, false⟩]
abbrev r54_14 : List MOp := [
  ⟨(some 63), .faddr (.t 3) 8, none, false⟩,
  ⟨(some 64), .load (.t 63) 1 false, none, false⟩,
  ⟨(some 65), .faddr (.t 5) 8, none, false⟩,
  ⟨(some 66), .load (.t 65) 1 false, none, false⟩,
  ⟨(some 67), .bslice 1 [(.vec 12 true [])] 2 [(0, (.t 64)), (1, (.t 66))], none, false⟩,
  ⟨(some 68), .call 92 [(.t 67)], none, false⟩,
  ⟨(some 69), .faddr (.t 3) 8, none, false⟩,
  ⟨none, .store (.t 69) (.t 68) 1, none, false⟩]
abbrev r54_15 : List MOp := [
  ⟨(some 70), .bin .add 0 (.t 9) (.k (.int .i64 1)), none, false⟩,
  ⟨(some 9), .mv (.t 70), none, false⟩]
abbrev b54_16 : MC := (.seq (.reg r54_3) (.seq (.cond (.t 10) .skip (.exit 0)) (.seq (.block 1 (.seq (.reg r54_4) (.seq (.seq (.reg r54_5) (.cond (.t 14) (.seq (.reg r54_6) .ret) .skip)) (.seq (.reg r54_7) (.seq (.reg r54_8) (.seq (.reg r54_9) (.seq (.reg r54_10) (.seq (.reg r54_11) (.seq (.reg r54_12) (.seq (.reg r54_13) (.reg r54_14))))))))))) (.reg r54_15))))
abbrev r54_17 : List MOp := [
  ⟨(some 71), .faddr (.t 3) 6, none, false⟩,
  ⟨(some 72), .load (.t 71) 1 false, none, false⟩,
  ⟨(some 73), .call 93 [(.t 72)], none, false⟩]
abbrev r54_18 : List MOp := [
  ⟨(some 74), .faddr (.t 3) 6, none, false⟩,
  ⟨(some 75), .load (.t 74) 1 false, none, false⟩,
  ⟨(some 76), .call 94 [(.t 75)], none, false⟩,
  ⟨(some 77), .faddr (.t 3) 6, none, false⟩,
  ⟨none, .store (.t 77) (.t 76) 1, none, false⟩]
abbrev r54_19 : List MOp := [
  ⟨(some 78), .faddr (.t 3) 5, none, false⟩,
  ⟨(some 79), .load (.t 78) 1 false, none, false⟩]
abbrev r54_20 : List MOp := [
  ⟨(some 80), .faddr (.t 3) 6, none, false⟩,
  ⟨none, .store (.t 80) (.k (.vec 1 true [])) 1, none, false⟩]
abbrev r54_21 : List MOp := [
  ⟨(some 81), .load (.t 3) 9 true, none, false⟩,
  ⟨none, .store (.t 2) (.t 81) 9, none, false⟩]
abbrev m54 : MC := (.seq (.reg r54_0) (.seq (.reg r54_1) (.seq (.seq (.reg r54_2) (.block 0 (.loop b54_16))) (.seq (.reg r54_17) (.seq (.reg r54_18) (.seq (.seq (.reg r54_19) (.cond (.t 79) (.reg r54_20) .skip)) (.seq (.reg r54_21) .ret)))))))
abbrev rs54 : List RV := [(.cell 2 27 9 true)]
/- hallmark.hallmarkkit.SameSpan -/
abbrev r55_0 : List MOp := [
  ⟨(some 2), .box (.t 0), none, false⟩,
  ⟨(some 3), .box (.t 1), none, false⟩,
  ⟨(some 4), .mv (.k (.bool false)), none, false⟩]
abbrev r55_1 : List MOp := [
  ⟨(some 5), .faddr (.t 2) 0, none, false⟩,
  ⟨(some 6), .load (.t 5) 1 false, none, false⟩,
  ⟨(some 7), .faddr (.t 3) 0, none, false⟩,
  ⟨(some 8), .load (.t 7) 1 false, none, false⟩,
  ⟨(some 9), .bin .neq 0 (.t 6) (.t 8), none, false⟩,
  ⟨(some 10), .mv (.t 9), none, false⟩,
  ⟨(some 11), .faddr (.t 2) 1, some (10, false), true⟩,
  ⟨(some 12), .load (.t 11) 1 false, some (10, false), true⟩,
  ⟨(some 13), .faddr (.t 3) 1, some (10, false), true⟩,
  ⟨(some 14), .load (.t 13) 1 false, some (10, false), true⟩,
  ⟨(some 15), .bin .neq 0 (.t 12) (.t 14), some (10, false), true⟩,
  ⟨(some 16), .pick (.t 10) (.k (.bool true)) (.t 15), none, false⟩]
abbrev r55_2 : List MOp := [
  ⟨(some 4), .mv (.k (.bool false)), none, false⟩]
abbrev r55_3 : List MOp := [
  ⟨(some 4), .mv (.k (.bool true)), none, false⟩]
abbrev m55 : MC := (.seq (.reg r55_0) (.seq (.seq (.reg r55_1) (.cond (.t 16) (.seq (.reg r55_2) .ret) .skip)) (.seq (.reg r55_3) .ret)))
abbrev rs55 : List RV := [(.tmp 4)]
/- hallmark.tidy.form -/
abbrev r58_0 : List MOp := [
  ⟨(some 1), .box (.t 0), none, false⟩,
  ⟨(some 2), .alloc [(.bool false), (.bool false), (.bool false), (.bool false), (.vec 2 true []), (.bool false), (.vec 1 true []), (.vec 11 true []), (.vec 12 true [])], none, false⟩]
abbrev r58_1 : List MOp := [
  ⟨(some 7), .load (.t 1) 9 true, none, false⟩,
  ⟨(some 8), .call 97 [(.t 7), (.k (.int .i64 0))], none, false⟩,
  ⟨(some 9), .load (.t 1) 9 true, none, false⟩,
  ⟨(some 10), .call 98 [(.t 9)], none, false⟩,
  ⟨(some 11), .minmax false (.t 10) (.k (.int .i64 8)), none, false⟩,
  ⟨(some 3), .alloc [(.bool false), (.bool false), (.bool false), (.bool false), (.vec 2 true []), (.bool false), (.vec 1 true []), (.vec 11 true []), (.vec 12 true [])], none, false⟩,
  ⟨none, .store (.t 3) (.t 8) 9, none, false⟩,
  ⟨(some 4), .mv (.t 11), none, false⟩]
abbrev r58_2 : List MOp := [
  ⟨(some 5), .mv (.k (.int .i64 1)), none, false⟩]
abbrev r58_3 : List MOp := [
  ⟨(some 12), .mv (.t 5), none, false⟩,
  ⟨(some 13), .mv (.t 4), none, false⟩,
  ⟨(some 14), .bin .leq 0 (.t 12) (.t 13), none, false⟩]
abbrev r58_4 : List MOp := [
  ⟨(some 17), .load (.t 1) 9 true, none, false⟩,
  ⟨(some 18), .mv (.t 5), none, false⟩,
  ⟨(some 19), .call 97 [(.t 17), (.t 18)], none, false⟩,
  ⟨(some 6), .alloc [(.bool false), (.bool false), (.bool false), (.bool false), (.vec 2 true []), (.bool false), (.vec 1 true []), (.vec 11 true []), (.vec 12 true [])], none, false⟩,
  ⟨none, .store (.t 6) (.t 19) 9, none, false⟩]
abbrev r58_5 : List MOp := [
  ⟨(some 20), .load (.t 6) 9 true, none, false⟩,
  ⟨(some 21), .call 99 [(.t 20)], none, false⟩,
  ⟨(some 22), .bin .gtr 0 (.t 21) (.k (.int .i64 200)), none, false⟩]
abbrev r58_6 : List MOp := [
  ⟨(some 23), .load (.t 6) 9 true, none, false⟩,
  ⟨none, .store (.t 3) (.t 23) 9, none, false⟩]
abbrev r58_7 : List MOp := [
  ⟨(some 15), .mv (.t 5), none, false⟩,
  ⟨(some 16), .bin .add 0 (.t 15) (.k (.int .i64 1)), none, false⟩,
  ⟨(some 5), .mv (.t 16), none, false⟩]
abbrev b58_8 : MC := (.seq (.seq (.reg r58_3) (.cond (.t 14) .skip (.exit 0))) (.seq (.block 1 (.seq (.reg r58_4) (.seq (.seq (.reg r58_5) (.cond (.t 22) (.exit 0) .skip)) (.reg r58_6)))) (.reg r58_7)))
abbrev r58_9 : List MOp := [
  ⟨(some 24), .load (.t 3) 9 true, none, false⟩,
  ⟨none, .store (.t 2) (.t 24) 9, none, false⟩]
abbrev m58 : MC := (.seq (.reg r58_0) (.seq (.draw [(0, 2), (1, 2), (0, 5), (1, 5), (2, 5), (3, 5), (4, 5), (4, 6)] r58_1) (.seq (.seq (.reg r58_2) (.block 0 (.loop b58_8))) (.seq (.reg r58_9) .ret))))
abbrev rs58 : List RV := [(.cell 2 27 9 true)]
/- slices.Clone[[]hallmark.api.Span,hallmark.api.Span] -/
abbrev r59_0 : List MOp := [
  ⟨(some 2), .mv (.k (.vec 2 true [])), none, false⟩]
abbrev r59_1 : List MOp := [
  ⟨(some 3), .mv (.t 0), none, false⟩,
  ⟨(some 4), .nilcmp false (.t 3), none, false⟩]
abbrev r59_2 : List MOp := [
  ⟨(some 2), .mv (.k (.vec 2 true [])), none, false⟩]
abbrev r59_3 : List MOp := [
  ⟨(some 5), .bslice 2 [(.str ⟨#[]⟩), (.str ⟨#[]⟩)] 0 [], none, false⟩,
  ⟨(some 6), .mv (.t 0), none, false⟩,
  ⟨(some 7), .app (.t 5) (.t 6) 2, none, false⟩,
  ⟨(some 2), .mv (.t 7), none, false⟩]
abbrev m59 : MC := (.seq (.reg r59_0) (.seq (.seq (.reg r59_1) (.cond (.t 4) (.seq (.reg r59_2) .ret) .skip)) (.seq (.reg r59_3) .ret)))
abbrev rs59 : List RV := [(.tmp 2)]
/- slices.Clone[[]hallmark.api.Arr,hallmark.api.Arr] -/
abbrev r60_0 : List MOp := [
  ⟨(some 2), .mv (.k (.vec 11 true [])), none, false⟩]
abbrev r60_1 : List MOp := [
  ⟨(some 3), .mv (.t 0), none, false⟩,
  ⟨(some 4), .nilcmp false (.t 3), none, false⟩]
abbrev r60_2 : List MOp := [
  ⟨(some 2), .mv (.k (.vec 11 true [])), none, false⟩]
abbrev r60_3 : List MOp := [
  ⟨(some 5), .bslice 11 [(.bool false), (.bool false), (.bool false), (.bool false), (.vec 2 true []), (.bool false), (.vec 1 true []), (.vec 11 true []), (.vec 12 true []), (.int .i64 0), (.int .i64 0)] 0 [], none, false⟩,
  ⟨(some 6), .mv (.t 0), none, false⟩,
  ⟨(some 7), .app (.t 5) (.t 6) 11, none, false⟩,
  ⟨(some 2), .mv (.t 7), none, false⟩]
abbrev m60 : MC := (.seq (.reg r60_0) (.seq (.seq (.reg r60_1) (.cond (.t 4) (.seq (.reg r60_2) .ret) .skip)) (.seq (.reg r60_3) .ret)))
abbrev rs60 : List RV := [(.tmp 2)]
/- slices.Clone[[]hallmark.api.Obj,hallmark.api.Obj] -/
abbrev r61_0 : List MOp := [
  ⟨(some 2), .mv (.k (.vec 12 true [])), none, false⟩]
abbrev r61_1 : List MOp := [
  ⟨(some 3), .mv (.t 0), none, false⟩,
  ⟨(some 4), .nilcmp false (.t 3), none, false⟩]
abbrev r61_2 : List MOp := [
  ⟨(some 2), .mv (.k (.vec 12 true [])), none, false⟩]
abbrev r61_3 : List MOp := [
  ⟨(some 5), .bslice 12 [(.vec 1 true []), (.vec 9 true []), (.vec 1 true []), (.bool false), (.bool false), (.bool false), (.bool false), (.vec 2 true []), (.bool false), (.vec 1 true []), (.vec 11 true []), (.vec 12 true [])] 0 [], none, false⟩,
  ⟨(some 6), .mv (.t 0), none, false⟩,
  ⟨(some 7), .app (.t 5) (.t 6) 12, none, false⟩,
  ⟨(some 2), .mv (.t 7), none, false⟩]
abbrev m61 : MC := (.seq (.reg r61_0) (.seq (.seq (.reg r61_1) (.cond (.t 4) (.seq (.reg r61_2) .ret) .skip)) (.seq (.reg r61_3) .ret)))
abbrev rs61 : List RV := [(.tmp 2)]
/- slices.Clone[[]bool,bool] -/
abbrev r62_0 : List MOp := [
  ⟨(some 2), .mv (.k (.vec 1 true [])), none, false⟩]
abbrev r62_1 : List MOp := [
  ⟨(some 3), .mv (.t 0), none, false⟩,
  ⟨(some 4), .nilcmp false (.t 3), none, false⟩]
abbrev r62_2 : List MOp := [
  ⟨(some 2), .mv (.k (.vec 1 true [])), none, false⟩]
abbrev r62_3 : List MOp := [
  ⟨(some 5), .bslice 1 [(.bool false)] 0 [], none, false⟩,
  ⟨(some 6), .mv (.t 0), none, false⟩,
  ⟨(some 7), .app (.t 5) (.t 6) 1, none, false⟩,
  ⟨(some 2), .mv (.t 7), none, false⟩]
abbrev m62 : MC := (.seq (.reg r62_0) (.seq (.seq (.reg r62_1) (.cond (.t 4) (.seq (.reg r62_2) .ret) .skip)) (.seq (.reg r62_3) .ret)))
abbrev rs62 : List RV := [(.tmp 2)]
/- slices.Clone[[]hallmark.api.Type,hallmark.api.Type] -/
abbrev r63_0 : List MOp := [
  ⟨(some 2), .mv (.k (.vec 9 true [])), none, false⟩]
abbrev r63_1 : List MOp := [
  ⟨(some 3), .mv (.t 0), none, false⟩,
  ⟨(some 4), .nilcmp false (.t 3), none, false⟩]
abbrev r63_2 : List MOp := [
  ⟨(some 2), .mv (.k (.vec 9 true [])), none, false⟩]
abbrev r63_3 : List MOp := [
  ⟨(some 5), .bslice 9 [(.bool false), (.bool false), (.bool false), (.bool false), (.vec 2 true []), (.bool false), (.vec 1 true []), (.vec 11 true []), (.vec 12 true [])] 0 [], none, false⟩,
  ⟨(some 6), .mv (.t 0), none, false⟩,
  ⟨(some 7), .app (.t 5) (.t 6) 9, none, false⟩,
  ⟨(some 2), .mv (.t 7), none, false⟩]
abbrev m63 : MC := (.seq (.reg r63_0) (.seq (.seq (.reg r63_1) (.cond (.t 4) (.seq (.reg r63_2) .ret) .skip)) (.seq (.reg r63_3) .ret)))
abbrev rs63 : List RV := [(.tmp 2)]
/- (*hallmark.lattice.part).commonFlags -/
abbrev r64_0 : List MOp := [
  ⟨(some 4), .mv (.t 0), none, false⟩,
  ⟨(some 5), .mv (.t 0), none, false⟩,
  ⟨(some 6), .nilck (.t 5), none, false⟩,
  ⟨(some 7), .faddr (.t 6) 0, none, false⟩,
  ⟨(some 8), .faddr (.t 7) 1, none, false⟩,
  ⟨(some 9), .load (.t 8) 1 false, none, false⟩,
  ⟨(some 10), .mv (.t 9), none, false⟩,
  ⟨(some 11), .mv (.t 0), some (10, true), true⟩,
  ⟨(some 12), .nilck (.t 11), some (10, true), true⟩,
  ⟨(some 13), .faddr (.t 12) 9, some (10, true), true⟩,
  ⟨(some 14), .faddr (.t 13) 1, some (10, true), true⟩,
  ⟨(some 15), .load (.t 14) 1 false, some (10, true), true⟩,
  ⟨(some 16), .pick (.t 10) (.t 15) (.k (.bool false)), none, false⟩,
  ⟨(some 17), .nilck (.t 4), none, false⟩,
  ⟨(some 18), .faddr (.t 17) 18, none, false⟩,
  ⟨(some 19), .faddr (.t 18) 1, none, false⟩,
  ⟨none, .store (.t 19) (.t 16) 1, none, false⟩]
abbrev r64_1 : List MOp := [
  ⟨(some 20), .mv (.t 0), none, false⟩,
  ⟨(some 21), .mv (.t 0), none, false⟩,
  ⟨(some 22), .nilck (.t 21), none, false⟩,
  ⟨(some 23), .faddr (.t 22) 0, none, false⟩,
  ⟨(some 24), .faddr (.t 23) 2, none, false⟩,
  ⟨(some 25), .load (.t 24) 1 false, none, false⟩,
  ⟨(some 26), .mv (.t 25), none, false⟩,
  ⟨(some 27), .mv (.t 0), some (26, true), true⟩,
  ⟨(some 28), .nilck (.t 27), some (26, true), true⟩,
  ⟨(some 29), .faddr (.t 28) 9, some (26, true), true⟩,
  ⟨(some 30), .faddr (.t 29) 2, some (26, true), true⟩,
  ⟨(some 31), .load (.t 30) 1 false, some (26, true), true⟩,
  ⟨(some 32), .pick (.t 26) (.t 31) (.k (.bool false)), none, false⟩,
  ⟨(some 33), .nilck (.t 20), none, false⟩,
  ⟨(some 34), .faddr (.t 33) 18, none, false⟩,
  ⟨(some 35), .faddr (.t 34) 2, none, false⟩,
  ⟨none, .store (.t 35) (.t 32) 1, none, false⟩]
abbrev r64_2 : List MOp := [
  ⟨(some 36), .mv (.t 0), none, false⟩,
  ⟨(some 37), .mv (.t 0), none, false⟩,
  ⟨(some 38), .nilck (.t 37), none, false⟩,
  ⟨(some 39), .faddr (.t 38) 0, none, false⟩,
  ⟨(some 40), .faddr (.t 39) 3, none, false⟩,
  ⟨(some 41), .load (.t 40) 1 false, none, false⟩,
  ⟨(some 42), .mv (.t 41), none, false⟩,
  ⟨(some 43), .mv (.t 0), some (42, true), true⟩,
  ⟨(some 44), .nilck (.t 43), some (42, true), true⟩,
  ⟨(some 45), .faddr (.t 44) 9, some (42, true), true⟩,
  ⟨(some 46), .faddr (.t 45) 3, some (42, true), true⟩,
  ⟨(some 47), .load (.t 46) 1 false, some (42, true), true⟩,
  ⟨(some 48), .pick (.t 42) (.t 47) (.k (.bool false)), none, false⟩,
  ⟨(some 49), .nilck (.t 36), none, false⟩,
  ⟨(some 50), .faddr (.t 49) 18, none, false⟩,
  ⟨(some 51), .faddr (.t 50) 3, none, false⟩,
  ⟨none, .store (.t 51) (.t 48) 1, none, false⟩]
abbrev r64_3 : List MOp := [
  ⟨(some 52), .mv (.t 0), none, false⟩,
  ⟨(some 53), .mv (.t 0), none, false⟩,
  ⟨(some 54), .nilck (.t 53), none, false⟩,
  ⟨(some 55), .faddr (.t 54) 0, none, false⟩,
  ⟨(some 56), .faddr (.t 55) 5, none, false⟩,
  ⟨(some 57), .load (.t 56) 1 false, none, false⟩,
  ⟨(some 58), .mv (.t 57), none, false⟩,
  ⟨(some 59), .mv (.t 0), some (58, true), true⟩,
  ⟨(some 60), .nilck (.t 59), some (58, true), true⟩,
  ⟨(some 61), .faddr (.t 60) 9, some (58, true), true⟩,
  ⟨(some 62), .faddr (.t 61) 5, some (58, true), true⟩,
  ⟨(some 63), .load (.t 62) 1 false, some (58, true), true⟩,
  ⟨(some 64), .pick (.t 58) (.t 63) (.k (.bool false)), none, false⟩,
  ⟨(some 65), .nilck (.t 52), none, false⟩,
  ⟨(some 66), .faddr (.t 65) 18, none, false⟩,
  ⟨(some 67), .faddr (.t 66) 5, none, false⟩,
  ⟨none, .store (.t 67) (.t 64) 1, none, false⟩]
abbrev r64_4 : List MOp := [
  ⟨(some 68), .mv (.t 0), none, false⟩,
  ⟨(some 69), .nilck (.t 68), none, false⟩,
  ⟨(some 70), .faddr (.t 69) 0, none, false⟩,
  ⟨(some 71), .faddr (.t 70) 6, none, false⟩,
  ⟨(some 72), .load (.t 71) 1 false, none, false⟩,
  ⟨(some 73), .len (.t 72), none, false⟩,
  ⟨(some 74), .mv (.k (.int .i64 0)), none, false⟩]
abbrev r64_5 : List MOp := [
  ⟨(some 75), .bin .lss 0 (.t 74) (.t 73), none, false⟩]
abbrev r64_6 : List MOp := [
  ⟨(some 76), .iaddr (.t 72) (.t 74) 1, none, false⟩,
  ⟨(some 77), .load (.t 76) 1 false, none, false⟩,
  ⟨(some 3), .mv (.t 77), none, false⟩]
abbrev r64_7 : List MOp := [
  ⟨(some 78), .mv (.t 0), none, false⟩,
  ⟨(some 79), .nilck (.t 78), none, false⟩,
  ⟨(some 80), .faddr (.t 79) 9, none, false⟩,
  ⟨(some 81), .faddr (.t 80) 5, none, false⟩,
  ⟨(some 82), .load (.t 81) 1 false, none, false⟩,
  ⟨(some 83), .mv (.t 82), none, false⟩,
  ⟨(some 84), .mv (.t 0), some (83, false), false⟩,
  ⟨(some 85), .nilck (.t 84), some (83, false), false⟩,
  ⟨(some 86), .faddr (.t 85) 9, some (83, false), false⟩,
  ⟨(some 87), .faddr (.t 86) 6, some (83, false), false⟩,
  ⟨(some 88), .load (.t 87) 1 false, some (83, false), false⟩,
  ⟨(some 89), .mv (.t 3), some (83, false), false⟩,
  ⟨(some 90), .call 100 [(.t 88), (.t 89)], some (83, false), false⟩,
  ⟨(some 91), .pick (.t 83) (.k (.bool true)) (.t 90), none, false⟩]
abbrev r64_8 : List MOp := [
  ⟨(some 92), .mv (.t 0), none, false⟩,
  ⟨(some 93), .mv (.t 0), none, false⟩,
  ⟨(some 94), .nilck (.t 93), none, false⟩,
  ⟨(some 95), .faddr (.t 94) 18, none, false⟩,
  ⟨(some 96), .faddr (.t 95) 6, none, false⟩,
  ⟨(some 97), .load (.t 96) 1 false, none, false⟩,
  ⟨(some 98), .mv (.t 3), none, false⟩,
  ⟨(some 99), .bslice 1 [(.str ⟨#[]⟩)] 1 [(0, (.t 98))], none, false⟩,
  ⟨(some 100), .app (.t 97) (.t 99) 1, none, false⟩,
  ⟨(some 101), .nilck (.t 92), none, false⟩,
  ⟨(some 102), .faddr (.t 101) 18, none, false⟩,
  ⟨(some 103), .faddr (.t 102) 6, none, false⟩,
  ⟨none, .store (.t 103) (.t 100) 1, none, false⟩]
abbrev r64_9 : List MOp := [
  ⟨(some 104), .bin .add 0 (.t 74) (.k (.int .i64 1)), none, false⟩,
  ⟨(some 74), .mv (.t 104), none, false⟩]
abbrev b64_10 : MC := (.seq (.reg r64_5) (.seq (.cond (.t 75) .skip (.exit 0)) (.seq (.block 1 (.seq (.reg r64_6) (.seq (.reg r64_7) (.cond (.t 91) (.reg r64_8) .skip)))) (.reg r64_9))))
abbrev r64_11 : List MOp := [
  ⟨(some 105), .mv (.t 0), none, false⟩,
  ⟨(some 106), .nilck (.t 105), none, false⟩,
  ⟨(some 107), .faddr (.t 106) 0, none, false⟩,
  ⟨(some 108), .faddr (.t 107) 5, none, false⟩,
  ⟨(some 109), .load (.t 108) 1 false, none, false⟩,
  ⟨(some 110), .mv (.t 109), none, false⟩,
  ⟨(some 111), .mv (.t 0), some (110, true), true⟩,
  ⟨(some 112), .nilck (.t 111), some (110, true), true⟩,
  ⟨(some 113), .faddr (.t 112) 9, some (110, true), true⟩,
  ⟨(some 114), .faddr (.t 113) 5, some (110, true), true⟩,
  ⟨(some 115), .load (.t 114) 1 false, some (110, true), true⟩,
  ⟨(some 116), .un .not (.t 115), some (110, true), true⟩,
  ⟨(some 117), .pick (.t 110) (.t 116) (.k (.bool false)), none, false⟩]
abbrev r64_12 : List MOp := [
  ⟨(some 118), .mv (.t 0), none, false⟩,
  ⟨(some 119), .mv (.t 0), none, false⟩,
  ⟨(some 120), .nilck (.t 119), none, false⟩,
  ⟨(some 121), .faddr (.t 120) 9, none, false⟩,
  ⟨(some 122), .faddr (.t 121) 6, none, false⟩,
  ⟨(some 123), .load (.t 122) 1 false, none, false⟩,
  ⟨(some 124), .call 20 [(.t 123)], none, false⟩,
  ⟨(some 125), .nilck (.t 118), none, false⟩,
  ⟨(some 126), .faddr (.t 125) 18, none, false⟩,
  ⟨(some 127), .faddr (.t 126) 6, none, false⟩,
  ⟨none, .store (.t 127) (.t 124) 1, none, false⟩]
abbrev m64 : MC := (.seq (.reg r64_0) (.seq (.reg r64_1) (.seq (.reg r64_2) (.seq (.reg r64_3) (.seq (.seq (.reg r64_4) (.block 0 (.loop b64_10))) (.seq (.reg r64_11) (.cond (.t 117) (.reg r64_12) .skip)))))))
abbrev rs64 : List RV := []
/- (*hallmark.lattice.part).commonNumbers -/
abbrev r65_0 : List MOp := [
  ⟨(some 5), .mv (.t 0), none, false⟩,
  ⟨(some 6), .nilck (.t 5), none, false⟩,
  ⟨(some 7), .faddr (.t 6) 0, none, false⟩,
  ⟨(some 8), .faddr (.t 7) 4, none, false⟩,
  ⟨(some 9), .load (.t 8) 1 false, none, false⟩,
  ⟨(some 10), .len (.t 9), none, false⟩,
  ⟨(some 11), .bin .eql 0 (.t 10) (.k (.int .i64 0)), none, false⟩,
  ⟨(some 12), .mv (.t 11), none, false⟩,
  ⟨(some 13), .mv (.t 0), some (12, false), true⟩,
  ⟨(some 14), .nilck (.t 13), some (12, false), true⟩,
  ⟨(some 15), .faddr (.t 14) 9, some (12, false), true⟩,
  ⟨(some 16), .faddr (.t 15) 4, some (12, false), true⟩,
  ⟨(some 17), .load (.t 16) 1 false, some (12, false), true⟩,
  ⟨(some 18), .len (.t 17), some (12, false), true⟩,
  ⟨(some 19), .bin .eql 0 (.t 18) (.k (.int .i64 0)), some (12, false), true⟩,
  ⟨(some 20), .pick (.t 12) (.k (.bool true)) (.t 19), none, false⟩]
abbrev r65_1 : List MOp := [
  ⟨(some 21), .mv (.t 0), none, false⟩,
  ⟨(some 22), .nilck (.t 21), none, false⟩,
  ⟨(some 23), .faddr (.t 22) 0, none, false⟩,
  ⟨(some 24), .faddr (.t 23) 4, none, false⟩,
  ⟨(some 25), .load (.t 24) 1 false, none, false⟩,
  ⟨(some 26), .iaddr (.t 25) (.k (.int .i64 0)) 2, none, false⟩,
  ⟨(some 27), .faddr (.t 26) 0, none, false⟩,
  ⟨(some 28), .load (.t 27) 1 false, none, false⟩,
  ⟨(some 29), .mv (.t 0), none, false⟩,
  ⟨(some 30), .nilck (.t 29), none, false⟩,
  ⟨(some 31), .faddr (.t 30) 9, none, false⟩,
  ⟨(some 32), .faddr (.t 31) 4, none, false⟩,
  ⟨(some 33), .load (.t 32) 1 false, none, false⟩,
  ⟨(some 34), .iaddr (.t 33) (.k (.int .i64 0)) 2, none, false⟩,
  ⟨(some 35), .faddr (.t 34) 0, none, false⟩,
  ⟨(some 36), .load (.t 35) 1 false, none, false⟩,
  ⟨(some 37), .call 101 [(.t 28), (.t 36), (.k (.int .i64 1))], none, false⟩,
  ⟨(some 38), .mv (.t 0), none, false⟩,
  ⟨(some 39), .nilck (.t 38), none, false⟩,
  ⟨(some 40), .faddr (.t 39) 0, none, false⟩,
  ⟨(some 41), .faddr (.t 40) 4, none, false⟩,
  ⟨(some 42), .load (.t 41) 1 false, none, false⟩,
  ⟨(some 43), .iaddr (.t 42) (.k (.int .i64 0)) 2, none, false⟩,
  ⟨(some 44), .faddr (.t 43) 1, none, false⟩,
  ⟨(some 45), .load (.t 44) 1 false, none, false⟩,
  ⟨(some 46), .mv (.t 0), none, false⟩,
  ⟨(some 47), .nilck (.t 46), none, false⟩,
  ⟨(some 48), .faddr (.t 47) 9, none, false⟩,
  ⟨(some 49), .faddr (.t 48) 4, none, false⟩,
  ⟨(some 50), .load (.t 49) 1 false, none, false⟩,
  ⟨(some 51), .iaddr (.t 50) (.k (.int .i64 0)) 2, none, false⟩,
  ⟨(some 52), .faddr (.t 51) 1, none, false⟩,
  ⟨(some 53), .load (.t 52) 1 false, none, false⟩,
  ⟨(some 54), .call 101 [(.t 45), (.t 53), (.k (.int .i64 (-1)))], none, false⟩,
  ⟨(some 55), .build [(.str ⟨#[]⟩), (.str ⟨#[]⟩)] [(0, 1, (.t 37)), (1, 1, (.t 54))], none, false⟩,
  ⟨(some 2), .alloc [(.str ⟨#[]⟩), (.str ⟨#[]⟩)], none, false⟩,
  ⟨none, .store (.t 2) (.t 55) 2, none, false⟩]
abbrev r65_2 : List MOp := [
  ⟨(some 57), .faddr (.t 2) 0, none, false⟩,
  ⟨(some 58), .load (.t 57) 1 false, none, false⟩,
  ⟨(some 59), .faddr (.t 2) 1, none, false⟩,
  ⟨(some 60), .load (.t 59) 1 false, none, false⟩,
  ⟨(some 61), .call 102 [(.t 58), (.t 60)], none, false⟩,
  ⟨(some 56), .mv (.t 61), none, false⟩,
  ⟨(some 62), .ext (.t 56) 0, none, false⟩,
  ⟨(some 63), .ext (.t 56) 1, none, false⟩,
  ⟨(some 3), .mv (.t 62), none, false⟩,
  ⟨(some 4), .mv (.t 63), none, false⟩]
abbrev r65_3 : List MOp := [
  ⟨(some 64), .mv (.t 3), none, false⟩,
  ⟨(some 65), .bin .leq 0 (.t 64) (.k (.int .i64 0)), none, false⟩]
abbrev r65_4 : List MOp := [
  ⟨(some 66), .mv (.t 0), none, false⟩,
  ⟨(some 67), .load (.t 2) 2 true, none, false⟩,
  ⟨(some 68), .bslice 2 [(.str ⟨#[]⟩), (.str ⟨#[]⟩)] 1 [(0, (.t 67))], none, false⟩,
  ⟨(some 69), .nilck (.t 66), none, false⟩,
  ⟨(some 70), .faddr (.t 69) 18, none, false⟩,
  ⟨(some 71), .faddr (.t 70) 4, none, false⟩,
  ⟨none, .store (.t 71) (.t 68) 1, none, false⟩]
abbrev m65 : MC := (.seq (.seq (.reg r65_0) (.cond (.t 20) .ret .skip)) (.seq (.draw [(0, 8), (1, 8), (2, 8), (3, 8), (4, 8), (5, 8), (6, 8), (7, 8), (0, 9), (1, 9), (2, 9), (3, 9), (4, 9), (5, 9), (6, 9), (7, 9), (0, 10), (1, 10), (2, 10), (3, 10), (4, 10), (5, 10), (6, 10), (7, 10), (0, 11), (1, 11), (2, 11), (3, 11), (4, 11), (5, 11), (6, 11), (7, 11), (0, 12), (1, 12), (2, 12), (3, 12), (4, 12), (5, 12), (6, 12), (7, 12), (0, 13), (1, 13), (2, 13), (3, 13), (4, 13), (5, 13), (6, 13), (7, 13), (0, 14), (1, 14), (2, 14), (3, 14), (4, 14), (5, 14), (6, 14), (7, 14), (0, 15), (1, 15), (2, 15), (3, 15), (4, 15), (5, 15), (6, 15), (7, 15), (0, 17), (1, 17), (2, 17), (3, 17), (4, 17), (5, 17), (6, 17), (7, 17), (8, 17), (9, 17), (10, 17), (11, 17), (12, 17), (13, 17), (14, 17), (15, 17), (16, 17), (0, 18), (1, 18), (2, 18), (3, 18), (4, 18), (5, 18), (6, 18), (7, 18), (8, 18), (9, 18), (10, 18), (11, 18), (12, 18), (13, 18), (14, 18), (15, 18), (16, 18), (0, 19), (1, 19), (2, 19), (3, 19), (4, 19), (5, 19), (6, 19), (7, 19), (8, 19), (9, 19), (10, 19), (11, 19), (12, 19), (13, 19), (14, 19), (15, 19), (16, 19), (0, 20), (1, 20), (2, 20), (3, 20), (4, 20), (5, 20), (6, 20), (7, 20), (8, 20), (9, 20), (10, 20), (11, 20), (12, 20), (13, 20), (14, 20), (15, 20), (16, 20), (0, 21), (1, 21), (2, 21), (3, 21), (4, 21), (5, 21), (6, 21), (7, 21), (8, 21), (9, 21), (10, 21), (11, 21), (12, 21), (13, 21), (14, 21), (15, 21), (16, 21), (0, 22), (1, 22), (2, 22), (3, 22), (4, 22), (5, 22), (6, 22), (7, 22), (8, 22), (9, 22), (10, 22), (11, 22), (12, 22), (13, 22), (14, 22), (15, 22), (16, 22), (0, 23), (1, 23), (2, 23), (3, 23), (4, 23), (5, 23), (6, 23), (7, 23), (8, 23), (9, 23), (10, 23), (11, 23), (12, 23), (13, 23), (14, 23), (15, 23), (16, 23), (0, 24), (1, 24), (2, 24), (3, 24), (4, 24), (5, 24), (6, 24), (7, 24), (8, 24), (9, 24), (10, 24), (11, 24), (12, 24), (13, 24), (14, 24), (15, 24), (16, 24), (0, 25), (1, 25), (2, 25), (3, 25), (4, 25), (5, 25), (6, 25), (7, 25), (8, 25), (9, 25), (10, 25), (11, 25), (12, 25), (13, 25), (14, 25), (15, 25), (16, 25), (17, 25), (18, 25), (19, 25), (20, 25), (21, 25), (22, 25), (23, 25), (24, 25), (0, 26), (1, 26), (2, 26), (3, 26), (4, 26), (5, 26), (6, 26), (7, 26), (8, 26), (9, 26), (10, 26), (11, 26), (12, 26), (13, 26), (14, 26), (15, 26), (16, 26), (17, 26), (18, 26), (19, 26), (20, 26), (21, 26), (22, 26), (23, 26), (24, 26), (0, 27), (1, 27), (2, 27), (3, 27), (4, 27), (5, 27), (6, 27), (7, 27), (8, 27), (9, 27), (10, 27), (11, 27), (12, 27), (13, 27), (14, 27), (15, 27), (16, 27), (17, 27), (18, 27), (19, 27), (20, 27), (21, 27), (22, 27), (23, 27), (24, 27), (0, 28), (1, 28), (2, 28), (3, 28), (4, 28), (5, 28), (6, 28), (7, 28), (8, 28), (9, 28), (10, 28), (11, 28), (12, 28), (13, 28), (14, 28), (15, 28), (16, 28), (17, 28), (18, 28), (19, 28), (20, 28), (21, 28), (22, 28), (23, 28), (24, 28), (0, 29), (1, 29), (2, 29), (3, 29), (4, 29), (5, 29), (6, 29), (7, 29), (8, 29), (9, 29), (10, 29), (11, 29), (12, 29), (13, 29), (14, 29), (15, 29), (16, 29), (17, 29), (18, 29), (19, 29), (20, 29), (21, 29), (22, 29), (23, 29), (24, 29), (0, 30), (1, 30), (2, 30), (3, 30), (4, 30), (5, 30), (6, 30), (7, 30), (8, 30), (9, 30), (10, 30), (11, 30), (12, 30), (13, 30), (14, 30), (15, 30), (16, 30), (17, 30), (18, 30), (19, 30), (20, 30), (21, 30), (22, 30), (23, 30), (24, 30), (0, 31), (1, 31), (2, 31), (3, 31), (4, 31), (5, 31), (6, 31), (7, 31), (8, 31), (9, 31), (10, 31), (11, 31), (12, 31), (13, 31), (14, 31), (15, 31), (16, 31), (17, 31), (18, 31), (19, 31), (20, 31), (21, 31), (22, 31), (23, 31), (24, 31), (0, 32), (1, 32), (2, 32), (3, 32), (4, 32), (5, 32), (6, 32), (7, 32), (8, 32), (9, 32), (10, 32), (11, 32), (12, 32), (13, 32), (14, 32), (15, 32), (16, 32), (17, 32), (18, 32), (19, 32), (20, 32), (21, 32), (22, 32), (23, 32), (24, 32), (0, 35), (1, 35), (2, 35), (3, 35), (4, 35), (5, 35), (6, 35), (7, 35), (8, 35), (9, 35), (10, 35), (11, 35), (12, 35), (13, 35), (14, 35), (15, 35), (16, 35), (17, 35), (18, 35), (19, 35), (20, 35), (21, 35), (22, 35), (23, 35), (24, 35), (25, 35), (26, 35), (27, 35), (28, 35), (29, 35), (30, 35), (31, 35), (32, 35), (33, 35), (34, 35)] r65_1) (.seq (.reg r65_2) (.seq (.reg r65_3) (.cond (.t 65) (.reg r65_4) .skip)))))
abbrev rs65 : List RV := []
/- (*hallmark.lattice.part).commonArrays -/
abbrev r66_0 : List MOp := [
  ⟨(some 5), .mv (.t 0), none, false⟩,
  ⟨(some 6), .nilck (.t 5), none, false⟩,
  ⟨(some 7), .faddr (.t 6) 0, none, false⟩,
  ⟨(some 8), .faddr (.t 7) 7, none, false⟩,
  ⟨(some 9), .load (.t 8) 1 false, none, false⟩,
  ⟨(some 10), .len (.t 9), none, false⟩,
  ⟨(some 11), .bin .eql 0 (.t 10) (.k (.int .i64 0)), none, false⟩,
  ⟨(some 12), .mv (.t 11), none, false⟩,
  ⟨(some 13), .mv (.t 0), some (12, false), true⟩,
  ⟨(some 14), .nilck (.t 13), some (12, false), true⟩,
  ⟨(some 15), .faddr (.t 14) 9, some (12, false), true⟩,
  ⟨(some 16), .faddr (.t 15) 7, some (12, false), true⟩,
  ⟨(some 17), .load (.t 16) 1 false, some (12, false), true⟩,
  ⟨(some 18), .len (.t 17), some (12, false), true⟩,
  ⟨(some 19), .bin .eql 0 (.t 18) (.k (.int .i64 0)), some (12, false), true⟩,
  ⟨(some 20), .pick (.t 12) (.k (.bool true)) (.t 19), none, false⟩]
abbrev r66_1 : List MOp := [
  ⟨(some 21), .mv (.t 0), none, false⟩,
  ⟨(some 22), .nilck (.t 21), none, false⟩,
  ⟨(some 23), .faddr (.t 22) 0, none, false⟩,
  ⟨(some 24), .faddr (.t 23) 7, none, false⟩,
  ⟨(some 25), .load (.t 24) 1 false, none, false⟩,
  ⟨(some 26), .iaddr (.t 25) (.k (.int .i64 0)) 11, none, false⟩,
  ⟨(some 27), .load (.t 26) 11 true, none, false⟩,
  ⟨(some 28), .mv (.t 0), none, false⟩,
  ⟨(some 29), .nilck (.t 28), none, false⟩,
  ⟨(some 30), .faddr (.t 29) 9, none, false⟩,
  ⟨(some 31), .faddr (.t 30) 7, none, false⟩,
  ⟨(some 32), .load (.t 31) 1 false, none, false⟩,
  ⟨(some 33), .iaddr (.t 32) (.k (.int .i64 0)) 11, none, false⟩,
  ⟨(some 34), .load (.t 33) 11 true, none, false⟩,
  ⟨(some 2), .alloc [(.bool false), (.bool false), (.bool false), (.bool false), (.vec 2 true []), (.bool false), (.vec 1 true []), (.vec 11 true []), (.vec 12 true []), (.int .i64 0), (.int .i64 0)], none, false⟩,
  ⟨(some 3), .alloc [(.bool false), (.bool false), (.bool false), (.bool false), (.vec 2 true []), (.bool false), (.vec 1 true []), (.vec 11 true []), (.vec 12 true []), (.int .i64 0), (.int .i64 0)], none, false⟩,
  ⟨none, .store (.t 2) (.t 27) 11, none, false⟩,
  ⟨none, .store (.t 3) (.t 34) 11, none, false⟩]
abbrev r66_2 : List MOp := [
  ⟨(some 35), .faddr (.t 2) 0, none, false⟩,
  ⟨(some 36), .load (.t 35) 9 true, none, false⟩,
  ⟨(some 37), .faddr (.t 3) 0, none, false⟩,
  ⟨(some 38), .load (.t 37) 9 true, none, false⟩,
  ⟨(some 39), .call 15 [(.t 36), (.t 38)], none, false⟩,
  ⟨(some 40), .faddr (.t 2) 9, none, false⟩,
  ⟨(some 41), .load (.t 40) 1 false, none, false⟩,
  ⟨(some 42), .faddr (.t 3) 9, none, false⟩,
  ⟨(some 43), .load (.t 42) 1 false, none, false⟩,
  ⟨(some 44), .minmax true (.t 41) (.t 43), none, false⟩,
  ⟨(some 45), .faddr (.t 2) 10, none, false⟩,
  ⟨(some 46), .load (.t 45) 1 false, none, false⟩,
  ⟨(some 47), .build [(.bool false), (.bool false), (.bool false), (.bool false), (.vec 2 true []), (.bool false), (.vec 1 true []), (.vec 11 true []), (.vec 12 true []), (.int .i64 0), (.int .i64 0)] [(0, 9, (.t 39)), (9, 1, (.t 44)), (10, 1, (.t 46))], none, false⟩,
  ⟨(some 4), .alloc [(.bool false), (.bool false), (.bool false), (.bool false), (.vec 2 true []), (.bool false), (.vec 1 true []), (.vec 11 true []), (.vec 12 true []), (.int .i64 0), (.int .i64 0)], none, false⟩,
  ⟨none, .store (.t 4) (.t 47) 11, none, false⟩]
abbrev r66_3 : List MOp := [
  ⟨(some 48), .faddr (.t 2) 10, none, false⟩,
  ⟨(some 49), .load (.t 48) 1 false, none, false⟩,
  ⟨(some 50), .bin .lss 0 (.t 49) (.k (.int .i64 0)), none, false⟩,
  ⟨(some 51), .mv (.t 50), none, false⟩,
  ⟨(some 52), .faddr (.t 3) 10, some (51, false), true⟩,
  ⟨(some 53), .load (.t 52) 1 false, some (51, false), true⟩,
  ⟨(some 54), .bin .geq 0 (.t 53) (.k (.int .i64 0)), some (51, false), true⟩,
  ⟨(some 55), .mv (.t 54), some (51, false), true⟩,
  ⟨(some 56), .faddr (.t 3) 10, some (55, true), true⟩,
  ⟨(some 57), .load (.t 56) 1 false, some (55, true), true⟩,
  ⟨(some 58), .faddr (.t 2) 10, some (55, true), true⟩,
  ⟨(some 59), .load (.t 58) 1 false, some (55, true), true⟩,
  ⟨(some 60), .bin .lss 0 (.t 57) (.t 59), some (55, true), true⟩,
  ⟨(some 61), .pick (.t 55) (.t 60) (.k (.bool false)), some (51, false), true⟩,
  ⟨(some 62), .pick (.t 51) (.k (.bool true)) (.t 61), none, false⟩]
abbrev r66_4 : List MOp := [
  ⟨(some 63), .faddr (.t 3) 10, none, false⟩,
  ⟨(some 64), .load (.t 63) 1 false, none, false⟩,
  ⟨(some 65), .faddr (.t 4) 10, none, false⟩,
  ⟨none, .store (.t 65) (.t 64) 1, none, false⟩]
abbrev r66_5 : List MOp := [
  ⟨(some 67), .faddr (.t 4) 10, none, false⟩,
  ⟨(some 68), .load (.t 67) 1 false, none, false⟩,
  ⟨(some 69), .bin .geq 0 (.t 68) (.k (.int .i64 0)), none, false⟩,
  ⟨(some 70), .mv (.t 69), none, false⟩,
  ⟨(some 71), .faddr (.t 4) 10, some (70, true), false⟩,
  ⟨(some 72), .load (.t 71) 1 false, some (70, true), false⟩,
  ⟨(some 73), .faddr (.t 4) 9, some (70, true), false⟩,
  ⟨(some 74), .load (.t 73) 1 false, some (70, true), false⟩,
  ⟨(some 75), .bin .lss 0 (.t 72) (.t 74), some (70, true), false⟩,
  ⟨(some 76), .pick (.t 70) (.t 75) (.k (.bool false)), none, false⟩,
  ⟨(some 77), .mv (.t 76), none, false⟩,
  ⟨(some 78), .faddr (.t 4) 0, some (77, false), false⟩,
  ⟨(some 79), .load (.t 78) 9 true, some (77, false), false⟩,
  ⟨(some 80), .call 103 [(.t 79)], some (77, false), false⟩,
  ⟨(some 81), .mv (.t 80), some (77, false), false⟩,
  ⟨(some 82), .faddr (.t 4) 9, some (81, true), false⟩,
  ⟨(some 83), .load (.t 82) 1 false, some (81, true), false⟩,
  ⟨(some 84), .bin .gtr 0 (.t 83) (.k (.int .i64 0)), some (81, true), false⟩,
  ⟨(some 85), .pick (.t 81) (.t 84) (.k (.bool false)), some (77, false), false⟩,
  ⟨(some 86), .pick (.t 77) (.k (.bool true)) (.t 85), none, false⟩,
  ⟨(some 66), .mv (.t 86), none, false⟩]
abbrev r66_6 : List MOp := [
  ⟨(some 88), .faddr (.t 4) 10, none, false⟩,
  ⟨(some 89), .load (.t 88) 1 false, none, false⟩,
  ⟨(some 90), .bin .eql 0 (.t 89) (.k (.int .i64 0)), none, false⟩,
  ⟨(some 91), .mv (.t 90), none, false⟩,
  ⟨(some 92), .faddr (.t 4) 0, some (91, false), false⟩,
  ⟨(some 93), .load (.t 92) 9 true, some (91, false), false⟩,
  ⟨(some 94), .call 103 [(.t 93)], some (91, false), false⟩,
  ⟨(some 95), .pick (.t 91) (.k (.bool true)) (.t 94), none, false⟩,
  ⟨(some 87), .mv (.t 95), none, false⟩]
abbrev r66_7 : List MOp := [
  ⟨(some 96), .build [(.bool false), (.bool false), (.bool false), (.bool false), (.vec 2 true []), (.bool false), (.vec 1 true []), (.vec 11 true []), (.vec 12 true []), (.int .i64 0), (.int .i64 0)] [], none, false⟩,
  ⟨none, .store (.t 4) (.t 96) 11, none, false⟩]
abbrev r66_8 : List MOp := [
  ⟨(some 97), .mv (.t 0), none, false⟩,
  ⟨(some 98), .load (.t 4) 11 true, none, false⟩,
  ⟨(some 99), .bslice 11 [(.bool false), (.bool false), (.bool false), (.bool false), (.vec 2 true []), (.bool false), (.vec 1 true []), (.vec 11 true []), (.vec 12 true []), (.int .i64 0), (.int .i64 0)] 1 [(0, (.t 98))], none, false⟩,
  ⟨(some 100), .nilck (.t 97), none, false⟩,
  ⟨(some 101), .faddr (.t 100) 18, none, false⟩,
  ⟨(some 102), .faddr (.t 101) 7, none, false⟩,
  ⟨none, .store (.t 102) (.t 99) 1, none, false⟩]
abbrev m66 : MC := (.seq (.seq (.reg r66_0) (.cond (.t 20) .ret .skip)) (.seq (.draw [(0, 7), (1, 7), (2, 7), (3, 7), (4, 7), (5, 7), (6, 7), (0, 8), (1, 8), (2, 8), (3, 8), (4, 8), (5, 8), (6, 8), (0, 9), (1, 9), (2, 9), (3, 9), (4, 9), (5, 9), (6, 9), (0, 10), (1, 10), (2, 10), (3, 10), (4, 10), (5, 10), (6, 10), (0, 11), (1, 11), (2, 11), (3, 11), (4, 11), (5, 11), (6, 11), (0, 12), (1, 12), (2, 12), (3, 12), (4, 12), (5, 12), (6, 12), (0, 13), (1, 13), (2, 13), (3, 13), (4, 13), (5, 13), (6, 13), (0, 14), (1, 14), (2, 14), (3, 14), (4, 14), (5, 14), (6, 14), (7, 14), (8, 14), (9, 14), (10, 14), (11, 14), (12, 14), (13, 14), (0, 15), (1, 15), (2, 15), (3, 15), (4, 15), (5, 15), (6, 15), (7, 15), (8, 15), (9, 15), (10, 15), (11, 15), (12, 15), (13, 15), (14, 15), (7, 16), (8, 16), (9, 16), (10, 16), (11, 16), (12, 16), (13, 16)] r66_1) (.seq (.draw [(0, 2), (1, 2), (0, 3), (1, 3), (0, 5), (1, 5), (2, 5), (3, 5), (4, 5), (0, 6), (1, 6), (2, 6), (3, 6), (4, 6), (0, 7), (1, 7), (2, 7), (3, 7), (4, 7), (5, 7), (6, 7), (0, 8), (1, 8), (2, 8), (3, 8), (4, 8), (5, 8), (6, 8), (0, 9), (1, 9), (2, 9), (3, 9), (4, 9), (0, 10), (1, 10), (2, 10), (3, 10), (4, 10), (5, 10), (6, 10), (7, 10), (8, 10), (9, 10), (0, 11), (1, 11), (2, 11), (3, 11), (4, 11), (5, 11), (6, 11), (7, 11), (8, 11), (9, 11), (0, 13), (1, 13), (2, 13), (3, 13), (4, 13), (5, 13), (6, 13), (7, 13), (8, 13), (9, 13), (10, 13), (11, 13), (12, 13)] r66_2) (.seq (.seq (.reg r66_3) (.cond (.t 62) (.reg r66_4) .skip)) (.seq (.block 0 (.seq (.reg r66_5) (.cond (.t 66) .ret (.seq (.reg r66_6) (.cond (.t 87) (.reg r66_7) .skip))))) (.reg r66_8))))))
abbrev rs66 : List RV := []
end Go.Proofs.YtjeegophpmpibaaGreatDoor.Pv
