/- Part 6. -/
import Derived.Test.YtjipnamfdmllmaaGreatDoorN5
import Derived.Test.YtjipnamfdmllmaaGreatDoorProg
import Derived.Maps.Own
import Derived.Maps.OwnSet
import Derived.Maps.AppendAt
set_option linter.unusedSimpArgs false
set_option linter.unusedVariables false
namespace Go.Proofs.YtjipnamfdmllmaaGreatDoor.Pv.M
open Go
abbrev o (d:Nat) (i:MI):MOp:=⟨some d,i,none,false⟩
abbrev e (i:MI):MOp:=⟨none,i,none,false⟩
abbrev g (d t:Nat) (w:Bool) (i:MI):MOp:=⟨some d,i,some (t,w),false⟩
abbrev gs (d t:Nat) (w:Bool) (i:MI):MOp:=⟨some d,i,some (t,w),true⟩
abbrev es (t:Nat) (w:Bool) (i:MI):MOp:=⟨none,i,some (t,w),true⟩
abbrev v (d s:Nat):MOp:=o d (.mv (.t s))
abbrev l (d s k:Nat):MOp:=o d (.load (.t s) k true)
abbrev w (d s:Nat):MOp:=o d (.load (.t s) 1 false)
abbrev f (d s k:Nat):MOp:=o d (.faddr (.t s) k)
abbrev n (d s:Nat):MOp:=o d (.len (.t s))
abbrev c (d:Nat) (k:Int):MOp:=o d (.mv (.k (.int .i64 k)))
abbrev t0:MO:=.t 0
abbrev t1:MO:=.t 1
abbrev t2:MO:=.t 2
abbrev t3:MO:=.t 3
abbrev t4:MO:=.t 4
abbrev t5:MO:=.t 5
abbrev t6:MO:=.t 6
abbrev t7:MO:=.t 7
abbrev t8:MO:=.t 8
abbrev t9:MO:=.t 9
abbrev t10:MO:=.t 10
abbrev t11:MO:=.t 11
abbrev t12:MO:=.t 12
abbrev t13:MO:=.t 13
abbrev t14:MO:=.t 14
abbrev t15:MO:=.t 15
abbrev t16:MO:=.t 16
abbrev t17:MO:=.t 17
abbrev t18:MO:=.t 18
abbrev t19:MO:=.t 19
abbrev t20:MO:=.t 20
abbrev t21:MO:=.t 21
abbrev t22:MO:=.t 22
abbrev t23:MO:=.t 23
abbrev t24:MO:=.t 24
abbrev t25:MO:=.t 25
abbrev t26:MO:=.t 26
abbrev t27:MO:=.t 27
abbrev t28:MO:=.t 28
abbrev t29:MO:=.t 29
abbrev t30:MO:=.t 30
abbrev t31:MO:=.t 31
abbrev t32:MO:=.t 32
abbrev t33:MO:=.t 33
abbrev t34:MO:=.t 34
abbrev t35:MO:=.t 35
abbrev t36:MO:=.t 36
abbrev t37:MO:=.t 37
abbrev t38:MO:=.t 38
abbrev t39:MO:=.t 39
abbrev t40:MO:=.t 40
abbrev t41:MO:=.t 41
abbrev t42:MO:=.t 42
abbrev t43:MO:=.t 43
abbrev t44:MO:=.t 44
abbrev t45:MO:=.t 45
abbrev t46:MO:=.t 46
abbrev t47:MO:=.t 47
abbrev t48:MO:=.t 48
abbrev t49:MO:=.t 49
abbrev t50:MO:=.t 50
abbrev t51:MO:=.t 51
abbrev t52:MO:=.t 52
abbrev t53:MO:=.t 53
abbrev t54:MO:=.t 54
abbrev t55:MO:=.t 55
abbrev t56:MO:=.t 56
abbrev t57:MO:=.t 57
abbrev t58:MO:=.t 58
abbrev t59:MO:=.t 59
abbrev t60:MO:=.t 60
abbrev t61:MO:=.t 61
abbrev t62:MO:=.t 62
abbrev t63:MO:=.t 63
abbrev t64:MO:=.t 64
abbrev t65:MO:=.t 65
abbrev t66:MO:=.t 66
abbrev t67:MO:=.t 67
abbrev t68:MO:=.t 68
abbrev t69:MO:=.t 69
abbrev t70:MO:=.t 70
abbrev t71:MO:=.t 71
abbrev t72:MO:=.t 72
abbrev t73:MO:=.t 73
abbrev t74:MO:=.t 74
abbrev t75:MO:=.t 75
abbrev t76:MO:=.t 76
abbrev t77:MO:=.t 77
abbrev t78:MO:=.t 78
abbrev t79:MO:=.t 79
abbrev t80:MO:=.t 80
abbrev t82:MO:=.t 82
abbrev t83:MO:=.t 83
abbrev t84:MO:=.t 84
abbrev t85:MO:=.t 85
abbrev t87:MO:=.t 87
abbrev t88:MO:=.t 88
abbrev t89:MO:=.t 89
abbrev t90:MO:=.t 90
abbrev t92:MO:=.t 92
abbrev t93:MO:=.t 93
abbrev t95:MO:=.t 95
abbrev t97:MO:=.t 97
abbrev t98:MO:=.t 98
abbrev t99:MO:=.t 99
abbrev t100:MO:=.t 100
abbrev t102:MO:=.t 102
abbrev t103:MO:=.t 103
abbrev t104:MO:=.t 104
abbrev t105:MO:=.t 105
abbrev t106:MO:=.t 106
abbrev t107:MO:=.t 107
abbrev t108:MO:=.t 108
abbrev t109:MO:=.t 109
abbrev t110:MO:=.t 110
abbrev t112:MO:=.t 112
abbrev t113:MO:=.t 113
abbrev t114:MO:=.t 114
abbrev t115:MO:=.t 115
abbrev t117:MO:=.t 117
abbrev t119:MO:=.t 119
abbrev t138:MO:=.t 138
abbrev t139:MO:=.t 139
abbrev t171:MO:=.t 171
abbrev t173:MO:=.t 173
abbrev z1:List PV:=[(.bool false),(.bool false),(.bool false),(.bool false),(.vec 2 true []),(.bool false),(.vec 1 true []),(.vec 11 true []),(.vec 12 true [])]
abbrev z4:List PV:=[(.vec 1 true []),(.vec 9 true []),(.vec 1 true []),(.bool false),(.bool false),(.bool false),(.bool false),(.vec 2 true []),(.bool false),(.vec 1 true []),(.vec 11 true []),(.vec 12 true [])]
abbrev z3:List PV:=[(.int .i64 0),(.str ⟨#[]⟩),(.str ⟨#[]⟩),(.vec 5 true []),(.vec 1 true [])]
abbrev z21:List PV:=[(.int .i64 0),(.str ⟨#[]⟩),(.str ⟨#[]⟩),(.vec 5 true []),(.vec 1 true []),(.vec 5 true [])]
abbrev z22:List PV:=[(.int .i64 0),(.str ⟨#[]⟩),(.str ⟨#[]⟩),(.vec 5 true []),(.vec 1 true []),(.int .i64 0),(.str ⟨#[]⟩),(.str ⟨#[]⟩),(.vec 5 true []),(.vec 1 true [])]
abbrev z23:List PV:=[(.int .i64 0),(.str ⟨#[]⟩),(.str ⟨#[]⟩),(.vec 5 true []),(.vec 1 true []),(.int .i64 0),(.str ⟨#[]⟩),(.str ⟨#[]⟩),(.vec 5 true []),(.vec 1 true []),(.bool false)]
abbrev z24:List PV:=[(.int .i64 0),(.str ⟨#[]⟩),(.str ⟨#[]⟩),(.vec 5 true []),(.vec 1 true []),(.int .i64 0)]
abbrev z26:List PV:=[(.vec 4 true []),(.int .i64 0),(.int .i64 0),(.int .i64 0)]
abbrev z27:List PV:=[(.int .u8 0),(.int .u8 0),(.int .u8 0),(.int .u8 0),(.int .u8 0),(.int .u8 0),(.int .u8 0),(.int .u8 0),(.int .u8 0),(.int .u8 0),(.int .u8 0),(.int .u8 0),(.int .u8 0),(.int .u8 0),(.int .u8 0),(.int .u8 0),(.int .u8 0),(.int .u8 0),(.int .u8 0),(.int .u8 0),(.int .u8 0),(.int .u8 0),(.int .u8 0),(.int .u8 0),(.int .u8 0),(.int .u8 0),(.int .u8 0),(.int .u8 0),(.int .u8 0),(.int .u8 0),(.int .u8 0),(.int .u8 0),(.int .u8 0),(.int .u8 0),(.int .u8 0),(.int .u8 0),(.int .u8 0),(.int .u8 0),(.int .u8 0),(.int .u8 0),(.int .u8 0),(.int .u8 0),(.int .u8 0),(.int .u8 0),(.int .u8 0),(.int .u8 0),(.int .u8 0),(.int .u8 0),(.int .u8 0),(.int .u8 0),(.int .u8 0),(.int .u8 0),(.int .u8 0),(.int .u8 0),(.int .u8 0),(.int .u8 0),(.int .u8 0),(.int .u8 0),(.int .u8 0),(.int .u8 0),(.int .u8 0),(.int .u8 0),(.int .u8 0),(.int .u8 0),(.int .u8 0)]
abbrev z28:List PV:=[(.int .i64 0),(.int .i64 0),(.int .i64 0),(.str ⟨#[]⟩)]
abbrev z29:List PV:=[(.int .u8 0),(.int .u8 0),(.int .u8 0),(.int .u8 0),(.int .u8 0),(.int .u8 0),(.int .u8 0),(.int .u8 0),(.int .u8 0),(.int .u8 0),(.int .u8 0),(.int .u8 0),(.int .u8 0),(.int .u8 0),(.int .u8 0),(.int .u8 0),(.int .u8 0),(.int .u8 0),(.int .u8 0),(.int .u8 0),(.int .u8 0),(.int .u8 0),(.int .u8 0),(.int .u8 0),(.int .u8 0),(.int .u8 0),(.int .u8 0),(.int .u8 0),(.int .u8 0),(.int .u8 0),(.int .u8 0),(.int .u8 0)]
abbrev F_law21_PrimNames:Nat:=3
abbrev F_law21_lives:Nat:=4
abbrev F_kit_SameStrings:Nat:=5
abbrev F_prim_Names:Nat:=6
abbrev F_ref21_Names:Nat:=7
abbrev F_prim_Is:Nat:=8
abbrev F_ref21_Is:Nat:=9
abbrev F_prim_Do:Nat:=10
abbrev F_ref03_Like:Nat:=11
abbrev F_slices_Sorted_string:Nat:=12
abbrev F_maps_Keys_prim_does:Nat:=13
abbrev F_prim_table:Nat:=14
abbrev F_prim_key:Nat:=15
abbrev F_strconv_Itoa:Nat:=16
abbrev F_value_Formed:Nat:=17
abbrev F_slices_ContainsFunc_Value:Nat:=18
abbrev F_prim_Do_1:Nat:=19
abbrev F_prim_Do_2:Nat:=20
abbrev F_prim_fault:Nat:=21
abbrev F_value_Weight:Nat:=22
abbrev F_value_Twin:Nat:=23
abbrev F_maps_Keys_prim_does_1:Nat:=26
abbrev F_prim_input_length:Nat:=27
abbrev F_prim_input_bytes:Nat:=28
abbrev F_prim_input_not:Nat:=29
abbrev F_prim_input_keys:Nat:=30
abbrev F_prim_input_has:Nat:=31
abbrev F_prim_input_contains:Nat:=32
abbrev F_prim_input_kind:Nat:=33
abbrev F_prim_input_str:Nat:=34
abbrev F_prim_input_number:Nat:=35
abbrev F_prim_input_json:Nat:=36
abbrev F_prim_input_read:Nat:=37
abbrev F_prim_input_lower:Nat:=38
abbrev F_prim_input_upper:Nat:=39
abbrev F_prim_input_explode:Nat:=40
abbrev F_prim_input_implode:Nat:=41
abbrev F_prim_input_starts:Nat:=42
abbrev F_prim_input_ends:Nat:=43
abbrev F_prim_input_ltrim:Nat:=44
abbrev F_prim_input_rtrim:Nat:=45
abbrev F_prim_input_split:Nat:=46
abbrev F_prim_input_join:Nat:=47
abbrev F_prim_input_indices:Nat:=48
abbrev F_prim_input_reverse:Nat:=49
abbrev F_prim_input_sort:Nat:=50
abbrev F_prim_input_sortBy:Nat:=51
abbrev F_prim_input_groupBy:Nat:=52
abbrev F_prim_input_uniqueBy:Nat:=53
abbrev F_prim_input_minBy:Nat:=54
abbrev F_prim_input_maxBy:Nat:=55
abbrev F_prim_input_least:Nat:=56
abbrev F_prim_input_greatest:Nat:=57
abbrev F_prim_input_unique:Nat:=58
abbrev F_prim_input_add:Nat:=59
abbrev F_prim_input_flatten:Nat:=60
abbrev F_prim_input_transpose:Nat:=61
abbrev F_prim_input_getpath:Nat:=62
abbrev F_prim_input_setpath:Nat:=63
abbrev F_prim_input_delpaths:Nat:=64
abbrev F_prim_input_abs:Nat:=65
abbrev F_prim_input_toarray:Nat:=66
abbrev F_value_empty:Nat:=68
abbrev F_tens_Formed:Nat:=69
abbrev F_utf_Valid:Nat:=70
abbrev F_value_allFormed:Nat:=71
abbrev F_value_rise:Nat:=72
abbrev F_slices_IndexFunc_Value:Nat:=73
abbrev F_prim_text:Nat:=74
abbrev F_strings_TrimPrefix:Nat:=75
abbrev F_slices_Clone_string:Nat:=76
abbrev F_slices_Clone_Value:Nat:=77
abbrev F_prim_list:Nat:=85
abbrev F_prim_input_all:Nat:=118
abbrev F_strings_Builder_WriteString:Nat:=119
abbrev F_strings_Builder_String:Nat:=120
abbrev F_arith_Do:Nat:=121
abbrev F_value_allFormed_1:Nat:=128
abbrev F_stringslite_TrimPrefix:Nat:=129
abbrev F_stringslite_HasPrefix:Nat:=162
abbrev F_prim_input_all_1:Nat:=174
abbrev F_arith_right:Nat:=176
abbrev F_arith_answer_told:Nat:=177
abbrev F_arith_operations:Nat:=178
abbrev F_arith_right_1:Nat:=216
abbrev F_arith_pair_add:Nat:=217
abbrev F_arith_pair_sub:Nat:=218
abbrev F_arith_pair_mul:Nat:=219
abbrev F_arith_pair_div:Nat:=220
abbrev F_arith_pair_mod:Nat:=221
abbrev F_arith_pair_eq:Nat:=222
abbrev F_arith_pair_ne:Nat:=223
abbrev F_arith_pair_lt:Nat:=224
abbrev F_arith_pair_le:Nat:=225
abbrev F_arith_pair_gt:Nat:=226
abbrev F_arith_pair_ge:Nat:=227
abbrev F_tens_split:Nat:=242
abbrev F_tens_size:Nat:=243
abbrev F_arith_good:Nat:=262
abbrev F_arith_pair_both:Nat:=263
abbrev F_tens_Add:Nat:=264
abbrev F_arith_number:Nat:=265
abbrev F_arith_text:Nat:=266
abbrev F_slices_Concat_Value:Nat:=267
abbrev F_value_Merge:Nat:=268
abbrev F_arith_bad:Nat:=269
abbrev F_tens_signed:Nat:=307
abbrev F_tens_plus:Nat:=308
abbrev F_tens_minus:Nat:=309
abbrev F_tens_text:Nat:=330
abbrev m_law21_PrimNames:MC:=(.seq (.reg [o 4 (.mv (.k (.bool false)))]) (.seq (.reg [o 5 (.call F_law21_lives []),v 6 5,g 7 6 true (.call F_prim_Names []),g 8 6 true (.call F_ref21_Names []),g 9 6 true (.call F_kit_SameStrings [t7,t8]),o 10 (.pick t6 t9 (.k (.bool false))),v 11 10,g 12 11 true (.call F_prim_Is [(.k (.str ⟨#[104,97,115]⟩)),(.k (.int .i64 1))]),o 13 (.pick t11 t12 (.k (.bool false))),v 14 13,g 15 14 true (.mv t0),g 16 14 true (.mv t1),g 17 14 true (.call F_prim_Is [t15,t16]),g 18 14 true (.mv t0),g 19 14 true (.mv t1),g 20 14 true (.call F_ref21_Is [t18,t19]),g 21 14 true (.bin .eql 1 t17 t20),o 22 (.pick t14 t21 (.k (.bool false))),v 4 22]) .ret))
abbrev rs_law21_PrimNames:List RV:=[(.tmp 4)]
abbrev m_law21_lives:MC:=(.seq (.reg [o 0 (.mv (.k (.bool false)))]) (.seq (.reg [o 5 (.build z3 [(0,1,(.k (.int .i64 3))),(1,1,(.k (.str ⟨#[50]⟩)))]),o 6 (.build z3 [(0,1,(.k (.int .i64 3))),(1,1,(.k (.str ⟨#[53]⟩)))]),o 7 (.bslice 5 z3 2 [(0,t5),(1,t6)]),o 8 (.build z3 [(0,1,(.k (.int .i64 5))),(3,1,t7)]),o 9 (.call F_prim_Do [(.k (.str ⟨#[97,100,100]⟩)),t8,(.k (.vec 5 true []))]),v 4 9,o 10 (.ext t4 0),o 11 (.ext t4 1),o 12 (.ext t4 2),o 1 (.alloc z3),o 2 (.alloc z3),e (.store t1 t10 5),e (.store t2 t11 5),v 3 12]) (.seq (.reg [v 13 3,v 14 13,g 15 14 true (.load t1 5 true),g 16 14 true (.build z3 [(0,1,(.k (.int .i64 3))),(1,1,(.k (.str ⟨#[55]⟩)))]),g 17 14 true (.call F_ref03_Like [t15,t16]),o 18 (.pick t14 t17 (.k (.bool false))),v 19 18,g 20 19 true (.load t2 5 true),g 21 19 true (.build z3 []),g 22 19 true (.call F_ref03_Like [t20,t21]),o 23 (.pick t19 t22 (.k (.bool false))),v 0 23]) .ret)))
abbrev rs_law21_lives:List RV:=[(.tmp 0)]
abbrev b_kit_SameStrings_0:MC:=(.seq (.seq (.reg [v 11 5,v 12 0,n 13 12,o 14 (.bin .lss 0 t11 t13)]) (.cond t14 .skip (.exit 0))) (.seq (.block 1 (.seq (.draw [(0,1),(0,4),(1,4),(2,4),(3,4),(0,5),(1,5),(2,5),(3,5),(4,5),(0,6),(1,6),(2,6),(3,6),(0,7),(1,7),(2,7),(3,7)] [v 17 0,v 18 5,o 19 (.iaddr t17 t18 1),w 20 19,v 21 1,v 22 5,o 23 (.iaddr t21 t22 1),w 24 23,o 25 (.bin .neq 0 t20 t24)]) (.cond t25 (.seq (.reg [o 4 (.mv (.k (.bool false)))]) .ret) .skip))) (.reg [v 15 5,o 16 (.bin .add 0 t15 (.k (.int .i64 1))),v 5 16])))
abbrev m_kit_SameStrings:MC:=(.seq (.reg [o 4 (.mv (.k (.bool false)))]) (.seq (.seq (.reg [v 6 0,n 7 6,v 8 1,n 9 8,o 10 (.bin .neq 0 t7 t9)]) (.cond t10 (.seq (.reg [o 4 (.mv (.k (.bool false)))]) .ret) .skip)) (.seq (.seq (.reg [c 5 0]) (.block 0 (.loop b_kit_SameStrings_0))) (.seq (.reg [o 4 (.mv (.k (.bool true)))]) .ret))))
abbrev rs_kit_SameStrings:List RV:=[(.tmp 4)]
abbrev m_ref21_Names:MC:=(.seq (.reg [o 0 (.mv (.k (.vec 1 true [])))]) (.seq (.reg [o 1 (.bslice 1 [(.str ⟨#[]⟩)] 40 [(0,(.k (.str ⟨#[95,103,114,111,117,112,95,98,121,47,49]⟩))),(1,(.k (.str ⟨#[95,109,97,120,95,98,121,47,49]⟩))),(2,(.k (.str ⟨#[95,109,105,110,95,98,121,47,49]⟩))),(3,(.k (.str ⟨#[95,115,111,114,116,95,98,121,47,49]⟩))),(4,(.k (.str ⟨#[95,117,110,105,113,117,101,95,98,121,47,49]⟩))),(5,(.k (.str ⟨#[97,98,115,47,48]⟩))),(6,(.k (.str ⟨#[97,100,100,47,48]⟩))),(7,(.k (.str ⟨#[97,115,99,105,105,95,100,111,119,110,99,97,115,101,47,48]⟩))),(8,(.k (.str ⟨#[97,115,99,105,105,95,117,112,99,97,115,101,47,48]⟩))),(9,(.k (.str ⟨#[99,111,110,116,97,105,110,115,47,49]⟩))),(10,(.k (.str ⟨#[100,101,108,112,97,116,104,115,47,49]⟩))),(11,(.k (.str ⟨#[101,110,100,115,119,105,116,104,47,49]⟩))),(12,(.k (.str ⟨#[101,120,112,108,111,100,101,47,48]⟩))),(13,(.k (.str ⟨#[102,108,97,116,116,101,110,47,48]⟩))),(14,(.k (.str ⟨#[102,114,111,109,106,115,111,110,47,48]⟩))),(15,(.k (.str ⟨#[103,101,116,112,97,116,104,47,49]⟩))),(16,(.k (.str ⟨#[104,97,115,47,49]⟩))),(17,(.k (.str ⟨#[105,109,112,108,111,100,101,47,48]⟩))),(18,(.k (.str ⟨#[105,110,100,105,99,101,115,47,49]⟩))),(19,(.k (.str ⟨#[106,111,105,110,47,49]⟩))),(20,(.k (.str ⟨#[107,101,121,115,47,48]⟩))),(21,(.k (.str ⟨#[108,101,110,103,116,104,47,48]⟩))),(22,(.k (.str ⟨#[108,116,114,105,109,115,116,114,47,49]⟩))),(23,(.k (.str ⟨#[109,97,120,47,48]⟩))),(24,(.k (.str ⟨#[109,105,110,47,48]⟩))),(25,(.k (.str ⟨#[110,111,116,47,48]⟩))),(26,(.k (.str ⟨#[114,101,118,101,114,115,101,47,48]⟩))),(27,(.k (.str ⟨#[114,116,114,105,109,115,116,114,47,49]⟩))),(28,(.k (.str ⟨#[115,101,116,112,97,116,104,47,50]⟩))),(29,(.k (.str ⟨#[115,111,114,116,47,48]⟩))),(30,(.k (.str ⟨#[115,112,108,105,116,47,49]⟩))),(31,(.k (.str ⟨#[115,116,97,114,116,115,119,105,116,104,47,49]⟩))),(32,(.k (.str ⟨#[116,111,97,114,114,97,121,47,48]⟩))),(33,(.k (.str ⟨#[116,111,106,115,111,110,47,48]⟩))),(34,(.k (.str ⟨#[116,111,110,117,109,98,101,114,47,48]⟩))),(35,(.k (.str ⟨#[116,111,115,116,114,105,110,103,47,48]⟩))),(36,(.k (.str ⟨#[116,114,97,110,115,112,111,115,101,47,48]⟩))),(37,(.k (.str ⟨#[116,121,112,101,47,48]⟩))),(38,(.k (.str ⟨#[117,110,105,113,117,101,47,48]⟩))),(39,(.k (.str ⟨#[117,116,102,56,98,121,116,101,108,101,110,103,116,104,47,48]⟩)))]),v 0 1]) .ret))
abbrev rs_ref21_Names:List RV:=[(.tmp 0)]
abbrev m_prim_Is:MC:=(.seq (.reg [o 4 (.mv (.k (.bool false)))]) (.seq (.reg [o 8 (.call F_prim_table []),v 9 0,v 10 1,o 11 (.call F_prim_key [t9,t10]),o 12 (.look t8 t11),v 7 12,o 13 (.ext t7 0),o 14 (.ext t7 1),v 5 13,v 6 14]) (.seq (.reg [v 15 6,v 4 15]) .ret)))
abbrev rs_prim_Is:List RV:=[(.tmp 4)]
abbrev b_ref21_Is_0:MC:=(.seq (.seq (.reg [v 14 7,v 15 5,n 16 15,o 17 (.bin .lss 0 t14 t16)]) (.cond t17 .skip (.exit 0))) (.seq (.block 1 (.seq (.reg [v 20 5,v 21 7,o 22 (.iaddr t20 t21 1),w 23 22,v 24 6,o 25 (.bin .eql 0 t23 t24)]) (.cond t25 (.seq (.reg [o 4 (.mv (.k (.bool true)))]) .ret) .skip))) (.reg [v 18 7,o 19 (.bin .add 0 t18 (.k (.int .i64 1))),v 7 19])))
abbrev m_ref21_Is:MC:=(.seq (.reg [o 4 (.mv (.k (.bool false)))]) (.seq (.reg [o 8 (.call F_ref21_Names []),v 5 8]) (.seq (.reg [v 9 0,o 10 (.bin .add 0 t9 (.k (.str ⟨#[47]⟩))),v 11 1,o 12 (.call F_strconv_Itoa [t11]),o 13 (.bin .add 0 t10 t12),v 6 13]) (.seq (.seq (.reg [c 7 0]) (.block 0 (.loop b_ref21_Is_0))) (.seq (.reg [o 4 (.mv (.k (.bool false)))]) .ret)))))
abbrev rs_ref21_Is:List RV:=[(.tmp 4)]
abbrev c_prim_Do_0:MC:=(.seq (.reg [l 47 6 5,o 48 (.call F_value_Weight [t47]),o 49 (.bin .gtr 0 t48 (.k (.int .i64 1048576)))]) (.cond t49 (.reg [o 50 (.build [] []),o 51 (.mkif 52 t50),e (.bad)]) .skip))
abbrev t_prim_Do_0:MC:=(.seq (.reg [l 52 6 5,o 53 (.call F_value_Twin [t52]),o 54 (.build z3 []),e (.store t6 t53 5),e (.store t7 t54 5),e (.store t8 (.k (.bool true)) 1)]) .ret)
abbrev m_prim_Do:MC:=(.seq (.reg [o 4 (.box t1),o 6 (.alloc z3),o 7 (.alloc z3),o 8 (.alloc [(.bool false)])]) (.seq (.reg [o 12 (.call F_prim_table []),v 13 0,v 14 2,n 15 14,o 16 (.call F_prim_key [t13,t15]),o 17 (.look t12 t16),v 11 17,o 18 (.ext t11 0),o 19 (.ext t11 1),v 9 18,v 10 19]) (.seq (.seq (.reg [v 20 10,o 21 (.un .not t20),v 22 21,g 23 22 false (.load t4 5 true),g 24 22 false (.call F_value_Formed [t23]),g 25 22 false (.un .not t24),o 26 (.pick t22 (.k (.bool true)) t25),v 27 26,g 28 27 false (.mv t2),g 29 27 false (.call F_slices_ContainsFunc_Value [t28,(.k (.fn F_prim_Do_1 [] []))]),o 30 (.pick t27 (.k (.bool true)) t29)]) (.cond t30 (.seq (.reg [o 31 (.build z3 []),o 32 (.build z3 []),e (.store t6 t31 5),e (.store t7 t32 5),e (.store t8 (.k (.bool false)) 1)]) .ret) .skip)) (.seq (.reg [o 33 (.mkfn F_prim_Do_2 [] [t6,t7,t8]),e (.bad)]) (.seq (.reg [v 35 9,l 36 4 5,v 37 2,o 38 (.build z21 [(0,5,t36),(5,1,t37)]),o 39 (.dcall t35 [t38]),v 34 39,o 40 (.ext t34 0),o 41 (.ext t34 1),e (.store t6 t40 5),e (.store t8 t41 1)]) (.seq (.seq (.reg [w 42 8,o 43 (.un .not t42)]) (.cond t43 (.seq (.reg [o 44 (.build z3 []),v 45 0,o 46 (.call F_prim_fault [t45]),e (.store t6 t44 5),e (.store t7 t46 5),e (.store t8 (.k (.bool false)) 1)]) .ret) .skip)) (.seq (.cut c_prim_Do_0) t_prim_Do_0)))))))
abbrev rs_prim_Do:List RV:=[(.cell 6 29 5 true),(.cell 7 29 5 true),(.cell 8 4 1 false)]
abbrev b_ref03_Like_0:MC:=(.seq (.seq (.reg [v 44 5,f 45 2 4,w 46 45,n 47 46,o 48 (.bin .lss 0 t44 t47)]) (.cond t48 .skip (.exit 0))) (.seq (.block 1 (.seq (.draw [(0,2),(1,2),(0,5),(1,5),(2,5),(3,5),(4,5),(0,6),(1,6),(2,6),(3,6),(4,6),(0,7),(1,7),(2,7),(3,7),(4,7),(5,7),(6,7),(0,8),(1,8),(2,8),(3,8),(4,8),(0,9),(1,9),(2,9),(3,9),(4,9)] [f 51 2 4,w 52 51,v 53 5,o 54 (.iaddr t52 t53 1),w 55 54,f 56 3 4,w 57 56,v 58 5,o 59 (.iaddr t57 t58 1),w 60 59,o 61 (.bin .neq 0 t55 t60)]) (.cond t61 (.seq (.reg [o 4 (.mv (.k (.bool false)))]) .ret) .skip))) (.reg [v 49 5,o 50 (.bin .add 0 t49 (.k (.int .i64 1))),v 5 50])))
abbrev b_ref03_Like_1:MC:=(.seq (.seq (.reg [v 62 6,f 63 2 3,w 64 63,n 65 64,o 66 (.bin .lss 0 t62 t65)]) (.cond t66 .skip (.exit 2))) (.seq (.block 3 (.seq (.draw [(0,2),(1,2),(0,5),(1,5),(2,5),(3,5),(4,5),(0,6),(1,6),(2,6),(3,6),(4,6),(0,7),(1,7),(2,7),(3,7),(4,7),(5,7),(6,7),(0,8),(1,8),(2,8),(3,8),(4,8),(0,9),(1,9),(2,9),(3,9),(4,9)] [f 69 2 3,w 70 69,v 71 6,o 72 (.iaddr t70 t71 5),l 73 72 5,f 74 3 3,w 75 74,v 76 6,o 77 (.iaddr t75 t76 5),l 78 77 5,o 79 (.call F_ref03_Like [t73,t78]),o 80 (.un .not t79)]) (.cond t80 (.seq (.reg [o 4 (.mv (.k (.bool false)))]) .ret) .skip))) (.reg [v 67 6,o 68 (.bin .add 0 t67 (.k (.int .i64 1))),v 6 68])))
abbrev t_ref03_Like_0:MC:=(.seq (.seq (.reg [c 6 0]) (.block 2 (.loop b_ref03_Like_1))) (.seq (.reg [o 4 (.mv (.k (.bool true)))]) .ret))
abbrev m_ref03_Like:MC:=(.seq (.reg [o 2 (.box t0),o 3 (.box t1),o 4 (.mv (.k (.bool false)))]) (.seq (.seq (.reg [f 7 2 0,w 8 7,f 9 3 0,w 10 9,o 11 (.bin .neq 0 t8 t10),v 12 11,gs 13 12 false (.faddr t2 1),gs 14 12 false (.load t13 1 false),gs 15 12 false (.faddr t3 1),gs 16 12 false (.load t15 1 false),gs 17 12 false (.bin .neq 0 t14 t16),o 18 (.pick t12 (.k (.bool true)) t17),v 19 18,gs 20 19 false (.faddr t2 2),gs 21 19 false (.load t20 1 false),gs 22 19 false (.faddr t3 2),gs 23 19 false (.load t22 1 false),gs 24 19 false (.bin .neq 0 t21 t23),o 25 (.pick t19 (.k (.bool true)) t24),v 26 25,gs 27 26 false (.faddr t2 4),gs 28 26 false (.load t27 1 false),gs 29 26 false (.len t28),gs 30 26 false (.faddr t3 4),gs 31 26 false (.load t30 1 false),gs 32 26 false (.len t31),gs 33 26 false (.bin .neq 0 t29 t32),o 34 (.pick t26 (.k (.bool true)) t33),v 35 34,gs 36 35 false (.faddr t2 3),gs 37 35 false (.load t36 1 false),gs 38 35 false (.len t37),gs 39 35 false (.faddr t3 3),gs 40 35 false (.load t39 1 false),gs 41 35 false (.len t40),gs 42 35 false (.bin .neq 0 t38 t41),o 43 (.pick t35 (.k (.bool true)) t42)]) (.cond t43 (.seq (.reg [o 4 (.mv (.k (.bool false)))]) .ret) .skip)) (.seq (.seq (.reg [c 5 0]) (.block 0 (.loop b_ref03_Like_0))) t_ref03_Like_0)))
abbrev rs_ref03_Like:List RV:=[(.tmp 4)]
abbrev m_prim_key:MC:=(.seq (.reg [o 4 (.mv (.k (.str ⟨#[]⟩)))]) (.seq (.reg [v 5 0,o 6 (.bin .add 0 t5 (.k (.str ⟨#[47]⟩))),v 7 1,o 8 (.call F_strconv_Itoa [t7]),o 9 (.bin .add 0 t6 t8),v 4 9]) .ret))
abbrev rs_prim_key:List RV:=[(.tmp 4)]
abbrev c_value_Formed_0:MC:=(.seq (.reg [o 7 (.bin .eql 0 t4 (.k (.int .i64 1))),v 5 7]) (.cond t5 .skip (.reg [o 8 (.bin .eql 0 t4 (.k (.int .i64 2))),v 5 8])))
abbrev c_value_Formed_1:MC:=(.seq (.reg [o 6 (.bin .eql 0 t4 (.k (.int .i64 0))),v 5 6]) (.cond t5 .skip (.cut c_value_Formed_0)))
abbrev m_value_Formed:MC:=(.seq (.reg [o 1 (.box t0),o 2 (.mv (.k (.bool false)))]) (.seq (.seq (.reg [f 3 1 0,w 4 3]) (.block 0 (.seq (.cut c_value_Formed_1) (.cond t5 (.seq (.reg [l 9 1 5,o 10 (.call F_value_empty [t9,(.k (.bool false)),(.k (.bool false)),(.k (.bool false)),(.k (.bool false))]),v 2 10]) .ret) (.seq (.reg [o 12 (.bin .eql 0 t4 (.k (.int .i64 3))),v 11 12]) (.cond t11 (.seq (.reg [l 13 1 5,o 14 (.call F_value_empty [t13,(.k (.bool true)),(.k (.bool false)),(.k (.bool false)),(.k (.bool false))]),v 15 14,g 16 15 true (.faddr t1 1),g 17 15 true (.load t16 1 false),g 18 15 true (.call F_tens_Formed [t17]),o 19 (.pick t15 t18 (.k (.bool false))),v 2 19]) .ret) (.seq (.reg [o 21 (.bin .eql 0 t4 (.k (.int .i64 4))),v 20 21]) (.cond t20 (.seq (.reg [l 22 1 5,o 23 (.call F_value_empty [t22,(.k (.bool false)),(.k (.bool true)),(.k (.bool false)),(.k (.bool false))]),v 24 23,g 25 24 true (.faddr t1 2),g 26 24 true (.load t25 1 false),g 27 24 true (.call F_utf_Valid [t26]),o 28 (.pick t24 t27 (.k (.bool false))),v 2 28]) .ret) (.seq (.reg [o 30 (.bin .eql 0 t4 (.k (.int .i64 5))),v 29 30]) (.cond t29 (.seq (.reg [l 31 1 5,o 32 (.call F_value_empty [t31,(.k (.bool false)),(.k (.bool false)),(.k (.bool true)),(.k (.bool false))]),v 33 32,g 34 33 true (.faddr t1 3),g 35 33 true (.load t34 1 false),g 36 33 true (.call F_value_allFormed [t35]),o 37 (.pick t33 t36 (.k (.bool false))),v 2 37]) .ret) (.seq (.reg [o 39 (.bin .eql 0 t4 (.k (.int .i64 6))),v 38 39]) (.cond t38 (.seq (.reg [l 40 1 5,o 41 (.call F_value_empty [t40,(.k (.bool false)),(.k (.bool false)),(.k (.bool true)),(.k (.bool true))]),v 42 41,g 43 42 true (.faddr t1 3),g 44 42 true (.load t43 1 false),g 45 42 true (.len t44),g 46 42 true (.faddr t1 4),g 47 42 true (.load t46 1 false),g 48 42 true (.len t47),g 49 42 true (.bin .eql 0 t45 t48),o 50 (.pick t42 t49 (.k (.bool false))),v 51 50,g 52 51 true (.faddr t1 4),g 53 51 true (.load t52 1 false),g 54 51 true (.call F_value_rise [t53]),o 55 (.pick t51 t54 (.k (.bool false))),v 56 55,g 57 56 true (.faddr t1 3),g 58 56 true (.load t57 1 false),g 59 56 true (.call F_value_allFormed [t58]),o 60 (.pick t56 t59 (.k (.bool false))),v 2 60]) .ret) .skip)))))))))))) (.seq (.reg [o 2 (.mv (.k (.bool false)))]) .ret)))
abbrev rs_value_Formed:List RV:=[(.tmp 2)]
abbrev m_slices_ContainsFunc_Value:MC:=(.seq (.reg [o 4 (.mv (.k (.bool false)))]) (.seq (.reg [v 5 0,v 6 1,o 7 (.call F_slices_IndexFunc_Value [t5,t6]),o 8 (.bin .geq 0 t7 (.k (.int .i64 0))),v 4 8]) .ret))
abbrev rs_slices_ContainsFunc_Value:List RV:=[(.tmp 4)]
abbrev b_value_Weight_0:MC:=(.seq (.reg [o 21 (.bin .lss 0 t20 t19)]) (.seq (.cond t21 .skip (.exit 0)) (.seq (.block 1 (.seq (.reg [o 22 (.iaddr t18 t20 1),w 23 22,v 5 23]) (.reg [v 24 3,v 25 5,o 26 (.slen t25),o 27 (.bin .add 0 (.k (.int .i64 1)) t26),o 28 (.bin .add 0 t24 t27),v 3 28]))) (.reg [o 29 (.bin .add 0 t20 (.k (.int .i64 1))),v 20 29]))))
abbrev b_value_Weight_1:MC:=(.seq (.reg [o 34 (.bin .lss 0 t33 t32)]) (.seq (.cond t34 .skip (.exit 2)) (.seq (.block 3 (.seq (.reg [o 35 (.iaddr t31 t33 5),l 36 35 5,o 7 (.alloc z3),e (.store t7 t36 5)]) (.reg [v 37 3,l 38 7 5,o 39 (.call F_value_Weight [t38]),o 40 (.bin .add 0 t37 t39),v 3 40]))) (.reg [o 41 (.bin .add 0 t33 (.k (.int .i64 1))),v 33 41]))))
abbrev t_value_Weight_0:MC:=(.seq (.reg [v 42 3,v 2 42]) .ret)
abbrev t_value_Weight_1:MC:=(.seq (.seq (.reg [f 30 1 3,w 31 30,n 32 31,c 33 0]) (.block 2 (.loop b_value_Weight_1))) t_value_Weight_0)
abbrev m_value_Weight:MC:=(.seq (.reg [o 1 (.box t0),c 2 0]) (.seq (.draw [(0,5),(1,5),(2,5),(3,5),(4,5),(0,6),(1,6),(2,6),(3,6),(4,6),(0,7),(1,7),(2,7),(3,7),(4,7)] [f 8 1 1,w 9 8,o 10 (.call F_strings_TrimPrefix [t9,(.k (.str ⟨#[45]⟩))]),o 11 (.slen t10),o 12 (.bin .add 0 (.k (.int .i64 1)) t11),f 13 1 2,w 14 13,o 15 (.slen t14),o 16 (.bin .add 0 t12 t15),v 3 16]) (.seq (.seq (.reg [f 17 1 4,w 18 17,n 19 18,c 20 0]) (.block 0 (.loop b_value_Weight_0))) t_value_Weight_1)))
abbrev rs_value_Weight:List RV:=[(.tmp 2)]
abbrev b_value_Twin_0:MC:=(.seq (.reg [o 16 (.bin .lss 0 t15 t14)]) (.seq (.cond t16 .skip (.exit 0)) (.seq (.block 1 (.seq (.reg [v 17 15,v 3 17]) (.draw [(0,2),(1,2),(0,3),(1,3),(2,3),(0,4),(1,4),(2,4),(0,5),(1,5),(2,5),(3,5),(4,5),(0,6),(1,6),(2,6),(0,7),(1,7),(2,7),(0,8),(1,8),(2,8)] [f 18 1 3,w 19 18,v 20 3,f 21 1 3,w 22 21,v 23 3,o 24 (.iaddr t22 t23 5),l 25 24 5,o 26 (.call F_value_Twin [t25]),o 27 (.iaddr t19 t20 5),e (.store t27 t26 5)]))) (.reg [o 28 (.bin .add 0 t15 (.k (.int .i64 1))),v 15 28]))))
abbrev t_value_Twin_0:MC:=(.seq (.reg [l 29 1 5,e (.store t2 t29 5)]) .ret)
abbrev m_value_Twin:MC:=(.seq (.reg [o 1 (.box t0),o 2 (.alloc z3)]) (.seq (.reg [f 4 1 4,w 5 4,o 6 (.call F_slices_Clone_string [t5]),f 7 1 4,e (.store t7 t6 1)]) (.seq (.reg [f 8 1 3,w 9 8,o 10 (.call F_slices_Clone_Value [t9]),f 11 1 3,e (.store t11 t10 1)]) (.seq (.seq (.reg [f 12 1 3,w 13 12,n 14 13,c 15 0]) (.block 0 (.loop b_value_Twin_0))) t_value_Twin_0))))
abbrev rs_value_Twin:List RV:=[(.cell 2 29 5 true)]
abbrev b_prim_input_add_0:MC:=(.seq (.reg [o 44 (.bin .lss 0 t43 t42)]) (.seq (.cond t44 .skip (.exit 1)) (.seq (.block 2 (.seq (.reg [o 45 (.iaddr t41 t43 5),l 46 45 5,o 6 (.alloc z3),e (.store t6 t46 5)]) (.reg [f 47 6 2,w 48 47,o 49 (.call F_strings_Builder_WriteString [t4,t48])]))) (.reg [o 50 (.bin .add 0 t43 (.k (.int .i64 1))),v 43 50]))))
abbrev t_prim_input_add_0:MC:=(.seq (.reg [o 51 (.call F_strings_Builder_String [t4]),o 52 (.call F_prim_text [t51]),e (.store t2 t52 5),o 3 (.mv (.k (.bool true)))]) .ret)
abbrev b_prim_input_add_1:MC:=(.seq (.reg [o 69 (.bin .lss 0 t68 t67)]) (.seq (.cond t69 .skip (.exit 3)) (.seq (.block 4 (.seq (.reg [o 70 (.iaddr t66 t68 5),l 71 70 5,o 9 (.alloc z3),e (.store t9 t71 5)]) (.reg [v 72 7,f 73 9 3,w 74 73,o 75 (.app t72 t74 5),v 7 75]))) (.reg [o 76 (.bin .add 0 t68 (.k (.int .i64 1))),v 68 76]))))
abbrev t_prim_input_add_1:MC:=(.seq (.reg [v 77 7,o 78 (.call F_prim_list [t77]),e (.store t2 t78 5),o 3 (.mv (.k (.bool true)))]) .ret)
abbrev c_prim_input_add_2:MC:=(.seq (.reg [v 95 15,o 96 (.un .not t95),v 97 96,g 98 97 true (.faddr t14 0),g 99 97 true (.load t98 1 false),g 100 97 true (.bin .eql 0 t99 (.k (.int .i64 0))),o 101 (.pick t97 t100 (.k (.bool false))),v 102 101,g 103 102 false (.mv t15),g 104 102 false (.mv t103),g 105 104 true (.load t13 5 true),g 106 104 true (.call F_value_Weight [t105]),g 107 104 true (.bin .gtr 0 t106 (.k (.int .i64 1048576))),g 108 102 false (.pick t104 t107 (.k (.bool false))),o 109 (.pick t102 (.k (.bool true)) t108)]) (.cond t109 (.reg [o 110 (.build [] []),o 111 (.mkif 52 t110),e (.bad)]) .skip))
abbrev t_prim_input_add_2:MC:=(.seq (.seq (.reg [v 112 15,o 113 (.un .not t112)]) (.cond t113 (.seq (.reg [o 114 (.build z3 []),e (.store t2 t114 5),o 3 (.mv (.k (.bool false)))]) .ret) .skip)) (.reg [l 115 13 5,e (.store t10 t115 5)]))
abbrev b_prim_input_add_3:MC:=(.seq (.reg [o 85 (.bin .lss 0 t84 t83)]) (.seq (.cond t85 .skip (.exit 5)) (.seq (.block 6 (.seq (.reg [o 86 (.iaddr t82 t84 5),l 87 86 5,o 12 (.alloc z3),e (.store t12 t87 5)]) (.seq (.reg [l 89 10 5,l 90 12 5,o 91 (.call F_arith_Do [(.k (.int .i64 14)),t89,t90]),v 88 91,o 92 (.ext t88 0),o 93 (.ext t88 1),o 94 (.ext t88 2),o 13 (.alloc z3),o 14 (.alloc z3),e (.store t13 t92 5),e (.store t14 t93 5),v 15 94]) (.seq (.cut c_prim_input_add_2) t_prim_input_add_2)))) (.reg [o 116 (.bin .add 0 t84 (.k (.int .i64 1))),v 84 116]))))
abbrev t_prim_input_add_3:MC:=(.seq (.reg [l 117 10 5,e (.store t2 t117 5),o 3 (.mv (.k (.bool true)))]) .ret)
abbrev m_prim_input_add:MC:=(.seq (.reg [o 1 (.box t0),o 2 (.alloc z3),o 3 (.mv (.k (.bool false)))]) (.seq (.block 0 (.seq (.reg [f 17 1 0,f 18 17 0,w 19 18,o 20 (.bin .eql 0 t19 (.k (.int .i64 0))),v 16 20]) (.cond t16 (.seq (.reg [o 21 (.build z3 []),e (.store t2 t21 5),o 3 (.mv (.k (.bool true)))]) .ret) (.seq (.reg [f 23 1 0,f 24 23 0,w 25 24,o 26 (.bin .neq 0 t25 (.k (.int .i64 5))),v 22 26]) (.cond t22 (.seq (.reg [o 27 (.build z3 []),e (.store t2 t27 5),o 3 (.mv (.k (.bool false)))]) .ret) (.seq (.reg [f 29 1 0,f 30 29 3,w 31 30,n 32 31,o 33 (.bin .gtr 0 t32 (.k (.int .i64 0))),v 34 33,g 35 34 true (.load t1 6 true),g 36 34 true (.call F_prim_input_all [t35,(.k (.int .i64 4))]),o 37 (.pick t34 t36 (.k (.bool false))),v 28 37]) (.cond t28 (.seq (.reg [o 38 (.build [.nilp,(.vec 1 true [])] []),o 4 (.alloc [.nilp,(.vec 1 true [])]),e (.store t4 t38 2)]) (.seq (.seq (.reg [f 39 1 0,f 40 39 3,w 41 40,n 42 41,c 43 0]) (.block 1 (.loop b_prim_input_add_0))) t_prim_input_add_0)) (.seq (.reg [f 54 1 0,f 55 54 3,w 56 55,n 57 56,o 58 (.bin .gtr 0 t57 (.k (.int .i64 0))),v 59 58,g 60 59 true (.load t1 6 true),g 61 59 true (.call F_prim_input_all [t60,(.k (.int .i64 5))]),o 62 (.pick t59 t61 (.k (.bool false))),v 53 62]) (.cond t53 (.seq (.reg [o 63 (.bslice 5 z3 0 []),v 7 63]) (.seq (.seq (.reg [f 64 1 0,f 65 64 3,w 66 65,n 67 66,c 68 0]) (.block 3 (.loop b_prim_input_add_1))) t_prim_input_add_1)) .skip))))))))) (.seq (.reg [o 79 (.build z3 []),o 10 (.alloc z3),e (.store t10 t79 5)]) (.seq (.seq (.reg [f 80 1 0,f 81 80 3,w 82 81,n 83 82,c 84 0]) (.block 5 (.loop b_prim_input_add_3))) t_prim_input_add_3))))
abbrev rs_prim_input_add:List RV:=[(.cell 2 29 5 true),(.tmp 3)]
abbrev m_value_empty:MC:=(.seq (.reg [o 5 (.box t0),o 10 (.mv (.k (.bool false)))]) (.seq (.reg [v 11 1,v 12 11,gs 13 12 false (.faddr t5 1),gs 14 12 false (.load t13 1 false),gs 15 12 false (.bin .eql 0 t14 (.k (.str ⟨#[]⟩))),o 16 (.pick t12 (.k (.bool true)) t15),v 17 16,gs 18 17 true (.mv t2),gs 19 17 true (.mv t18),gs 20 19 false (.faddr t5 2),gs 21 19 false (.load t20 1 false),gs 22 19 false (.bin .eql 0 t21 (.k (.str ⟨#[]⟩))),gs 23 17 true (.pick t19 (.k (.bool true)) t22),o 24 (.pick t17 t23 (.k (.bool false))),v 25 24,gs 26 25 true (.mv t3),gs 27 25 true (.mv t26),gs 28 27 false (.faddr t5 3),gs 29 27 false (.load t28 1 false),gs 30 27 false (.len t29),gs 31 27 false (.bin .eql 0 t30 (.k (.int .i64 0))),gs 32 25 true (.pick t27 (.k (.bool true)) t31),o 33 (.pick t25 t32 (.k (.bool false))),v 34 33,gs 35 34 true (.mv t4),gs 36 34 true (.mv t35),gs 37 36 false (.faddr t5 4),gs 38 36 false (.load t37 1 false),gs 39 36 false (.len t38),gs 40 36 false (.bin .eql 0 t39 (.k (.int .i64 0))),gs 41 34 true (.pick t36 (.k (.bool true)) t40),o 42 (.pick t34 t41 (.k (.bool false))),v 10 42]) .ret))
abbrev rs_value_empty:List RV:=[(.tmp 10)]
abbrev c_tens_Formed_0:MC:=(.seq (.reg [v 6 0,o 7 (.bin .neq 0 t6 (.k (.str ⟨#[]⟩))),v 8 7,g 9 8 true (.mv t0),g 10 8 true (.sidx t9 (.k (.int .i64 0))),g 11 8 true (.bin .eql 0 t10 (.k (.int .u8 45))),o 12 (.pick t8 t11 (.k (.bool false)))]) (.cond t12 (.reg [v 13 0,o 14 (.sslc t13 (some (.k (.int .i64 1))) none),v 0 14]) .skip))
abbrev b_tens_Formed_1:MC:=(.seq (.reg [o 25 (.bin .lss 0 t24 t23)]) (.seq (.cond t25 .skip (.exit 0)) (.seq (.block 1 (.seq (.reg [v 26 24,v 3 26]) (.seq (.reg [v 27 0,v 28 3,o 29 (.sidx t27 t28),o 30 (.bin .lss 0 t29 (.k (.int .u8 48))),v 31 30,g 32 31 false (.mv t0),g 33 31 false (.mv t3),g 34 31 false (.sidx t32 t33),g 35 31 false (.bin .gtr 0 t34 (.k (.int .u8 57))),o 36 (.pick t31 (.k (.bool true)) t35)]) (.cond t36 (.seq (.reg [o 2 (.mv (.k (.bool false)))]) .ret) .skip)))) (.reg [o 37 (.bin .add 0 t24 (.k (.int .i64 1))),v 24 37]))))
abbrev t_tens_Formed_0:MC:=(.seq (.seq (.reg [v 15 0,o 16 (.bin .eql 0 t15 (.k (.str ⟨#[]⟩))),v 17 16,g 18 17 false (.mv t0),g 19 17 false (.sidx t18 (.k (.int .i64 0))),g 20 17 false (.bin .eql 0 t19 (.k (.int .u8 48))),o 21 (.pick t17 (.k (.bool true)) t20)]) (.cond t21 (.seq (.reg [o 2 (.mv (.k (.bool false)))]) .ret) .skip)) (.seq (.seq (.reg [v 22 0,o 23 (.slen t22),c 24 0]) (.block 0 (.loop b_tens_Formed_1))) (.seq (.reg [o 2 (.mv (.k (.bool true)))]) .ret)))
abbrev m_tens_Formed:MC:=(.seq (.reg [o 2 (.mv (.k (.bool false)))]) (.seq (.seq (.reg [v 4 0,o 5 (.bin .eql 0 t4 (.k (.str ⟨#[48]⟩)))]) (.cond t5 (.seq (.reg [o 2 (.mv (.k (.bool true)))]) .ret) .skip)) (.seq (.cut c_tens_Formed_0) t_tens_Formed_0)))
abbrev rs_tens_Formed:List RV:=[(.tmp 2)]
abbrev m_value_allFormed:MC:=(.seq (.reg [o 2 (.mv (.k (.bool false)))]) (.seq (.reg [v 3 0,o 4 (.call F_slices_ContainsFunc_Value [t3,(.k (.fn F_value_allFormed_1 [] []))]),o 5 (.un .not t4),v 2 5]) .ret))
abbrev rs_value_allFormed:List RV:=[(.tmp 2)]
abbrev b_slices_IndexFunc_Value_0:MC:=(.seq (.reg [o 9 (.bin .lss 0 t8 t7)]) (.seq (.cond t9 .skip (.exit 0)) (.seq (.block 1 (.seq (.reg [v 10 8,v 5 10]) (.seq (.reg [v 11 1,v 12 0,v 13 5,o 14 (.iaddr t12 t13 5),l 15 14 5,o 16 (.dcall t11 [t15])]) (.cond t16 (.seq (.reg [v 17 5,v 4 17]) .ret) .skip)))) (.reg [o 18 (.bin .add 0 t8 (.k (.int .i64 1))),v 8 18]))))
abbrev m_slices_IndexFunc_Value:MC:=(.seq (.reg [c 4 0]) (.seq (.seq (.reg [v 6 0,n 7 6,c 8 0]) (.block 0 (.loop b_slices_IndexFunc_Value_0))) (.seq (.reg [o 4 (.mv (.k (.int .i64 (-1))))]) .ret)))
abbrev rs_slices_IndexFunc_Value:List RV:=[(.tmp 4)]
abbrev m_strings_TrimPrefix:MC:=(.seq (.reg [o 4 (.mv (.k (.str ⟨#[]⟩)))]) (.seq (.reg [v 5 0,v 6 1,o 7 (.call F_stringslite_TrimPrefix [t5,t6]),v 4 7]) .ret))
abbrev rs_strings_TrimPrefix:List RV:=[(.tmp 4)]
abbrev m_slices_Clone_string:MC:=(.seq (.reg [o 2 (.mv (.k (.vec 1 true [])))]) (.seq (.seq (.reg [v 3 0,o 4 (.nilcmp false t3)]) (.cond t4 (.seq (.reg [o 2 (.mv (.k (.vec 1 true [])))]) .ret) .skip)) (.seq (.reg [o 5 (.bslice 1 [(.str ⟨#[]⟩)] 0 []),v 6 0,o 7 (.app t5 t6 1),v 2 7]) .ret)))
abbrev rs_slices_Clone_string:List RV:=[(.tmp 2)]
abbrev m_slices_Clone_Value:MC:=(.seq (.reg [o 2 (.mv (.k (.vec 5 true [])))]) (.seq (.seq (.reg [v 3 0,o 4 (.nilcmp false t3)]) (.cond t4 (.seq (.reg [o 2 (.mv (.k (.vec 5 true [])))]) .ret) .skip)) (.seq (.reg [o 5 (.bslice 5 z3 0 []),v 6 0,o 7 (.app t5 t6 5),v 2 7]) .ret)))
abbrev rs_slices_Clone_Value:List RV:=[(.tmp 2)]
abbrev m_prim_input_all:MC:=(.seq (.reg [o 2 (.box t0),o 3 (.box t1),o 4 (.mv (.k (.bool false)))]) (.seq (.reg [f 5 2 0,f 6 5 3,w 7 6,o 8 (.mkfn F_prim_input_all_1 [] [t3]),o 9 (.call F_slices_ContainsFunc_Value [t7,t8]),o 10 (.un .not t9),v 4 10]) .ret))
abbrev rs_prim_input_all:List RV:=[(.tmp 4)]
abbrev m_arith_Do:MC:=(.seq (.reg [o 4 (.box t1),o 5 (.box t2),o 6 (.alloc z3),o 7 (.alloc z3),o 8 (.mv (.k (.bool false)))]) (.seq (.seq (.reg [v 9 0,o 10 (.bin .lss 0 t9 (.k (.int .i64 14))),v 11 10,g 12 11 false (.mv t0),g 13 11 false (.bin .gtr 0 t12 (.k (.int .i64 24))),o 14 (.pick t11 (.k (.bool true)) t13),v 15 14,g 16 15 false (.load t4 5 true),g 17 15 false (.load t5 5 true),g 18 15 false (.bslice 5 z3 2 [(0,t16),(1,t17)]),g 19 15 false (.call F_arith_right [t18]),g 20 15 false (.un .not t19),o 21 (.pick t15 (.k (.bool true)) t20)]) (.cond t21 (.seq (.reg [o 22 (.build z23 []),o 23 (.call F_arith_answer_told [t22]),o 24 (.ext t23 0),o 25 (.ext t23 1),o 26 (.ext t23 2),e (.store t6 t24 5),e (.store t7 t25 5),v 8 26]) .ret) .skip)) (.seq (.draw [(0,1),(0,2),(0,4),(1,4),(2,4),(3,4),(0,5),(1,5),(2,5),(3,5),(4,5),(0,6),(1,6),(2,6),(3,6),(9,10),(9,11),(10,11)] [o 27 (.call F_arith_operations []),v 28 0,o 29 (.bin .sub 0 t28 (.k (.int .i64 14))),o 30 (.aidx t27 t29 11 1 false),l 31 4 5,l 32 5 5,o 33 (.build z22 [(0,5,t31),(5,5,t32)]),o 34 (.dcall t30 [t33]),o 35 (.call F_arith_answer_told [t34]),o 36 (.ext t35 0),o 37 (.ext t35 1),o 38 (.ext t35 2),e (.store t6 t36 5),e (.store t7 t37 5),v 8 38]) .ret)))
abbrev rs_arith_Do:List RV:=[(.cell 6 29 5 true),(.cell 7 29 5 true),(.tmp 8)]
abbrev m_value_allFormed_1:MC:=(.seq (.reg [o 1 (.box t0),o 2 (.mv (.k (.bool false)))]) (.seq (.reg [l 3 1 5,o 4 (.call F_value_Formed [t3]),o 5 (.un .not t4),v 2 5]) .ret))
abbrev rs_value_allFormed_1:List RV:=[(.tmp 2)]
abbrev m_stringslite_TrimPrefix:MC:=(.seq (.reg [o 4 (.mv (.k (.str ⟨#[]⟩)))]) (.seq (.seq (.reg [v 5 0,v 6 1,o 7 (.call F_stringslite_HasPrefix [t5,t6])]) (.cond t7 (.seq (.reg [v 8 0,v 9 1,o 10 (.slen t9),o 11 (.sslc t8 (some t10) none),v 4 11]) .ret) .skip)) (.seq (.reg [v 12 0,v 4 12]) .ret)))
abbrev rs_stringslite_TrimPrefix:List RV:=[(.tmp 4)]
abbrev m_stringslite_HasPrefix:MC:=(.seq (.reg [o 4 (.mv (.k (.bool false)))]) (.seq (.reg [v 5 0,o 6 (.slen t5),v 7 1,o 8 (.slen t7),o 9 (.bin .geq 0 t6 t8),v 10 9,g 11 10 true (.mv t0),g 12 10 true (.mv t1),g 13 10 true (.slen t12),g 14 10 true (.sslc t11 none (some t13)),g 15 10 true (.mv t1),g 16 10 true (.bin .eql 0 t14 t15),o 17 (.pick t10 t16 (.k (.bool false))),v 4 17]) .ret))
abbrev rs_stringslite_HasPrefix:List RV:=[(.tmp 4)]
abbrev m_prim_input_all_1:MC:=(.seq (.reg [o 2 (.box t0),o 3 (.mv (.k (.bool false)))]) (.seq (.reg [f 4 2 0,w 5 4,w 6 1,o 7 (.bin .neq 0 t5 t6),v 3 7]) .ret))
abbrev rs_prim_input_all_1:List RV:=[(.tmp 3)]
abbrev m_arith_right:MC:=(.seq (.reg [o 2 (.mv (.k (.bool false)))]) (.seq (.reg [v 3 0,o 4 (.call F_slices_ContainsFunc_Value [t3,(.k (.fn F_arith_right_1 [] []))]),o 5 (.un .not t4),v 2 5]) .ret))
abbrev rs_arith_right:List RV:=[(.tmp 2)]
abbrev m_arith_answer_told:MC:=(.seq (.reg [o 1 (.box t0),o 2 (.alloc z3),o 3 (.alloc z3),o 4 (.mv (.k (.bool false)))]) (.seq (.draw [(0,3),(1,3),(2,3),(0,4),(1,4),(2,4),(0,5),(1,5),(2,5),(3,5),(4,5),(0,6),(1,6),(2,6),(3,6),(4,6),(3,7),(4,7),(5,7),(6,7),(5,8),(6,8)] [f 5 1 0,l 6 5 5,o 7 (.call F_value_Twin [t6]),f 8 1 5,l 9 8 5,f 10 1 10,w 11 10,e (.store t2 t7 5),e (.store t3 t9 5),v 4 11]) .ret))
abbrev rs_arith_answer_told:List RV:=[(.cell 2 29 5 true),(.cell 3 29 5 true),(.tmp 4)]
abbrev m_arith_operations:MC:=(.seq (.reg [o 0 (.alloc [.nilf,.nilf,.nilf,.nilf,.nilf,.nilf,.nilf,.nilf,.nilf,.nilf,.nilf])]) (.seq (.reg [o 1 (.build [.nilf,.nilf,.nilf,.nilf,.nilf,.nilf,.nilf,.nilf,.nilf,.nilf,.nilf] [(0,1,(.k (.fn F_arith_pair_add [] []))),(1,1,(.k (.fn F_arith_pair_sub [] []))),(2,1,(.k (.fn F_arith_pair_mul [] []))),(3,1,(.k (.fn F_arith_pair_div [] []))),(4,1,(.k (.fn F_arith_pair_mod [] []))),(5,1,(.k (.fn F_arith_pair_eq [] []))),(6,1,(.k (.fn F_arith_pair_ne [] []))),(7,1,(.k (.fn F_arith_pair_lt [] []))),(8,1,(.k (.fn F_arith_pair_le [] []))),(9,1,(.k (.fn F_arith_pair_gt [] []))),(10,1,(.k (.fn F_arith_pair_ge [] [])))]),e (.store t0 t1 11)]) .ret))
abbrev rs_arith_operations:List RV:=[(.cell 0 174 11 true)]
end Go.Proofs.YtjipnamfdmllmaaGreatDoor.Pv.M
namespace Go.Proofs.YtjipnamfdmllmaaGreatDoor.Pv.M
open Go
abbrev m_arith_right_1:MC:=(.seq (.reg [o 1 (.box t0),o 2 (.mv (.k (.bool false)))]) (.seq (.reg [l 3 1 5,o 4 (.call F_value_Formed [t3]),o 5 (.un .not t4),v 2 5]) .ret))
abbrev rs_arith_right_1:List RV:=[(.tmp 2)]
abbrev m_arith_pair_add:MC:=(.seq (.reg [o 1 (.box t0),o 2 (.alloc z23)]) (.seq (.block 0 (.seq (.reg [f 8 1 0,f 9 8 0,w 10 9,o 11 (.bin .eql 0 t10 (.k (.int .i64 0))),v 7 11]) (.cond t7 (.seq (.reg [f 12 1 5,l 13 12 5,o 14 (.call F_arith_good [t13]),e (.store t2 t14 11)]) .ret) (.seq (.reg [f 16 1 5,f 17 16 0,w 18 17,o 19 (.bin .eql 0 t18 (.k (.int .i64 0))),v 15 19]) (.cond t15 (.seq (.reg [f 20 1 0,l 21 20 5,o 22 (.call F_arith_good [t21]),e (.store t2 t22 11)]) .ret) (.seq (.reg [l 24 1 10,o 25 (.call F_arith_pair_both [t24,(.k (.int .i64 3))]),v 23 25]) (.cond t23 (.seq (.reg [f 27 1 0,f 28 27 1,w 29 28,f 30 1 5,f 31 30 1,w 32 31,o 33 (.call F_tens_Add [t29,t32]),v 26 33,o 34 (.ext t26 0),o 35 (.ext t26 1),v 3 34,v 4 35]) (.seq (.reg [v 36 3,o 37 (.call F_arith_number [t36]),e (.store t2 t37 11)]) .ret)) (.seq (.reg [l 39 1 10,o 40 (.call F_arith_pair_both [t39,(.k (.int .i64 4))]),v 38 40]) (.cond t38 (.seq (.reg [f 41 1 0,f 42 41 2,w 43 42,f 44 1 5,f 45 44 2,w 46 45,o 47 (.bin .add 0 t43 t46),o 48 (.call F_arith_text [t47]),e (.store t2 t48 11)]) .ret) (.seq (.reg [l 50 1 10,o 51 (.call F_arith_pair_both [t50,(.k (.int .i64 5))]),v 49 51]) (.cond t49 (.seq (.reg [f 52 1 0,f 53 52 3,w 54 53,f 55 1 5,f 56 55 3,w 57 56,o 58 (.bslice 1 [(.vec 5 true [])] 2 [(0,t54),(1,t57)]),o 59 (.call F_slices_Concat_Value [t58]),o 60 (.build z3 [(0,1,(.k (.int .i64 5))),(3,1,t59)]),o 61 (.call F_arith_good [t60]),e (.store t2 t61 11)]) .ret) (.seq (.reg [l 63 1 10,o 64 (.call F_arith_pair_both [t63,(.k (.int .i64 6))]),v 62 64]) (.cond t62 (.seq (.reg [f 66 1 0,l 67 66 5,f 68 1 5,l 69 68 5,o 70 (.call F_value_Merge [t67,t69]),v 65 70,o 71 (.ext t65 0),o 72 (.ext t65 1),o 5 (.alloc z3),e (.store t5 t71 5),v 6 72]) (.seq (.reg [l 73 5 5,o 74 (.call F_arith_good [t73]),e (.store t2 t74 11)]) .ret)) .skip))))))))))))) (.seq (.reg [o 75 (.call F_arith_bad [(.k (.str ⟨#[97,100,100]⟩))]),e (.store t2 t75 11)]) .ret)))
abbrev rs_arith_pair_add:List RV:=[(.cell 2 171 11 true)]
abbrev m_tens_split:MC:=(.seq (.reg [o 2 (.mv (.k (.bool false))),o 3 (.mv (.k (.str ⟨#[]⟩)))]) (.seq (.seq (.reg [v 4 0,o 5 (.sidx t4 (.k (.int .i64 0))),o 6 (.bin .eql 0 t5 (.k (.int .u8 45)))]) (.cond t6 (.seq (.draw [(0,2),(1,2)] [v 7 0,o 8 (.sslc t7 (some (.k (.int .i64 1))) none),o 2 (.mv (.k (.bool true))),v 3 8]) .ret) .skip)) (.seq (.reg [v 9 0,o 2 (.mv (.k (.bool false))),v 3 9]) .ret)))
abbrev rs_tens_split:List RV:=[(.tmp 2),(.tmp 3)]
abbrev m_arith_good:MC:=(.seq (.reg [o 1 (.box t0),o 2 (.alloc z23)]) (.seq (.reg [l 3 1 5,o 4 (.build z23 [(0,5,t3),(10,1,(.k (.bool true)))]),e (.store t2 t4 11)]) .ret))
abbrev rs_arith_good:List RV:=[(.cell 2 171 11 true)]
abbrev m_arith_pair_both:MC:=(.seq (.reg [o 2 (.box t0),o 4 (.mv (.k (.bool false)))]) (.seq (.reg [f 5 2 0,f 6 5 0,w 7 6,v 8 1,o 9 (.bin .eql 0 t7 t8),v 10 9,gs 11 10 true (.faddr t2 5),gs 12 10 true (.faddr t11 0),gs 13 10 true (.load t12 1 false),gs 14 10 true (.mv t1),gs 15 10 true (.bin .eql 0 t13 t14),o 16 (.pick t10 t15 (.k (.bool false))),v 4 16]) .ret))
abbrev rs_arith_pair_both:List RV:=[(.tmp 4)]
abbrev m_tens_Add:MC:=(.seq (.reg [o 4 (.mv (.k (.str ⟨#[]⟩))),c 5 0]) (.seq (.seq (.reg [v 10 0,o 11 (.call F_tens_Formed [t10]),o 12 (.un .not t11),v 13 12,g 14 13 false (.mv t1),g 15 13 false (.call F_tens_Formed [t14]),g 16 13 false (.un .not t15),o 17 (.pick t13 (.k (.bool true)) t16)]) (.cond t17 (.seq (.reg [o 4 (.mv (.k (.str ⟨#[]⟩))),c 5 1]) .ret) .skip)) (.seq (.reg [v 19 0,o 20 (.call F_tens_split [t19]),v 18 20,o 21 (.ext t18 0),o 22 (.ext t18 1),v 6 21,v 7 22]) (.seq (.reg [v 24 1,o 25 (.call F_tens_split [t24]),v 23 25,o 26 (.ext t23 0),o 27 (.ext t23 1),v 8 26,v 9 27]) (.seq (.block 0 (.seq (.reg [v 29 6,v 30 8,o 31 (.bin .eql 1 t29 t30),v 28 31]) (.cond t28 (.seq (.reg [v 32 6,v 33 7,v 34 9,o 35 (.call F_tens_plus [t33,t34]),o 36 (.call F_tens_signed [t32,t35]),v 4 36,c 5 0]) .ret) (.seq (.reg [v 38 7,v 39 9,o 40 (.call F_tens_size [t38,t39]),o 41 (.bin .lss 0 t40 (.k (.int .i64 0))),v 37 41]) (.cond t37 (.seq (.reg [v 42 8,v 43 9,v 44 7,o 45 (.call F_tens_minus [t43,t44]),o 46 (.call F_tens_signed [t42,t45]),v 4 46,c 5 0]) .ret) .skip))))) (.seq (.reg [v 47 6,v 48 7,v 49 9,o 50 (.call F_tens_minus [t48,t49]),o 51 (.call F_tens_signed [t47,t50]),v 4 51,c 5 0]) .ret))))))
abbrev rs_tens_Add:List RV:=[(.tmp 4),(.tmp 5)]
abbrev m_arith_number:MC:=(.seq (.reg [o 2 (.alloc z23)]) (.seq (.reg [v 3 0,o 4 (.build z3 [(0,1,(.k (.int .i64 3))),(1,1,t3)]),o 5 (.call F_arith_good [t4]),e (.store t2 t5 11)]) .ret))
abbrev rs_arith_number:List RV:=[(.cell 2 171 11 true)]
abbrev m_tens_signed:MC:=(.seq (.reg [o 4 (.mv (.k (.str ⟨#[]⟩)))]) (.seq (.seq (.reg [v 5 0,v 6 5,gs 7 6 true (.mv t1),gs 8 6 true (.bin .neq 0 t7 (.k (.str ⟨#[48]⟩))),o 9 (.pick t6 t8 (.k (.bool false)))]) (.cond t9 (.seq (.reg [v 10 1,o 11 (.bin .add 0 (.k (.str ⟨#[45]⟩)) t10),v 4 11]) .ret) .skip)) (.seq (.reg [v 12 1,v 4 12]) .ret)))
abbrev rs_tens_signed:List RV:=[(.tmp 4)]
abbrev c_tens_plus_0:MC:=(.seq (.reg [v 9 0,o 10 (.slen t9),v 11 1,o 12 (.slen t11),o 13 (.bin .lss 0 t10 t12)]) (.cond t13 (.reg [v 14 1,v 15 0,v 0 14,v 1 15]) .skip))
abbrev c_tens_plus_1:MC:=(.seq (.reg [v 42 7,v 43 1,o 44 (.slen t43),o 45 (.bin .leq 0 t42 t44)]) (.cond t45 (.draw [(0,1),(0,4),(1,4),(2,4),(3,4),(0,5),(1,5),(2,5),(3,5),(4,5),(0,6),(1,6),(2,6),(3,6),(4,6),(0,7),(1,7),(2,7),(3,7),(4,7),(5,7),(6,7),(0,8),(1,8),(2,8),(3,8),(4,8),(0,9),(1,9),(2,9),(3,9),(0,10),(1,10),(2,10),(3,10)] [v 46 5,v 47 8,o 48 (.iaddr t46 t47 1),w 49 48,v 50 1,v 51 1,o 52 (.slen t51),v 53 7,o 54 (.bin .sub 0 t52 t53),o 55 (.sidx t50 t54),o 56 (.bin .sub 0 t55 (.k (.int .u8 48))),o 57 (.bin .add 0 t49 t56),o 58 (.iaddr t46 t47 1),e (.store t58 t57 1)]) .skip))
abbrev c_tens_plus_2:MC:=(.seq (.reg [v 59 5,v 60 8,o 61 (.iaddr t59 t60 1),w 62 61,o 63 (.bin .gtr 0 t62 (.k (.int .u8 57)))]) (.cond t63 (.seq (.reg [v 64 5,v 65 8,o 66 (.iaddr t64 t65 1),w 67 66,o 68 (.bin .sub 0 t67 (.k (.int .u8 10))),o 69 (.iaddr t64 t65 1),e (.store t69 t68 1)]) (.reg [o 6 (.mv (.k (.int .u8 1)))])) .skip))
abbrev t_tens_plus_0:MC:=(.seq (.reg [o 6 (.mv (.k (.int .u8 0)))]) (.cut c_tens_plus_2))
abbrev b_tens_plus_3:MC:=(.seq (.seq (.reg [v 25 7,v 26 0,o 27 (.slen t26),o 28 (.bin .leq 0 t25 t27)]) (.cond t28 .skip (.exit 0))) (.seq (.block 1 (.seq (.reg [v 31 5,n 32 31,v 33 7,o 34 (.bin .sub 0 t32 t33),v 8 34]) (.seq (.reg [v 35 5,v 36 8,o 37 (.iaddr t35 t36 1),w 38 37,v 39 6,o 40 (.bin .add 0 t38 t39),o 41 (.iaddr t35 t36 1),e (.store t41 t40 1)]) (.seq (.cut c_tens_plus_1) t_tens_plus_0)))) (.reg [v 29 7,o 30 (.bin .add 0 t29 (.k (.int .i64 1))),v 7 30])))
abbrev t_tens_plus_1:MC:=(.seq (.reg [v 70 5,o 71 (.iaddr t70 (.k (.int .i64 0)) 1),w 72 71,v 73 6,o 74 (.bin .add 0 t72 t73),o 75 (.iaddr t70 (.k (.int .i64 0)) 1),e (.store t75 t74 1)]) (.seq (.reg [v 76 5,o 77 (.call F_tens_text [t76]),v 4 77]) .ret))
abbrev t_tens_plus_2:MC:=(.seq (.reg [v 16 0,o 17 (.slen t16),o 18 (.bin .add 0 t17 (.k (.int .i64 1))),o 19 (.mksl 1 [(.int .u8 0)] (.k (.int .i64 0)) t18),o 20 (.bslice 1 [(.int .u8 0)] 1 [(0,(.k (.int .u8 48)))]),o 21 (.app t19 t20 1),v 5 21]) (.seq (.reg [v 22 5,v 23 0,o 24 (.app t22 t23 1),v 5 24]) (.seq (.reg [o 6 (.mv (.k (.int .u8 0)))]) (.seq (.seq (.reg [c 7 1]) (.block 0 (.loop b_tens_plus_3))) t_tens_plus_1))))
abbrev m_tens_plus:MC:=(.seq (.reg [o 4 (.mv (.k (.str ⟨#[]⟩)))]) (.seq (.cut c_tens_plus_0) t_tens_plus_2))
abbrev rs_tens_plus:List RV:=[(.tmp 4)]
abbrev b_tens_text_0:MC:=(.seq (.seq (.reg [v 4 3,v 5 0,n 6 5,o 7 (.bin .sub 0 t6 (.k (.int .i64 1))),o 8 (.bin .lss 0 t4 t7),v 9 8,g 10 9 true (.mv t0),g 11 9 true (.mv t3),g 12 9 true (.iaddr t10 t11 1),g 13 9 true (.load t12 1 false),g 14 9 true (.bin .eql 0 t13 (.k (.int .u8 48))),o 15 (.pick t9 t14 (.k (.bool false)))]) (.cond t15 .skip (.exit 0))) (.block 1 (.reg [v 16 3,o 17 (.bin .add 0 t16 (.k (.int .i64 1))),v 3 17])))
abbrev t_tens_text_0:MC:=(.seq (.reg [v 18 0,v 19 3,v 20 0,n 21 20,v 22 0,n 23 22,o 24 (.slc t18 1 (some t19) (some t21) (some t23)),o 25 (.b2s t24),v 2 25]) .ret)
abbrev m_tens_text:MC:=(.seq (.reg [o 2 (.mv (.k (.str ⟨#[]⟩)))]) (.seq (.reg [c 3 0]) (.seq (.block 0 (.loop b_tens_text_0)) t_tens_text_0)))
abbrev rs_tens_text:List RV:=[(.tmp 2)]
end Go.Proofs.YtjipnamfdmllmaaGreatDoor.Pv.M
namespace Go.Proofs.YtjipnamfdmllmaaGreatDoor.Pv
open Go
set_option maxRecDepth 1000000
noncomputable abbrev prog:Program:=Tryz.prog
theorem hmix:prog.follows .mixedOrders=true:=by kernel_rfl
theorem h_law21_PrimNames:mfOf prog M.F_law21_PrimNames=some (M.m_law21_PrimNames.erase,23,M.rs_law21_PrimNames):=by kernel_rfl
theorem h_law21_lives:mfOf prog M.F_law21_lives=some (M.m_law21_lives.erase,24,M.rs_law21_lives):=by kernel_rfl
theorem h_kit_SameStrings:mfOf prog M.F_kit_SameStrings=some (M.m_kit_SameStrings.erase,26,M.rs_kit_SameStrings):=by kernel_rfl
theorem h_ref21_Names:mfOf prog M.F_ref21_Names=some (M.m_ref21_Names.erase,2,M.rs_ref21_Names):=by kernel_rfl
theorem h_prim_Is:mfOf prog M.F_prim_Is=some (M.m_prim_Is.erase,16,M.rs_prim_Is):=by kernel_rfl
theorem h_ref21_Is:mfOf prog M.F_ref21_Is=some (M.m_ref21_Is.erase,26,M.rs_ref21_Is):=by kernel_rfl
theorem h_prim_Do:mfOf prog M.F_prim_Do=some (M.m_prim_Do.erase,55,M.rs_prim_Do):=by kernel_rfl
theorem h_ref03_Like:mfOf prog M.F_ref03_Like=some (M.m_ref03_Like.erase,81,M.rs_ref03_Like):=by kernel_rfl
theorem h_prim_key:mfOf prog M.F_prim_key=some (M.m_prim_key.erase,10,M.rs_prim_key):=by kernel_rfl
theorem h_value_Formed:mfOf prog M.F_value_Formed=some (M.m_value_Formed.erase,61,M.rs_value_Formed):=by kernel_rfl
theorem h_slices_ContainsFunc_Value:mfOf prog M.F_slices_ContainsFunc_Value=some (M.m_slices_ContainsFunc_Value.erase,9,M.rs_slices_ContainsFunc_Value):=by kernel_rfl
theorem h_value_Weight:mfOf prog M.F_value_Weight=some (M.m_value_Weight.erase,43,M.rs_value_Weight):=by kernel_rfl
theorem h_value_Twin:mfOf prog M.F_value_Twin=some (M.m_value_Twin.erase,30,M.rs_value_Twin):=by kernel_rfl
theorem h_prim_input_add:mfOf prog M.F_prim_input_add=some (M.m_prim_input_add.erase,118,M.rs_prim_input_add):=by kernel_rfl
theorem h_value_empty:mfOf prog M.F_value_empty=some (M.m_value_empty.erase,43,M.rs_value_empty):=by kernel_rfl
theorem h_tens_Formed:mfOf prog M.F_tens_Formed=some (M.m_tens_Formed.erase,38,M.rs_tens_Formed):=by kernel_rfl
theorem h_value_allFormed:mfOf prog M.F_value_allFormed=some (M.m_value_allFormed.erase,6,M.rs_value_allFormed):=by kernel_rfl
theorem h_slices_IndexFunc_Value:mfOf prog M.F_slices_IndexFunc_Value=some (M.m_slices_IndexFunc_Value.erase,19,M.rs_slices_IndexFunc_Value):=by kernel_rfl
theorem h_strings_TrimPrefix:mfOf prog M.F_strings_TrimPrefix=some (M.m_strings_TrimPrefix.erase,8,M.rs_strings_TrimPrefix):=by kernel_rfl
theorem h_slices_Clone_string:mfOf prog M.F_slices_Clone_string=some (M.m_slices_Clone_string.erase,8,M.rs_slices_Clone_string):=by kernel_rfl
theorem h_slices_Clone_Value:mfOf prog M.F_slices_Clone_Value=some (M.m_slices_Clone_Value.erase,8,M.rs_slices_Clone_Value):=by kernel_rfl
theorem h_prim_input_all:mfOf prog M.F_prim_input_all=some (M.m_prim_input_all.erase,11,M.rs_prim_input_all):=by kernel_rfl
theorem h_arith_Do:mfOf prog M.F_arith_Do=some (M.m_arith_Do.erase,39,M.rs_arith_Do):=by kernel_rfl
theorem h_value_allFormed_1:mfOf prog M.F_value_allFormed_1=some (M.m_value_allFormed_1.erase,6,M.rs_value_allFormed_1):=by kernel_rfl
theorem h_stringslite_TrimPrefix:mfOf prog M.F_stringslite_TrimPrefix=some (M.m_stringslite_TrimPrefix.erase,13,M.rs_stringslite_TrimPrefix):=by kernel_rfl
theorem h_stringslite_HasPrefix:mfOf prog M.F_stringslite_HasPrefix=some (M.m_stringslite_HasPrefix.erase,18,M.rs_stringslite_HasPrefix):=by kernel_rfl
theorem h_prim_input_all_1:mfOf prog M.F_prim_input_all_1=some (M.m_prim_input_all_1.erase,8,M.rs_prim_input_all_1):=by kernel_rfl
theorem h_arith_right:mfOf prog M.F_arith_right=some (M.m_arith_right.erase,6,M.rs_arith_right):=by kernel_rfl
theorem h_arith_answer_told:mfOf prog M.F_arith_answer_told=some (M.m_arith_answer_told.erase,12,M.rs_arith_answer_told):=by kernel_rfl
theorem h_arith_operations:mfOf prog M.F_arith_operations=some (M.m_arith_operations.erase,2,M.rs_arith_operations):=by kernel_rfl
theorem h_arith_right_1:mfOf prog M.F_arith_right_1=some (M.m_arith_right_1.erase,6,M.rs_arith_right_1):=by kernel_rfl
theorem h_arith_pair_add:mfOf prog M.F_arith_pair_add=some (M.m_arith_pair_add.erase,76,M.rs_arith_pair_add):=by kernel_rfl
theorem h_tens_split:mfOf prog M.F_tens_split=some (M.m_tens_split.erase,10,M.rs_tens_split):=by kernel_rfl
theorem h_arith_good:mfOf prog M.F_arith_good=some (M.m_arith_good.erase,5,M.rs_arith_good):=by kernel_rfl
theorem h_arith_pair_both:mfOf prog M.F_arith_pair_both=some (M.m_arith_pair_both.erase,17,M.rs_arith_pair_both):=by kernel_rfl
theorem h_tens_Add:mfOf prog M.F_tens_Add=some (M.m_tens_Add.erase,52,M.rs_tens_Add):=by kernel_rfl
theorem h_arith_number:mfOf prog M.F_arith_number=some (M.m_arith_number.erase,6,M.rs_arith_number):=by kernel_rfl
theorem h_tens_signed:mfOf prog M.F_tens_signed=some (M.m_tens_signed.erase,13,M.rs_tens_signed):=by kernel_rfl
theorem h_tens_plus:mfOf prog M.F_tens_plus=some (M.m_tens_plus.erase,78,M.rs_tens_plus):=by kernel_rfl
theorem h_tens_text:mfOf prog M.F_tens_text=some (M.m_tens_text.erase,26,M.rs_tens_text):=by kernel_rfl
end Go.Proofs.YtjipnamfdmllmaaGreatDoor.Pv
set_option maxRecDepth 100000
namespace Go.Proofs.YtjipnamfdmllmaaGreatDoor.Pv
open Go Go.RowKit Go.Maps
def primT:List (ByteArray × Nat):=[(⟨#[108,101,110,103,116,104,47,48]⟩,M.F_prim_input_length),
 (⟨#[117,116,102,56,98,121,116,101,108,101,110,103,116,104,47,48]⟩,M.F_prim_input_bytes),
 (⟨#[110,111,116,47,48]⟩,M.F_prim_input_not),
 (⟨#[107,101,121,115,47,48]⟩,M.F_prim_input_keys),
 (⟨#[104,97,115,47,49]⟩,M.F_prim_input_has),
 (⟨#[99,111,110,116,97,105,110,115,47,49]⟩,M.F_prim_input_contains),
 (⟨#[116,121,112,101,47,48]⟩,M.F_prim_input_kind),
 (⟨#[116,111,115,116,114,105,110,103,47,48]⟩,M.F_prim_input_str),
 (⟨#[116,111,110,117,109,98,101,114,47,48]⟩,M.F_prim_input_number),
 (⟨#[116,111,106,115,111,110,47,48]⟩,M.F_prim_input_json),
 (⟨#[102,114,111,109,106,115,111,110,47,48]⟩,M.F_prim_input_read),
 (⟨#[97,115,99,105,105,95,100,111,119,110,99,97,115,101,47,48]⟩,M.F_prim_input_lower),
 (⟨#[97,115,99,105,105,95,117,112,99,97,115,101,47,48]⟩,M.F_prim_input_upper),
 (⟨#[101,120,112,108,111,100,101,47,48]⟩,M.F_prim_input_explode),
 (⟨#[105,109,112,108,111,100,101,47,48]⟩,M.F_prim_input_implode),
 (⟨#[115,116,97,114,116,115,119,105,116,104,47,49]⟩,M.F_prim_input_starts),
 (⟨#[101,110,100,115,119,105,116,104,47,49]⟩,M.F_prim_input_ends),
 (⟨#[108,116,114,105,109,115,116,114,47,49]⟩,M.F_prim_input_ltrim),
 (⟨#[114,116,114,105,109,115,116,114,47,49]⟩,M.F_prim_input_rtrim),
 (⟨#[115,112,108,105,116,47,49]⟩,M.F_prim_input_split),
 (⟨#[106,111,105,110,47,49]⟩,M.F_prim_input_join),
 (⟨#[105,110,100,105,99,101,115,47,49]⟩,M.F_prim_input_indices),
 (⟨#[114,101,118,101,114,115,101,47,48]⟩,M.F_prim_input_reverse),
 (⟨#[115,111,114,116,47,48]⟩,M.F_prim_input_sort),
 (⟨#[95,115,111,114,116,95,98,121,47,49]⟩,M.F_prim_input_sortBy),
 (⟨#[95,103,114,111,117,112,95,98,121,47,49]⟩,M.F_prim_input_groupBy),
 (⟨#[95,117,110,105,113,117,101,95,98,121,47,49]⟩,M.F_prim_input_uniqueBy),
 (⟨#[95,109,105,110,95,98,121,47,49]⟩,M.F_prim_input_minBy),
 (⟨#[95,109,97,120,95,98,121,47,49]⟩,M.F_prim_input_maxBy),
 (⟨#[109,105,110,47,48]⟩,M.F_prim_input_least),
 (⟨#[109,97,120,47,48]⟩,M.F_prim_input_greatest),
 (⟨#[117,110,105,113,117,101,47,48]⟩,M.F_prim_input_unique),
 (⟨#[97,100,100,47,48]⟩,M.F_prim_input_add),
 (⟨#[102,108,97,116,116,101,110,47,48]⟩,M.F_prim_input_flatten),
 (⟨#[116,114,97,110,115,112,111,115,101,47,48]⟩,M.F_prim_input_transpose),
 (⟨#[103,101,116,112,97,116,104,47,49]⟩,M.F_prim_input_getpath),
 (⟨#[115,101,116,112,97,116,104,47,50]⟩,M.F_prim_input_setpath),
 (⟨#[100,101,108,112,97,116,104,115,47,49]⟩,M.F_prim_input_delpaths),
 (⟨#[97,98,115,47,48]⟩,M.F_prim_input_abs),
 (⟨#[116,111,97,114,114,97,121,47,48]⟩,M.F_prim_input_toarray)]
def RF (v:Value):Option (DataW Unit × List MemPlace):=match v with
 | .func (.func f) a b=>if a.isEmpty&&b.isEmpty then some (.lit (.int .i64 f),[]) else none
 | .nilFunc=>some (.nil,[])
 | _=>none
theorem RF_func (f:Nat):RF (.func (.func f) #[] #[])=some (.lit (.int .i64 f),[]):=rfl
theorem RF_inv {v:Value} {f:Int} {ps:List MemPlace} (h:RF v=some (.lit (.int .i64 f),ps)):∃ n:Nat,v=.func (.func n) #[] #[]∧(n:Int)=f:=by
 unfold RF at h
 split at h
 ·rename_i n a b
  split at h
  ·rename_i hc
   simp only[Bool.and_eq_true,Array.isEmpty_iff] at hc
   obtain⟨rfl,rfl⟩:=hc
   simp only[Option.some.injEq,Prod.mk.injEq,DataW.lit.injEq,Lit.int.injEq,true_and] at h
   exact⟨n,rfl,h.1⟩
  ·cases h
 ·cases h
 ·cases h
def insOk (t:TypeId) (o:Oper) (p:ByteArray × Nat):Bool:=o.guard.isNone&&o.dst.isNone&&(match o.op with
 | .insert t' (.tmp 1) (.const (.string s)) (.func f)=>t' == t&&s.data == p.1.data&&f == p.2
 | _=>false)
def insAll (t:TypeId):List Oper→List (ByteArray × Nat)→Bool
 | [],[]=>true
 | o::l,p::ps=>insOk t o p&&insAll t l ps
 | _,_=>false
def putM (D:DataW Unit) (ps:List (ByteArray × Nat)):DataW Unit:=ps.foldl (fun D p=>D.put (.string p.1.data.toList) (.lit (.int .i64 p.2))) D
theorem ins_run {P:Program} {t kt et:TypeId} (ht:P.underlying t=some (.map kt et)) (hk:P.underlying kt=some .string) {ops:Array Oper} {Q:Exit→Act→World→Prop} {rest:List Oper} {a:Act} {b:Nat} (hm:a.eval (.tmp 1)=.map (some b)) :
 ∀ (l:List Oper) (ps:List (ByteArray × Nat)) (w:World) (n:Nat) (D:DataW Unit),insAll t l ps=true→w.ownsMap P kt RF b n D→n+ps.length<maxLen→(∀ p∈ps,p.1.size≤LIM) →
   (∀ w',w'.ownsMap P kt RF b (n+ps.length) (putM D ps)→w.grownBy w' (some b)→wpList P ops Q rest a w')→wpList P ops Q (l++rest) a w
 | [],[],w,n,D,_,hown,_,_,hK=>hK w hown (World.grownBy.refl w _)
 | [],_::_,_,_,_,h,_,_,_,_=>by cases h
 | _::_,[],_,_,_,h,_,_,_,_=>by cases h
 | o::l,p::ps,w,n,D,h,hown,hn,hs,hK=>by
   simp only[insAll,Bool.and_eq_true] at h
   obtain⟨h1,h2⟩:=h
   simp only[insOk,Bool.and_eq_true,Option.isNone_iff_eq_none] at h1
   obtain⟨⟨hg,hd⟩,h3⟩:=h1
   split at h3
   ·rename_i t' s f hop
    simp only[Bool.and_eq_true,beq_iff_eq] at h3
    obtain⟨⟨rfl,hs'⟩,rfl⟩:=h3
    have hsp:s=p.1:=by cases s; cases hp:p.1; rw[hp] at hs'; simp at hs'; rw[hs']
    subst hsp
    have hkey:keyOf P kt (.string p.1)=some (.string p.1.data.toList):=WideMaps.keyOf_string_mk hk (by have:=hs p (List.mem_cons_self ..); unfold LIM at this; unfold maxLen; omega)
    obtain⟨w1,hrun,hown1,hgr⟩:=hown.update (string_keyed hk) ht (by simp only[List.length_cons] at hn; omega) hkey (RF_func p.2)
    rw[List.cons_append]
    refine wpList_plain hg fun K hK'=>?_
    unfold Oper.wp
    have e1:a.eval (.const (.string p.1))=.string p.1:=rfl
    have e2:a.eval (.func p.2)=.func (.func p.2) #[] #[]:=rfl
    simp[execOp,hop,hm,e1,e2,hrun,Result.andThen]
    refine hK' _ _ ?_
    rw[hd]
    refine ins_run ht hk hm l ps w1 (n+1) _ h2 hown1 (by simp only[List.length_cons] at hn; omega) (fun q hq=>hs q (List.mem_cons_of_mem _ hq)) fun w' ho hg'=>hK w' ?_ (hgr.trans hg')
    rw[List.length_cons,show n+(ps.length+1)=n+1+ps.length by omega]
    exact ho
   ·cases h3
def mvOk (o:Oper):Bool:=o.guard.isNone&&o.dst == some 2&&(match o.op with
 | .move (.tmp 1)=>true
 | _=>false)
def lastOk (o:Oper):Bool:=o.guard.isNone&&o.dst == some 0&&(match o.op with
 | .assign (.tmp 2)=>true
 | _=>false)
def insThen (t:TypeId):List Oper→List (ByteArray × Nat)→Bool
 | [o1,o2],[]=>mvOk o1&&lastOk o2
 | o::l,p::ps=>insOk t o p&&insThen t l ps
 | _,_=>false
theorem insThen_split {t:TypeId}:∀ {l:List Oper} {ps:List (ByteArray × Nat)},insThen t l ps=true→∃ l1 o1 o2,l=l1++[o1,o2]∧insAll t l1 ps=true∧mvOk o1=true∧lastOk o2=true
 | [],[],h=>by cases h
 | [_],[],h=>by cases h
 | [o1,o2],[],h=>by
   simp only[insThen,Bool.and_eq_true] at h
   exact⟨[],o1,o2,rfl,rfl,h.1,h.2⟩
 | _::_::_::_,[],h=>by cases h
 | [],_::_,h=>by cases h
 | o::l,p::ps,h=>by
   simp only[insThen,Bool.and_eq_true] at h
   obtain⟨l1,o1,o2,rfl,h1,h2⟩:=insThen_split h.2
   exact⟨o::l1,o1,o2,rfl,by simp[insAll,h.1,h1],h2⟩
def tabChk (t:TypeId) (ps:List (ByteArray × Nat)):Option Code→Bool
 | some (.seq (.region _ r0 false) (.seq (.region _ r1 false) .ret))=>(match r0.toList with
   | [o]=>o.guard.isNone&&(match o.op with
     | .assign (.const (.map none))=>true
     | _=>false)
   | _=>false)&&(match r1.toList with
   | o::l=>o.guard.isNone&&o.dst == some 1&&(match o.op with
     | .makeMap t' none=>t' == t
     | _=>false)&&insThen t l ps
   | _=>false)
 | _=>false
theorem table_calls {P:Program} {f:FuncId} {fn:Func} {t kt et:TypeId} (hf:P.funcs[f]? = some fn) (hr:fn.results=#[.tmp 0]) (hn:fn.ntmps=3) (ht:P.underlying t=some (.map kt et)) (hk:P.underlying kt=some .string) {ps:List (ByteArray × Nat)} (hc:tabChk t ps fn.body=true) (hl:ps.length<1000) (hs:∀ p∈ps,p.1.size≤LIM) (w:World) :
 Calls P f #[] w fun e w'=>e=.returned (.map (some w.heap.size))∧w'.ownsMap P kt RF w.heap.size ps.length (putM (.map []) ps)∧Below w.heap.size w w':=by
 cases hb:fn.body with
 | none=>rw[hb] at hc; cases hc
 | some c =>
   rw[hb] at hc
   unfold tabChk at hc
   split at hc
   ·rename_i i0 r0 i1 r1 heq
    cases heq
    simp only[Bool.and_eq_true] at hc
    obtain⟨h0,h1⟩:=hc
    split at h0
    ·rename_i o0 e0
     simp only[Bool.and_eq_true,Option.isNone_iff_eq_none] at h0
     obtain⟨g0,h0⟩:=h0
     split at h0
     ·rename_i op0
      split at h1
      ·rename_i omk l e1
       simp only[Bool.and_eq_true,Option.isNone_iff_eq_none,beq_iff_eq] at h1
       obtain⟨⟨⟨g1,d1⟩,h1⟩,h2⟩:=h1
       split at h1
       ·rename_i t' op1
        simp only[beq_iff_eq] at h1
        subst h1
        obtain⟨l1,om,ol,rfl,h3,h5,h4⟩:=insThen_split h2
        simp only[lastOk,Bool.and_eq_true,Option.isNone_iff_eq_none,beq_iff_eq] at h4
        obtain⟨⟨g4,d4⟩,h4⟩:=h4
        simp only[mvOk,Bool.and_eq_true,Option.isNone_iff_eq_none,beq_iff_eq] at h5
        obtain⟨⟨g5,d5⟩,h5⟩:=h5
        have op5:om.op=.move (.tmp 1):=by
         split at h5
         ·assumption
         ·cases h5
        split at h4
        ·rename_i op4
         refine calls_of_wp hf hb (wp_seq (wp_region_list ?_))
         rw[e0]
         refine wpList_plain g0 fun K hK=>?_
         unfold Oper.wp
         simp[execOp,op0,Act.eval,Result.andThen]
         refine hK _ _ (wpList_nil ?_)
         refine wp_seq (wp_region_list ?_)
         rw[e1]
         refine wpList_plain g1 fun K hK=>?_
         unfold Oper.wp
         simp[execOp,op1,run_makeMap,Result.andThen]
         refine hK _ _ ?_
         rw[d1]
         obtain⟨A,hA⟩ : ∃ A:Act,A=Act.put (Act.put { tmps:=Array.replicate fn.ntmps undef,defers:=[] } o0.dst (Value.map none)) (some 1) (Value.map (some w.heap.size)):=⟨_,rfl⟩
         have hsz:A.tmps.size=3:=by rw[hA]; cases o0.dst<;>simp[Act.put,hn]
         have hev:A.eval (.tmp 1)=.map (some w.heap.size):=by
          rw[hA]; cases o0.dst<;>simp[Act.put,Act.eval,hn]
         have hdf:A.defers=[]:=by rw[hA]; cases o0.dst<;>rfl
         first|rw[← hA]|skip
         refine ins_run ht hk hev l1 ps _ 0 (.map []) h3 (World.ownsMap_made w P kt RF) (by unfold maxLen; omega) hs fun w' hown hgr=>?_
         refine wpList_plain g5 fun K hK=>?_
         unfold Oper.wp
         simp[execOp,op5,hev,Result.andThen]
         show K (A.put om.dst (.map (some w.heap.size))) w'
         rw[d5]
         refine hK _ _ ?_
         have hev2:(A.put (some 2) (.map (some w.heap.size))).eval (.tmp 2)=.map (some w.heap.size):=by simp[Act.put,Act.eval,hsz]
         refine wpList_plain g4 fun K hK=>?_
         unfold Oper.wp
         simp[execOp,op4,hev2,Result.andThen]
         show K ((A.put (some 2) (.map (some w.heap.size))).put ol.dst (.map (some w.heap.size))) w'
         rw[d4]
         refine hK _ _ (wpList_nil ?_)
         refine wp_ret (bodyPost_ret (results_tmp hr _ _ _) ?_ ?_)
         ·exact hdf
         ·refine⟨?_,by simpa using hown,?_⟩
          ·simp[Act.put,hsz]
          ·refine ((Below.refl _ w).alloc (Nat.le_refl _) _).grown hgr (by simp) (fun j hj=>by cases hj; exact Nat.le_refl _)
        ·cases h4
       ·cases h1
      ·cases h1
     ·cases h0
    ·cases h0
   ·cases hc
def isEnt (y:Lit × DataW Unit) (p:ByteArray × Nat):Bool:=match y with
 | (.string s,.lit (.int .i64 f))=>s == p.1.data.toList&&f == (p.2:Int)
 | _=>false
def entsOk (E:List (Lit × DataW Unit)) (ps:List (ByteArray × Nat)):Bool:=E.all (fun y=>ps.any fun p=>isEnt y p)&&ps.all (fun p=>E.any fun y=>isEnt y p)&&ps.all (fun p=>ps.all fun q=>p.1.data != q.1.data||p.2 == q.2)&&ps.all (fun p=>decide (p.1.size≤LIM))
theorem ba_ext {a b:ByteArray} (h:a.data.toList=b.data.toList):a=b:=by
 cases a; cases b; simp at h; rw[h]
open WideElems in
theorem mapF_of {P:Program} {kt:TypeId} (hk:P.underlying kt=some .string) {w:World} {b n:Nat} {E:List (Lit × DataW Unit)} {ps:List (ByteArray × Nat)} (hown:w.ownsMap P kt RF b n (.map E)) (hc:entsOk E ps=true):MapF w b ps:=by
 simp only[entsOk,Bool.and_eq_true,List.all_eq_true,List.any_eq_true,decide_eq_true_eq] at hc
 obtain⟨⟨⟨c1,c2⟩,c3⟩,c4⟩:=hc
 obtain⟨arr,clock,hb,F,_,hD⟩:=hown
 have hE:E=(arr.toList.map (rg P kt RF)).foldr DataW.insert []:=DataW.map.inj hD
 have hmem:∀ y,y∈E↔y∈arr.toList.map (rg P kt RF):=fun y=>by rw[hE]; exact (WideShapes.sorted_perm _).mem_iff
 refine⟨arr,clock,hb,fun e he=>?_,fun p hp=>?_,fun p hp q hq hpq=>?_⟩
 ·obtain⟨y,hy⟩:=F.reads e he
  have hyE:y∈E:=(hmem y).2 (List.mem_map.2 ⟨e,he,rg_of hy⟩)
  obtain⟨p,hp,hm⟩:=c1 y hyE
  have k1:=rd_key hy
  obtain⟨z,hz,hd⟩:=rd_val hy
  unfold isEnt at hm
  split at hm
  ·rename_i s f
   simp only[Bool.and_eq_true,beq_iff_eq] at hm
   obtain⟨m1,m2⟩:=hm
   obtain⟨s',hs',hl,_⟩:=WideMaps.string_of_keyOf hk k1
   simp only[Lit.string.injEq] at hl
   have hsp:s'=p.1:=ba_ext (by rw[← hl,m1])
   obtain⟨z1,z2⟩:=z
   simp only at hd
   subst hd
   obtain⟨g,hg,hgf⟩:=RF_inv hz
   refine⟨p,hp,by rw[hs',hsp],?_,c4 p hp⟩
   rw[hg,show g=p.2 by omega]
  ·cases hm
 ·obtain⟨y,hy,hm⟩:=c2 p hp
  obtain⟨e,he,hr⟩:=List.mem_map.1 ((hmem y).1 hy)
  obtain⟨y',hy'⟩:=F.reads e he
  have:y'=y:=by rw[← hr,rg_of hy']
  subst this
  have k1:=rd_key hy'
  unfold isEnt at hm
  split at hm
  ·rename_i s f
   simp only[Bool.and_eq_true,beq_iff_eq] at hm
   obtain⟨s',hs',hl,_⟩:=WideMaps.string_of_keyOf hk k1
   simp only[Lit.string.injEq] at hl
   exact⟨e,he,by rw[hs',ba_ext (a:=s') (b:=p.1) (by rw[← hl,hm.1])]⟩
  ·cases hm
 ·have:=c3 p hp q hq
  simp only[Bool.or_eq_true,bne_iff_ne,ne_eq,beq_iff_eq] at this
  rcases this with h|h
  ·exact absurd (by rw[hpq]) h
  ·exact Prod.ext hpq h
def entsD (D:DataW Unit) (ps:List (ByteArray × Nat)):Bool:=match D with
 | .map E=>entsOk E ps
 | _=>false
theorem prim_ents:entsD (putM (.map []) primT) primT=true:=by kernel_rfl
theorem table_ret {P:Program} {f:FuncId} {fn:Func} {t kt et:TypeId} (hca:callable P f=true) (hf:P.funcs[f]? = some fn) (hr:fn.results=#[.tmp 0]) (hn:fn.ntmps=3) (ht:P.underlying t=some (.map kt et)) (hk:P.underlying kt=some .string) {ps:List (ByteArray × Nat)} (hc:tabChk t ps fn.body=true) (hl:ps.length<1000) (he:entsD (putM (.map []) ps) ps=true):Ret P f [] (.mapf ps):=by
 unfold entsD at he
 split at he
 ·rename_i E hE
  have hsz:∀ p∈ps,p.1.size≤LIM:=by
   simp only[entsOk,Bool.and_eq_true,List.all_eq_true,decide_eq_true_eq] at he
   exact he.2
  refine⟨hca,fun w F vs hG hF hr'=>?_⟩
  have hvs:vs=[]:=hr'
  subst hvs
  refine Calls.mono (table_calls hf hr hn ht hk hc hl hsz w) ?_
  rintro e w' ⟨rfl,hown,hbel⟩
  rw[hE] at hown
  have hlt:=hown.lt
  refine⟨_,fun b=>F b∨b=w.heap.size,rfl,Bel.of hbel,fun _ h=>.inl h,fun b hb=>?_,⟨_,rfl,.inr rfl,mapF_of hk hown he⟩⟩
  rcases hb with hb|rfl
  ·have:=hF b hb
   exact⟨by omega,.inl hb⟩
  ·exact⟨hlt,.inr (Nat.le_refl _)⟩
 ·cases he
theorem c_prim_table:Ret prog M.F_prim_table [] (.mapf primT) :=
 table_ret (by kernel_rfl) Tryz.func14 rfl rfl Tryz.underlying37 Tryz.underlying9 (by kernel_rfl) (by decide) prim_ents
end Go.Proofs.YtjipnamfdmllmaaGreatDoor.Pv
namespace Go.Proofs.YtjipnamfdmllmaaGreatDoor.Pv
open Go Go.RowKit
mutual
def bndV:PV→Prop
 | .int k n=>k.min≤n∧n≤k.max
 | .str s=>s.size≤LIM
 | .vec _ _ xs=>xs.length≤LIM∧bndR xs
 | .own _ _ _ len _=>len≤LIM
 | .ref cs=>bndL cs
 | .agg cs=>bndL cs
 | .tup cs=>bndL cs
 | .fn _ a b=>bndL a∧bndL b
 | .iface _ x=>bndV x
 | _=>True
def bndL:List PV→Prop
 | []=>True
 | x::xs=>bndV x∧bndL xs
def bndR:List (List PV)→Prop
 | []=>True
 | r::rs=>bndL r∧bndR rs
end
mutual
theorem RepV.bnd {w:World}:∀ (x:PV) (v:Value) {c:Ctx},RepV w c x v→bndV x
 | .int _ _,_,_,h=>h.2
 | .str _,_,_,h=>h.2
 | .vec e f xs,v,c,h=>by
   obtain⟨a,cap,h1,h2,h3,h4,h5,h6⟩:=h
   refine⟨h4,?_⟩
   rcases h6 with rfl|⟨ad,_,_,_,h⟩
   ·trivial
   ·exact RepRows.bnd xs h
 | .own g e o l f,v,c,h=>by
   obtain⟨_,_,_,a,cap,_,_,_,h4,_⟩:=h
   exact h4
 | .ref cs,v,c,h=>by
   obtain⟨ad,_,_,_,h⟩:=h
   exact RepAt.bnd cs h
 | .agg cs,v,c,h=>by
   obtain⟨vs,_,h,_⟩:=h
   exact RepL.bnd cs _ h
 | .tup cs,v,c,h=>by
   obtain⟨vs,_,h⟩:=h
   exact RepL.bnd cs _ h
 | .fn f a b,v,c,h=>by
   obtain⟨x,y,_,h1,h2⟩:=h
   exact⟨RepL.bnd a _ h1,RepL.bnd b _ h2⟩
 | .iface t x,v,c,h=>by
   obtain⟨u,_,h⟩:=h
   exact RepV.bnd x u h
 | .undef,_,_,_|.bool _,_,_,_|.nilp,_,_,_|.nilf,_,_,_|.nili,_,_,_|.ptr _ _ _ _,_,_,_|.opt _ _,_,_,_|.raw _,_,_,_|.mapf _,_,_,_=>trivial
theorem RepL.bnd {w:World}:∀ (xs:List PV) (vs:List Value) {c:Ctx},RepL w c xs vs→bndL xs
 | [],_,_,_=>trivial
 | x::xs,_,_,h=>by
   obtain⟨u,us,_,h1,h2⟩:=h
   exact⟨RepV.bnd x u h1,RepL.bnd xs us h2⟩
theorem RepAt.bnd {w:World} {b:Nat}:∀ (xs:List PV) {c:Ctx} {o:Nat},RepAt w c b o xs→bndL xs
 | [],_,_,_=>trivial
 | x::xs,_,_,h=>by
   obtain⟨⟨v,_,_,h1⟩,h2⟩:=h
   exact⟨RepV.bnd x v h1,RepAt.bnd xs h2⟩
theorem RepRows.bnd {w:World} {esz b:Nat}:∀ (xs:List (List PV)) {c:Ctx} {o:Nat},RepRows w c esz b o xs→bndR xs
 | [],_,_,_=>trivial
 | r::rs,_,_,h=>⟨RepAt.bnd r h.2.1,RepRows.bnd rs h.2.2⟩
end
def bndS (E:Env) (st:St):Prop:=(∀ t,t<E.nt→bndV (lk t st.s))∧∀ k e,hk k st.h=some e→bndR e.xs
theorem Rel.bnd {E:Env} {st:St} {a:Act} {w:World} (h:Rel E st a w):bndS E st:=by
 obtain⟨c,hg⟩:=h
 refine⟨fun t ht=>?_,fun k e he=>?_⟩
 ·obtain⟨v,_,hr⟩:=hg.tmp ht
  exact RepV.bnd _ _ hr
 ·obtain⟨_,_,h⟩:=hg.heap k e he
  cases hb:c.β k with
  | none=>rw[hb] at h; rw[h.1]; trivial
  | some ad=>rw[hb] at h; exact RepRows.bnd _ h.2.2.1
theorem XLoop.bnd {E:Env} {m:MC} {st:St} {ks:List KF} {Q:Ex→St→Prop} (h:bndS E st→XLoop E m st ks Q):XLoop E m st ks Q:=fun c hm a w hr=>h hr.bnd c hm a w hr
theorem XCut.bnd {E:Env} {m:MC} {st:St} {ks:List KF} {Q:Ex→St→Prop} (h:bndS E st→XCut E m st ks Q):XCut E m st ks Q:=fun c hm a w hr=>h hr.bnd c hm a w hr
theorem Ret.bnd {P:Program} {f:FuncId} {args:List PV} {r:PV} (hc:callable P f=true) (h:bndL args→Ret P f args r):Ret P f args r :=
 ⟨hc,fun w F vs hG hF hr=>(h (RepL.bnd _ _ hr)).2 w F vs hG hF hr⟩
theorem RetO.bnd {P:Program} {f:FuncId} {args:List PV} {esz:Nat} {xs:List (List PV)} (hc:callable P f=true) (h:bndL args→RetO P f args esz xs):RetO P f args esz xs :=
 ⟨hc,fun w F vs hG hF hr=>(h (RepL.bnd _ _ hr)).2 w F vs hG hF hr⟩
theorem mf_callable {P:Program} {f:Nat} {x:MC × Nat × List RV} (h:mfOf P f=some x):callable P f=true:=by
 obtain⟨m,nt,rs⟩:=x
 obtain⟨_,_,_,hc,_⟩:=mfOf_spec h
 exact hc
theorem Ret.go {P:Program} {f nt:Nat} {m:MC} {rs:List RV} {args:List PV} {r:PV} (hmix:P.follows .mixedOrders=true) (hm:mfOf P f=some (m.erase,nt,rs)) (hn:args.length≤nt) (h:bndL args→∀ w0 F0 hG,XC ⟨P,w0,F0,nt,[],0,hG⟩ m (St.init args) [] (retIs rs r)):Ret P f args r :=
 Ret.bnd (mf_callable hm) fun hb=>Ret.of hmix hm hn (h hb)
theorem RetO.go {P:Program} {f nt:Nat} {m:MC} {rs:List RV} {args:List PV} {esz:Nat} {xs:List (List PV)} (hmix:P.follows .mixedOrders=true) (hm:mfOf P f=some (m.erase,nt,rs)) (hn:args.length≤nt) (h:bndL args→∀ w0 F0 hG,XC ⟨P,w0,F0,nt,[],0,hG⟩ m (St.init args) [] (retOwn rs esz xs)):RetO P f args esz xs :=
 RetO.bnd (mf_callable hm) fun hb=>RetO.of hmix hm hn (h hb)
def LS (st st' : St):Prop:=subS (fun k=>hk k st.h) st'.s st.s∧subH (fun k=>hk k st.h) st'.h st.h
theorem LS_mk {s s' : List (Nat × PV)} {h h' : List (Key × Option HE)}:LS ⟨s,h⟩ ⟨s',h'⟩=(subS (fun k=>hk k h) s' s∧subH (fun k=>hk k h) h' h):=propext Iff.rfl
theorem LS.le {E:Env} {st st' : St} (h:LS st st'):Le E st st':=by
 obtain⟨s,h1⟩:=st
 obtain⟨s',h1'⟩:=st'
 exact Le.of h
section
variable {E:Env} {body m:MC} {st st' : St} {ks:List KF} {Q:Ex→St→Prop} {ι:Type} {S:ι→St} {J:ι→Prop} {μ:ι→Nat} {i:ι} {S1:St}
def LR (E:Env) {ι:Type} (S:ι→St) (J:ι→Prop) (μ:ι→Nat) (i:ι) (ks:List KF) (Q:Ex→St→Prop):Ex→St→Prop
 | .normal,st'=>∃ j,J j∧μ j<μ i∧LS st' (S j)
 | e,st'=>XE E e st' ks Q
def CJ (E:Env) {ι:Type} (S:ι→St) (J:ι→Prop) (ks:List KF) (Q:Ex→St→Prop):Ex→St→Prop
 | .normal,st'=>∃ j,J j∧LS st' (S j)
 | e,st'=>XE E e st' ks Q
def CT (E:Env) (S:St) (ks:List KF) (Q:Ex→St→Prop):Ex→St→Prop
 | .normal,st'=>LS st' S
 | e,st'=>XE E e st' ks Q
theorem LR_normal:LR E S J μ i ks Q .normal st'=∃ j,J j∧μ j<μ i∧LS st' (S j):=propext Iff.rfl
theorem LR_exit {id:Nat}:LR E S J μ i ks Q (.exit id) st'=XE E (.exit id) st' ks Q:=propext Iff.rfl
theorem LR_ret:LR E S J μ i ks Q .ret st'=XE E .ret st' ks Q:=propext Iff.rfl
theorem LR_goto {id:Nat}:LR E S J μ i ks Q (.goto id) st'=XE E (.goto id) st' ks Q:=propext Iff.rfl
theorem CJ_normal:CJ E S J ks Q .normal st'=∃ j,J j∧LS st' (S j):=propext Iff.rfl
theorem CJ_exit {id:Nat}:CJ E S J ks Q (.exit id) st'=XE E (.exit id) st' ks Q:=propext Iff.rfl
theorem CJ_ret:CJ E S J ks Q .ret st'=XE E .ret st' ks Q:=propext Iff.rfl
theorem CJ_goto {id:Nat}:CJ E S J ks Q (.goto id) st'=XE E (.goto id) st' ks Q:=propext Iff.rfl
theorem CT_normal:CT E S1 ks Q .normal st'=LS st' S1:=propext Iff.rfl
theorem CT_exit {id:Nat}:CT E S1 ks Q (.exit id) st'=XE E (.exit id) st' ks Q:=propext Iff.rfl
theorem CT_ret:CT E S1 ks Q .ret st'=XE E .ret st' ks Q:=propext Iff.rfl
theorem CT_goto {id:Nat}:CT E S1 ks Q (.goto id) st'=XE E (.goto id) st' ks Q:=propext Iff.rfl
theorem XLoop.go (hmix:E.P.follows .mixedOrders=true) (S:ι→St) (J:ι→Prop) (μ:ι→Nat) (i0:ι) (h0:J i0) (hst:LS st (S i0)) (hr:∀ i,J i→XC E body (S i) [] (LR E S J μ i ks Q)):XLoop E (.loop body) st ks Q:=by
 intro c hm a w hrel
 obtain⟨x,rfl,hm1⟩:=toMC_loop hm
 refine wp_loop_ghost (fun n a w=>∃ i,J i∧μ i=n∧Rel E (S i) a w) (μ i0) ⟨i0,h0,rfl,hst.le a w hrel⟩ ?_
 rintro n a w ⟨i,hJ,rfl,hri⟩
 refine wp_mono (exec_sound hmix x body (S i) a w _ hm1 hri (hr i hJ)) ?_
 rintro e a' w' ⟨ex,st',rfl,hq,hr'⟩
 cases ex with
 | normal =>
   obtain⟨j,h1,h2,h3⟩:=hq
   exact⟨μ j,h2,j,h1,rfl,h3.le a' w' hr'⟩
 | exit id=>exact⟨.exit id,st',rfl,hq,hr'⟩
 | goto l=>exact⟨.goto l,st',rfl,hq,hr'⟩
 | ret=>exact⟨.ret,st',rfl,hq,hr'⟩
def LN (E:Env) {γ:Type} (n:Nat) (S:Nat→γ→St) (J:Nat→γ→Prop) (i:Nat) (ks:List KF) (Q:Ex→St→Prop):Ex→St→Prop
 | .normal,st'=>i<n∧∃ g,J (i+1) g∧LS st' (S (i+1) g)
 | e,st'=>XE E e st' ks Q
section
variable {γ:Type} {n k:Nat} {S' : Nat→γ→St} {J' : Nat→γ→Prop}
theorem LN_normal:LN E n S' J' k ks Q .normal st'=(k<n∧∃ g,J' (k+1) g∧LS st' (S' (k+1) g)):=propext Iff.rfl
theorem LN_exit {id:Nat}:LN E n S' J' k ks Q (.exit id) st'=XE E (.exit id) st' ks Q:=propext Iff.rfl
theorem LN_ret:LN E n S' J' k ks Q .ret st'=XE E .ret st' ks Q:=propext Iff.rfl
theorem LN_goto {id:Nat}:LN E n S' J' k ks Q (.goto id) st'=XE E (.goto id) st' ks Q:=propext Iff.rfl
theorem XLoop.cnt (hmix:E.P.follows .mixedOrders=true) (n:Nat) (S' : Nat→γ→St) (J' : Nat→γ→Prop) (g0:γ) (h0:J' 0 g0) (hst:LS st (S' 0 g0)) (hr:∀ i g,i≤n→J' i g→XC E body (S' i g) [] (LN E n S' J' i ks Q)):XLoop E (.loop body) st ks Q:=by
 intro c hm a w hrel
 obtain⟨x,rfl,hm1⟩:=toMC_loop hm
 refine wp_loop_ghost (fun m a w=>∃ i g,i≤n∧J' i g∧n-i=m∧Rel E (S' i g) a w) n ⟨0,g0,Nat.zero_le _,h0,rfl,hst.le a w hrel⟩ ?_
 rintro m a w ⟨i,g,hi,hJ,rfl,hri⟩
 refine wp_mono (exec_sound hmix x body (S' i g) a w _ hm1 hri (hr i g hi hJ)) ?_
 rintro e a' w' ⟨ex,st',rfl,hq,hr'⟩
 cases ex with
 | normal =>
   obtain⟨hlt,g',h1,h3⟩:=hq
   exact⟨n-(i+1),by omega,i+1,g',hlt,h1,rfl,h3.le a' w' hr'⟩
 | exit id=>exact⟨.exit id,st',rfl,hq,hr'⟩
 | goto l=>exact⟨.goto l,st',rfl,hq,hr'⟩
 | ret=>exact⟨.ret,st',rfl,hq,hr'⟩
end
theorem XCut.one (hmix:E.P.follows .mixedOrders=true) (S:St) (h1:XC E m st [] (CT E S ks Q)) (h2:XE E .normal S ks Q):XCut E m st ks Q:=by
 intro c hm a w hr
 refine wp_mono (exec_sound hmix c m st a w _ hm hr h1) ?_
 rintro e a' w' ⟨ex,st',rfl,hq,hr'⟩
 cases ex with
 | normal=>exact⟨.normal,S,rfl,h2,hq.le a' w' hr'⟩
 | exit id=>exact⟨.exit id,st',rfl,hq,hr'⟩
 | goto l=>exact⟨.goto l,st',rfl,hq,hr'⟩
 | ret=>exact⟨.ret,st',rfl,hq,hr'⟩
theorem XGuard_true {d:Option Nat} {i:MI} {g:Option (Nat × Bool)} {b:Bool} {ms:List MOp}:XGuard E (some true) ⟨d,i,g,b⟩ ms st ks Q=XR E (⟨d,i,none,b⟩::ms) st ks Q:=by simp[XGuard]
theorem XGuard_false {d:Option Nat} {i:MI} {g:Option (Nat × Bool)} {b:Bool} {ms:List MOp}:XGuard E (some false) ⟨d,i,g,b⟩ ms st ks Q=XR E ms (st.skip d) ks Q:=by simp[XGuard]
theorem XGuard_some {gb:Bool} {d:Option Nat} {i:MI} {g:Option (Nat × Bool)} {b:Bool} {ms:List MOp}:XGuard E (some gb) ⟨d,i,g,b⟩ ms st ks Q=((gb=true→XR E (⟨d,i,none,b⟩::ms) st ks Q)∧(gb=false→XR E ms (st.skip d) ks Q)):=propext Iff.rfl
theorem XDGuard_true {un:List (Nat × Nat)} {v:Nat} {acc:List (List Nat × List Nat)} {d:Option Nat} {i:MI} {g:Option (Nat × Bool)} {b:Bool} {ms:List MOp}:XDGuard E un v acc (some true) ⟨d,i,g,b⟩ ms st ks Q=XD E un v acc (⟨d,i,none,b⟩::ms) st ks Q:=by simp[XDGuard]
theorem XDGuard_false {un:List (Nat × Nat)} {v:Nat} {acc:List (List Nat × List Nat)} {d:Option Nat} {i:MI} {g:Option (Nat × Bool)} {b:Bool} {ms:List MOp}:XDGuard E un v acc (some false) ⟨d,i,g,b⟩ ms st ks Q=XD E un v (acc++[([],[])]) ms (st.skip d) ks Q:=by simp[XDGuard]
theorem XDGuard_some {un:List (Nat × Nat)} {v:Nat} {acc:List (List Nat × List Nat)} {gb:Bool} {d:Option Nat} {i:MI} {g:Option (Nat × Bool)} {b:Bool} {ms:List MOp}:XDGuard E un v acc (some gb) ⟨d,i,g,b⟩ ms st ks Q=((gb=true→XD E un v acc (⟨d,i,none,b⟩::ms) st ks Q)∧(gb=false→XD E un v (acc++[([],[])]) ms (st.skip d) ks Q)):=rfl
theorem XCond_true {a b:MC}:XCond E (.bool true) a b st ks Q=XC E a st ks Q:=by simp[XCond_bool]
theorem XCond_false {a b:MC}:XCond E (.bool false) a b st ks Q=XC E b st ks Q:=by simp[XCond_bool]
end
attribute [simp low] XCond_bool XGuard_some XDGuard_some
attribute [simp high] XCond_true XCond_false XGuard_true XGuard_false XDGuard_true XDGuard_false
attribute [simp] XC_skip XC_reg XC_seq XC_cond XC_block XC_loop XC_scope XC_exit XC_goto XC_label XC_ret XC_cut XE_nil XE_sq XE_sq_exit XE_sq_goto XE_sq_ret XE_bk XE_bk_exit XE_bk_goto XE_bk_ret XR_nil XOp_some XOp_none XR_op XR_alloc XR_call XR_dcall XR_nilcmp XR_guard XR_soft XC_draw XD_nil XDOp_some XDOp_none XD_op XD_call XD_dcall XD_guard XD_soft XSoft XDSoft XNil XDyn XDDyn tagsHu okPairs apartL
theorem nilV_false (xs:List (List PV)):nilV false xs=false:=rfl
theorem nilV_nil:nilV true []=true:=rfl
theorem nilV_cons (f:Bool) (x:List PV) (xs:List (List PV)):nilV f (x::xs)=false:=by simp[nilV]
theorem bxOk_refl (b:Bool) (xs:List (List PV)):bxOk b b xs:=.inl rfl
theorem bxOk_true (b:Bool) (xs:List (List PV)):bxOk b true xs:=.inr (.inl rfl)
theorem bxOk_tf (xs:List (List PV)):bxOk true false xs=(kfR xs=true):=by simp[bxOk]
attribute [simp] bxOk_refl bxOk_true bxOk_tf kfV kfL kfR nilV_false nilV_nil nilV_cons
attribute [simp] opSem St.init St.get lk hk St.put St.skip putS MI.allocs binSem retIs retOwn retIn ownIs resAll resOne resOk reify reifyL reify0 reify0L cells mk splice isOne storable fillP fillOk fillR fillROk rowsOf natOf bounds mxOf strip guardC optOk optsOk softGet isRun okOpt MI.isPick MI.ops softOk subS subH leV leL leR leE callOut callOutO keysL keysOf keys0 keys0L okL okV ok0 ok0L LS_mk LN_normal LN_exit LN_ret LN_goto LR_normal LR_exit LR_ret LR_goto CJ_normal CJ_exit CJ_ret CJ_goto CT_normal CT_exit CT_ret CT_goto RQ_normal RQ_exit RQ_ret RQ_goto freezeAll tagsOf scalar scalarL
end Go.Proofs.YtjipnamfdmllmaaGreatDoor.Pv
