/- Part 6. -/
import Derived.Test.YtnlfgnelfooljaaGreatDoorT5
import Derived.Test.YtnlfgnelfooljaaGreatDoorProg
set_option linter.unusedSimpArgs false
set_option linter.unusedVariables false
namespace Go.Proofs.YtnlfgnelfooljaaGreatDoor.Pv.M
open Go
abbrev o (d : Nat) (i : MI) : MOp:=⟨some d,i,none,false⟩
abbrev e (i : MI) : MOp:=⟨none,i,none,false⟩
abbrev g (d t : Nat) (w : Bool) (i : MI) : MOp:=⟨some d,i,some (t,w),false⟩
abbrev gs (d t : Nat) (w : Bool) (i : MI) : MOp:=⟨some d,i,some (t,w),true⟩
abbrev es (t : Nat) (w : Bool) (i : MI) : MOp:=⟨none,i,some (t,w),true⟩
abbrev v (d s : Nat) : MOp:=o d (.mv (.t s))
abbrev l (d s k : Nat) : MOp:=o d (.load (.t s) k true)
abbrev w (d s : Nat) : MOp:=o d (.load (.t s) 1 false)
abbrev f (d s k : Nat) : MOp:=o d (.faddr (.t s) k)
abbrev n (d s : Nat) : MOp:=o d (.len (.t s))
abbrev c (d : Nat) (k : Int) : MOp:=o d (.mv (.k (.int .i64 k)))
abbrev t0 : MO:=.t 0
abbrev t1 : MO:=.t 1
abbrev t2 : MO:=.t 2
abbrev t3 : MO:=.t 3
abbrev t4 : MO:=.t 4
abbrev t5 : MO:=.t 5
abbrev t6 : MO:=.t 6
abbrev t7 : MO:=.t 7
abbrev t8 : MO:=.t 8
abbrev t9 : MO:=.t 9
abbrev t10 : MO:=.t 10
abbrev t11 : MO:=.t 11
abbrev t12 : MO:=.t 12
abbrev t13 : MO:=.t 13
abbrev t14 : MO:=.t 14
abbrev t15 : MO:=.t 15
abbrev t16 : MO:=.t 16
abbrev t17 : MO:=.t 17
abbrev t18 : MO:=.t 18
abbrev t19 : MO:=.t 19
abbrev t20 : MO:=.t 20
abbrev t21 : MO:=.t 21
abbrev t22 : MO:=.t 22
abbrev t23 : MO:=.t 23
abbrev t24 : MO:=.t 24
abbrev t25 : MO:=.t 25
abbrev t26 : MO:=.t 26
abbrev t27 : MO:=.t 27
abbrev t28 : MO:=.t 28
abbrev t29 : MO:=.t 29
abbrev t30 : MO:=.t 30
abbrev t31 : MO:=.t 31
abbrev t32 : MO:=.t 32
abbrev t33 : MO:=.t 33
abbrev t34 : MO:=.t 34
abbrev t35 : MO:=.t 35
abbrev t36 : MO:=.t 36
abbrev t37 : MO:=.t 37
abbrev t38 : MO:=.t 38
abbrev t39 : MO:=.t 39
abbrev t40 : MO:=.t 40
abbrev t41 : MO:=.t 41
abbrev t42 : MO:=.t 42
abbrev t43 : MO:=.t 43
abbrev t44 : MO:=.t 44
abbrev t45 : MO:=.t 45
abbrev t46 : MO:=.t 46
abbrev t47 : MO:=.t 47
abbrev t48 : MO:=.t 48
abbrev t49 : MO:=.t 49
abbrev t50 : MO:=.t 50
abbrev t51 : MO:=.t 51
abbrev t52 : MO:=.t 52
abbrev t53 : MO:=.t 53
abbrev t54 : MO:=.t 54
abbrev t55 : MO:=.t 55
abbrev t56 : MO:=.t 56
abbrev t57 : MO:=.t 57
abbrev t58 : MO:=.t 58
abbrev t59 : MO:=.t 59
abbrev t60 : MO:=.t 60
abbrev t61 : MO:=.t 61
abbrev t62 : MO:=.t 62
abbrev t63 : MO:=.t 63
abbrev t64 : MO:=.t 64
abbrev t65 : MO:=.t 65
abbrev t66 : MO:=.t 66
abbrev t67 : MO:=.t 67
abbrev t68 : MO:=.t 68
abbrev t69 : MO:=.t 69
abbrev t70 : MO:=.t 70
abbrev t71 : MO:=.t 71
abbrev t72 : MO:=.t 72
abbrev t73 : MO:=.t 73
abbrev t74 : MO:=.t 74
abbrev t75 : MO:=.t 75
abbrev t76 : MO:=.t 76
abbrev t77 : MO:=.t 77
abbrev t78 : MO:=.t 78
abbrev t79 : MO:=.t 79
abbrev t80 : MO:=.t 80
abbrev t81 : MO:=.t 81
abbrev t82 : MO:=.t 82
abbrev t83 : MO:=.t 83
abbrev t84 : MO:=.t 84
abbrev t85 : MO:=.t 85
abbrev t86 : MO:=.t 86
abbrev t87 : MO:=.t 87
abbrev t88 : MO:=.t 88
abbrev t89 : MO:=.t 89
abbrev t90 : MO:=.t 90
abbrev t92 : MO:=.t 92
abbrev t93 : MO:=.t 93
abbrev t95 : MO:=.t 95
abbrev t97 : MO:=.t 97
abbrev t98 : MO:=.t 98
abbrev t99 : MO:=.t 99
abbrev t100 : MO:=.t 100
abbrev t102 : MO:=.t 102
abbrev t103 : MO:=.t 103
abbrev t104 : MO:=.t 104
abbrev t105 : MO:=.t 105
abbrev t106 : MO:=.t 106
abbrev t107 : MO:=.t 107
abbrev t108 : MO:=.t 108
abbrev t109 : MO:=.t 109
abbrev t110 : MO:=.t 110
abbrev t112 : MO:=.t 112
abbrev t113 : MO:=.t 113
abbrev t114 : MO:=.t 114
abbrev t115 : MO:=.t 115
abbrev t117 : MO:=.t 117
abbrev t119 : MO:=.t 119
abbrev t127 : MO:=.t 127
abbrev t138 : MO:=.t 138
abbrev t139 : MO:=.t 139
abbrev t146 : MO:=.t 146
abbrev t164 : MO:=.t 164
abbrev t171 : MO:=.t 171
abbrev t173 : MO:=.t 173
abbrev z1 : List PV:=[(.bool false),(.bool false),(.bool false),(.bool false),(.vec 2 true []),(.bool false),(.vec 1 true []),(.vec 11 true []),(.vec 12 true [])]
abbrev z4 : List PV:=[(.vec 1 true []),(.vec 9 true []),(.vec 1 true []),(.bool false),(.bool false),(.bool false),(.bool false),(.vec 2 true []),(.bool false),(.vec 1 true []),(.vec 11 true []),(.vec 12 true [])]
abbrev z3 : List PV:=[(.int .i64 0),(.str ⟨#[]⟩),(.str ⟨#[]⟩),(.vec 5 true []),(.vec 1 true [])]
abbrev z21 : List PV:=[(.int .i64 0),(.str ⟨#[]⟩),(.str ⟨#[]⟩),(.vec 5 true []),(.vec 1 true []),(.vec 5 true [])]
abbrev z22 : List PV:=[(.int .i64 0),(.str ⟨#[]⟩),(.str ⟨#[]⟩),(.vec 5 true []),(.vec 1 true []),(.int .i64 0),(.str ⟨#[]⟩),(.str ⟨#[]⟩),(.vec 5 true []),(.vec 1 true [])]
abbrev z23 : List PV:=[(.int .i64 0),(.str ⟨#[]⟩),(.str ⟨#[]⟩),(.vec 5 true []),(.vec 1 true []),(.int .i64 0),(.str ⟨#[]⟩),(.str ⟨#[]⟩),(.vec 5 true []),(.vec 1 true []),(.bool false)]
abbrev z31 : List PV:=[(.int .u64 0),(.int .u64 0),(.int .u64 0),(.int .u64 0),(.int .u64 0),(.int .u64 0),(.int .u64 0),(.int .u64 0),(.int .u64 0),(.int .u64 0),(.int .u64 0),(.int .u64 0),(.int .u64 0),(.int .u64 0),(.int .u64 0),(.int .u64 0),(.int .u64 0),(.int .u64 0),(.int .u64 0),(.int .u64 0)]
abbrev F_law21_PrimTexts : Nat:=3
abbrev F_law21_lives : Nat:=4
abbrev F_law21_light : Nat:=5
abbrev F_law21_twice : Nat:=6
abbrev F_law21_made : Nat:=7
abbrev F_ref03_Like : Nat:=8
abbrev F_prim_Do : Nat:=9
abbrev F_kit_Fit : Nat:=10
abbrev F_ref03_Formed : Nat:=11
abbrev F_ref03_Weight : Nat:=12
abbrev F_prim_table : Nat:=13
abbrev F_prim_key : Nat:=14
abbrev F_value_Formed : Nat:=15
abbrev F_slices_ContainsFunc_Value : Nat:=16
abbrev F_prim_Do_1 : Nat:=17
abbrev F_prim_Do_2 : Nat:=18
abbrev F_prim_fault : Nat:=19
abbrev F_value_Weight : Nat:=20
abbrev F_value_Twin : Nat:=21
abbrev F_kit_PartsOf : Nat:=22
abbrev F_ref03_Number : Nat:=23
abbrev F_ref03_UTF : Nat:=24
abbrev F_ref03_Rise : Nat:=25
abbrev F_ref03_All : Nat:=26
abbrev F_prim_input_length : Nat:=27
abbrev F_prim_input_bytes : Nat:=28
abbrev F_prim_input_not : Nat:=29
abbrev F_prim_input_keys : Nat:=30
abbrev F_prim_input_has : Nat:=31
abbrev F_prim_input_contains : Nat:=32
abbrev F_prim_input_kind : Nat:=33
abbrev F_prim_input_str : Nat:=34
abbrev F_prim_input_number : Nat:=35
abbrev F_prim_input_json : Nat:=36
abbrev F_prim_input_read : Nat:=37
abbrev F_prim_input_lower : Nat:=38
abbrev F_prim_input_upper : Nat:=39
abbrev F_prim_input_explode : Nat:=40
abbrev F_prim_input_implode : Nat:=41
abbrev F_prim_input_starts : Nat:=42
abbrev F_prim_input_ends : Nat:=43
abbrev F_prim_input_ltrim : Nat:=44
abbrev F_prim_input_rtrim : Nat:=45
abbrev F_prim_input_split : Nat:=46
abbrev F_prim_input_join : Nat:=47
abbrev F_prim_input_indices : Nat:=48
abbrev F_prim_input_reverse : Nat:=49
abbrev F_prim_input_sort : Nat:=50
abbrev F_prim_input_sortBy : Nat:=51
abbrev F_prim_input_groupBy : Nat:=52
abbrev F_prim_input_uniqueBy : Nat:=53
abbrev F_prim_input_minBy : Nat:=54
abbrev F_prim_input_maxBy : Nat:=55
abbrev F_prim_input_least : Nat:=56
abbrev F_prim_input_greatest : Nat:=57
abbrev F_prim_input_unique : Nat:=58
abbrev F_prim_input_add : Nat:=59
abbrev F_prim_input_flatten : Nat:=60
abbrev F_prim_input_transpose : Nat:=61
abbrev F_prim_input_getpath : Nat:=62
abbrev F_prim_input_setpath : Nat:=63
abbrev F_prim_input_delpaths : Nat:=64
abbrev F_prim_input_abs : Nat:=65
abbrev F_prim_input_toarray : Nat:=66
abbrev F_strconv_Itoa : Nat:=67
abbrev F_value_empty : Nat:=68
abbrev F_tens_Formed : Nat:=69
abbrev F_utf_Valid : Nat:=70
abbrev F_value_allFormed : Nat:=71
abbrev F_value_rise : Nat:=72
abbrev F_slices_IndexFunc_Value : Nat:=73
abbrev F_prim_text : Nat:=74
abbrev F_strings_TrimPrefix : Nat:=75
abbrev F_slices_Clone_string : Nat:=76
abbrev F_slices_Clone_Value : Nat:=77
abbrev F_ref03_width : Nat:=78
abbrev F_prim_number : Nat:=79
abbrev F_prim_list : Nat:=83
abbrev F_prim_input_is : Nat:=84
abbrev F_prim_String : Nat:=89
abbrev F_utf_Runes : Nat:=94
abbrev F_prim_runeOf : Nat:=95
abbrev F_utf_Text : Nat:=96
abbrev F_utf_Split : Nat:=100
abbrev F_strings_Join : Nat:=101
abbrev F_slices_Reverse_rune : Nat:=105
abbrev F_slices_Reverse_Value : Nat:=106
abbrev F_prim_input_all : Nat:=116
abbrev F_strings_Builder_WriteString : Nat:=117
abbrev F_strings_Builder_String : Nat:=118
abbrev F_arith_Do : Nat:=119
abbrev F_utf8_ValidString : Nat:=125
abbrev F_value_allFormed_1 : Nat:=126
abbrev F_stringslite_TrimPrefix : Nat:=127
abbrev F_ref03_trail : Nat:=128
abbrev F_writer_Text : Nat:=141
abbrev F_stringslite_HasPrefix : Nat:=150
abbrev F_strings_Split : Nat:=153
abbrev F_prim_input_all_1 : Nat:=162
abbrev F_arith_right : Nat:=164
abbrev F_arith_answer_told : Nat:=165
abbrev F_arith_operations : Nat:=166
abbrev F_arith_right_1 : Nat:=196
abbrev F_arith_pair_add : Nat:=197
abbrev F_arith_pair_sub : Nat:=198
abbrev F_arith_pair_mul : Nat:=199
abbrev F_arith_pair_div : Nat:=200
abbrev F_arith_pair_mod : Nat:=201
abbrev F_arith_pair_eq : Nat:=202
abbrev F_arith_pair_ne : Nat:=203
abbrev F_arith_pair_lt : Nat:=204
abbrev F_arith_pair_le : Nat:=205
abbrev F_arith_pair_gt : Nat:=206
abbrev F_arith_pair_ge : Nat:=207
abbrev F_tens_split : Nat:=221
abbrev F_tens_size : Nat:=222
abbrev F_arith_good : Nat:=242
abbrev F_arith_pair_both : Nat:=243
abbrev F_tens_Add : Nat:=244
abbrev F_arith_number : Nat:=245
abbrev F_arith_text : Nat:=246
abbrev F_slices_Concat_Value : Nat:=247
abbrev F_value_Merge : Nat:=248
abbrev F_arith_bad : Nat:=249
abbrev F_tens_signed : Nat:=290
abbrev F_tens_plus : Nat:=291
abbrev F_tens_minus : Nat:=292
abbrev F_tens_text : Nat:=315
abbrev m_law21_PrimTexts : MC:=(.seq (.reg [o 4 (.mv (.k (.bool false)))]) (.seq (.seq (.reg [o 11 (.call F_law21_lives []),o 12 (.un .not t11)]) (.cond t12 (.seq (.reg [o 4 (.mv (.k (.bool false)))]) .ret) .skip)) (.seq (.reg [v 13 0,o 14 (.build z3 [(0,1,(.k (.int .i64 4))),(2,1,t13)]),o 5 (.alloc z3),e (.store t5 t14 5)]) (.seq (.reg [v 15 1,o 16 (.build z3 [(0,1,(.k (.int .i64 4))),(2,1,t15)]),o 6 (.alloc z3),e (.store t6 t16 5)]) (.seq (.seq (.reg [l 17 5 5,o 18 (.call F_law21_light [t17]),o 19 (.un .not t18),v 20 19,g 21 20 false (.load t6 5 true),g 22 20 false (.call F_law21_light [t21]),g 23 20 false (.un .not t22),o 24 (.pick t20 (.k (.bool true)) t23)]) (.cond t24 (.seq (.reg [o 4 (.mv (.k (.bool true)))]) .ret) .skip)) (.seq (.seq (.reg [l 25 5 5,l 26 5 5,o 27 (.call F_law21_twice [(.k (.str ⟨#[101,120,112,108,111,100,101]⟩)),(.k (.str ⟨#[105,109,112,108,111,100,101]⟩)),t25,t26]),o 28 (.un .not t27),v 29 28,g 30 29 false (.load t5 5 true),g 31 29 false (.load t5 5 true),g 32 29 false (.call F_law21_twice [(.k (.str ⟨#[114,101,118,101,114,115,101]⟩)),(.k (.str ⟨#[114,101,118,101,114,115,101]⟩)),t30,t31]),g 33 29 false (.un .not t32),o 34 (.pick t29 (.k (.bool true)) t33)]) (.cond t34 (.seq (.reg [o 4 (.mv (.k (.bool false)))]) .ret) .skip)) (.seq (.seq (.reg [v 35 1,o 36 (.bin .eql 0 t35 (.k (.str ⟨#[]⟩)))]) (.cond t36 (.seq (.reg [o 4 (.mv (.k (.bool true)))]) .ret) .skip)) (.seq (.reg [l 38 5 5,l 39 6 5,o 40 (.bslice 5 z3 1 [(0,t39)]),o 41 (.call F_law21_made [(.k (.str ⟨#[115,112,108,105,116]⟩)),t38,t40]),v 37 41,o 42 (.ext t37 0),o 43 (.ext t37 1),o 7 (.alloc z3),e (.store t7 t42 5),v 8 43]) (.seq (.reg [l 45 7 5,l 46 6 5,o 47 (.bslice 5 z3 1 [(0,t46)]),o 48 (.call F_law21_made [(.k (.str ⟨#[106,111,105,110]⟩)),t45,t47]),v 44 48,o 49 (.ext t44 0),o 50 (.ext t44 1),o 9 (.alloc z3),e (.store t9 t49 5),v 10 50]) (.seq (.reg [v 51 8,v 52 51,g 53 52 true (.mv t0),g 54 52 true (.bin .eql 0 t53 (.k (.str ⟨#[]⟩))),g 55 52 true (.mv t54),g 56 55 false (.mv t10),g 57 55 false (.mv t56),g 58 57 true (.load t9 5 true),g 59 57 true (.load t5 5 true),g 60 57 true (.call F_ref03_Like [t58,t59]),g 61 55 false (.pick t57 t60 (.k (.bool false))),g 62 52 true (.pick t55 (.k (.bool true)) t61),o 63 (.pick t52 t62 (.k (.bool false))),v 4 63]) .ret))))))))))
abbrev rs_law21_PrimTexts : List RV:=[(.tmp 4)]
abbrev m_law21_lives : MC:=(.seq (.reg [o 0 (.mv (.k (.bool false)))]) (.seq (.reg [o 5 (.build z3 [(0,1,(.k (.int .i64 3))),(1,1,(.k (.str ⟨#[50]⟩)))]),o 6 (.build z3 [(0,1,(.k (.int .i64 3))),(1,1,(.k (.str ⟨#[53]⟩)))]),o 7 (.bslice 5 z3 2 [(0,t5),(1,t6)]),o 8 (.build z3 [(0,1,(.k (.int .i64 5))),(3,1,t7)]),o 9 (.call F_prim_Do [(.k (.str ⟨#[97,100,100]⟩)),t8,(.k (.vec 5 true []))]),v 4 9,o 10 (.ext t4 0),o 11 (.ext t4 1),o 12 (.ext t4 2),o 1 (.alloc z3),o 2 (.alloc z3),e (.store t1 t10 5),e (.store t2 t11 5),v 3 12]) (.seq (.reg [v 13 3,v 14 13,g 15 14 true (.load t1 5 true),g 16 14 true (.build z3 [(0,1,(.k (.int .i64 3))),(1,1,(.k (.str ⟨#[55]⟩)))]),g 17 14 true (.call F_ref03_Like [t15,t16]),o 18 (.pick t14 t17 (.k (.bool false))),v 19 18,g 20 19 true (.load t2 5 true),g 21 19 true (.build z3 []),g 22 19 true (.call F_ref03_Like [t20,t21]),o 23 (.pick t19 t22 (.k (.bool false))),v 0 23]) .ret)))
abbrev rs_law21_lives : List RV:=[(.tmp 0)]
abbrev m_law21_light : MC:=(.seq (.reg [o 1 (.box t0),o 2 (.mv (.k (.bool false)))]) (.seq (.reg [l 3 1 5,o 4 (.bslice 5 z3 1 [(0,t3)]),o 5 (.call F_kit_Fit [t4]),v 6 5,g 7 6 true (.load t1 5 true),g 8 6 true (.call F_ref03_Formed [t7]),o 9 (.pick t6 t8 (.k (.bool false))),v 10 9,g 11 10 true (.load t1 5 true),g 12 10 true (.call F_ref03_Weight [t11]),g 13 10 true (.bin .lss 0 t12 (.k (.int .i64 30000))),o 14 (.pick t10 t13 (.k (.bool false))),v 2 14]) .ret))
abbrev rs_law21_light : List RV:=[(.tmp 2)]
abbrev m_law21_twice : MC:=(.seq (.reg [o 6 (.box t2),o 7 (.box t3),o 8 (.mv (.k (.bool false)))]) (.seq (.reg [v 14 0,l 15 6 5,o 16 (.call F_law21_made [t14,t15,(.k (.vec 5 true []))]),v 13 16,o 17 (.ext t13 0),o 18 (.ext t13 1),o 9 (.alloc z3),e (.store t9 t17 5),v 10 18]) (.seq (.reg [v 20 1,l 21 9 5,o 22 (.call F_law21_made [t20,t21,(.k (.vec 5 true []))]),v 19 22,o 23 (.ext t19 0),o 24 (.ext t19 1),o 11 (.alloc z3),e (.store t11 t23 5),v 12 24]) (.seq (.reg [v 25 10,v 26 25,g 27 26 true (.mv t12),o 28 (.pick t26 t27 (.k (.bool false))),v 29 28,g 30 29 true (.load t11 5 true),g 31 29 true (.load t7 5 true),g 32 29 true (.call F_ref03_Like [t30,t31]),o 33 (.pick t29 t32 (.k (.bool false))),v 8 33]) .ret))))
abbrev rs_law21_twice : List RV:=[(.tmp 8)]
abbrev m_law21_made : MC:=(.seq (.reg [o 4 (.box t1),o 6 (.alloc z3),o 7 (.mv (.k (.bool false)))]) (.seq (.reg [v 12 0,l 13 4 5,v 14 2,o 15 (.call F_prim_Do [t12,t13,t14]),v 11 15,o 16 (.ext t11 0),o 17 (.ext t11 1),o 18 (.ext t11 2),o 8 (.alloc z3),o 9 (.alloc z3),e (.store t8 t16 5),e (.store t9 t17 5),v 10 18]) (.seq (.reg [l 19 8 5,v 20 10,e (.store t6 t19 5),v 7 20]) .ret)))
abbrev rs_law21_made : List RV:=[(.cell 6 26 5 true),(.tmp 7)]
abbrev b_ref03_Like_0 : MC:=(.seq (.seq (.reg [v 44 5,f 45 2 4,w 46 45,n 47 46,o 48 (.bin .lss 0 t44 t47)]) (.cond t48 .skip (.exit 0))) (.seq (.block 1 (.seq (.draw [(0,2),(1,2),(0,5),(1,5),(2,5),(3,5),(4,5),(0,6),(1,6),(2,6),(3,6),(4,6),(0,7),(1,7),(2,7),(3,7),(4,7),(5,7),(6,7),(0,8),(1,8),(2,8),(3,8),(4,8),(0,9),(1,9),(2,9),(3,9),(4,9)] [f 51 2 4,w 52 51,v 53 5,o 54 (.iaddr t52 t53 1),w 55 54,f 56 3 4,w 57 56,v 58 5,o 59 (.iaddr t57 t58 1),w 60 59,o 61 (.bin .neq 0 t55 t60)]) (.cond t61 (.seq (.reg [o 4 (.mv (.k (.bool false)))]) .ret) .skip))) (.reg [v 49 5,o 50 (.bin .add 0 t49 (.k (.int .i64 1))),v 5 50])))
abbrev b_ref03_Like_1 : MC:=(.seq (.seq (.reg [v 62 6,f 63 2 3,w 64 63,n 65 64,o 66 (.bin .lss 0 t62 t65)]) (.cond t66 .skip (.exit 2))) (.seq (.block 3 (.seq (.draw [(0,2),(1,2),(0,5),(1,5),(2,5),(3,5),(4,5),(0,6),(1,6),(2,6),(3,6),(4,6),(0,7),(1,7),(2,7),(3,7),(4,7),(5,7),(6,7),(0,8),(1,8),(2,8),(3,8),(4,8),(0,9),(1,9),(2,9),(3,9),(4,9)] [f 69 2 3,w 70 69,v 71 6,o 72 (.iaddr t70 t71 5),l 73 72 5,f 74 3 3,w 75 74,v 76 6,o 77 (.iaddr t75 t76 5),l 78 77 5,o 79 (.call F_ref03_Like [t73,t78]),o 80 (.un .not t79)]) (.cond t80 (.seq (.reg [o 4 (.mv (.k (.bool false)))]) .ret) .skip))) (.reg [v 67 6,o 68 (.bin .add 0 t67 (.k (.int .i64 1))),v 6 68])))
abbrev t_ref03_Like_0 : MC:=(.seq (.seq (.reg [c 6 0]) (.block 2 (.loop b_ref03_Like_1))) (.seq (.reg [o 4 (.mv (.k (.bool true)))]) .ret))
abbrev m_ref03_Like : MC:=(.seq (.reg [o 2 (.box t0),o 3 (.box t1),o 4 (.mv (.k (.bool false)))]) (.seq (.seq (.reg [f 7 2 0,w 8 7,f 9 3 0,w 10 9,o 11 (.bin .neq 0 t8 t10),v 12 11,gs 13 12 false (.faddr t2 1),gs 14 12 false (.load t13 1 false),gs 15 12 false (.faddr t3 1),gs 16 12 false (.load t15 1 false),gs 17 12 false (.bin .neq 0 t14 t16),o 18 (.pick t12 (.k (.bool true)) t17),v 19 18,gs 20 19 false (.faddr t2 2),gs 21 19 false (.load t20 1 false),gs 22 19 false (.faddr t3 2),gs 23 19 false (.load t22 1 false),gs 24 19 false (.bin .neq 0 t21 t23),o 25 (.pick t19 (.k (.bool true)) t24),v 26 25,gs 27 26 false (.faddr t2 4),gs 28 26 false (.load t27 1 false),gs 29 26 false (.len t28),gs 30 26 false (.faddr t3 4),gs 31 26 false (.load t30 1 false),gs 32 26 false (.len t31),gs 33 26 false (.bin .neq 0 t29 t32),o 34 (.pick t26 (.k (.bool true)) t33),v 35 34,gs 36 35 false (.faddr t2 3),gs 37 35 false (.load t36 1 false),gs 38 35 false (.len t37),gs 39 35 false (.faddr t3 3),gs 40 35 false (.load t39 1 false),gs 41 35 false (.len t40),gs 42 35 false (.bin .neq 0 t38 t41),o 43 (.pick t35 (.k (.bool true)) t42)]) (.cond t43 (.seq (.reg [o 4 (.mv (.k (.bool false)))]) .ret) .skip)) (.seq (.seq (.reg [c 5 0]) (.block 0 (.loop b_ref03_Like_0))) t_ref03_Like_0)))
abbrev rs_ref03_Like : List RV:=[(.tmp 4)]
abbrev c_prim_Do_0 : MC:=(.seq (.reg [l 47 6 5,o 48 (.call F_value_Weight [t47]),o 49 (.bin .gtr 0 t48 (.k (.int .i64 1048576)))]) (.cond t49 (.reg [o 50 (.build [] []),o 51 (.mkif 48 t50),e (.bad)]) .skip))
abbrev t_prim_Do_0 : MC:=(.seq (.reg [l 52 6 5,o 53 (.call F_value_Twin [t52]),o 54 (.build z3 []),e (.store t6 t53 5),e (.store t7 t54 5),e (.store t8 (.k (.bool true)) 1)]) .ret)
abbrev m_prim_Do : MC:=(.seq (.reg [o 4 (.box t1),o 6 (.alloc z3),o 7 (.alloc z3),o 8 (.alloc [(.bool false)])]) (.seq (.reg [o 12 (.call F_prim_table []),v 13 0,v 14 2,n 15 14,o 16 (.call F_prim_key [t13,t15]),o 17 (.look t12 t16),v 11 17,o 18 (.ext t11 0),o 19 (.ext t11 1),v 9 18,v 10 19]) (.seq (.seq (.reg [v 20 10,o 21 (.un .not t20),v 22 21,g 23 22 false (.load t4 5 true),g 24 22 false (.call F_value_Formed [t23]),g 25 22 false (.un .not t24),o 26 (.pick t22 (.k (.bool true)) t25),v 27 26,g 28 27 false (.mv t2),g 29 27 false (.call F_slices_ContainsFunc_Value [t28,(.k (.fn F_prim_Do_1 [] []))]),o 30 (.pick t27 (.k (.bool true)) t29)]) (.cond t30 (.seq (.reg [o 31 (.build z3 []),o 32 (.build z3 []),e (.store t6 t31 5),e (.store t7 t32 5),e (.store t8 (.k (.bool false)) 1)]) .ret) .skip)) (.seq (.reg [o 33 (.mkfn F_prim_Do_2 [] [t6,t7,t8]),e (.bad)]) (.seq (.reg [v 35 9,l 36 4 5,v 37 2,o 38 (.build z21 [(0,5,t36),(5,1,t37)]),o 39 (.dcall t35 [t38]),v 34 39,o 40 (.ext t34 0),o 41 (.ext t34 1),e (.store t6 t40 5),e (.store t8 t41 1)]) (.seq (.seq (.reg [w 42 8,o 43 (.un .not t42)]) (.cond t43 (.seq (.reg [o 44 (.build z3 []),v 45 0,o 46 (.call F_prim_fault [t45]),e (.store t6 t44 5),e (.store t7 t46 5),e (.store t8 (.k (.bool false)) 1)]) .ret) .skip)) (.seq (.cut c_prim_Do_0) t_prim_Do_0)))))))
abbrev rs_prim_Do : List RV:=[(.cell 6 26 5 true),(.cell 7 26 5 true),(.cell 8 4 1 false)]
abbrev b_kit_Fit_0 : MC:=(.seq (.seq (.reg [v 5 4,v 6 0,n 7 6,o 8 (.bin .lss 0 t5 t7)]) (.cond t8 .skip (.exit 0))) (.seq (.block 1 (.seq (.reg [v 11 3,v 12 0,v 13 4,o 14 (.iaddr t12 t13 5),l 15 14 5,v 16 3,o 17 (.bin .sub 0 (.k (.int .i64 20000)) t16),o 18 (.call F_kit_PartsOf [t15,t17]),o 19 (.bin .add 0 t11 t18),v 3 19]) (.seq (.reg [v 20 3,o 21 (.bin .gtr 0 t20 (.k (.int .i64 20000)))]) (.cond t21 (.seq (.reg [o 2 (.mv (.k (.bool false)))]) .ret) .skip)))) (.reg [v 9 4,o 10 (.bin .add 0 t9 (.k (.int .i64 1))),v 4 10])))
abbrev m_kit_Fit : MC:=(.seq (.reg [o 2 (.mv (.k (.bool false)))]) (.seq (.reg [c 3 0]) (.seq (.seq (.reg [c 4 0]) (.block 0 (.loop b_kit_Fit_0))) (.seq (.reg [o 2 (.mv (.k (.bool true)))]) .ret))))
abbrev rs_kit_Fit : List RV:=[(.tmp 2)]
abbrev m_ref03_Formed : MC:=(.seq (.reg [o 1 (.box t0),o 2 (.mv (.k (.bool false)))]) (.seq (.seq (.reg [f 3 1 0,w 4 3,o 5 (.bin .lss 0 t4 (.k (.int .i64 0))),v 6 5,gs 7 6 false (.faddr t1 0),gs 8 6 false (.load t7 1 false),gs 9 6 false (.bin .gtr 0 t8 (.k (.int .i64 6))),o 10 (.pick t6 (.k (.bool true)) t9)]) (.cond t10 (.seq (.reg [o 2 (.mv (.k (.bool false)))]) .ret) .skip)) (.seq (.seq (.reg [f 11 1 0,w 12 11,o 13 (.bin .eql 0 t12 (.k (.int .i64 3))),v 14 13,g 15 14 true (.faddr t1 1),g 16 14 true (.load t15 1 false),g 17 14 true (.call F_ref03_Number [t16]),g 18 14 true (.un .not t17),o 19 (.pick t14 t18 (.k (.bool false))),v 20 19,g 21 20 false (.faddr t1 0),g 22 20 false (.load t21 1 false),g 23 20 false (.bin .neq 0 t22 (.k (.int .i64 3))),g 24 20 false (.mv t23),g 25 24 true (.faddr t1 1),g 26 24 true (.load t25 1 false),g 27 24 true (.bin .neq 0 t26 (.k (.str ⟨#[]⟩))),g 28 20 false (.pick t24 t27 (.k (.bool false))),o 29 (.pick t20 (.k (.bool true)) t28)]) (.cond t29 (.seq (.reg [o 2 (.mv (.k (.bool false)))]) .ret) .skip)) (.seq (.seq (.reg [f 30 1 0,w 31 30,o 32 (.bin .eql 0 t31 (.k (.int .i64 4))),v 33 32,g 34 33 true (.faddr t1 2),g 35 33 true (.load t34 1 false),g 36 33 true (.call F_ref03_UTF [t35]),g 37 33 true (.un .not t36),o 38 (.pick t33 t37 (.k (.bool false))),v 39 38,g 40 39 false (.faddr t1 0),g 41 39 false (.load t40 1 false),g 42 39 false (.bin .neq 0 t41 (.k (.int .i64 4))),g 43 39 false (.mv t42),g 44 43 true (.faddr t1 2),g 45 43 true (.load t44 1 false),g 46 43 true (.bin .neq 0 t45 (.k (.str ⟨#[]⟩))),g 47 39 false (.pick t43 t46 (.k (.bool false))),o 48 (.pick t39 (.k (.bool true)) t47)]) (.cond t48 (.seq (.reg [o 2 (.mv (.k (.bool false)))]) .ret) .skip)) (.seq (.seq (.reg [f 49 1 0,w 50 49,o 51 (.bin .lss 0 t50 (.k (.int .i64 5))),v 52 51,gs 53 52 true (.faddr t1 3),gs 54 52 true (.load t53 1 false),gs 55 52 true (.len t54),gs 56 52 true (.bin .gtr 0 t55 (.k (.int .i64 0))),o 57 (.pick t52 t56 (.k (.bool false))),v 58 57,gs 59 58 false (.faddr t1 0),gs 60 58 false (.load t59 1 false),gs 61 58 false (.bin .lss 0 t60 (.k (.int .i64 6))),gs 62 58 false (.mv t61),gs 63 62 true (.faddr t1 4),gs 64 62 true (.load t63 1 false),gs 65 62 true (.len t64),gs 66 62 true (.bin .gtr 0 t65 (.k (.int .i64 0))),gs 67 58 false (.pick t62 t66 (.k (.bool false))),o 68 (.pick t58 (.k (.bool true)) t67)]) (.cond t68 (.seq (.reg [o 2 (.mv (.k (.bool false)))]) .ret) .skip)) (.seq (.seq (.reg [f 69 1 0,w 70 69,o 71 (.bin .eql 0 t70 (.k (.int .i64 6))),v 72 71,g 73 72 true (.faddr t1 4),g 74 72 true (.load t73 1 false),g 75 72 true (.len t74),g 76 72 true (.faddr t1 3),g 77 72 true (.load t76 1 false),g 78 72 true (.len t77),g 79 72 true (.bin .neq 0 t75 t78),g 80 72 true (.mv t79),g 81 80 false (.faddr t1 4),g 82 80 false (.load t81 1 false),g 83 80 false (.call F_ref03_Rise [t82]),g 84 80 false (.un .not t83),g 85 72 true (.pick t80 (.k (.bool true)) t84),o 86 (.pick t72 t85 (.k (.bool false)))]) (.cond t86 (.seq (.reg [o 2 (.mv (.k (.bool false)))]) .ret) .skip)) (.seq (.reg [f 87 1 3,w 88 87,o 89 (.call F_ref03_All [t88]),v 2 89]) .ret)))))))
abbrev rs_ref03_Formed : List RV:=[(.tmp 2)]
abbrev c_ref03_Weight_0 : MC:=(.seq (.reg [f 13 1 0,w 14 13,o 15 (.bin .eql 0 t14 (.k (.int .i64 3))),v 16 15,g 17 16 true (.faddr t1 1),g 18 16 true (.load t17 1 false),g 19 16 true (.sidx t18 (.k (.int .i64 0))),g 20 16 true (.bin .eql 0 t19 (.k (.int .u8 45))),o 21 (.pick t16 t20 (.k (.bool false)))]) (.cond t21 (.reg [v 22 3,o 23 (.bin .sub 0 t22 (.k (.int .i64 1))),v 3 23]) .skip))
abbrev c_ref03_Weight_1 : MC:=(.seq (.reg [f 39 1 0,w 40 39,o 41 (.bin .eql 0 t40 (.k (.int .i64 6)))]) (.cond t41 (.reg [v 42 3,f 43 1 4,w 44 43,v 45 4,o 46 (.iaddr t44 t45 1),w 47 46,o 48 (.slen t47),o 49 (.bin .add 0 (.k (.int .i64 1)) t48),o 50 (.bin .add 0 t42 t49),v 3 50]) .skip))
abbrev b_ref03_Weight_2 : MC:=(.seq (.seq (.reg [v 24 4,f 25 1 3,w 26 25,n 27 26,o 28 (.bin .lss 0 t24 t27)]) (.cond t28 .skip (.exit 0))) (.seq (.block 1 (.seq (.reg [v 31 3,f 32 1 3,w 33 32,v 34 4,o 35 (.iaddr t33 t34 5),l 36 35 5,o 37 (.call F_ref03_Weight [t36]),o 38 (.bin .add 0 t31 t37),v 3 38]) (.cut c_ref03_Weight_1))) (.reg [v 29 4,o 30 (.bin .add 0 t29 (.k (.int .i64 1))),v 4 30])))
abbrev t_ref03_Weight_0 : MC:=(.seq (.reg [v 51 3,v 2 51]) .ret)
abbrev t_ref03_Weight_1 : MC:=(.seq (.seq (.reg [c 4 0]) (.block 0 (.loop b_ref03_Weight_2))) t_ref03_Weight_0)
abbrev m_ref03_Weight : MC:=(.seq (.reg [o 1 (.box t0),c 2 0]) (.seq (.reg [f 5 1 1,w 6 5,o 7 (.slen t6),o 8 (.bin .add 0 (.k (.int .i64 1)) t7),f 9 1 2,w 10 9,o 11 (.slen t10),o 12 (.bin .add 0 t8 t11),v 3 12]) (.seq (.cut c_ref03_Weight_0) t_ref03_Weight_1)))
abbrev rs_ref03_Weight : List RV:=[(.tmp 2)]
abbrev m_prim_key : MC:=(.seq (.reg [o 4 (.mv (.k (.str ⟨#[]⟩)))]) (.seq (.reg [v 5 0,o 6 (.bin .add 0 t5 (.k (.str ⟨#[47]⟩))),v 7 1,o 8 (.call F_strconv_Itoa [t7]),o 9 (.bin .add 0 t6 t8),v 4 9]) .ret))
abbrev rs_prim_key : List RV:=[(.tmp 4)]
abbrev c_value_Formed_0 : MC:=(.seq (.reg [o 7 (.bin .eql 0 t4 (.k (.int .i64 1))),v 5 7]) (.cond t5 .skip (.reg [o 8 (.bin .eql 0 t4 (.k (.int .i64 2))),v 5 8])))
abbrev c_value_Formed_1 : MC:=(.seq (.reg [o 6 (.bin .eql 0 t4 (.k (.int .i64 0))),v 5 6]) (.cond t5 .skip (.cut c_value_Formed_0)))
abbrev m_value_Formed : MC:=(.seq (.reg [o 1 (.box t0),o 2 (.mv (.k (.bool false)))]) (.seq (.seq (.reg [f 3 1 0,w 4 3]) (.block 0 (.seq (.cut c_value_Formed_1) (.cond t5 (.seq (.reg [l 9 1 5,o 10 (.call F_value_empty [t9,(.k (.bool false)),(.k (.bool false)),(.k (.bool false)),(.k (.bool false))]),v 2 10]) .ret) (.seq (.reg [o 12 (.bin .eql 0 t4 (.k (.int .i64 3))),v 11 12]) (.cond t11 (.seq (.reg [l 13 1 5,o 14 (.call F_value_empty [t13,(.k (.bool true)),(.k (.bool false)),(.k (.bool false)),(.k (.bool false))]),v 15 14,g 16 15 true (.faddr t1 1),g 17 15 true (.load t16 1 false),g 18 15 true (.call F_tens_Formed [t17]),o 19 (.pick t15 t18 (.k (.bool false))),v 2 19]) .ret) (.seq (.reg [o 21 (.bin .eql 0 t4 (.k (.int .i64 4))),v 20 21]) (.cond t20 (.seq (.reg [l 22 1 5,o 23 (.call F_value_empty [t22,(.k (.bool false)),(.k (.bool true)),(.k (.bool false)),(.k (.bool false))]),v 24 23,g 25 24 true (.faddr t1 2),g 26 24 true (.load t25 1 false),g 27 24 true (.call F_utf_Valid [t26]),o 28 (.pick t24 t27 (.k (.bool false))),v 2 28]) .ret) (.seq (.reg [o 30 (.bin .eql 0 t4 (.k (.int .i64 5))),v 29 30]) (.cond t29 (.seq (.reg [l 31 1 5,o 32 (.call F_value_empty [t31,(.k (.bool false)),(.k (.bool false)),(.k (.bool true)),(.k (.bool false))]),v 33 32,g 34 33 true (.faddr t1 3),g 35 33 true (.load t34 1 false),g 36 33 true (.call F_value_allFormed [t35]),o 37 (.pick t33 t36 (.k (.bool false))),v 2 37]) .ret) (.seq (.reg [o 39 (.bin .eql 0 t4 (.k (.int .i64 6))),v 38 39]) (.cond t38 (.seq (.reg [l 40 1 5,o 41 (.call F_value_empty [t40,(.k (.bool false)),(.k (.bool false)),(.k (.bool true)),(.k (.bool true))]),v 42 41,g 43 42 true (.faddr t1 3),g 44 42 true (.load t43 1 false),g 45 42 true (.len t44),g 46 42 true (.faddr t1 4),g 47 42 true (.load t46 1 false),g 48 42 true (.len t47),g 49 42 true (.bin .eql 0 t45 t48),o 50 (.pick t42 t49 (.k (.bool false))),v 51 50,g 52 51 true (.faddr t1 4),g 53 51 true (.load t52 1 false),g 54 51 true (.call F_value_rise [t53]),o 55 (.pick t51 t54 (.k (.bool false))),v 56 55,g 57 56 true (.faddr t1 3),g 58 56 true (.load t57 1 false),g 59 56 true (.call F_value_allFormed [t58]),o 60 (.pick t56 t59 (.k (.bool false))),v 2 60]) .ret) .skip)))))))))))) (.seq (.reg [o 2 (.mv (.k (.bool false)))]) .ret)))
abbrev rs_value_Formed : List RV:=[(.tmp 2)]
abbrev m_slices_ContainsFunc_Value : MC:=(.seq (.reg [o 4 (.mv (.k (.bool false)))]) (.seq (.reg [v 5 0,v 6 1,o 7 (.call F_slices_IndexFunc_Value [t5,t6]),o 8 (.bin .geq 0 t7 (.k (.int .i64 0))),v 4 8]) .ret))
abbrev rs_slices_ContainsFunc_Value : List RV:=[(.tmp 4)]
abbrev m_prim_Do_1 : MC:=(.seq (.reg [o 1 (.box t0),o 2 (.mv (.k (.bool false)))]) (.seq (.reg [l 3 1 5,o 4 (.call F_value_Formed [t3]),o 5 (.un .not t4),v 2 5]) .ret))
abbrev rs_prim_Do_1 : List RV:=[(.tmp 2)]
abbrev b_value_Weight_0 : MC:=(.seq (.reg [o 21 (.bin .lss 0 t20 t19)]) (.seq (.cond t21 .skip (.exit 0)) (.seq (.block 1 (.seq (.reg [o 22 (.iaddr t18 t20 1),w 23 22,v 5 23]) (.reg [v 24 3,v 25 5,o 26 (.slen t25),o 27 (.bin .add 0 (.k (.int .i64 1)) t26),o 28 (.bin .add 0 t24 t27),v 3 28]))) (.reg [o 29 (.bin .add 0 t20 (.k (.int .i64 1))),v 20 29]))))
abbrev b_value_Weight_1 : MC:=(.seq (.reg [o 34 (.bin .lss 0 t33 t32)]) (.seq (.cond t34 .skip (.exit 2)) (.seq (.block 3 (.seq (.reg [o 35 (.iaddr t31 t33 5),l 36 35 5,o 7 (.alloc z3),e (.store t7 t36 5)]) (.reg [v 37 3,l 38 7 5,o 39 (.call F_value_Weight [t38]),o 40 (.bin .add 0 t37 t39),v 3 40]))) (.reg [o 41 (.bin .add 0 t33 (.k (.int .i64 1))),v 33 41]))))
abbrev t_value_Weight_0 : MC:=(.seq (.reg [v 42 3,v 2 42]) .ret)
abbrev t_value_Weight_1 : MC:=(.seq (.seq (.reg [f 30 1 3,w 31 30,n 32 31,c 33 0]) (.block 2 (.loop b_value_Weight_1))) t_value_Weight_0)
abbrev m_value_Weight : MC:=(.seq (.reg [o 1 (.box t0),c 2 0]) (.seq (.draw [(0,5),(1,5),(2,5),(3,5),(4,5),(0,6),(1,6),(2,6),(3,6),(4,6),(0,7),(1,7),(2,7),(3,7),(4,7)] [f 8 1 1,w 9 8,o 10 (.call F_strings_TrimPrefix [t9,(.k (.str ⟨#[45]⟩))]),o 11 (.slen t10),o 12 (.bin .add 0 (.k (.int .i64 1)) t11),f 13 1 2,w 14 13,o 15 (.slen t14),o 16 (.bin .add 0 t12 t15),v 3 16]) (.seq (.seq (.reg [f 17 1 4,w 18 17,n 19 18,c 20 0]) (.block 0 (.loop b_value_Weight_0))) t_value_Weight_1)))
abbrev rs_value_Weight : List RV:=[(.tmp 2)]
abbrev b_value_Twin_0 : MC:=(.seq (.reg [o 16 (.bin .lss 0 t15 t14)]) (.seq (.cond t16 .skip (.exit 0)) (.seq (.block 1 (.seq (.reg [v 17 15,v 3 17]) (.draw [(0,2),(1,2),(0,3),(1,3),(2,3),(0,4),(1,4),(2,4),(0,5),(1,5),(2,5),(3,5),(4,5),(0,6),(1,6),(2,6),(0,7),(1,7),(2,7),(0,8),(1,8),(2,8)] [f 18 1 3,w 19 18,v 20 3,f 21 1 3,w 22 21,v 23 3,o 24 (.iaddr t22 t23 5),l 25 24 5,o 26 (.call F_value_Twin [t25]),o 27 (.iaddr t19 t20 5),e (.store t27 t26 5)]))) (.reg [o 28 (.bin .add 0 t15 (.k (.int .i64 1))),v 15 28]))))
abbrev t_value_Twin_0 : MC:=(.seq (.reg [l 29 1 5,e (.store t2 t29 5)]) .ret)
abbrev m_value_Twin : MC:=(.seq (.reg [o 1 (.box t0),o 2 (.alloc z3)]) (.seq (.reg [f 4 1 4,w 5 4,o 6 (.call F_slices_Clone_string [t5]),f 7 1 4,e (.store t7 t6 1)]) (.seq (.reg [f 8 1 3,w 9 8,o 10 (.call F_slices_Clone_Value [t9]),f 11 1 3,e (.store t11 t10 1)]) (.seq (.seq (.reg [f 12 1 3,w 13 12,n 14 13,c 15 0]) (.block 0 (.loop b_value_Twin_0))) t_value_Twin_0))))
abbrev rs_value_Twin : List RV:=[(.cell 2 26 5 true)]
abbrev b_kit_PartsOf_0 : MC:=(.seq (.seq (.reg [v 7 6,f 8 2 3,w 9 8,n 10 9,o 11 (.bin .lss 0 t7 t10),v 12 11,gs 13 12 true (.mv t5),gs 14 12 true (.mv t1),gs 15 12 true (.bin .leq 0 t13 t14),o 16 (.pick t12 t15 (.k (.bool false)))]) (.cond t16 .skip (.exit 0))) (.seq (.block 1 (.reg [v 19 5,f 20 2 3,w 21 20,v 22 6,o 23 (.iaddr t21 t22 5),l 24 23 5,v 25 1,v 26 5,o 27 (.bin .sub 0 t25 t26),o 28 (.call F_kit_PartsOf [t24,t27]),o 29 (.bin .add 0 t19 t28),v 5 29])) (.reg [v 17 6,o 18 (.bin .add 0 t17 (.k (.int .i64 1))),v 6 18])))
abbrev t_kit_PartsOf_0 : MC:=(.seq (.reg [v 30 5,f 31 2 4,w 32 31,n 33 32,o 34 (.bin .add 0 t30 t33),v 4 34]) .ret)
abbrev m_kit_PartsOf : MC:=(.seq (.reg [o 2 (.box t0),c 4 0]) (.seq (.reg [c 5 1]) (.seq (.seq (.reg [c 6 0]) (.block 0 (.loop b_kit_PartsOf_0))) t_kit_PartsOf_0)))
abbrev rs_kit_PartsOf : List RV:=[(.tmp 4)]
abbrev c_ref03_Number_0 : MC:=(.seq (.reg [v 6 0,o 7 (.slen t6),o 8 (.bin .gtr 0 t7 (.k (.int .i64 0))),v 9 8,g 10 9 true (.mv t0),g 11 9 true (.sidx t10 (.k (.int .i64 0))),g 12 9 true (.bin .eql 0 t11 (.k (.int .u8 45))),o 13 (.pick t9 t12 (.k (.bool false)))]) (.cond t13 (.reg [v 14 0,o 15 (.sslc t14 (some (.k (.int .i64 1))) none),v 3 15]) .skip))
abbrev b_ref03_Number_1 : MC:=(.seq (.seq (.reg [v 16 4,v 17 3,o 18 (.slen t17),o 19 (.bin .lss 0 t16 t18)]) (.cond t19 .skip (.exit 0))) (.seq (.block 1 (.seq (.reg [v 22 3,v 23 4,o 24 (.sidx t22 t23),o 25 (.bin .lss 0 t24 (.k (.int .u8 48))),v 26 25,g 27 26 false (.mv t3),g 28 26 false (.mv t4),g 29 26 false (.sidx t27 t28),g 30 26 false (.bin .gtr 0 t29 (.k (.int .u8 57))),o 31 (.pick t26 (.k (.bool true)) t30)]) (.cond t31 (.seq (.reg [o 2 (.mv (.k (.bool false)))]) .ret) .skip))) (.reg [v 20 4,o 21 (.bin .add 0 t20 (.k (.int .i64 1))),v 4 21])))
abbrev t_ref03_Number_0 : MC:=(.seq (.seq (.reg [v 32 3,o 33 (.slen t32),o 34 (.bin .eql 0 t33 (.k (.int .i64 0))),v 35 34,g 36 35 false (.mv t3),g 37 35 false (.sidx t36 (.k (.int .i64 0))),g 38 35 false (.bin .eql 0 t37 (.k (.int .u8 48))),g 39 35 false (.mv t38),g 40 39 true (.mv t0),g 41 39 true (.bin .neq 0 t40 (.k (.str ⟨#[48]⟩))),g 42 35 false (.pick t39 t41 (.k (.bool false))),o 43 (.pick t35 (.k (.bool true)) t42)]) (.cond t43 (.seq (.reg [o 2 (.mv (.k (.bool false)))]) .ret) .skip)) (.seq (.reg [o 2 (.mv (.k (.bool true)))]) .ret))
abbrev t_ref03_Number_1 : MC:=(.seq (.seq (.reg [c 4 0]) (.block 0 (.loop b_ref03_Number_1))) t_ref03_Number_0)
abbrev m_ref03_Number : MC:=(.seq (.reg [o 2 (.mv (.k (.bool false)))]) (.seq (.reg [v 5 0,v 3 5]) (.seq (.cut c_ref03_Number_0) t_ref03_Number_1)))
abbrev rs_ref03_Number : List RV:=[(.tmp 2)]
abbrev b_ref03_UTF_0 : MC:=(.seq (.seq (.reg [v 5 3,v 6 0,o 7 (.slen t6),o 8 (.bin .lss 0 t5 t7)]) (.cond t8 .skip (.exit 0))) (.block 1 (.seq (.reg [v 9 0,v 10 3,o 11 (.call F_ref03_width [t9,t10]),v 4 11]) (.seq (.seq (.reg [v 12 4,o 13 (.bin .eql 0 t12 (.k (.int .i64 0)))]) (.cond t13 (.seq (.reg [o 2 (.mv (.k (.bool false)))]) .ret) .skip)) (.reg [v 14 3,v 15 4,o 16 (.bin .add 0 t14 t15),v 3 16])))))
abbrev m_ref03_UTF : MC:=(.seq (.reg [o 2 (.mv (.k (.bool false)))]) (.seq (.seq (.reg [c 3 0]) (.block 0 (.loop b_ref03_UTF_0))) (.seq (.reg [o 2 (.mv (.k (.bool true)))]) .ret)))
abbrev rs_ref03_UTF : List RV:=[(.tmp 2)]
abbrev b_ref03_Rise_0 : MC:=(.seq (.seq (.reg [v 4 3,v 5 0,n 6 5,o 7 (.bin .lss 0 t4 t6)]) (.cond t7 .skip (.exit 0))) (.seq (.block 1 (.seq (.seq (.reg [v 10 0,v 11 3,o 12 (.iaddr t10 t11 1),w 13 12,o 14 (.call F_ref03_UTF [t13]),o 15 (.un .not t14)]) (.cond t15 (.seq (.reg [o 2 (.mv (.k (.bool false)))]) .ret) .skip)) (.seq (.draw [(3,4),(3,5),(3,8),(4,8),(5,8),(6,8),(7,8),(3,9),(4,9),(5,9),(6,9),(7,9),(8,9),(3,10),(4,10),(5,10),(6,10),(7,10),(3,11),(4,11),(5,11),(6,11),(7,11)] [v 16 3,o 17 (.bin .gtr 0 t16 (.k (.int .i64 0))),v 18 17,g 19 18 true (.mv t0),g 20 18 true (.mv t3),g 21 18 true (.bin .sub 0 t20 (.k (.int .i64 1))),g 22 18 true (.iaddr t19 t21 1),g 23 18 true (.load t22 1 false),g 24 18 true (.mv t0),g 25 18 true (.mv t3),g 26 18 true (.iaddr t24 t25 1),g 27 18 true (.load t26 1 false),g 28 18 true (.bin .geq 0 t23 t27),o 29 (.pick t18 t28 (.k (.bool false)))]) (.cond t29 (.seq (.reg [o 2 (.mv (.k (.bool false)))]) .ret) .skip)))) (.reg [v 8 3,o 9 (.bin .add 0 t8 (.k (.int .i64 1))),v 3 9])))
abbrev m_ref03_Rise : MC:=(.seq (.reg [o 2 (.mv (.k (.bool false)))]) (.seq (.seq (.reg [c 3 0]) (.block 0 (.loop b_ref03_Rise_0))) (.seq (.reg [o 2 (.mv (.k (.bool true)))]) .ret)))
abbrev rs_ref03_Rise : List RV:=[(.tmp 2)]
abbrev b_ref03_All_0 : MC:=(.seq (.seq (.reg [v 4 3,v 5 0,n 6 5,o 7 (.bin .lss 0 t4 t6)]) (.cond t7 .skip (.exit 0))) (.seq (.block 1 (.seq (.reg [v 10 0,v 11 3,o 12 (.iaddr t10 t11 5),l 13 12 5,o 14 (.call F_ref03_Formed [t13]),o 15 (.un .not t14)]) (.cond t15 (.seq (.reg [o 2 (.mv (.k (.bool false)))]) .ret) .skip))) (.reg [v 8 3,o 9 (.bin .add 0 t8 (.k (.int .i64 1))),v 3 9])))
abbrev m_ref03_All : MC:=(.seq (.reg [o 2 (.mv (.k (.bool false)))]) (.seq (.seq (.reg [c 3 0]) (.block 0 (.loop b_ref03_All_0))) (.seq (.reg [o 2 (.mv (.k (.bool true)))]) .ret)))
abbrev rs_ref03_All : List RV:=[(.tmp 2)]
abbrev b_prim_input_explode_0 : MC:=(.seq (.reg [o 14 (.bin .lss 0 t13 t12)]) (.seq (.cond t14 .skip (.exit 0)) (.seq (.block 1 (.seq (.reg [o 15 (.iaddr t11 t13 1),w 16 15,v 6 16]) (.reg [v 17 4,v 18 6,o 19 (.conv .i64 t18),o 20 (.call F_prim_number [t19]),o 21 (.bslice 5 z3 1 [(0,t20)]),o 22 (.app t17 t21 5),v 4 22]))) (.reg [o 23 (.bin .add 0 t13 (.k (.int .i64 1))),v 13 23]))))
abbrev t_prim_input_explode_0 : MC:=(.seq (.draw [(0,2),(1,2),(0,3),(1,3),(0,4),(1,4),(0,5),(1,5),(2,6),(3,6),(4,6),(5,6)] [v 24 4,o 25 (.call F_prim_list [t24]),f 26 1 0,f 27 26 0,w 28 27,o 29 (.bin .eql 0 t28 (.k (.int .i64 4))),e (.store t2 t25 5),v 3 29]) .ret)
abbrev m_prim_input_explode : MC:=(.seq (.reg [o 1 (.box t0),o 2 (.alloc z3),o 3 (.mv (.k (.bool false)))]) (.seq (.reg [o 7 (.bslice 5 z3 0 []),v 4 7]) (.seq (.seq (.reg [f 8 1 0,f 9 8 2,w 10 9,o 11 (.call F_utf_Runes [t10]),n 12 11,c 13 0]) (.block 0 (.loop b_prim_input_explode_0))) t_prim_input_explode_0)))
abbrev rs_prim_input_explode : List RV:=[(.cell 2 26 5 true),(.tmp 3)]
abbrev b_prim_input_implode_0 : MC:=(.seq (.reg [o 15 (.bin .lss 0 t14 t13)]) (.seq (.cond t15 .skip (.exit 0)) (.seq (.block 1 (.seq (.reg [o 16 (.iaddr t12 t14 5),l 17 16 5,o 6 (.alloc z3),e (.store t6 t17 5)]) (.seq (.reg [l 19 6 5,o 20 (.call F_prim_runeOf [t19]),v 18 20,o 21 (.ext t18 0),o 22 (.ext t18 1),v 7 21,v 8 22]) (.seq (.seq (.reg [v 23 8,o 24 (.un .not t23)]) (.cond t24 (.seq (.reg [o 25 (.build z3 []),e (.store t2 t25 5),o 3 (.mv (.k (.bool false)))]) .ret) .skip)) (.reg [v 26 4,v 27 7,o 28 (.bslice 1 [(.int .i32 0)] 1 [(0,t27)]),o 29 (.app t26 t28 1),v 4 29]))))) (.reg [o 30 (.bin .add 0 t14 (.k (.int .i64 1))),v 14 30]))))
abbrev t_prim_input_implode_0 : MC:=(.seq (.draw [(0,3),(1,3),(2,3),(0,4),(1,4),(2,4),(0,5),(1,5),(2,5),(0,6),(1,6),(2,6),(3,7),(4,7),(5,7),(6,7)] [v 31 4,o 32 (.call F_utf_Text [t31]),o 33 (.call F_prim_text [t32]),f 34 1 0,f 35 34 0,w 36 35,o 37 (.bin .eql 0 t36 (.k (.int .i64 5))),e (.store t2 t33 5),v 3 37]) .ret)
abbrev m_prim_input_implode : MC:=(.seq (.reg [o 1 (.box t0),o 2 (.alloc z3),o 3 (.mv (.k (.bool false)))]) (.seq (.reg [o 9 (.bslice 1 [(.int .i32 0)] 0 []),v 4 9]) (.seq (.seq (.reg [f 10 1 0,f 11 10 3,w 12 11,n 13 12,c 14 0]) (.block 0 (.loop b_prim_input_implode_0))) t_prim_input_implode_0)))
abbrev rs_prim_input_implode : List RV:=[(.cell 2 26 5 true),(.tmp 3)]
abbrev b_prim_input_split_0 : MC:=(.seq (.reg [o 23 (.bin .lss 0 t22 t21)]) (.seq (.cond t23 .skip (.exit 0)) (.seq (.block 1 (.seq (.reg [o 24 (.iaddr t20 t22 1),w 25 24,v 6 25]) (.reg [v 26 4,v 27 6,o 28 (.call F_prim_text [t27]),o 29 (.bslice 5 z3 1 [(0,t28)]),o 30 (.app t26 t29 5),v 4 30]))) (.reg [o 31 (.bin .add 0 t22 (.k (.int .i64 1))),v 22 31]))))
abbrev t_prim_input_split_0 : MC:=(.seq (.reg [v 32 4,o 33 (.call F_prim_list [t32]),e (.store t2 t33 5),o 3 (.mv (.k (.bool true)))]) .ret)
abbrev m_prim_input_split : MC:=(.seq (.reg [o 1 (.box t0),o 2 (.alloc z3),o 3 (.mv (.k (.bool false)))]) (.seq (.seq (.reg [l 7 1 6,o 8 (.call F_prim_input_is [t7,(.k (.int .i64 4)),(.k (.int .i64 4))]),o 9 (.un .not t8)]) (.cond t9 (.seq (.reg [o 10 (.build z3 []),e (.store t2 t10 5),o 3 (.mv (.k (.bool false)))]) .ret) .skip)) (.seq (.reg [o 11 (.bslice 5 z3 0 []),v 4 11]) (.seq (.seq (.draw [(0,3),(1,3),(2,3),(0,4),(1,4),(2,4),(0,5),(1,5),(2,5),(0,6),(1,6),(2,6),(0,7),(1,7),(2,7),(0,10),(1,10),(2,10),(3,10),(4,10),(5,10),(6,10),(7,10),(8,10),(9,10)] [f 12 1 0,f 13 12 2,w 14 13,f 15 1 5,w 16 15,o 17 (.iaddr t16 (.k (.int .i64 0)) 5),f 18 17 2,w 19 18,o 20 (.call F_utf_Split [t14,t19]),n 21 20,c 22 0]) (.block 0 (.loop b_prim_input_split_0))) t_prim_input_split_0))))
abbrev rs_prim_input_split : List RV:=[(.cell 2 26 5 true),(.tmp 3)]
abbrev c_prim_input_join_0 : MC:=(.seq (.reg [o 41 (.bin .eql 0 t37 (.k (.int .i64 5))),v 40 41]) (.cond t40 .skip (.reg [o 42 (.bin .eql 0 t37 (.k (.int .i64 6))),v 40 42])))
abbrev c_prim_input_join_1 : MC:=(.seq (.reg [o 45 (.bin .eql 0 t37 (.k (.int .i64 0))),v 44 45]) (.cond t44 .skip (.reg [l 38 7 5,o 39 (.call F_prim_String [t38]),v 8 39])))
abbrev b_prim_input_join_2 : MC:=(.seq (.reg [o 33 (.bin .lss 0 t32 t31)]) (.seq (.cond t33 .skip (.exit 0)) (.seq (.block 1 (.seq (.reg [o 34 (.iaddr t30 t32 5),l 35 34 5,o 7 (.alloc z3),e (.store t7 t35 5)]) (.seq (.reg [o 8 (.mv (.k (.str ⟨#[]⟩)))]) (.seq (.seq (.reg [f 36 7 0,w 37 36]) (.block 2 (.seq (.cut c_prim_input_join_0) (.cond t40 (.seq (.reg [o 43 (.build z3 []),e (.store t2 t43 5),o 3 (.mv (.k (.bool false)))]) .ret) (.cut c_prim_input_join_1))))) (.seq (.reg [v 46 5,v 47 8,o 48 (.bslice 1 [(.str ⟨#[]⟩)] 1 [(0,t47)]),o 49 (.app t46 t48 1),v 5 49]) (.reg [v 50 4,v 51 8,o 52 (.slen t51),o 53 (.bin .add 0 t50 t52),v 4 53])))))) (.reg [o 54 (.bin .add 0 t32 (.k (.int .i64 1))),v 32 54]))))
abbrev c_prim_input_join_3 : MC:=(.seq (.reg [v 55 4,o 56 (.bin .gtr 0 t55 (.k (.int .i64 1048576)))]) (.cond t56 (.reg [o 57 (.build [] []),o 58 (.mkif 48 t57),e (.bad)]) .skip))
abbrev t_prim_input_join_0 : MC:=(.seq (.reg [v 59 5,f 60 1 5,w 61 60,o 62 (.iaddr t61 (.k (.int .i64 0)) 5),f 63 62 2,w 64 63,o 65 (.call F_strings_Join [t59,t64]),o 66 (.call F_prim_text [t65]),e (.store t2 t66 5),o 3 (.mv (.k (.bool true)))]) .ret)
abbrev t_prim_input_join_1 : MC:=(.seq (.cut c_prim_input_join_3) t_prim_input_join_0)
abbrev m_prim_input_join : MC:=(.seq (.reg [o 1 (.box t0),o 2 (.alloc z3),o 3 (.mv (.k (.bool false)))]) (.seq (.seq (.reg [l 9 1 6,o 10 (.call F_prim_input_is [t9,(.k (.int .i64 5)),(.k (.int .i64 4))]),o 11 (.un .not t10)]) (.cond t11 (.seq (.reg [o 12 (.build z3 []),e (.store t2 t12 5),o 3 (.mv (.k (.bool false)))]) .ret) .skip)) (.seq (.draw [(0,6),(1,6),(2,6),(3,6),(4,6),(5,6),(0,7),(1,7),(2,7),(3,7),(4,7),(5,7),(0,8),(1,8),(2,8),(3,8),(4,8),(5,8),(0,9),(1,9),(2,9),(3,9),(4,9),(5,9),(0,10),(1,10),(2,10),(3,10),(4,10),(5,10),(0,11),(1,11),(2,11),(3,11),(4,11),(5,11)] [f 13 1 0,f 14 13 3,w 15 14,n 16 15,o 17 (.bin .sub 0 t16 (.k (.int .i64 1))),o 18 (.minmax true t17 (.k (.int .i64 0))),f 19 1 5,w 20 19,o 21 (.iaddr t20 (.k (.int .i64 0)) 5),f 22 21 2,w 23 22,o 24 (.slen t23),o 25 (.bin .mul 0 t18 t24),o 26 (.bin .add 0 (.k (.int .i64 1)) t25),v 4 26]) (.seq (.reg [o 27 (.bslice 1 [(.str ⟨#[]⟩)] 0 []),v 5 27]) (.seq (.seq (.reg [f 28 1 0,f 29 28 3,w 30 29,n 31 30,c 32 0]) (.block 0 (.loop b_prim_input_join_2))) t_prim_input_join_1)))))
abbrev rs_prim_input_join : List RV:=[(.cell 2 26 5 true),(.tmp 3)]
abbrev m_prim_input_reverse : MC:=(.seq (.reg [o 1 (.box t0),o 2 (.alloc z3),o 3 (.mv (.k (.bool false)))]) (.seq (.seq (.reg [f 6 1 0,f 7 6 0,w 8 7]) (.block 0 (.seq (.reg [o 10 (.bin .eql 0 t8 (.k (.int .i64 0))),v 9 10]) (.cond t9 (.seq (.reg [o 11 (.call F_prim_list [(.k (.vec 5 true []))]),e (.store t2 t11 5),o 3 (.mv (.k (.bool true)))]) .ret) (.seq (.reg [o 13 (.bin .eql 0 t8 (.k (.int .i64 4))),v 12 13]) (.cond t12 (.seq (.reg [f 14 1 0,f 15 14 2,w 16 15,o 17 (.call F_utf_Runes [t16]),v 4 17]) (.seq (.reg [v 18 4,o 19 (.call F_slices_Reverse_rune [t18])]) (.seq (.reg [v 20 4,o 21 (.call F_utf_Text [t20]),o 22 (.call F_prim_text [t21]),e (.store t2 t22 5),o 3 (.mv (.k (.bool true)))]) .ret))) (.seq (.reg [o 24 (.bin .eql 0 t8 (.k (.int .i64 5))),v 23 24]) (.cond t23 (.seq (.reg [f 25 1 0,f 26 25 3,w 27 26,o 28 (.call F_slices_Clone_Value [t27]),v 5 28]) (.seq (.reg [v 29 5,o 30 (.call F_slices_Reverse_Value [t29])]) (.seq (.reg [v 31 5,o 32 (.call F_prim_list [t31]),e (.store t2 t32 5),o 3 (.mv (.k (.bool true)))]) .ret))) .skip)))))))) (.seq (.reg [o 33 (.build z3 []),e (.store t2 t33 5),o 3 (.mv (.k (.bool false)))]) .ret)))
abbrev rs_prim_input_reverse : List RV:=[(.cell 2 26 5 true),(.tmp 3)]
abbrev b_prim_input_add_0 : MC:=(.seq (.reg [o 44 (.bin .lss 0 t43 t42)]) (.seq (.cond t44 .skip (.exit 1)) (.seq (.block 2 (.seq (.reg [o 45 (.iaddr t41 t43 5),l 46 45 5,o 6 (.alloc z3),e (.store t6 t46 5)]) (.reg [f 47 6 2,w 48 47,o 49 (.call F_strings_Builder_WriteString [t4,t48])]))) (.reg [o 50 (.bin .add 0 t43 (.k (.int .i64 1))),v 43 50]))))
abbrev t_prim_input_add_0 : MC:=(.seq (.reg [o 51 (.call F_strings_Builder_String [t4]),o 52 (.call F_prim_text [t51]),e (.store t2 t52 5),o 3 (.mv (.k (.bool true)))]) .ret)
abbrev b_prim_input_add_1 : MC:=(.seq (.reg [o 69 (.bin .lss 0 t68 t67)]) (.seq (.cond t69 .skip (.exit 3)) (.seq (.block 4 (.seq (.reg [o 70 (.iaddr t66 t68 5),l 71 70 5,o 9 (.alloc z3),e (.store t9 t71 5)]) (.reg [v 72 7,f 73 9 3,w 74 73,o 75 (.app t72 t74 5),v 7 75]))) (.reg [o 76 (.bin .add 0 t68 (.k (.int .i64 1))),v 68 76]))))
abbrev t_prim_input_add_1 : MC:=(.seq (.reg [v 77 7,o 78 (.call F_prim_list [t77]),e (.store t2 t78 5),o 3 (.mv (.k (.bool true)))]) .ret)
abbrev c_prim_input_add_2 : MC:=(.seq (.reg [v 95 15,o 96 (.un .not t95),v 97 96,g 98 97 true (.faddr t14 0),g 99 97 true (.load t98 1 false),g 100 97 true (.bin .eql 0 t99 (.k (.int .i64 0))),o 101 (.pick t97 t100 (.k (.bool false))),v 102 101,g 103 102 false (.mv t15),g 104 102 false (.mv t103),g 105 104 true (.load t13 5 true),g 106 104 true (.call F_value_Weight [t105]),g 107 104 true (.bin .gtr 0 t106 (.k (.int .i64 1048576))),g 108 102 false (.pick t104 t107 (.k (.bool false))),o 109 (.pick t102 (.k (.bool true)) t108)]) (.cond t109 (.reg [o 110 (.build [] []),o 111 (.mkif 48 t110),e (.bad)]) .skip))
abbrev t_prim_input_add_2 : MC:=(.seq (.seq (.reg [v 112 15,o 113 (.un .not t112)]) (.cond t113 (.seq (.reg [o 114 (.build z3 []),e (.store t2 t114 5),o 3 (.mv (.k (.bool false)))]) .ret) .skip)) (.reg [l 115 13 5,e (.store t10 t115 5)]))
abbrev b_prim_input_add_3 : MC:=(.seq (.reg [o 85 (.bin .lss 0 t84 t83)]) (.seq (.cond t85 .skip (.exit 5)) (.seq (.block 6 (.seq (.reg [o 86 (.iaddr t82 t84 5),l 87 86 5,o 12 (.alloc z3),e (.store t12 t87 5)]) (.seq (.reg [l 89 10 5,l 90 12 5,o 91 (.call F_arith_Do [(.k (.int .i64 14)),t89,t90]),v 88 91,o 92 (.ext t88 0),o 93 (.ext t88 1),o 94 (.ext t88 2),o 13 (.alloc z3),o 14 (.alloc z3),e (.store t13 t92 5),e (.store t14 t93 5),v 15 94]) (.seq (.cut c_prim_input_add_2) t_prim_input_add_2)))) (.reg [o 116 (.bin .add 0 t84 (.k (.int .i64 1))),v 84 116]))))
abbrev t_prim_input_add_3 : MC:=(.seq (.reg [l 117 10 5,e (.store t2 t117 5),o 3 (.mv (.k (.bool true)))]) .ret)
abbrev m_prim_input_add : MC:=(.seq (.reg [o 1 (.box t0),o 2 (.alloc z3),o 3 (.mv (.k (.bool false)))]) (.seq (.block 0 (.seq (.reg [f 17 1 0,f 18 17 0,w 19 18,o 20 (.bin .eql 0 t19 (.k (.int .i64 0))),v 16 20]) (.cond t16 (.seq (.reg [o 21 (.build z3 []),e (.store t2 t21 5),o 3 (.mv (.k (.bool true)))]) .ret) (.seq (.reg [f 23 1 0,f 24 23 0,w 25 24,o 26 (.bin .neq 0 t25 (.k (.int .i64 5))),v 22 26]) (.cond t22 (.seq (.reg [o 27 (.build z3 []),e (.store t2 t27 5),o 3 (.mv (.k (.bool false)))]) .ret) (.seq (.reg [f 29 1 0,f 30 29 3,w 31 30,n 32 31,o 33 (.bin .gtr 0 t32 (.k (.int .i64 0))),v 34 33,g 35 34 true (.load t1 6 true),g 36 34 true (.call F_prim_input_all [t35,(.k (.int .i64 4))]),o 37 (.pick t34 t36 (.k (.bool false))),v 28 37]) (.cond t28 (.seq (.reg [o 38 (.build [.nilp,(.vec 1 true [])] []),o 4 (.alloc [.nilp,(.vec 1 true [])]),e (.store t4 t38 2)]) (.seq (.seq (.reg [f 39 1 0,f 40 39 3,w 41 40,n 42 41,c 43 0]) (.block 1 (.loop b_prim_input_add_0))) t_prim_input_add_0)) (.seq (.reg [f 54 1 0,f 55 54 3,w 56 55,n 57 56,o 58 (.bin .gtr 0 t57 (.k (.int .i64 0))),v 59 58,g 60 59 true (.load t1 6 true),g 61 59 true (.call F_prim_input_all [t60,(.k (.int .i64 5))]),o 62 (.pick t59 t61 (.k (.bool false))),v 53 62]) (.cond t53 (.seq (.reg [o 63 (.bslice 5 z3 0 []),v 7 63]) (.seq (.seq (.reg [f 64 1 0,f 65 64 3,w 66 65,n 67 66,c 68 0]) (.block 3 (.loop b_prim_input_add_1))) t_prim_input_add_1)) .skip))))))))) (.seq (.reg [o 79 (.build z3 []),o 10 (.alloc z3),e (.store t10 t79 5)]) (.seq (.seq (.reg [f 80 1 0,f 81 80 3,w 82 81,n 83 82,c 84 0]) (.block 5 (.loop b_prim_input_add_3))) t_prim_input_add_3))))
abbrev rs_prim_input_add : List RV:=[(.cell 2 26 5 true),(.tmp 3)]
abbrev m_value_empty : MC:=(.seq (.reg [o 5 (.box t0),o 10 (.mv (.k (.bool false)))]) (.seq (.reg [v 11 1,v 12 11,gs 13 12 false (.faddr t5 1),gs 14 12 false (.load t13 1 false),gs 15 12 false (.bin .eql 0 t14 (.k (.str ⟨#[]⟩))),o 16 (.pick t12 (.k (.bool true)) t15),v 17 16,gs 18 17 true (.mv t2),gs 19 17 true (.mv t18),gs 20 19 false (.faddr t5 2),gs 21 19 false (.load t20 1 false),gs 22 19 false (.bin .eql 0 t21 (.k (.str ⟨#[]⟩))),gs 23 17 true (.pick t19 (.k (.bool true)) t22),o 24 (.pick t17 t23 (.k (.bool false))),v 25 24,gs 26 25 true (.mv t3),gs 27 25 true (.mv t26),gs 28 27 false (.faddr t5 3),gs 29 27 false (.load t28 1 false),gs 30 27 false (.len t29),gs 31 27 false (.bin .eql 0 t30 (.k (.int .i64 0))),gs 32 25 true (.pick t27 (.k (.bool true)) t31),o 33 (.pick t25 t32 (.k (.bool false))),v 34 33,gs 35 34 true (.mv t4),gs 36 34 true (.mv t35),gs 37 36 false (.faddr t5 4),gs 38 36 false (.load t37 1 false),gs 39 36 false (.len t38),gs 40 36 false (.bin .eql 0 t39 (.k (.int .i64 0))),gs 41 34 true (.pick t36 (.k (.bool true)) t40),o 42 (.pick t34 t41 (.k (.bool false))),v 10 42]) .ret))
abbrev rs_value_empty : List RV:=[(.tmp 10)]
abbrev c_tens_Formed_0 : MC:=(.seq (.reg [v 6 0,o 7 (.bin .neq 0 t6 (.k (.str ⟨#[]⟩))),v 8 7,g 9 8 true (.mv t0),g 10 8 true (.sidx t9 (.k (.int .i64 0))),g 11 8 true (.bin .eql 0 t10 (.k (.int .u8 45))),o 12 (.pick t8 t11 (.k (.bool false)))]) (.cond t12 (.reg [v 13 0,o 14 (.sslc t13 (some (.k (.int .i64 1))) none),v 0 14]) .skip))
abbrev b_tens_Formed_1 : MC:=(.seq (.reg [o 25 (.bin .lss 0 t24 t23)]) (.seq (.cond t25 .skip (.exit 0)) (.seq (.block 1 (.seq (.reg [v 26 24,v 3 26]) (.seq (.reg [v 27 0,v 28 3,o 29 (.sidx t27 t28),o 30 (.bin .lss 0 t29 (.k (.int .u8 48))),v 31 30,g 32 31 false (.mv t0),g 33 31 false (.mv t3),g 34 31 false (.sidx t32 t33),g 35 31 false (.bin .gtr 0 t34 (.k (.int .u8 57))),o 36 (.pick t31 (.k (.bool true)) t35)]) (.cond t36 (.seq (.reg [o 2 (.mv (.k (.bool false)))]) .ret) .skip)))) (.reg [o 37 (.bin .add 0 t24 (.k (.int .i64 1))),v 24 37]))))
abbrev t_tens_Formed_0 : MC:=(.seq (.seq (.reg [v 15 0,o 16 (.bin .eql 0 t15 (.k (.str ⟨#[]⟩))),v 17 16,g 18 17 false (.mv t0),g 19 17 false (.sidx t18 (.k (.int .i64 0))),g 20 17 false (.bin .eql 0 t19 (.k (.int .u8 48))),o 21 (.pick t17 (.k (.bool true)) t20)]) (.cond t21 (.seq (.reg [o 2 (.mv (.k (.bool false)))]) .ret) .skip)) (.seq (.seq (.reg [v 22 0,o 23 (.slen t22),c 24 0]) (.block 0 (.loop b_tens_Formed_1))) (.seq (.reg [o 2 (.mv (.k (.bool true)))]) .ret)))
abbrev m_tens_Formed : MC:=(.seq (.reg [o 2 (.mv (.k (.bool false)))]) (.seq (.seq (.reg [v 4 0,o 5 (.bin .eql 0 t4 (.k (.str ⟨#[48]⟩)))]) (.cond t5 (.seq (.reg [o 2 (.mv (.k (.bool true)))]) .ret) .skip)) (.seq (.cut c_tens_Formed_0) t_tens_Formed_0)))
abbrev rs_tens_Formed : List RV:=[(.tmp 2)]
abbrev m_utf_Valid : MC:=(.seq (.reg [o 2 (.mv (.k (.bool false)))]) (.seq (.reg [v 3 0,o 4 (.call F_utf8_ValidString [t3]),v 2 4]) .ret))
abbrev rs_utf_Valid : List RV:=[(.tmp 2)]
abbrev m_value_allFormed : MC:=(.seq (.reg [o 2 (.mv (.k (.bool false)))]) (.seq (.reg [v 3 0,o 4 (.call F_slices_ContainsFunc_Value [t3,(.k (.fn F_value_allFormed_1 [] []))]),o 5 (.un .not t4),v 2 5]) .ret))
abbrev rs_value_allFormed : List RV:=[(.tmp 2)]
abbrev b_value_rise_0 : MC:=(.seq (.reg [o 8 (.bin .lss 0 t7 t6)]) (.seq (.cond t8 .skip (.exit 0)) (.seq (.block 1 (.seq (.reg [v 9 7,o 10 (.iaddr t5 t7 1),w 11 10,v 3 9,v 4 11]) (.seq (.reg [v 12 4,o 13 (.call F_utf_Valid [t12]),o 14 (.un .not t13),v 15 14,g 16 15 false (.mv t3),g 17 15 false (.bin .gtr 0 t16 (.k (.int .i64 0))),g 18 15 false (.mv t17),g 19 18 true (.mv t0),g 20 18 true (.mv t3),g 21 18 true (.bin .sub 0 t20 (.k (.int .i64 1))),g 22 18 true (.iaddr t19 t21 1),g 23 18 true (.load t22 1 false),g 24 18 true (.mv t4),g 25 18 true (.bin .geq 0 t23 t24),g 26 15 false (.pick t18 t25 (.k (.bool false))),o 27 (.pick t15 (.k (.bool true)) t26)]) (.cond t27 (.seq (.reg [o 2 (.mv (.k (.bool false)))]) .ret) .skip)))) (.reg [o 28 (.bin .add 0 t7 (.k (.int .i64 1))),v 7 28]))))
abbrev m_value_rise : MC:=(.seq (.reg [o 2 (.mv (.k (.bool false)))]) (.seq (.seq (.reg [v 5 0,n 6 5,c 7 0]) (.block 0 (.loop b_value_rise_0))) (.seq (.reg [o 2 (.mv (.k (.bool true)))]) .ret)))
abbrev rs_value_rise : List RV:=[(.tmp 2)]
abbrev b_slices_IndexFunc_Value_0 : MC:=(.seq (.reg [o 9 (.bin .lss 0 t8 t7)]) (.seq (.cond t9 .skip (.exit 0)) (.seq (.block 1 (.seq (.reg [v 10 8,v 5 10]) (.seq (.reg [v 11 1,v 12 0,v 13 5,o 14 (.iaddr t12 t13 5),l 15 14 5,o 16 (.dcall t11 [t15])]) (.cond t16 (.seq (.reg [v 17 5,v 4 17]) .ret) .skip)))) (.reg [o 18 (.bin .add 0 t8 (.k (.int .i64 1))),v 8 18]))))
abbrev m_slices_IndexFunc_Value : MC:=(.seq (.reg [c 4 0]) (.seq (.seq (.reg [v 6 0,n 7 6,c 8 0]) (.block 0 (.loop b_slices_IndexFunc_Value_0))) (.seq (.reg [o 4 (.mv (.k (.int .i64 (-1))))]) .ret)))
abbrev rs_slices_IndexFunc_Value : List RV:=[(.tmp 4)]
abbrev m_prim_text : MC:=(.seq (.reg [o 2 (.alloc z3)]) (.seq (.reg [v 3 0,o 4 (.build z3 [(0,1,(.k (.int .i64 4))),(2,1,t3)]),e (.store t2 t4 5)]) .ret))
abbrev rs_prim_text : List RV:=[(.cell 2 26 5 true)]
abbrev m_strings_TrimPrefix : MC:=(.seq (.reg [o 4 (.mv (.k (.str ⟨#[]⟩)))]) (.seq (.reg [v 5 0,v 6 1,o 7 (.call F_stringslite_TrimPrefix [t5,t6]),v 4 7]) .ret))
abbrev rs_strings_TrimPrefix : List RV:=[(.tmp 4)]
abbrev m_slices_Clone_string : MC:=(.seq (.reg [o 2 (.mv (.k (.vec 1 true [])))]) (.seq (.seq (.reg [v 3 0,o 4 (.nilcmp false t3)]) (.cond t4 (.seq (.reg [o 2 (.mv (.k (.vec 1 true [])))]) .ret) .skip)) (.seq (.reg [o 5 (.bslice 1 [(.str ⟨#[]⟩)] 0 []),v 6 0,o 7 (.app t5 t6 1),v 2 7]) .ret)))
abbrev rs_slices_Clone_string : List RV:=[(.tmp 2)]
abbrev m_slices_Clone_Value : MC:=(.seq (.reg [o 2 (.mv (.k (.vec 5 true [])))]) (.seq (.seq (.reg [v 3 0,o 4 (.nilcmp false t3)]) (.cond t4 (.seq (.reg [o 2 (.mv (.k (.vec 5 true [])))]) .ret) .skip)) (.seq (.reg [o 5 (.bslice 5 z3 0 []),v 6 0,o 7 (.app t5 t6 5),v 2 7]) .ret)))
abbrev rs_slices_Clone_Value : List RV:=[(.tmp 2)]
abbrev c_ref03_width_0 : MC:=(.seq (.reg [v 25 5,o 26 (.bin .eql 0 t25 (.k (.int .u8 224)))]) (.cond t26 (.reg [o 6 (.mv (.k (.int .u8 160)))]) .skip))
abbrev c_ref03_width_1 : MC:=(.seq (.reg [v 27 5,o 28 (.bin .eql 0 t27 (.k (.int .u8 237)))]) (.cond t28 (.reg [o 7 (.mv (.k (.int .u8 159)))]) .skip))
abbrev c_ref03_width_2 : MC:=(.seq (.reg [v 29 5,o 30 (.bin .eql 0 t29 (.k (.int .u8 240)))]) (.cond t30 (.reg [o 6 (.mv (.k (.int .u8 144)))]) .skip))
abbrev c_ref03_width_3 : MC:=(.seq (.reg [v 31 5,o 32 (.bin .eql 0 t31 (.k (.int .u8 244)))]) (.cond t32 (.reg [o 7 (.mv (.k (.int .u8 143)))]) .skip))
abbrev t_ref03_width_0 : MC:=(.seq (.seq (.reg [v 33 5,o 34 (.bin .geq 0 t33 (.k (.int .u8 224))),v 35 34,g 36 35 true (.mv t5),g 37 35 true (.bin .leq 0 t36 (.k (.int .u8 239))),o 38 (.pick t35 t37 (.k (.bool false))),v 39 38,g 40 39 true (.mv t0),g 41 39 true (.mv t1),g 42 39 true (.bin .add 0 t41 (.k (.int .i64 1))),g 43 39 true (.mv t6),g 44 39 true (.mv t7),g 45 39 true (.call F_ref03_trail [t40,t42,(.k (.int .i64 2)),t43,t44]),o 46 (.pick t39 t45 (.k (.bool false)))]) (.cond t46 (.seq (.reg [c 4 3]) .ret) .skip)) (.seq (.seq (.reg [v 47 5,o 48 (.bin .geq 0 t47 (.k (.int .u8 240))),v 49 48,g 50 49 true (.mv t5),g 51 49 true (.bin .leq 0 t50 (.k (.int .u8 244))),o 52 (.pick t49 t51 (.k (.bool false))),v 53 52,g 54 53 true (.mv t0),g 55 53 true (.mv t1),g 56 53 true (.bin .add 0 t55 (.k (.int .i64 1))),g 57 53 true (.mv t6),g 58 53 true (.mv t7),g 59 53 true (.call F_ref03_trail [t54,t56,(.k (.int .i64 3)),t57,t58]),o 60 (.pick t53 t59 (.k (.bool false)))]) (.cond t60 (.seq (.reg [c 4 4]) .ret) .skip)) (.seq (.reg [c 4 0]) .ret)))
abbrev t_ref03_width_1 : MC:=(.seq (.cut c_ref03_width_3) t_ref03_width_0)
abbrev t_ref03_width_2 : MC:=(.seq (.cut c_ref03_width_2) t_ref03_width_1)
abbrev t_ref03_width_3 : MC:=(.seq (.cut c_ref03_width_1) t_ref03_width_2)
abbrev m_ref03_width : MC:=(.seq (.reg [c 4 0]) (.seq (.reg [v 8 0,v 9 1,o 10 (.sidx t8 t9),v 5 10]) (.seq (.seq (.reg [v 11 5,o 12 (.bin .lss 0 t11 (.k (.int .u8 128)))]) (.cond t12 (.seq (.reg [c 4 1]) .ret) .skip)) (.seq (.seq (.reg [v 13 5,o 14 (.bin .geq 0 t13 (.k (.int .u8 194))),v 15 14,g 16 15 true (.mv t5),g 17 15 true (.bin .leq 0 t16 (.k (.int .u8 223))),o 18 (.pick t15 t17 (.k (.bool false))),v 19 18,g 20 19 true (.mv t0),g 21 19 true (.mv t1),g 22 19 true (.bin .add 0 t21 (.k (.int .i64 1))),g 23 19 true (.call F_ref03_trail [t20,t22,(.k (.int .i64 1)),(.k (.int .u8 128)),(.k (.int .u8 191))]),o 24 (.pick t19 t23 (.k (.bool false)))]) (.cond t24 (.seq (.reg [c 4 2]) .ret) .skip)) (.seq (.reg [o 6 (.mv (.k (.int .u8 128)))]) (.seq (.reg [o 7 (.mv (.k (.int .u8 191)))]) (.seq (.cut c_ref03_width_0) t_ref03_width_3)))))))
abbrev rs_ref03_width : List RV:=[(.tmp 4)]
abbrev m_prim_number : MC:=(.seq (.reg [o 2 (.alloc z3)]) (.seq (.reg [v 3 0,o 4 (.call F_strconv_Itoa [t3]),o 5 (.build z3 [(0,1,(.k (.int .i64 3))),(1,1,t4)]),e (.store t2 t5 5)]) .ret))
abbrev rs_prim_number : List RV:=[(.cell 2 26 5 true)]
abbrev m_prim_list : MC:=(.seq (.reg [o 2 (.alloc z3)]) (.seq (.reg [v 3 0,o 4 (.build z3 [(0,1,(.k (.int .i64 5))),(3,1,t3)]),e (.store t2 t4 5)]) .ret))
abbrev rs_prim_list : List RV:=[(.cell 2 26 5 true)]
abbrev m_prim_input_is : MC:=(.seq (.reg [o 3 (.box t0),o 6 (.mv (.k (.bool false)))]) (.seq (.reg [f 7 3 0,f 8 7 0,w 9 8,v 10 1,o 11 (.bin .eql 0 t9 t10),v 12 11,g 13 12 true (.faddr t3 5),g 14 12 true (.load t13 1 false),g 15 12 true (.iaddr t14 (.k (.int .i64 0)) 5),g 16 12 true (.faddr t15 0),g 17 12 true (.load t16 1 false),g 18 12 true (.mv t2),g 19 12 true (.bin .eql 0 t17 t18),o 20 (.pick t12 t19 (.k (.bool false))),v 6 20]) .ret))
abbrev rs_prim_input_is : List RV:=[(.tmp 6)]
abbrev m_prim_String : MC:=(.seq (.reg [o 1 (.box t0),o 2 (.mv (.k (.str ⟨#[]⟩)))]) (.seq (.seq (.reg [f 5 1 0,w 6 5,o 7 (.bin .eql 0 t6 (.k (.int .i64 4))),v 8 7,g 9 8 true (.load t1 5 true),g 10 8 true (.call F_value_Formed [t9]),o 11 (.pick t8 t10 (.k (.bool false)))]) (.cond t11 (.seq (.reg [f 12 1 2,w 13 12,v 2 13]) .ret) .skip)) (.seq (.reg [l 15 1 5,o 16 (.call F_writer_Text [t15]),v 14 16,o 17 (.ext t14 0),o 18 (.ext t14 1),v 3 17,v 4 18]) (.seq (.reg [v 19 3,v 2 19]) .ret))))
abbrev rs_prim_String : List RV:=[(.tmp 2)]
abbrev b_prim_runeOf_0 : MC:=(.seq (.reg [o 27 (.bin .lss 0 t26 t25)]) (.seq (.cond t27 .skip (.exit 0)) (.seq (.block 1 (.seq (.reg [o 28 (.iaddr t24 t26 1),w 29 28,v 6 29]) (.reg [v 30 4,o 31 (.bin .mul 0 (.k (.int .i64 10)) t30),v 32 6,o 33 (.bin .sub 0 t32 (.k (.int .u8 48))),o 34 (.conv .i64 t33),o 35 (.bin .add 0 t31 t34),v 4 35]))) (.reg [o 36 (.bin .add 0 t26 (.k (.int .i64 1))),v 26 36]))))
abbrev t_prim_runeOf_0 : MC:=(.seq (.reg [v 37 4,o 38 (.conv .i32 t37),v 39 4,o 40 (.bin .leq 0 t39 (.k (.int .i64 1114111))),v 41 40,gs 42 41 true (.mv t4),gs 43 41 true (.bin .lss 0 t42 (.k (.int .i64 55296))),gs 44 41 true (.mv t43),gs 45 44 false (.mv t4),gs 46 44 false (.bin .gtr 0 t45 (.k (.int .i64 57343))),gs 47 41 true (.pick t44 (.k (.bool true)) t46),o 48 (.pick t41 t47 (.k (.bool false))),v 2 38,v 3 48]) .ret)
abbrev m_prim_runeOf : MC:=(.seq (.reg [o 1 (.box t0),o 2 (.mv (.k (.int .i32 0))),o 3 (.mv (.k (.bool false)))]) (.seq (.seq (.reg [f 7 1 0,w 8 7,o 9 (.bin .neq 0 t8 (.k (.int .i64 3))),v 10 9,g 11 10 false (.faddr t1 1),g 12 10 false (.load t11 1 false),g 13 10 false (.sidx t12 (.k (.int .i64 0))),g 14 10 false (.bin .eql 0 t13 (.k (.int .u8 45))),o 15 (.pick t10 (.k (.bool true)) t14),v 16 15,g 17 16 false (.faddr t1 1),g 18 16 false (.load t17 1 false),g 19 16 false (.slen t18),g 20 16 false (.bin .gtr 0 t19 (.k (.int .i64 7))),o 21 (.pick t16 (.k (.bool true)) t20)]) (.cond t21 (.seq (.reg [o 2 (.mv (.k (.int .i32 0))),o 3 (.mv (.k (.bool false)))]) .ret) .skip)) (.seq (.reg [c 4 0]) (.seq (.seq (.reg [f 22 1 1,w 23 22,o 24 (.s2b t23),n 25 24,c 26 0]) (.block 0 (.loop b_prim_runeOf_0))) t_prim_runeOf_0))))
abbrev rs_prim_runeOf : List RV:=[(.tmp 2),(.tmp 3)]
abbrev m_utf_Split : MC:=(.seq (.reg [o 4 (.mv (.k (.vec 1 true [])))]) (.seq (.seq (.reg [v 5 0,o 6 (.bin .eql 0 t5 (.k (.str ⟨#[]⟩)))]) (.cond t6 (.seq (.reg [o 7 (.bslice 1 [(.str ⟨#[]⟩)] 0 []),v 4 7]) .ret) .skip)) (.seq (.reg [v 8 0,v 9 1,o 10 (.call F_strings_Split [t8,t9]),v 4 10]) .ret)))
abbrev rs_utf_Split : List RV:=[(.tmp 4)]
abbrev b_slices_Reverse_rune_0 : MC:=(.seq (.seq (.reg [v 7 2,v 8 3,o 9 (.bin .lss 0 t7 t8)]) (.cond t9 .skip (.exit 0))) (.seq (.block 1 (.draw [(0,1),(0,2),(1,2),(0,3),(1,3),(2,3),(0,4),(1,4),(2,4),(3,4),(0,5),(1,5),(2,5),(3,5),(4,5),(0,6),(1,6),(2,6),(3,6),(0,7),(1,7),(2,7),(3,7),(0,8),(1,8),(2,8),(3,8),(4,8),(5,8),(6,8),(7,8),(0,9),(1,9),(2,9),(3,9),(4,9),(5,9),(6,9),(7,9),(8,9),(0,10),(1,10),(2,10),(3,10),(4,10),(5,10),(6,10),(7,10),(0,11),(1,11),(2,11),(3,11),(4,11),(5,11),(6,11),(7,11),(2,12),(3,12),(2,13),(3,13)] [v 14 0,v 15 2,v 16 0,v 17 3,v 18 0,v 19 3,o 20 (.iaddr t18 t19 1),w 21 20,v 22 0,v 23 2,o 24 (.iaddr t22 t23 1),w 25 24,o 26 (.iaddr t14 t15 1),e (.store t26 t21 1),o 27 (.iaddr t16 t17 1),e (.store t27 t25 1)])) (.reg [v 10 2,o 11 (.bin .add 0 t10 (.k (.int .i64 1))),v 12 3,o 13 (.bin .sub 0 t12 (.k (.int .i64 1))),v 2 11,v 3 13])))
abbrev m_slices_Reverse_rune : MC:=(.seq (.reg [v 4 0,n 5 4,o 6 (.bin .sub 0 t5 (.k (.int .i64 1))),c 2 0,v 3 6]) (.block 0 (.loop b_slices_Reverse_rune_0)))
abbrev rs_slices_Reverse_rune : List RV:=[]
abbrev m_prim_input_all : MC:=(.seq (.reg [o 2 (.box t0),o 3 (.box t1),o 4 (.mv (.k (.bool false)))]) (.seq (.reg [f 5 2 0,f 6 5 3,w 7 6,o 8 (.mkfn F_prim_input_all_1 [] [t3]),o 9 (.call F_slices_ContainsFunc_Value [t7,t8]),o 10 (.un .not t9),v 4 10]) .ret))
abbrev rs_prim_input_all : List RV:=[(.tmp 4)]
abbrev m_arith_Do : MC:=(.seq (.reg [o 4 (.box t1),o 5 (.box t2),o 6 (.alloc z3),o 7 (.alloc z3),o 8 (.mv (.k (.bool false)))]) (.seq (.seq (.reg [v 9 0,o 10 (.bin .lss 0 t9 (.k (.int .i64 14))),v 11 10,g 12 11 false (.mv t0),g 13 11 false (.bin .gtr 0 t12 (.k (.int .i64 24))),o 14 (.pick t11 (.k (.bool true)) t13),v 15 14,g 16 15 false (.load t4 5 true),g 17 15 false (.load t5 5 true),g 18 15 false (.bslice 5 z3 2 [(0,t16),(1,t17)]),g 19 15 false (.call F_arith_right [t18]),g 20 15 false (.un .not t19),o 21 (.pick t15 (.k (.bool true)) t20)]) (.cond t21 (.seq (.reg [o 22 (.build z23 []),o 23 (.call F_arith_answer_told [t22]),o 24 (.ext t23 0),o 25 (.ext t23 1),o 26 (.ext t23 2),e (.store t6 t24 5),e (.store t7 t25 5),v 8 26]) .ret) .skip)) (.seq (.draw [(0,1),(0,2),(0,4),(1,4),(2,4),(3,4),(0,5),(1,5),(2,5),(3,5),(4,5),(0,6),(1,6),(2,6),(3,6),(9,10),(9,11),(10,11)] [o 27 (.call F_arith_operations []),v 28 0,o 29 (.bin .sub 0 t28 (.k (.int .i64 14))),o 30 (.aidx t27 t29 11 1 false),l 31 4 5,l 32 5 5,o 33 (.build z22 [(0,5,t31),(5,5,t32)]),o 34 (.dcall t30 [t33]),o 35 (.call F_arith_answer_told [t34]),o 36 (.ext t35 0),o 37 (.ext t35 1),o 38 (.ext t35 2),e (.store t6 t36 5),e (.store t7 t37 5),v 8 38]) .ret)))
abbrev rs_arith_Do : List RV:=[(.cell 6 26 5 true),(.cell 7 26 5 true),(.tmp 8)]
abbrev m_value_allFormed_1 : MC:=(.seq (.reg [o 1 (.box t0),o 2 (.mv (.k (.bool false)))]) (.seq (.reg [l 3 1 5,o 4 (.call F_value_Formed [t3]),o 5 (.un .not t4),v 2 5]) .ret))
abbrev rs_value_allFormed_1 : List RV:=[(.tmp 2)]
abbrev m_stringslite_TrimPrefix : MC:=(.seq (.reg [o 4 (.mv (.k (.str ⟨#[]⟩)))]) (.seq (.seq (.reg [v 5 0,v 6 1,o 7 (.call F_stringslite_HasPrefix [t5,t6])]) (.cond t7 (.seq (.reg [v 8 0,v 9 1,o 10 (.slen t9),o 11 (.sslc t8 (some t10) none),v 4 11]) .ret) .skip)) (.seq (.reg [v 12 0,v 4 12]) .ret)))
abbrev rs_stringslite_TrimPrefix : List RV:=[(.tmp 4)]
abbrev b_ref03_trail_0 : MC:=(.seq (.seq (.reg [v 18 11,v 19 2,o 20 (.bin .lss 0 t18 t19)]) (.cond t20 .skip (.exit 0))) (.seq (.block 1 (.seq (.reg [v 23 0,v 24 1,v 25 11,o 26 (.bin .add 0 t24 t25),o 27 (.sidx t23 t26),o 28 (.bin .lss 0 t27 (.k (.int .u8 128))),v 29 28,g 30 29 false (.mv t0),g 31 29 false (.mv t1),g 32 29 false (.mv t11),g 33 29 false (.bin .add 0 t31 t32),g 34 29 false (.sidx t30 t33),g 35 29 false (.bin .gtr 0 t34 (.k (.int .u8 191))),o 36 (.pick t29 (.k (.bool true)) t35)]) (.cond t36 (.seq (.reg [o 10 (.mv (.k (.bool false)))]) .ret) .skip))) (.reg [v 21 11,o 22 (.bin .add 0 t21 (.k (.int .i64 1))),v 11 22])))
abbrev t_ref03_trail_0 : MC:=(.seq (.reg [v 37 0,v 38 1,o 39 (.sidx t37 t38),v 40 3,o 41 (.bin .geq 0 t39 t40),v 42 41,g 43 42 true (.mv t0),g 44 42 true (.mv t1),g 45 42 true (.sidx t43 t44),g 46 42 true (.mv t4),g 47 42 true (.bin .leq 0 t45 t46),o 48 (.pick t42 t47 (.k (.bool false))),v 10 48]) .ret)
abbrev m_ref03_trail : MC:=(.seq (.reg [o 10 (.mv (.k (.bool false)))]) (.seq (.seq (.reg [v 12 1,v 13 2,o 14 (.bin .add 0 t12 t13),v 15 0,o 16 (.slen t15),o 17 (.bin .gtr 0 t14 t16)]) (.cond t17 (.seq (.reg [o 10 (.mv (.k (.bool false)))]) .ret) .skip)) (.seq (.seq (.reg [c 11 0]) (.block 0 (.loop b_ref03_trail_0))) t_ref03_trail_0)))
abbrev rs_ref03_trail : List RV:=[(.tmp 10)]
abbrev m_stringslite_HasPrefix : MC:=(.seq (.reg [o 4 (.mv (.k (.bool false)))]) (.seq (.reg [v 5 0,o 6 (.slen t5),v 7 1,o 8 (.slen t7),o 9 (.bin .geq 0 t6 t8),v 10 9,g 11 10 true (.mv t0),g 12 10 true (.mv t1),g 13 10 true (.slen t12),g 14 10 true (.sslc t11 none (some t13)),g 15 10 true (.mv t1),g 16 10 true (.bin .eql 0 t14 t15),o 17 (.pick t10 t16 (.k (.bool false))),v 4 17]) .ret))
abbrev rs_stringslite_HasPrefix : List RV:=[(.tmp 4)]
abbrev m_prim_input_all_1 : MC:=(.seq (.reg [o 2 (.box t0),o 3 (.mv (.k (.bool false)))]) (.seq (.reg [f 4 2 0,w 5 4,w 6 1,o 7 (.bin .neq 0 t5 t6),v 3 7]) .ret))
abbrev rs_prim_input_all_1 : List RV:=[(.tmp 3)]
abbrev m_arith_right : MC:=(.seq (.reg [o 2 (.mv (.k (.bool false)))]) (.seq (.reg [v 3 0,o 4 (.call F_slices_ContainsFunc_Value [t3,(.k (.fn F_arith_right_1 [] []))]),o 5 (.un .not t4),v 2 5]) .ret))
abbrev rs_arith_right : List RV:=[(.tmp 2)]
abbrev m_arith_answer_told : MC:=(.seq (.reg [o 1 (.box t0),o 2 (.alloc z3),o 3 (.alloc z3),o 4 (.mv (.k (.bool false)))]) (.seq (.draw [(0,3),(1,3),(2,3),(0,4),(1,4),(2,4),(0,5),(1,5),(2,5),(3,5),(4,5),(0,6),(1,6),(2,6),(3,6),(4,6),(3,7),(4,7),(5,7),(6,7),(5,8),(6,8)] [f 5 1 0,l 6 5 5,o 7 (.call F_value_Twin [t6]),f 8 1 5,l 9 8 5,f 10 1 10,w 11 10,e (.store t2 t7 5),e (.store t3 t9 5),v 4 11]) .ret))
abbrev rs_arith_answer_told : List RV:=[(.cell 2 26 5 true),(.cell 3 26 5 true),(.tmp 4)]
abbrev m_arith_operations : MC:=(.seq (.reg [o 0 (.alloc [.nilf,.nilf,.nilf,.nilf,.nilf,.nilf,.nilf,.nilf,.nilf,.nilf,.nilf])]) (.seq (.reg [o 1 (.build [.nilf,.nilf,.nilf,.nilf,.nilf,.nilf,.nilf,.nilf,.nilf,.nilf,.nilf] [(0,1,(.k (.fn F_arith_pair_add [] []))),(1,1,(.k (.fn F_arith_pair_sub [] []))),(2,1,(.k (.fn F_arith_pair_mul [] []))),(3,1,(.k (.fn F_arith_pair_div [] []))),(4,1,(.k (.fn F_arith_pair_mod [] []))),(5,1,(.k (.fn F_arith_pair_eq [] []))),(6,1,(.k (.fn F_arith_pair_ne [] []))),(7,1,(.k (.fn F_arith_pair_lt [] []))),(8,1,(.k (.fn F_arith_pair_le [] []))),(9,1,(.k (.fn F_arith_pair_gt [] []))),(10,1,(.k (.fn F_arith_pair_ge [] [])))]),e (.store t0 t1 11)]) .ret))
abbrev rs_arith_operations : List RV:=[(.cell 0 155 11 true)]
abbrev m_arith_right_1 : MC:=(.seq (.reg [o 1 (.box t0),o 2 (.mv (.k (.bool false)))]) (.seq (.reg [l 3 1 5,o 4 (.call F_value_Formed [t3]),o 5 (.un .not t4),v 2 5]) .ret))
abbrev rs_arith_right_1 : List RV:=[(.tmp 2)]
abbrev m_arith_pair_add : MC:=(.seq (.reg [o 1 (.box t0),o 2 (.alloc z23)]) (.seq (.block 0 (.seq (.reg [f 8 1 0,f 9 8 0,w 10 9,o 11 (.bin .eql 0 t10 (.k (.int .i64 0))),v 7 11]) (.cond t7 (.seq (.reg [f 12 1 5,l 13 12 5,o 14 (.call F_arith_good [t13]),e (.store t2 t14 11)]) .ret) (.seq (.reg [f 16 1 5,f 17 16 0,w 18 17,o 19 (.bin .eql 0 t18 (.k (.int .i64 0))),v 15 19]) (.cond t15 (.seq (.reg [f 20 1 0,l 21 20 5,o 22 (.call F_arith_good [t21]),e (.store t2 t22 11)]) .ret) (.seq (.reg [l 24 1 10,o 25 (.call F_arith_pair_both [t24,(.k (.int .i64 3))]),v 23 25]) (.cond t23 (.seq (.reg [f 27 1 0,f 28 27 1,w 29 28,f 30 1 5,f 31 30 1,w 32 31,o 33 (.call F_tens_Add [t29,t32]),v 26 33,o 34 (.ext t26 0),o 35 (.ext t26 1),v 3 34,v 4 35]) (.seq (.reg [v 36 3,o 37 (.call F_arith_number [t36]),e (.store t2 t37 11)]) .ret)) (.seq (.reg [l 39 1 10,o 40 (.call F_arith_pair_both [t39,(.k (.int .i64 4))]),v 38 40]) (.cond t38 (.seq (.reg [f 41 1 0,f 42 41 2,w 43 42,f 44 1 5,f 45 44 2,w 46 45,o 47 (.bin .add 0 t43 t46),o 48 (.call F_arith_text [t47]),e (.store t2 t48 11)]) .ret) (.seq (.reg [l 50 1 10,o 51 (.call F_arith_pair_both [t50,(.k (.int .i64 5))]),v 49 51]) (.cond t49 (.seq (.reg [f 52 1 0,f 53 52 3,w 54 53,f 55 1 5,f 56 55 3,w 57 56,o 58 (.bslice 1 [(.vec 5 true [])] 2 [(0,t54),(1,t57)]),o 59 (.call F_slices_Concat_Value [t58]),o 60 (.build z3 [(0,1,(.k (.int .i64 5))),(3,1,t59)]),o 61 (.call F_arith_good [t60]),e (.store t2 t61 11)]) .ret) (.seq (.reg [l 63 1 10,o 64 (.call F_arith_pair_both [t63,(.k (.int .i64 6))]),v 62 64]) (.cond t62 (.seq (.reg [f 66 1 0,l 67 66 5,f 68 1 5,l 69 68 5,o 70 (.call F_value_Merge [t67,t69]),v 65 70,o 71 (.ext t65 0),o 72 (.ext t65 1),o 5 (.alloc z3),e (.store t5 t71 5),v 6 72]) (.seq (.reg [l 73 5 5,o 74 (.call F_arith_good [t73]),e (.store t2 t74 11)]) .ret)) .skip))))))))))))) (.seq (.reg [o 75 (.call F_arith_bad [(.k (.str ⟨#[97,100,100]⟩))]),e (.store t2 t75 11)]) .ret)))
abbrev rs_arith_pair_add : List RV:=[(.cell 2 152 11 true)]
end Go.Proofs.YtnlfgnelfooljaaGreatDoor.Pv.M
namespace Go.Proofs.YtnlfgnelfooljaaGreatDoor.Pv.M
open Go
abbrev m_tens_split : MC:=(.seq (.reg [o 2 (.mv (.k (.bool false))),o 3 (.mv (.k (.str ⟨#[]⟩)))]) (.seq (.seq (.reg [v 4 0,o 5 (.sidx t4 (.k (.int .i64 0))),o 6 (.bin .eql 0 t5 (.k (.int .u8 45)))]) (.cond t6 (.seq (.draw [(0,2),(1,2)] [v 7 0,o 8 (.sslc t7 (some (.k (.int .i64 1))) none),o 2 (.mv (.k (.bool true))),v 3 8]) .ret) .skip)) (.seq (.reg [v 9 0,o 2 (.mv (.k (.bool false))),v 3 9]) .ret)))
abbrev rs_tens_split : List RV:=[(.tmp 2),(.tmp 3)]
abbrev m_arith_good : MC:=(.seq (.reg [o 1 (.box t0),o 2 (.alloc z23)]) (.seq (.reg [l 3 1 5,o 4 (.build z23 [(0,5,t3),(10,1,(.k (.bool true)))]),e (.store t2 t4 11)]) .ret))
abbrev rs_arith_good : List RV:=[(.cell 2 152 11 true)]
abbrev m_arith_pair_both : MC:=(.seq (.reg [o 2 (.box t0),o 4 (.mv (.k (.bool false)))]) (.seq (.reg [f 5 2 0,f 6 5 0,w 7 6,v 8 1,o 9 (.bin .eql 0 t7 t8),v 10 9,gs 11 10 true (.faddr t2 5),gs 12 10 true (.faddr t11 0),gs 13 10 true (.load t12 1 false),gs 14 10 true (.mv t1),gs 15 10 true (.bin .eql 0 t13 t14),o 16 (.pick t10 t15 (.k (.bool false))),v 4 16]) .ret))
abbrev rs_arith_pair_both : List RV:=[(.tmp 4)]
abbrev m_tens_Add : MC:=(.seq (.reg [o 4 (.mv (.k (.str ⟨#[]⟩))),c 5 0]) (.seq (.seq (.reg [v 10 0,o 11 (.call F_tens_Formed [t10]),o 12 (.un .not t11),v 13 12,g 14 13 false (.mv t1),g 15 13 false (.call F_tens_Formed [t14]),g 16 13 false (.un .not t15),o 17 (.pick t13 (.k (.bool true)) t16)]) (.cond t17 (.seq (.reg [o 4 (.mv (.k (.str ⟨#[]⟩))),c 5 1]) .ret) .skip)) (.seq (.reg [v 19 0,o 20 (.call F_tens_split [t19]),v 18 20,o 21 (.ext t18 0),o 22 (.ext t18 1),v 6 21,v 7 22]) (.seq (.reg [v 24 1,o 25 (.call F_tens_split [t24]),v 23 25,o 26 (.ext t23 0),o 27 (.ext t23 1),v 8 26,v 9 27]) (.seq (.block 0 (.seq (.reg [v 29 6,v 30 8,o 31 (.bin .eql 1 t29 t30),v 28 31]) (.cond t28 (.seq (.reg [v 32 6,v 33 7,v 34 9,o 35 (.call F_tens_plus [t33,t34]),o 36 (.call F_tens_signed [t32,t35]),v 4 36,c 5 0]) .ret) (.seq (.reg [v 38 7,v 39 9,o 40 (.call F_tens_size [t38,t39]),o 41 (.bin .lss 0 t40 (.k (.int .i64 0))),v 37 41]) (.cond t37 (.seq (.reg [v 42 8,v 43 9,v 44 7,o 45 (.call F_tens_minus [t43,t44]),o 46 (.call F_tens_signed [t42,t45]),v 4 46,c 5 0]) .ret) .skip))))) (.seq (.reg [v 47 6,v 48 7,v 49 9,o 50 (.call F_tens_minus [t48,t49]),o 51 (.call F_tens_signed [t47,t50]),v 4 51,c 5 0]) .ret))))))
abbrev rs_tens_Add : List RV:=[(.tmp 4),(.tmp 5)]
abbrev m_arith_number : MC:=(.seq (.reg [o 2 (.alloc z23)]) (.seq (.reg [v 3 0,o 4 (.build z3 [(0,1,(.k (.int .i64 3))),(1,1,t3)]),o 5 (.call F_arith_good [t4]),e (.store t2 t5 11)]) .ret))
abbrev rs_arith_number : List RV:=[(.cell 2 152 11 true)]
abbrev m_tens_signed : MC:=(.seq (.reg [o 4 (.mv (.k (.str ⟨#[]⟩)))]) (.seq (.seq (.reg [v 5 0,v 6 5,gs 7 6 true (.mv t1),gs 8 6 true (.bin .neq 0 t7 (.k (.str ⟨#[48]⟩))),o 9 (.pick t6 t8 (.k (.bool false)))]) (.cond t9 (.seq (.reg [v 10 1,o 11 (.bin .add 0 (.k (.str ⟨#[45]⟩)) t10),v 4 11]) .ret) .skip)) (.seq (.reg [v 12 1,v 4 12]) .ret)))
abbrev rs_tens_signed : List RV:=[(.tmp 4)]
abbrev c_tens_plus_0 : MC:=(.seq (.reg [v 9 0,o 10 (.slen t9),v 11 1,o 12 (.slen t11),o 13 (.bin .lss 0 t10 t12)]) (.cond t13 (.reg [v 14 1,v 15 0,v 0 14,v 1 15]) .skip))
abbrev c_tens_plus_1 : MC:=(.seq (.reg [v 42 7,v 43 1,o 44 (.slen t43),o 45 (.bin .leq 0 t42 t44)]) (.cond t45 (.draw [(0,1),(0,4),(1,4),(2,4),(3,4),(0,5),(1,5),(2,5),(3,5),(4,5),(0,6),(1,6),(2,6),(3,6),(4,6),(0,7),(1,7),(2,7),(3,7),(4,7),(5,7),(6,7),(0,8),(1,8),(2,8),(3,8),(4,8),(0,9),(1,9),(2,9),(3,9),(0,10),(1,10),(2,10),(3,10)] [v 46 5,v 47 8,o 48 (.iaddr t46 t47 1),w 49 48,v 50 1,v 51 1,o 52 (.slen t51),v 53 7,o 54 (.bin .sub 0 t52 t53),o 55 (.sidx t50 t54),o 56 (.bin .sub 0 t55 (.k (.int .u8 48))),o 57 (.bin .add 0 t49 t56),o 58 (.iaddr t46 t47 1),e (.store t58 t57 1)]) .skip))
abbrev c_tens_plus_2 : MC:=(.seq (.reg [v 59 5,v 60 8,o 61 (.iaddr t59 t60 1),w 62 61,o 63 (.bin .gtr 0 t62 (.k (.int .u8 57)))]) (.cond t63 (.seq (.reg [v 64 5,v 65 8,o 66 (.iaddr t64 t65 1),w 67 66,o 68 (.bin .sub 0 t67 (.k (.int .u8 10))),o 69 (.iaddr t64 t65 1),e (.store t69 t68 1)]) (.reg [o 6 (.mv (.k (.int .u8 1)))])) .skip))
abbrev t_tens_plus_0 : MC:=(.seq (.reg [o 6 (.mv (.k (.int .u8 0)))]) (.cut c_tens_plus_2))
abbrev b_tens_plus_3 : MC:=(.seq (.seq (.reg [v 25 7,v 26 0,o 27 (.slen t26),o 28 (.bin .leq 0 t25 t27)]) (.cond t28 .skip (.exit 0))) (.seq (.block 1 (.seq (.reg [v 31 5,n 32 31,v 33 7,o 34 (.bin .sub 0 t32 t33),v 8 34]) (.seq (.reg [v 35 5,v 36 8,o 37 (.iaddr t35 t36 1),w 38 37,v 39 6,o 40 (.bin .add 0 t38 t39),o 41 (.iaddr t35 t36 1),e (.store t41 t40 1)]) (.seq (.cut c_tens_plus_1) t_tens_plus_0)))) (.reg [v 29 7,o 30 (.bin .add 0 t29 (.k (.int .i64 1))),v 7 30])))
abbrev t_tens_plus_1 : MC:=(.seq (.reg [v 70 5,o 71 (.iaddr t70 (.k (.int .i64 0)) 1),w 72 71,v 73 6,o 74 (.bin .add 0 t72 t73),o 75 (.iaddr t70 (.k (.int .i64 0)) 1),e (.store t75 t74 1)]) (.seq (.reg [v 76 5,o 77 (.call F_tens_text [t76]),v 4 77]) .ret))
abbrev t_tens_plus_2 : MC:=(.seq (.reg [v 16 0,o 17 (.slen t16),o 18 (.bin .add 0 t17 (.k (.int .i64 1))),o 19 (.mksl 1 [(.int .u8 0)] (.k (.int .i64 0)) t18),o 20 (.bslice 1 [(.int .u8 0)] 1 [(0,(.k (.int .u8 48)))]),o 21 (.app t19 t20 1),v 5 21]) (.seq (.reg [v 22 5,v 23 0,o 24 (.app t22 t23 1),v 5 24]) (.seq (.reg [o 6 (.mv (.k (.int .u8 0)))]) (.seq (.seq (.reg [c 7 1]) (.block 0 (.loop b_tens_plus_3))) t_tens_plus_1))))
abbrev m_tens_plus : MC:=(.seq (.reg [o 4 (.mv (.k (.str ⟨#[]⟩)))]) (.seq (.cut c_tens_plus_0) t_tens_plus_2))
abbrev rs_tens_plus : List RV:=[(.tmp 4)]
abbrev b_tens_text_0 : MC:=(.seq (.seq (.reg [v 4 3,v 5 0,n 6 5,o 7 (.bin .sub 0 t6 (.k (.int .i64 1))),o 8 (.bin .lss 0 t4 t7),v 9 8,g 10 9 true (.mv t0),g 11 9 true (.mv t3),g 12 9 true (.iaddr t10 t11 1),g 13 9 true (.load t12 1 false),g 14 9 true (.bin .eql 0 t13 (.k (.int .u8 48))),o 15 (.pick t9 t14 (.k (.bool false)))]) (.cond t15 .skip (.exit 0))) (.block 1 (.reg [v 16 3,o 17 (.bin .add 0 t16 (.k (.int .i64 1))),v 3 17])))
abbrev t_tens_text_0 : MC:=(.seq (.reg [v 18 0,v 19 3,v 20 0,n 21 20,v 22 0,n 23 22,o 24 (.slc t18 1 (some t19) (some t21) (some t23)),o 25 (.b2s t24),v 2 25]) .ret)
abbrev m_tens_text : MC:=(.seq (.reg [o 2 (.mv (.k (.str ⟨#[]⟩)))]) (.seq (.reg [c 3 0]) (.seq (.block 0 (.loop b_tens_text_0)) t_tens_text_0)))
abbrev rs_tens_text : List RV:=[(.tmp 2)]
end Go.Proofs.YtnlfgnelfooljaaGreatDoor.Pv.M
namespace Go.Proofs.YtnlfgnelfooljaaGreatDoor.Pv
open Go
set_option maxRecDepth 1000000
noncomputable abbrev prog : Program:=Tryz.prog
theorem hmix : prog.follows .mixedOrders=true:=by kernel_rfl
theorem h_law21_PrimTexts : mfOf prog M.F_law21_PrimTexts=some (M.m_law21_PrimTexts.erase,64,M.rs_law21_PrimTexts):=by kernel_rfl
theorem h_law21_lives : mfOf prog M.F_law21_lives=some (M.m_law21_lives.erase,24,M.rs_law21_lives):=by kernel_rfl
theorem h_law21_light : mfOf prog M.F_law21_light=some (M.m_law21_light.erase,15,M.rs_law21_light):=by kernel_rfl
theorem h_law21_twice : mfOf prog M.F_law21_twice=some (M.m_law21_twice.erase,34,M.rs_law21_twice):=by kernel_rfl
theorem h_law21_made : mfOf prog M.F_law21_made=some (M.m_law21_made.erase,21,M.rs_law21_made):=by kernel_rfl
theorem h_ref03_Like : mfOf prog M.F_ref03_Like=some (M.m_ref03_Like.erase,81,M.rs_ref03_Like):=by kernel_rfl
theorem h_prim_Do : mfOf prog M.F_prim_Do=some (M.m_prim_Do.erase,55,M.rs_prim_Do):=by kernel_rfl
theorem h_kit_Fit : mfOf prog M.F_kit_Fit=some (M.m_kit_Fit.erase,22,M.rs_kit_Fit):=by kernel_rfl
theorem h_ref03_Formed : mfOf prog M.F_ref03_Formed=some (M.m_ref03_Formed.erase,90,M.rs_ref03_Formed):=by kernel_rfl
theorem h_ref03_Weight : mfOf prog M.F_ref03_Weight=some (M.m_ref03_Weight.erase,52,M.rs_ref03_Weight):=by kernel_rfl
theorem h_prim_key : mfOf prog M.F_prim_key=some (M.m_prim_key.erase,10,M.rs_prim_key):=by kernel_rfl
theorem h_value_Formed : mfOf prog M.F_value_Formed=some (M.m_value_Formed.erase,61,M.rs_value_Formed):=by kernel_rfl
theorem h_slices_ContainsFunc_Value : mfOf prog M.F_slices_ContainsFunc_Value=some (M.m_slices_ContainsFunc_Value.erase,9,M.rs_slices_ContainsFunc_Value):=by kernel_rfl
theorem h_prim_Do_1 : mfOf prog M.F_prim_Do_1=some (M.m_prim_Do_1.erase,6,M.rs_prim_Do_1):=by kernel_rfl
theorem h_value_Weight : mfOf prog M.F_value_Weight=some (M.m_value_Weight.erase,43,M.rs_value_Weight):=by kernel_rfl
theorem h_value_Twin : mfOf prog M.F_value_Twin=some (M.m_value_Twin.erase,30,M.rs_value_Twin):=by kernel_rfl
theorem h_kit_PartsOf : mfOf prog M.F_kit_PartsOf=some (M.m_kit_PartsOf.erase,35,M.rs_kit_PartsOf):=by kernel_rfl
theorem h_ref03_Number : mfOf prog M.F_ref03_Number=some (M.m_ref03_Number.erase,44,M.rs_ref03_Number):=by kernel_rfl
theorem h_ref03_UTF : mfOf prog M.F_ref03_UTF=some (M.m_ref03_UTF.erase,17,M.rs_ref03_UTF):=by kernel_rfl
theorem h_ref03_Rise : mfOf prog M.F_ref03_Rise=some (M.m_ref03_Rise.erase,30,M.rs_ref03_Rise):=by kernel_rfl
theorem h_ref03_All : mfOf prog M.F_ref03_All=some (M.m_ref03_All.erase,16,M.rs_ref03_All):=by kernel_rfl
theorem h_prim_input_explode : mfOf prog M.F_prim_input_explode=some (M.m_prim_input_explode.erase,30,M.rs_prim_input_explode):=by kernel_rfl
theorem h_prim_input_implode : mfOf prog M.F_prim_input_implode=some (M.m_prim_input_implode.erase,38,M.rs_prim_input_implode):=by kernel_rfl
theorem h_prim_input_split : mfOf prog M.F_prim_input_split=some (M.m_prim_input_split.erase,34,M.rs_prim_input_split):=by kernel_rfl
theorem h_prim_input_join : mfOf prog M.F_prim_input_join=some (M.m_prim_input_join.erase,67,M.rs_prim_input_join):=by kernel_rfl
theorem h_prim_input_reverse : mfOf prog M.F_prim_input_reverse=some (M.m_prim_input_reverse.erase,34,M.rs_prim_input_reverse):=by kernel_rfl
theorem h_prim_input_add : mfOf prog M.F_prim_input_add=some (M.m_prim_input_add.erase,118,M.rs_prim_input_add):=by kernel_rfl
theorem h_value_empty : mfOf prog M.F_value_empty=some (M.m_value_empty.erase,43,M.rs_value_empty):=by kernel_rfl
theorem h_tens_Formed : mfOf prog M.F_tens_Formed=some (M.m_tens_Formed.erase,38,M.rs_tens_Formed):=by kernel_rfl
theorem h_utf_Valid : mfOf prog M.F_utf_Valid=some (M.m_utf_Valid.erase,5,M.rs_utf_Valid):=by kernel_rfl
theorem h_value_allFormed : mfOf prog M.F_value_allFormed=some (M.m_value_allFormed.erase,6,M.rs_value_allFormed):=by kernel_rfl
theorem h_value_rise : mfOf prog M.F_value_rise=some (M.m_value_rise.erase,29,M.rs_value_rise):=by kernel_rfl
theorem h_slices_IndexFunc_Value : mfOf prog M.F_slices_IndexFunc_Value=some (M.m_slices_IndexFunc_Value.erase,19,M.rs_slices_IndexFunc_Value):=by kernel_rfl
theorem h_prim_text : mfOf prog M.F_prim_text=some (M.m_prim_text.erase,5,M.rs_prim_text):=by kernel_rfl
theorem h_strings_TrimPrefix : mfOf prog M.F_strings_TrimPrefix=some (M.m_strings_TrimPrefix.erase,8,M.rs_strings_TrimPrefix):=by kernel_rfl
theorem h_slices_Clone_string : mfOf prog M.F_slices_Clone_string=some (M.m_slices_Clone_string.erase,8,M.rs_slices_Clone_string):=by kernel_rfl
theorem h_slices_Clone_Value : mfOf prog M.F_slices_Clone_Value=some (M.m_slices_Clone_Value.erase,8,M.rs_slices_Clone_Value):=by kernel_rfl
theorem h_ref03_width : mfOf prog M.F_ref03_width=some (M.m_ref03_width.erase,61,M.rs_ref03_width):=by kernel_rfl
theorem h_prim_number : mfOf prog M.F_prim_number=some (M.m_prim_number.erase,6,M.rs_prim_number):=by kernel_rfl
theorem h_prim_list : mfOf prog M.F_prim_list=some (M.m_prim_list.erase,5,M.rs_prim_list):=by kernel_rfl
theorem h_prim_input_is : mfOf prog M.F_prim_input_is=some (M.m_prim_input_is.erase,21,M.rs_prim_input_is):=by kernel_rfl
theorem h_prim_String : mfOf prog M.F_prim_String=some (M.m_prim_String.erase,20,M.rs_prim_String):=by kernel_rfl
theorem h_prim_runeOf : mfOf prog M.F_prim_runeOf=some (M.m_prim_runeOf.erase,49,M.rs_prim_runeOf):=by kernel_rfl
theorem h_utf_Split : mfOf prog M.F_utf_Split=some (M.m_utf_Split.erase,11,M.rs_utf_Split):=by kernel_rfl
theorem h_slices_Reverse_rune : mfOf prog M.F_slices_Reverse_rune=some (M.m_slices_Reverse_rune.erase,28,M.rs_slices_Reverse_rune):=by kernel_rfl
theorem h_prim_input_all : mfOf prog M.F_prim_input_all=some (M.m_prim_input_all.erase,11,M.rs_prim_input_all):=by kernel_rfl
theorem h_arith_Do : mfOf prog M.F_arith_Do=some (M.m_arith_Do.erase,39,M.rs_arith_Do):=by kernel_rfl
theorem h_value_allFormed_1 : mfOf prog M.F_value_allFormed_1=some (M.m_value_allFormed_1.erase,6,M.rs_value_allFormed_1):=by kernel_rfl
theorem h_stringslite_TrimPrefix : mfOf prog M.F_stringslite_TrimPrefix=some (M.m_stringslite_TrimPrefix.erase,13,M.rs_stringslite_TrimPrefix):=by kernel_rfl
theorem h_ref03_trail : mfOf prog M.F_ref03_trail=some (M.m_ref03_trail.erase,49,M.rs_ref03_trail):=by kernel_rfl
theorem h_stringslite_HasPrefix : mfOf prog M.F_stringslite_HasPrefix=some (M.m_stringslite_HasPrefix.erase,18,M.rs_stringslite_HasPrefix):=by kernel_rfl
theorem h_prim_input_all_1 : mfOf prog M.F_prim_input_all_1=some (M.m_prim_input_all_1.erase,8,M.rs_prim_input_all_1):=by kernel_rfl
theorem h_arith_right : mfOf prog M.F_arith_right=some (M.m_arith_right.erase,6,M.rs_arith_right):=by kernel_rfl
theorem h_arith_answer_told : mfOf prog M.F_arith_answer_told=some (M.m_arith_answer_told.erase,12,M.rs_arith_answer_told):=by kernel_rfl
theorem h_arith_operations : mfOf prog M.F_arith_operations=some (M.m_arith_operations.erase,2,M.rs_arith_operations):=by kernel_rfl
theorem h_arith_right_1 : mfOf prog M.F_arith_right_1=some (M.m_arith_right_1.erase,6,M.rs_arith_right_1):=by kernel_rfl
theorem h_arith_pair_add : mfOf prog M.F_arith_pair_add=some (M.m_arith_pair_add.erase,76,M.rs_arith_pair_add):=by kernel_rfl
theorem h_tens_split : mfOf prog M.F_tens_split=some (M.m_tens_split.erase,10,M.rs_tens_split):=by kernel_rfl
theorem h_arith_good : mfOf prog M.F_arith_good=some (M.m_arith_good.erase,5,M.rs_arith_good):=by kernel_rfl
theorem h_arith_pair_both : mfOf prog M.F_arith_pair_both=some (M.m_arith_pair_both.erase,17,M.rs_arith_pair_both):=by kernel_rfl
theorem h_tens_Add : mfOf prog M.F_tens_Add=some (M.m_tens_Add.erase,52,M.rs_tens_Add):=by kernel_rfl
theorem h_arith_number : mfOf prog M.F_arith_number=some (M.m_arith_number.erase,6,M.rs_arith_number):=by kernel_rfl
theorem h_tens_signed : mfOf prog M.F_tens_signed=some (M.m_tens_signed.erase,13,M.rs_tens_signed):=by kernel_rfl
theorem h_tens_plus : mfOf prog M.F_tens_plus=some (M.m_tens_plus.erase,78,M.rs_tens_plus):=by kernel_rfl
theorem h_tens_text : mfOf prog M.F_tens_text=some (M.m_tens_text.erase,26,M.rs_tens_text):=by kernel_rfl
end Go.Proofs.YtnlfgnelfooljaaGreatDoor.Pv
namespace Go.Proofs.YtnlfgnelfooljaaGreatDoor.Pv
open Go Go.RowKit
mutual
def bndV : PV→Prop
 | .int k n=>k.min≤n∧n≤k.max
 | .str s=>s.size≤LIM
 | .vec _ _ xs=>xs.length≤LIM∧bndR xs
 | .own _ _ _ len _=>len≤LIM
 | .ref cs=>bndL cs
 | .agg cs=>bndL cs
 | .tup cs=>bndL cs
 | .fn _ a b=>bndL a∧bndL b
 | .iface _ x=>bndV x
 | _=>True
def bndL : List PV→Prop
 | []=>True
 | x::xs=>bndV x∧bndL xs
def bndR : List (List PV)→Prop
 | []=>True
 | r::rs=>bndL r∧bndR rs
end
mutual
theorem RepV.bnd {w : World} : ∀ (x : PV) (v : Value) {c : Ctx},RepV w c x v→bndV x
 | .int _ _,_,_,h=>h.2
 | .str _,_,_,h=>h.2
 | .vec e f xs,v,c,h=>by
   obtain ⟨a,cap,h1,h2,h3,h4,h5,h6⟩:=h
   refine ⟨h4,?_⟩
   rcases h6 with rfl | ⟨ad,_,_,_,h⟩
   ·trivial
   ·exact RepRows.bnd xs h
 | .own g e o l f,v,c,h=>by
   obtain ⟨_,_,_,a,cap,_,_,_,h4,_⟩:=h
   exact h4
 | .ref cs,v,c,h=>by
   obtain ⟨ad,_,_,_,h⟩:=h
   exact RepAt.bnd cs h
 | .agg cs,v,c,h=>by
   obtain ⟨vs,_,h,_⟩:=h
   exact RepL.bnd cs _ h
 | .tup cs,v,c,h=>by
   obtain ⟨vs,_,h⟩:=h
   exact RepL.bnd cs _ h
 | .fn f a b,v,c,h=>by
   obtain ⟨x,y,_,h1,h2⟩:=h
   exact ⟨RepL.bnd a _ h1,RepL.bnd b _ h2⟩
 | .iface t x,v,c,h=>by
   obtain ⟨u,_,h⟩:=h
   exact RepV.bnd x u h
 | .undef,_,_,_ | .bool _,_,_,_ | .nilp,_,_,_ | .nilf,_,_,_ | .nili,_,_,_ | .ptr _ _ _ _,_,_,_ | .opt _ _,_,_,_ | .raw _,_,_,_ | .mapf _,_,_,_=>trivial
theorem RepL.bnd {w : World} : ∀ (xs : List PV) (vs : List Value) {c : Ctx},RepL w c xs vs→bndL xs
 | [],_,_,_=>trivial
 | x::xs,_,_,h=>by
   obtain ⟨u,us,_,h1,h2⟩:=h
   exact ⟨RepV.bnd x u h1,RepL.bnd xs us h2⟩
theorem RepAt.bnd {w : World} {b : Nat} : ∀ (xs : List PV) {c : Ctx} {o : Nat},RepAt w c b o xs→bndL xs
 | [],_,_,_=>trivial
 | x::xs,_,_,h=>by
   obtain ⟨⟨v,_,_,h1⟩,h2⟩:=h
   exact ⟨RepV.bnd x v h1,RepAt.bnd xs h2⟩
theorem RepRows.bnd {w : World} {esz b : Nat} : ∀ (xs : List (List PV)) {c : Ctx} {o : Nat},RepRows w c esz b o xs→bndR xs
 | [],_,_,_=>trivial
 | r::rs,_,_,h=>⟨RepAt.bnd r h.2.1,RepRows.bnd rs h.2.2⟩
end
def bndS (E : Env) (st : St) : Prop:=(∀ t,t < E.nt→bndV (lk t st.s))∧∀ k e,hk k st.h=some e→bndR e.xs
theorem Rel.bnd {E : Env} {st : St} {a : Act} {w : World} (h : Rel E st a w) : bndS E st:=by
 obtain ⟨c,hg⟩:=h
 refine ⟨fun t ht=>?_,fun k e he=>?_⟩
 ·obtain ⟨v,_,hr⟩:=hg.tmp ht
  exact RepV.bnd _ _ hr
 ·obtain ⟨_,_,h⟩:=hg.heap k e he
  cases hb : c.β k with
  | none=>rw [hb] at h; rw [h.1]; trivial
  | some ad=>rw [hb] at h; exact RepRows.bnd _ h.2.2.1
theorem XLoop.bnd {E : Env} {m : MC} {st : St} {ks : List KF} {Q : Ex→St→Prop} (h : bndS E st→XLoop E m st ks Q) : XLoop E m st ks Q:=fun c hm a w hr=>h hr.bnd c hm a w hr
theorem XCut.bnd {E : Env} {m : MC} {st : St} {ks : List KF} {Q : Ex→St→Prop} (h : bndS E st→XCut E m st ks Q) : XCut E m st ks Q:=fun c hm a w hr=>h hr.bnd c hm a w hr
theorem Ret.bnd {P : Program} {f : FuncId} {args : List PV} {r : PV} (hc : callable P f=true) (h : bndL args→Ret P f args r) : Ret P f args r :=
 ⟨hc,fun w F vs hG hF hr=>(h (RepL.bnd _ _ hr)).2 w F vs hG hF hr⟩
theorem RetO.bnd {P : Program} {f : FuncId} {args : List PV} {esz : Nat} {xs : List (List PV)} (hc : callable P f=true) (h : bndL args→RetO P f args esz xs) : RetO P f args esz xs :=
 ⟨hc,fun w F vs hG hF hr=>(h (RepL.bnd _ _ hr)).2 w F vs hG hF hr⟩
theorem mf_callable {P : Program} {f : Nat} {x : MC × Nat × List RV} (h : mfOf P f=some x) : callable P f=true:=by
 obtain ⟨m,nt,rs⟩:=x
 obtain ⟨_,_,_,hc,_⟩:=mfOf_spec h
 exact hc
theorem Ret.go {P : Program} {f nt : Nat} {m : MC} {rs : List RV} {args : List PV} {r : PV} (hmix : P.follows .mixedOrders=true) (hm : mfOf P f=some (m.erase,nt,rs)) (hn : args.length≤nt) (h : bndL args→∀ w0 F0 hG,XC ⟨P,w0,F0,nt,[],0,hG⟩ m (St.init args) [] (retIs rs r)) : Ret P f args r :=
 Ret.bnd (mf_callable hm) fun hb=>Ret.of hmix hm hn (h hb)
theorem RetO.go {P : Program} {f nt : Nat} {m : MC} {rs : List RV} {args : List PV} {esz : Nat} {xs : List (List PV)} (hmix : P.follows .mixedOrders=true) (hm : mfOf P f=some (m.erase,nt,rs)) (hn : args.length≤nt) (h : bndL args→∀ w0 F0 hG,XC ⟨P,w0,F0,nt,[],0,hG⟩ m (St.init args) [] (retOwn rs esz xs)) : RetO P f args esz xs :=
 RetO.bnd (mf_callable hm) fun hb=>RetO.of hmix hm hn (h hb)
def LS (st st' : St) : Prop:=subS (fun k=>hk k st.h) st'.s st.s∧subH (fun k=>hk k st.h) st'.h st.h
theorem LS_mk {s s' : List (Nat × PV)} {h h' : List (Key × Option HE)} : LS ⟨s,h⟩ ⟨s',h'⟩=(subS (fun k=>hk k h) s' s∧subH (fun k=>hk k h) h' h):=propext Iff.rfl
theorem LS.le {E : Env} {st st' : St} (h : LS st st') : Le E st st':=by
 obtain ⟨s,h1⟩:=st
 obtain ⟨s',h1'⟩:=st'
 exact Le.of h
section
variable {E : Env} {body m : MC} {st st' : St} {ks : List KF} {Q : Ex→St→Prop} {ι : Type} {S : ι→St} {J : ι→Prop} {μ : ι→Nat} {i : ι} {S1 : St}
def LR (E : Env) {ι : Type} (S : ι→St) (J : ι→Prop) (μ : ι→Nat) (i : ι) (ks : List KF) (Q : Ex→St→Prop) : Ex→St→Prop
 | .normal,st'=>∃ j,J j∧μ j < μ i∧LS st' (S j)
 | e,st'=>XE E e st' ks Q
def CJ (E : Env) {ι : Type} (S : ι→St) (J : ι→Prop) (ks : List KF) (Q : Ex→St→Prop) : Ex→St→Prop
 | .normal,st'=>∃ j,J j∧LS st' (S j)
 | e,st'=>XE E e st' ks Q
def CT (E : Env) (S : St) (ks : List KF) (Q : Ex→St→Prop) : Ex→St→Prop
 | .normal,st'=>LS st' S
 | e,st'=>XE E e st' ks Q
theorem LR_normal : LR E S J μ i ks Q .normal st'=∃ j,J j∧μ j < μ i∧LS st' (S j):=propext Iff.rfl
theorem LR_exit {id : Nat} : LR E S J μ i ks Q (.exit id) st'=XE E (.exit id) st' ks Q:=propext Iff.rfl
theorem LR_ret : LR E S J μ i ks Q .ret st'=XE E .ret st' ks Q:=propext Iff.rfl
theorem LR_goto {id : Nat} : LR E S J μ i ks Q (.goto id) st'=XE E (.goto id) st' ks Q:=propext Iff.rfl
theorem CJ_normal : CJ E S J ks Q .normal st'=∃ j,J j∧LS st' (S j):=propext Iff.rfl
theorem CJ_exit {id : Nat} : CJ E S J ks Q (.exit id) st'=XE E (.exit id) st' ks Q:=propext Iff.rfl
theorem CJ_ret : CJ E S J ks Q .ret st'=XE E .ret st' ks Q:=propext Iff.rfl
theorem CJ_goto {id : Nat} : CJ E S J ks Q (.goto id) st'=XE E (.goto id) st' ks Q:=propext Iff.rfl
theorem CT_normal : CT E S1 ks Q .normal st'=LS st' S1:=propext Iff.rfl
theorem CT_exit {id : Nat} : CT E S1 ks Q (.exit id) st'=XE E (.exit id) st' ks Q:=propext Iff.rfl
theorem CT_ret : CT E S1 ks Q .ret st'=XE E .ret st' ks Q:=propext Iff.rfl
theorem CT_goto {id : Nat} : CT E S1 ks Q (.goto id) st'=XE E (.goto id) st' ks Q:=propext Iff.rfl
theorem XLoop.go (hmix : E.P.follows .mixedOrders=true) (S : ι→St) (J : ι→Prop) (μ : ι→Nat) (i0 : ι) (h0 : J i0) (hst : LS st (S i0)) (hr : ∀ i,J i→XC E body (S i) [] (LR E S J μ i ks Q)) : XLoop E (.loop body) st ks Q:=by
 intro c hm a w hrel
 obtain ⟨x,rfl,hm1⟩:=toMC_loop hm
 refine wp_loop_ghost (fun n a w=>∃ i,J i∧μ i=n∧Rel E (S i) a w) (μ i0) ⟨i0,h0,rfl,hst.le a w hrel⟩ ?_
 rintro n a w ⟨i,hJ,rfl,hri⟩
 refine wp_mono (exec_sound hmix x body (S i) a w _ hm1 hri (hr i hJ)) ?_
 rintro e a' w' ⟨ex,st',rfl,hq,hr'⟩
 cases ex with
 | normal =>
   obtain ⟨j,h1,h2,h3⟩:=hq
   exact ⟨μ j,h2,j,h1,rfl,h3.le a' w' hr'⟩
 | exit id=>exact ⟨.exit id,st',rfl,hq,hr'⟩
 | goto l=>exact ⟨.goto l,st',rfl,hq,hr'⟩
 | ret=>exact ⟨.ret,st',rfl,hq,hr'⟩
def LN (E : Env) {γ : Type} (n : Nat) (S : Nat→γ→St) (J : Nat→γ→Prop) (i : Nat) (ks : List KF) (Q : Ex→St→Prop) : Ex→St→Prop
 | .normal,st'=>i < n∧∃ g,J (i+1) g∧LS st' (S (i+1) g)
 | e,st'=>XE E e st' ks Q
section
variable {γ : Type} {n k : Nat} {S' : Nat→γ→St} {J' : Nat→γ→Prop}
theorem LN_normal : LN E n S' J' k ks Q .normal st'=(k < n∧∃ g,J' (k+1) g∧LS st' (S' (k+1) g)):=propext Iff.rfl
theorem LN_exit {id : Nat} : LN E n S' J' k ks Q (.exit id) st'=XE E (.exit id) st' ks Q:=propext Iff.rfl
theorem LN_ret : LN E n S' J' k ks Q .ret st'=XE E .ret st' ks Q:=propext Iff.rfl
theorem LN_goto {id : Nat} : LN E n S' J' k ks Q (.goto id) st'=XE E (.goto id) st' ks Q:=propext Iff.rfl
theorem XLoop.cnt (hmix : E.P.follows .mixedOrders=true) (n : Nat) (S' : Nat→γ→St) (J' : Nat→γ→Prop) (g0 : γ) (h0 : J' 0 g0) (hst : LS st (S' 0 g0)) (hr : ∀ i g,i≤n→J' i g→XC E body (S' i g) [] (LN E n S' J' i ks Q)) : XLoop E (.loop body) st ks Q:=by
 intro c hm a w hrel
 obtain ⟨x,rfl,hm1⟩:=toMC_loop hm
 refine wp_loop_ghost (fun m a w=>∃ i g,i≤n∧J' i g∧n - i=m∧Rel E (S' i g) a w) n ⟨0,g0,Nat.zero_le _,h0,rfl,hst.le a w hrel⟩ ?_
 rintro m a w ⟨i,g,hi,hJ,rfl,hri⟩
 refine wp_mono (exec_sound hmix x body (S' i g) a w _ hm1 hri (hr i g hi hJ)) ?_
 rintro e a' w' ⟨ex,st',rfl,hq,hr'⟩
 cases ex with
 | normal =>
   obtain ⟨hlt,g',h1,h3⟩:=hq
   exact ⟨n - (i+1),by omega,i+1,g',hlt,h1,rfl,h3.le a' w' hr'⟩
 | exit id=>exact ⟨.exit id,st',rfl,hq,hr'⟩
 | goto l=>exact ⟨.goto l,st',rfl,hq,hr'⟩
 | ret=>exact ⟨.ret,st',rfl,hq,hr'⟩
end
theorem XCut.one (hmix : E.P.follows .mixedOrders=true) (S : St) (h1 : XC E m st [] (CT E S ks Q)) (h2 : XE E .normal S ks Q) : XCut E m st ks Q:=by
 intro c hm a w hr
 refine wp_mono (exec_sound hmix c m st a w _ hm hr h1) ?_
 rintro e a' w' ⟨ex,st',rfl,hq,hr'⟩
 cases ex with
 | normal=>exact ⟨.normal,S,rfl,h2,hq.le a' w' hr'⟩
 | exit id=>exact ⟨.exit id,st',rfl,hq,hr'⟩
 | goto l=>exact ⟨.goto l,st',rfl,hq,hr'⟩
 | ret=>exact ⟨.ret,st',rfl,hq,hr'⟩
theorem XGuard_true {d : Option Nat} {i : MI} {g : Option (Nat × Bool)} {b : Bool} {ms : List MOp} : XGuard E (some true) ⟨d,i,g,b⟩ ms st ks Q=XR E (⟨d,i,none,b⟩::ms) st ks Q:=by simp [XGuard]
theorem XGuard_false {d : Option Nat} {i : MI} {g : Option (Nat × Bool)} {b : Bool} {ms : List MOp} : XGuard E (some false) ⟨d,i,g,b⟩ ms st ks Q=XR E ms (st.skip d) ks Q:=by simp [XGuard]
theorem XGuard_some {gb : Bool} {d : Option Nat} {i : MI} {g : Option (Nat × Bool)} {b : Bool} {ms : List MOp} : XGuard E (some gb) ⟨d,i,g,b⟩ ms st ks Q=((gb=true→XR E (⟨d,i,none,b⟩::ms) st ks Q)∧(gb=false→XR E ms (st.skip d) ks Q)):=propext Iff.rfl
theorem XDGuard_true {un : List (Nat × Nat)} {v : Nat} {acc : List (List Nat × List Nat)} {d : Option Nat} {i : MI} {g : Option (Nat × Bool)} {b : Bool} {ms : List MOp} : XDGuard E un v acc (some true) ⟨d,i,g,b⟩ ms st ks Q=XD E un v acc (⟨d,i,none,b⟩::ms) st ks Q:=by simp [XDGuard]
theorem XDGuard_false {un : List (Nat × Nat)} {v : Nat} {acc : List (List Nat × List Nat)} {d : Option Nat} {i : MI} {g : Option (Nat × Bool)} {b : Bool} {ms : List MOp} : XDGuard E un v acc (some false) ⟨d,i,g,b⟩ ms st ks Q=XD E un v (acc++[([],[])]) ms (st.skip d) ks Q:=by simp [XDGuard]
theorem XDGuard_some {un : List (Nat × Nat)} {v : Nat} {acc : List (List Nat × List Nat)} {gb : Bool} {d : Option Nat} {i : MI} {g : Option (Nat × Bool)} {b : Bool} {ms : List MOp} : XDGuard E un v acc (some gb) ⟨d,i,g,b⟩ ms st ks Q=((gb=true→XD E un v acc (⟨d,i,none,b⟩::ms) st ks Q)∧(gb=false→XD E un v (acc++[([],[])]) ms (st.skip d) ks Q)):=rfl
theorem XCond_true {a b : MC} : XCond E (.bool true) a b st ks Q=XC E a st ks Q:=by simp [XCond_bool]
theorem XCond_false {a b : MC} : XCond E (.bool false) a b st ks Q=XC E b st ks Q:=by simp [XCond_bool]
end
attribute [simp low] XCond_bool XGuard_some XDGuard_some
attribute [simp high] XCond_true XCond_false XGuard_true XGuard_false XDGuard_true XDGuard_false
attribute [simp] XC_skip XC_reg XC_seq XC_cond XC_block XC_loop XC_scope XC_exit XC_goto XC_label XC_ret XC_cut XE_nil XE_sq XE_sq_exit XE_sq_goto XE_sq_ret XE_bk XE_bk_exit XE_bk_goto XE_bk_ret XR_nil XOp_some XOp_none XR_op XR_alloc XR_call XR_dcall XR_nilcmp XR_guard XR_soft XC_draw XD_nil XDOp_some XDOp_none XD_op XD_call XD_dcall XD_guard XD_soft XSoft XDSoft XNil XDyn XDDyn tagsHu okPairs apartL
theorem nilV_false (xs : List (List PV)) : nilV false xs=false:=rfl
theorem nilV_nil : nilV true []=true:=rfl
theorem nilV_cons (f : Bool) (x : List PV) (xs : List (List PV)) : nilV f (x::xs)=false:=by simp [nilV]
theorem bxOk_refl (b : Bool) (xs : List (List PV)) : bxOk b b xs:=.inl rfl
theorem bxOk_true (b : Bool) (xs : List (List PV)) : bxOk b true xs:=.inr (.inl rfl)
theorem bxOk_tf (xs : List (List PV)) : bxOk true false xs=(kfR xs=true):=by simp [bxOk]
attribute [simp] bxOk_refl bxOk_true bxOk_tf kfV kfL kfR nilV_false nilV_nil nilV_cons
attribute [simp] opSem St.init St.get lk hk St.put St.skip putS MI.allocs binSem retIs retOwn retIn ownIs resAll resOne resOk reify reifyL reify0 reify0L cells mk splice isOne storable fillP fillOk fillR fillROk rowsOf natOf bounds mxOf strip guardC optOk optsOk softGet isRun okOpt MI.isPick MI.ops softOk subS subH leV leL leR leE callOut callOutO keysL keysOf keys0 keys0L okL okV ok0 ok0L LS_mk LN_normal LN_exit LN_ret LN_goto LR_normal LR_exit LR_ret LR_goto CJ_normal CJ_exit CJ_ret CJ_goto CT_normal CT_exit CT_ret CT_goto RQ_normal RQ_exit RQ_ret RQ_goto freezeAll tagsOf scalar scalarL
end Go.Proofs.YtnlfgnelfooljaaGreatDoor.Pv
