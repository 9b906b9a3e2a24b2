/- Part 7. -/
import Derived.Test.YtbdogkmdanmojaaGreatDoorV6
import Derived.Test.YtbdogkmdanmojaaGreatDoorProg
import GoSem.Op.String
set_option linter.unusedSimpArgs false
set_option linter.unusedVariables false
namespace Go.Proofs.YtbdogkmdanmojaaGreatDoor.Pv.M
open Go
abbrev m_cmp_isNaN_string : MC:=(.seq (.reg [o 2 (.mv (.k (.bool false)))]) (.seq (.reg [v 3 0,v 4 0,o 5 (.bin .neq 0 t3 t4),v 2 5]) .ret))
abbrev rs_cmp_isNaN_string : List RV:=[(.tmp 2)]
abbrev b_utf8_ValidString_0 : MC:=(.seq (.seq (.draw [(4,6),(5,6),(4,7),(5,7),(4,10),(5,10),(6,10),(7,10),(8,10),(9,10),(4,11),(5,11),(6,11),(7,11),(8,11),(9,11),(9,12),(4,13),(5,13),(6,13),(7,13),(8,13),(9,13),(10,13),(11,13),(12,13),(4,14),(5,14),(6,14),(7,14),(8,14),(9,14),(10,14),(11,14),(12,14),(9,15),(9,16)] [v 42 0,o 43 (.slen t42),o 44 (.bin .gtr 0 t43 (.k (.int .i64 32))),v 45 44,g 46 45 true (.mv t0),g 47 45 true (.call F_utf8_word_string [t46]),g 48 45 true (.mv t0),g 49 45 true (.sslc t48 (some (.k (.int .i64 8))) none),g 50 45 true (.call F_utf8_word_string [t49]),g 51 45 true (.bin .or 0 t47 t50),g 52 45 true (.mv t0),g 53 45 true (.sslc t52 (some (.k (.int .i64 16))) none),g 54 45 true (.call F_utf8_word_string [t53]),g 55 45 true (.mv t0),g 56 45 true (.sslc t55 (some (.k (.int .i64 24))) none),g 57 45 true (.call F_utf8_word_string [t56]),g 58 45 true (.bin .or 0 t54 t57),g 59 45 true (.bin .or 0 t51 t58),g 60 45 true (.bin .and 0 t59 (.k (.int .u64 9259542123273814144))),g 61 45 true (.bin .eql 0 t60 (.k (.int .u64 0))),o 62 (.pick t45 t61 (.k (.bool false)))]) (.cond t62 .skip (.exit 2))) (.block 3 (.reg [v 63 0,o 64 (.sslc t63 (some (.k (.int .i64 32))) none),v 0 64])))
abbrev c_utf8_ValidString_1 : MC:=(.seq (.draw [(4,6),(5,6),(4,7),(5,7)] [v 27 0,o 28 (.slen t27),o 29 (.bin .gtr 0 t28 (.k (.int .i64 16))),v 30 29,g 31 30 true (.mv t0),g 32 30 true (.call F_utf8_word_string [t31]),g 33 30 true (.mv t0),g 34 30 true (.sslc t33 (some (.k (.int .i64 8))) none),g 35 30 true (.call F_utf8_word_string [t34]),g 36 30 true (.bin .or 0 t32 t35),g 37 30 true (.bin .and 0 t36 (.k (.int .u64 9259542123273814144))),g 38 30 true (.bin .eql 0 t37 (.k (.int .u64 0))),o 39 (.pick t30 t38 (.k (.bool false)))]) (.cond t39 (.seq (.reg [v 40 0,o 41 (.sslc t40 (some (.k (.int .i64 16))) none),v 0 41]) (.block 2 (.loop b_utf8_ValidString_0))) .skip))
abbrev c_utf8_ValidString_2 : MC:=(.seq (.reg [v 16 0,o 17 (.slen t16),o 18 (.bin .gtr 0 t17 (.k (.int .i64 8))),v 19 18,g 20 19 true (.mv t0),g 21 19 true (.call F_utf8_word_string [t20]),g 22 19 true (.bin .and 0 t21 (.k (.int .u64 9259542123273814144))),g 23 19 true (.bin .eql 0 t22 (.k (.int .u64 0))),o 24 (.pick t19 t23 (.k (.bool false)))]) (.cond t24 (.seq (.reg [v 25 0,o 26 (.sslc t25 (some (.k (.int .i64 8))) none),v 0 26]) (.cut c_utf8_ValidString_1)) .skip))
abbrev c_utf8_ValidString_3 : MC:=(.seq (.reg [o 98 (.bin .eql 0 t75 (.k (.int .i64 3))),v 97 98]) (.cond t97 (.seq (.seq (.draw [(4,6),(5,6),(4,7),(5,7),(11,13),(12,13),(11,14),(12,14)] [v 99 0,o 100 (.slen t99),o 101 (.bin .lss 0 t100 (.k (.int .i64 3))),v 102 101,g 103 102 false (.mv t0),g 104 102 false (.sidx t103 (.k (.int .i64 1))),g 105 102 false (.faddr t6 0),g 106 102 false (.load t105 1 false),g 107 102 false (.bin .lss 0 t104 t106),o 108 (.pick t102 (.k (.bool true)) t107),v 109 108,g 110 109 false (.faddr t6 1),g 111 109 false (.load t110 1 false),g 112 109 false (.mv t0),g 113 109 false (.sidx t112 (.k (.int .i64 1))),g 114 109 false (.bin .lss 0 t111 t113),o 115 (.pick t109 (.k (.bool true)) t114),v 116 115,g 117 116 false (.mv t0),g 118 116 false (.sidx t117 (.k (.int .i64 2))),g 119 116 false (.bin .lss 0 t118 (.k (.int .u8 128))),o 120 (.pick t116 (.k (.bool true)) t119),v 121 120,g 122 121 false (.mv t0),g 123 121 false (.sidx t122 (.k (.int .i64 2))),g 124 121 false (.bin .lss 0 (.k (.int .u8 191)) t123),o 125 (.pick t121 (.k (.bool true)) t124)]) (.cond t125 (.seq (.reg [o 2 (.mv (.k (.bool false)))]) .ret) .skip)) (.reg [v 126 0,o 127 (.sslc t126 (some (.k (.int .i64 3))) none),v 0 127])) (.seq (.reg [o 129 (.bin .eql 0 t75 (.k (.int .i64 4))),v 128 129]) (.cond t128 (.seq (.seq (.draw [(4,6),(5,6),(4,7),(5,7),(11,13),(12,13),(11,14),(12,14)] [v 130 0,o 131 (.slen t130),o 132 (.bin .lss 0 t131 (.k (.int .i64 4))),v 133 132,g 134 133 false (.mv t0),g 135 133 false (.sidx t134 (.k (.int .i64 1))),g 136 133 false (.faddr t6 0),g 137 133 false (.load t136 1 false),g 138 133 false (.bin .lss 0 t135 t137),o 139 (.pick t133 (.k (.bool true)) t138),v 140 139,g 141 140 false (.faddr t6 1),g 142 140 false (.load t141 1 false),g 143 140 false (.mv t0),g 144 140 false (.sidx t143 (.k (.int .i64 1))),g 145 140 false (.bin .lss 0 t142 t144),o 146 (.pick t140 (.k (.bool true)) t145),v 147 146,g 148 147 false (.mv t0),g 149 147 false (.sidx t148 (.k (.int .i64 2))),g 150 147 false (.bin .lss 0 t149 (.k (.int .u8 128))),o 151 (.pick t147 (.k (.bool true)) t150),v 152 151,g 153 152 false (.mv t0),g 154 152 false (.sidx t153 (.k (.int .i64 2))),g 155 152 false (.bin .lss 0 (.k (.int .u8 191)) t154),o 156 (.pick t152 (.k (.bool true)) t155),v 157 156,g 158 157 false (.mv t0),g 159 157 false (.sidx t158 (.k (.int .i64 3))),g 160 157 false (.bin .lss 0 t159 (.k (.int .u8 128))),o 161 (.pick t157 (.k (.bool true)) t160),v 162 161,g 163 162 false (.mv t0),g 164 162 false (.sidx t163 (.k (.int .i64 3))),g 165 162 false (.bin .lss 0 (.k (.int .u8 191)) t164),o 166 (.pick t162 (.k (.bool true)) t165)]) (.cond t166 (.seq (.reg [o 2 (.mv (.k (.bool false)))]) .ret) .skip)) (.reg [v 167 0,o 168 (.sslc t167 (some (.k (.int .i64 4))) none),v 0 168])) (.seq (.reg [o 2 (.mv (.k (.bool false)))]) .ret)))))
abbrev c_utf8_ValidString_4 : MC:=(.seq (.reg [o 77 (.bin .eql 0 t75 (.k (.int .i64 2))),v 76 77]) (.cond t76 (.seq (.seq (.draw [(4,6),(5,6),(4,7),(5,7),(11,13),(12,13),(11,14),(12,14)] [v 78 0,o 79 (.slen t78),o 80 (.bin .lss 0 t79 (.k (.int .i64 2))),v 81 80,g 82 81 false (.mv t0),g 83 81 false (.sidx t82 (.k (.int .i64 1))),g 84 81 false (.faddr t6 0),g 85 81 false (.load t84 1 false),g 86 81 false (.bin .lss 0 t83 t85),o 87 (.pick t81 (.k (.bool true)) t86),v 88 87,g 89 88 false (.faddr t6 1),g 90 88 false (.load t89 1 false),g 91 88 false (.mv t0),g 92 88 false (.sidx t91 (.k (.int .i64 1))),g 93 88 false (.bin .lss 0 t90 t92),o 94 (.pick t88 (.k (.bool true)) t93)]) (.cond t94 (.seq (.reg [o 2 (.mv (.k (.bool false)))]) .ret) .skip)) (.reg [v 95 0,o 96 (.sslc t95 (some (.k (.int .i64 2))) none),v 0 96])) (.cut c_utf8_ValidString_3)))
abbrev b_utf8_ValidString_5 : MC:=(.seq (.seq (.reg [v 7 0,o 8 (.slen t7),o 9 (.bin .gtr 0 t8 (.k (.int .i64 0)))]) (.cond t9 .skip (.exit 0))) (.block 1 (.seq (.reg [v 10 0,o 11 (.sidx t10 (.k (.int .i64 0))),v 3 11]) (.seq (.seq (.reg [v 12 3,o 13 (.bin .lss 0 t12 (.k (.int .u8 128)))]) (.cond t13 (.seq (.reg [v 14 0,o 15 (.sslc t14 (some (.k (.int .i64 1))) none),v 0 15]) (.seq (.cut c_utf8_ValidString_2) (.exit 1))) .skip)) (.seq (.reg [v 65 3,o 66 (.iaddrp (.k gFIRST) t65 256 1),w 67 66,v 4 67]) (.seq (.reg [v 68 4,o 69 (.bin .and 0 t68 (.k (.int .u8 7))),o 70 (.conv .i64 t69),v 5 70]) (.seq (.reg [v 71 4,o 72 (.bin .shr 0 t71 (.k (.int .u64 4))),o 73 (.iaddrp (.k gACCEPT) t72 16 2),l 74 73 2,o 6 (.alloc [(.int .u8 0),(.int .u8 0)]),e (.store t6 t74 2)]) (.seq (.reg [v 75 5]) (.block 4 (.cut c_utf8_ValidString_4))))))))))
abbrev m_utf8_ValidString : MC:=(.seq (.reg [o 2 (.mv (.k (.bool false)))]) (.seq (.block 0 (.loop b_utf8_ValidString_5)) (.seq (.reg [o 2 (.mv (.k (.bool true)))]) .ret)))
abbrev rs_utf8_ValidString : List RV:=[(.tmp 2)]
abbrev b_cmp_Or_int_0 : MC:=(.seq (.reg [o 9 (.bin .lss 0 t8 t7)]) (.seq (.cond t9 .skip (.exit 0)) (.seq (.block 1 (.seq (.reg [o 10 (.iaddr t6 t8 1),w 11 10,v 5 11]) (.seq (.reg [v 12 5,v 13 3,o 14 (.bin .neq 0 t12 t13)]) (.cond t14 (.seq (.reg [v 15 5,v 2 15]) .ret) .skip)))) (.reg [o 16 (.bin .add 0 t8 (.k (.int .i64 1))),v 8 16]))))
abbrev t_cmp_Or_int_0 : MC:=(.seq (.reg [v 17 3,v 2 17]) .ret)
abbrev m_cmp_Or_int : MC:=(.seq (.reg [c 2 0]) (.seq (.reg [c 3 0]) (.seq (.seq (.reg [v 6 0,n 7 6,c 8 0]) (.block 0 (.loop b_cmp_Or_int_0))) t_cmp_Or_int_0)))
abbrev rs_cmp_Or_int : List RV:=[(.tmp 2)]
abbrev m_shape_truth : MC:=(.seq (.reg [c 4 0]) (.seq (.block 0 (.seq (.reg [v 6 0,v 7 1,o 8 (.bin .eql 1 t6 t7),v 5 8]) (.cond t5 (.seq (.reg [c 4 0]) .ret) (.seq (.reg [v 10 1,v 9 10]) (.cond t9 (.seq (.reg [o 4 (.mv (.k (.int .i64 (-1))))]) .ret) .skip))))) (.seq (.reg [c 4 1]) .ret)))
abbrev rs_shape_truth : List RV:=[(.tmp 4)]
abbrev b_slices_CompareFunc_Span_0 : MC:=(.seq (.reg [o 14 (.bin .lss 0 t13 t12)]) (.seq (.cond t14 .skip (.exit 0)) (.seq (.block 1 (.seq (.reg [v 15 13,o 16 (.iaddr t11 t13 2),l 17 16 2,o 8 (.alloc [(.str ⟨#[]⟩),(.str ⟨#[]⟩)]),v 7 15,e (.store t8 t17 2)]) (.seq (.seq (.reg [v 18 7,v 19 1,n 20 19,o 21 (.bin .geq 0 t18 t20)]) (.cond t21 (.seq (.reg [c 6 1]) .ret) .skip)) (.seq (.reg [v 22 1,v 23 7,o 24 (.iaddr t22 t23 2),l 25 24 2,o 9 (.alloc [(.str ⟨#[]⟩),(.str ⟨#[]⟩)]),e (.store t9 t25 2)]) (.seq (.reg [v 26 2,l 27 8 2,l 28 9 2,o 29 (.dcall t26 [t27,t28]),v 10 29]) (.seq (.reg [v 30 10,o 31 (.bin .neq 0 t30 (.k (.int .i64 0)))]) (.cond t31 (.seq (.reg [v 32 10,v 6 32]) .ret) .skip))))))) (.reg [o 33 (.bin .add 0 t13 (.k (.int .i64 1))),v 13 33]))))
abbrev t_slices_CompareFunc_Span_0 : MC:=(.seq (.seq (.reg [v 34 0,n 35 34,v 36 1,n 37 36,o 38 (.bin .lss 0 t35 t37)]) (.cond t38 (.seq (.reg [o 6 (.mv (.k (.int .i64 (-1))))]) .ret) .skip)) (.seq (.reg [c 6 0]) .ret))
abbrev m_slices_CompareFunc_Span : MC:=(.seq (.reg [c 6 0]) (.seq (.seq (.reg [v 11 0,n 12 11,c 13 0]) (.block 0 (.loop b_slices_CompareFunc_Span_0))) t_slices_CompareFunc_Span_0))
abbrev rs_slices_CompareFunc_Span : List RV:=[(.tmp 6)]
abbrev m_shape_span : MC:=(.seq (.reg [o 2 (.box t0),o 3 (.box t1),c 4 0]) (.seq (.draw [(0,2),(1,2),(0,3),(1,3),(0,5),(1,5),(2,5),(3,5),(4,5),(0,6),(1,6),(2,6),(3,6),(4,6),(0,7),(1,7),(2,7),(3,7),(4,7),(5,7),(6,7),(0,8),(1,8),(2,8),(3,8),(4,8),(5,8),(6,8)] [f 5 2 0,w 6 5,f 7 3 0,w 8 7,o 9 (.call F_shape_bound [t6,t8,(.k (.int .i64 (-1)))]),f 10 2 1,w 11 10,f 12 3 1,w 13 12,o 14 (.call F_shape_bound [t11,t13,(.k (.int .i64 1))]),o 15 (.bslice 1 [(.int .i64 0)] 2 [(0,t9),(1,t14)]),o 16 (.call F_cmp_Or_int [t15]),v 4 16]) .ret))
abbrev rs_shape_span : List RV:=[(.tmp 4)]
abbrev b_slices_Compare_string_0 : MC:=(.seq (.reg [o 12 (.bin .lss 0 t11 t10)]) (.seq (.cond t12 .skip (.exit 0)) (.seq (.block 1 (.seq (.reg [v 13 11,o 14 (.iaddr t9 t11 1),w 15 14,v 5 13,v 6 15]) (.seq (.seq (.reg [v 16 5,v 17 1,n 18 17,o 19 (.bin .geq 0 t16 t18)]) (.cond t19 (.seq (.reg [c 4 1]) .ret) .skip)) (.seq (.reg [v 20 1,v 21 5,o 22 (.iaddr t20 t21 1),w 23 22,v 7 23]) (.seq (.reg [v 24 6,v 25 7,o 26 (.call F_cmp_Compare_string [t24,t25]),v 8 26]) (.seq (.reg [v 27 8,o 28 (.bin .neq 0 t27 (.k (.int .i64 0)))]) (.cond t28 (.seq (.reg [v 29 8,v 4 29]) .ret) .skip))))))) (.reg [o 30 (.bin .add 0 t11 (.k (.int .i64 1))),v 11 30]))))
abbrev t_slices_Compare_string_0 : MC:=(.seq (.seq (.reg [v 31 0,n 32 31,v 33 1,n 34 33,o 35 (.bin .lss 0 t32 t34)]) (.cond t35 (.seq (.reg [o 4 (.mv (.k (.int .i64 (-1))))]) .ret) .skip)) (.seq (.reg [c 4 0]) .ret))
abbrev m_slices_Compare_string : MC:=(.seq (.reg [c 4 0]) (.seq (.seq (.reg [v 9 0,n 10 9,c 11 0]) (.block 0 (.loop b_slices_Compare_string_0))) t_slices_Compare_string_0))
abbrev rs_slices_Compare_string : List RV:=[(.tmp 4)]
abbrev b_slices_CompareFunc_Arr_0 : MC:=(.seq (.reg [o 14 (.bin .lss 0 t13 t12)]) (.seq (.cond t14 .skip (.exit 0)) (.seq (.block 1 (.seq (.reg [v 15 13,o 16 (.iaddr t11 t13 11),l 17 16 11,o 8 (.alloc z6),v 7 15,e (.store t8 t17 11)]) (.seq (.seq (.reg [v 18 7,v 19 1,n 20 19,o 21 (.bin .geq 0 t18 t20)]) (.cond t21 (.seq (.reg [c 6 1]) .ret) .skip)) (.seq (.reg [v 22 1,v 23 7,o 24 (.iaddr t22 t23 11),l 25 24 11,o 9 (.alloc z6),e (.store t9 t25 11)]) (.seq (.reg [v 26 2,l 27 8 11,l 28 9 11,o 29 (.dcall t26 [t27,t28]),v 10 29]) (.seq (.reg [v 30 10,o 31 (.bin .neq 0 t30 (.k (.int .i64 0)))]) (.cond t31 (.seq (.reg [v 32 10,v 6 32]) .ret) .skip))))))) (.reg [o 33 (.bin .add 0 t13 (.k (.int .i64 1))),v 13 33]))))
abbrev t_slices_CompareFunc_Arr_0 : MC:=(.seq (.seq (.reg [v 34 0,n 35 34,v 36 1,n 37 36,o 38 (.bin .lss 0 t35 t37)]) (.cond t38 (.seq (.reg [o 6 (.mv (.k (.int .i64 (-1))))]) .ret) .skip)) (.seq (.reg [c 6 0]) .ret))
abbrev m_slices_CompareFunc_Arr : MC:=(.seq (.reg [c 6 0]) (.seq (.seq (.reg [v 11 0,n 12 11,c 13 0]) (.block 0 (.loop b_slices_CompareFunc_Arr_0))) t_slices_CompareFunc_Arr_0))
abbrev rs_slices_CompareFunc_Arr : List RV:=[(.tmp 6)]
abbrev b_slices_CompareFunc_Obj_0 : MC:=(.seq (.reg [o 14 (.bin .lss 0 t13 t12)]) (.seq (.cond t14 .skip (.exit 0)) (.seq (.block 1 (.seq (.reg [v 15 13,o 16 (.iaddr t11 t13 12),l 17 16 12,o 8 (.alloc z4),v 7 15,e (.store t8 t17 12)]) (.seq (.seq (.reg [v 18 7,v 19 1,n 20 19,o 21 (.bin .geq 0 t18 t20)]) (.cond t21 (.seq (.reg [c 6 1]) .ret) .skip)) (.seq (.reg [v 22 1,v 23 7,o 24 (.iaddr t22 t23 12),l 25 24 12,o 9 (.alloc z4),e (.store t9 t25 12)]) (.seq (.reg [v 26 2,l 27 8 12,l 28 9 12,o 29 (.dcall t26 [t27,t28]),v 10 29]) (.seq (.reg [v 30 10,o 31 (.bin .neq 0 t30 (.k (.int .i64 0)))]) (.cond t31 (.seq (.reg [v 32 10,v 6 32]) .ret) .skip))))))) (.reg [o 33 (.bin .add 0 t13 (.k (.int .i64 1))),v 13 33]))))
abbrev t_slices_CompareFunc_Obj_0 : MC:=(.seq (.seq (.reg [v 34 0,n 35 34,v 36 1,n 37 36,o 38 (.bin .lss 0 t35 t37)]) (.cond t38 (.seq (.reg [o 6 (.mv (.k (.int .i64 (-1))))]) .ret) .skip)) (.seq (.reg [c 6 0]) .ret))
abbrev m_slices_CompareFunc_Obj : MC:=(.seq (.reg [c 6 0]) (.seq (.seq (.reg [v 11 0,n 12 11,c 13 0]) (.block 0 (.loop b_slices_CompareFunc_Obj_0))) t_slices_CompareFunc_Obj_0))
abbrev rs_slices_CompareFunc_Obj : List RV:=[(.tmp 6)]
abbrev c_tens_plus_0 : MC:=(.seq (.reg [v 9 0,o 10 (.slen t9),v 11 1,o 12 (.slen t11),o 13 (.bin .lss 0 t10 t12)]) (.cond t13 (.reg [v 14 1,v 15 0,v 0 14,v 1 15]) .skip))
abbrev c_tens_plus_1 : MC:=(.seq (.reg [v 42 7,v 43 1,o 44 (.slen t43),o 45 (.bin .leq 0 t42 t44)]) (.cond t45 (.draw [(0,1),(0,4),(1,4),(2,4),(3,4),(0,5),(1,5),(2,5),(3,5),(4,5),(0,6),(1,6),(2,6),(3,6),(4,6),(0,7),(1,7),(2,7),(3,7),(4,7),(5,7),(6,7),(0,8),(1,8),(2,8),(3,8),(4,8),(0,9),(1,9),(2,9),(3,9),(0,10),(1,10),(2,10),(3,10)] [v 46 5,v 47 8,o 48 (.iaddr t46 t47 1),w 49 48,v 50 1,v 51 1,o 52 (.slen t51),v 53 7,o 54 (.bin .sub 0 t52 t53),o 55 (.sidx t50 t54),o 56 (.bin .sub 0 t55 (.k (.int .u8 48))),o 57 (.bin .add 0 t49 t56),o 58 (.iaddr t46 t47 1),e (.store t58 t57 1)]) .skip))
abbrev c_tens_plus_2 : MC:=(.seq (.reg [v 59 5,v 60 8,o 61 (.iaddr t59 t60 1),w 62 61,o 63 (.bin .gtr 0 t62 (.k (.int .u8 57)))]) (.cond t63 (.seq (.reg [v 64 5,v 65 8,o 66 (.iaddr t64 t65 1),w 67 66,o 68 (.bin .sub 0 t67 (.k (.int .u8 10))),o 69 (.iaddr t64 t65 1),e (.store t69 t68 1)]) (.reg [o 6 (.mv (.k (.int .u8 1)))])) .skip))
abbrev t_tens_plus_0 : MC:=(.seq (.reg [o 6 (.mv (.k (.int .u8 0)))]) (.cut c_tens_plus_2))
abbrev b_tens_plus_3 : MC:=(.seq (.seq (.reg [v 25 7,v 26 0,o 27 (.slen t26),o 28 (.bin .leq 0 t25 t27)]) (.cond t28 .skip (.exit 0))) (.seq (.block 1 (.seq (.reg [v 31 5,n 32 31,v 33 7,o 34 (.bin .sub 0 t32 t33),v 8 34]) (.seq (.reg [v 35 5,v 36 8,o 37 (.iaddr t35 t36 1),w 38 37,v 39 6,o 40 (.bin .add 0 t38 t39),o 41 (.iaddr t35 t36 1),e (.store t41 t40 1)]) (.seq (.cut c_tens_plus_1) t_tens_plus_0)))) (.reg [v 29 7,o 30 (.bin .add 0 t29 (.k (.int .i64 1))),v 7 30])))
abbrev t_tens_plus_1 : MC:=(.seq (.reg [v 70 5,o 71 (.iaddr t70 (.k (.int .i64 0)) 1),w 72 71,v 73 6,o 74 (.bin .add 0 t72 t73),o 75 (.iaddr t70 (.k (.int .i64 0)) 1),e (.store t75 t74 1)]) (.seq (.reg [v 76 5,o 77 (.call F_tens_text [t76]),v 4 77]) .ret))
abbrev t_tens_plus_2 : MC:=(.seq (.reg [v 16 0,o 17 (.slen t16),o 18 (.bin .add 0 t17 (.k (.int .i64 1))),o 19 (.mksl 1 [(.int .u8 0)] (.k (.int .i64 0)) t18),o 20 (.bslice 1 [(.int .u8 0)] 1 [(0,(.k (.int .u8 48)))]),o 21 (.app t19 t20 1),v 5 21]) (.seq (.reg [v 22 5,v 23 0,o 24 (.app t22 t23 1),v 5 24]) (.seq (.reg [o 6 (.mv (.k (.int .u8 0)))]) (.seq (.seq (.reg [c 7 1]) (.block 0 (.loop b_tens_plus_3))) t_tens_plus_1))))
abbrev m_tens_plus : MC:=(.seq (.reg [o 4 (.mv (.k (.str ⟨#[]⟩)))]) (.seq (.cut c_tens_plus_0) t_tens_plus_2))
abbrev rs_tens_plus : List RV:=[(.tmp 4)]
abbrev c_slices_Grow_Span_0 : MC:=(.seq (.reg [v 5 1,o 6 (.bin .lss 0 t5 (.k (.int .i64 0)))]) (.cond t6 (.reg [o 7 (.mkif 9 (.k (.str ⟨#[99,97,110,110,111,116,32,98,101,32,110,101,103,97,116,105,118,101]⟩))),e (.bad)]) .skip))
abbrev c_slices_Grow_Span_1 : MC:=(.seq (.reg [v 15 1,o 16 (.bin .gtr 0 t15 (.k (.int .i64 0)))]) (.cond t16 (.reg [v 17 0,v 18 0,o 19 (.cap t18),o 20 (.slc t17 2 none (some t19) none),v 21 1,o 22 (.appz t20 t21 2 [(.str ⟨#[]⟩),(.str ⟨#[]⟩)]),v 23 0,n 24 23,o 25 (.slc t22 2 none (some t24) none),v 0 25]) .skip))
abbrev t_slices_Grow_Span_0 : MC:=(.seq (.seq (.reg [v 8 1,v 9 0,o 10 (.cap t9),v 11 0,n 12 11,o 13 (.bin .sub 0 t10 t12),o 14 (.bin .sub 0 t8 t13),v 1 14]) (.cut c_slices_Grow_Span_1)) (.seq (.reg [v 26 0,v 4 26]) .ret))
abbrev m_slices_Grow_Span : MC:=(.seq (.reg [o 4 (.mv (.k (.vec 2 true [])))]) (.seq (.cut c_slices_Grow_Span_0) t_slices_Grow_Span_0))
abbrev rs_slices_Grow_Span : List RV:=[(.tmp 4)]
abbrev c_slices_Grow_Arr_0 : MC:=(.seq (.reg [v 5 1,o 6 (.bin .lss 0 t5 (.k (.int .i64 0)))]) (.cond t6 (.reg [o 7 (.mkif 9 (.k (.str ⟨#[99,97,110,110,111,116,32,98,101,32,110,101,103,97,116,105,118,101]⟩))),e (.bad)]) .skip))
abbrev c_slices_Grow_Arr_1 : MC:=(.seq (.reg [v 15 1,o 16 (.bin .gtr 0 t15 (.k (.int .i64 0)))]) (.cond t16 (.reg [v 17 0,v 18 0,o 19 (.cap t18),o 20 (.slc t17 11 none (some t19) none),v 21 1,o 22 (.appz t20 t21 11 z6),v 23 0,n 24 23,o 25 (.slc t22 11 none (some t24) none),v 0 25]) .skip))
abbrev t_slices_Grow_Arr_0 : MC:=(.seq (.seq (.reg [v 8 1,v 9 0,o 10 (.cap t9),v 11 0,n 12 11,o 13 (.bin .sub 0 t10 t12),o 14 (.bin .sub 0 t8 t13),v 1 14]) (.cut c_slices_Grow_Arr_1)) (.seq (.reg [v 26 0,v 4 26]) .ret))
abbrev m_slices_Grow_Arr : MC:=(.seq (.reg [o 4 (.mv (.k (.vec 11 true [])))]) (.seq (.cut c_slices_Grow_Arr_0) t_slices_Grow_Arr_0))
abbrev rs_slices_Grow_Arr : List RV:=[(.tmp 4)]
abbrev b_slices_insertionSortOrdered_string_0 : MC:=(.seq (.seq (.draw [(0,1),(4,5),(4,8),(5,8),(6,8),(7,8),(4,9),(5,9),(6,9),(7,9),(8,9),(4,10),(5,10),(6,10),(7,10),(8,10),(4,11),(5,11),(6,11),(7,11),(4,12),(5,12),(6,12),(7,12)] [v 16 7,v 17 1,o 18 (.bin .gtr 0 t16 t17),v 19 18,g 20 19 true (.mv t0),g 21 19 true (.mv t7),g 22 19 true (.iaddr t20 t21 1),g 23 19 true (.load t22 1 false),g 24 19 true (.mv t0),g 25 19 true (.mv t7),g 26 19 true (.bin .sub 0 t25 (.k (.int .i64 1))),g 27 19 true (.iaddr t24 t26 1),g 28 19 true (.load t27 1 false),g 29 19 true (.call F_cmp_Less_string [t23,t28]),o 30 (.pick t19 t29 (.k (.bool false)))]) (.cond t30 .skip (.exit 2))) (.seq (.block 3 (.draw [(0,1),(0,2),(1,2),(0,3),(1,3),(2,3),(0,4),(1,4),(2,4),(0,5),(1,5),(2,5),(3,5),(4,5),(0,6),(1,6),(2,6),(3,6),(4,6),(5,6),(0,7),(1,7),(2,7),(3,7),(4,7),(5,7),(0,8),(1,8),(2,8),(3,8),(4,8),(0,9),(1,9),(2,9),(3,9),(4,9),(0,10),(1,10),(2,10),(3,10),(4,10),(5,10),(6,10),(7,10),(8,10),(9,10),(0,11),(1,11),(2,11),(3,11),(4,11),(5,11),(6,11),(7,11),(8,11),(9,11),(10,11),(0,12),(1,12),(2,12),(3,12),(4,12),(5,12),(6,12),(7,12),(8,12),(9,12),(0,13),(1,13),(2,13),(3,13),(4,13),(5,13),(6,13),(7,13),(8,13),(9,13),(2,14),(3,14),(4,14),(2,15),(3,15),(4,15)] [v 33 0,v 34 7,v 35 0,v 36 7,o 37 (.bin .sub 0 t36 (.k (.int .i64 1))),v 38 0,v 39 7,o 40 (.bin .sub 0 t39 (.k (.int .i64 1))),o 41 (.iaddr t38 t40 1),w 42 41,v 43 0,v 44 7,o 45 (.iaddr t43 t44 1),w 46 45,o 47 (.iaddr t33 t34 1),e (.store t47 t42 1),o 48 (.iaddr t35 t37 1),e (.store t48 t46 1)])) (.reg [v 31 7,o 32 (.bin .sub 0 t31 (.k (.int .i64 1))),v 7 32])))
abbrev b_slices_insertionSortOrdered_string_1 : MC:=(.seq (.seq (.reg [v 10 6,v 11 2,o 12 (.bin .lss 0 t10 t11)]) (.cond t12 .skip (.exit 0))) (.seq (.block 1 (.seq (.reg [v 15 6,v 7 15]) (.block 2 (.loop b_slices_insertionSortOrdered_string_0)))) (.reg [v 13 6,o 14 (.bin .add 0 t13 (.k (.int .i64 1))),v 6 14])))
abbrev m_slices_insertionSortOrdered_string : MC:=(.seq (.reg [v 8 1,o 9 (.bin .add 0 t8 (.k (.int .i64 1))),v 6 9]) (.block 0 (.loop b_slices_insertionSortOrdered_string_1)))
abbrev rs_slices_insertionSortOrdered_string : List RV:=[]
abbrev c_bits_Len64_0 : MC:=(.seq (.reg [v 3 0,o 4 (.bin .geq 0 t3 (.k (.int .u64 4294967296)))]) (.cond t4 (.seq (.reg [v 5 0,o 6 (.bin .shr 0 t5 (.k (.int .u64 32))),v 0 6]) (.reg [c 2 32])) .skip))
abbrev c_bits_Len64_1 : MC:=(.seq (.reg [v 7 0,o 8 (.bin .geq 0 t7 (.k (.int .u64 65536)))]) (.cond t8 (.seq (.reg [v 9 0,o 10 (.bin .shr 0 t9 (.k (.int .u64 16))),v 0 10]) (.reg [v 11 2,o 12 (.bin .add 0 t11 (.k (.int .i64 16))),v 2 12])) .skip))
abbrev c_bits_Len64_2 : MC:=(.seq (.reg [v 13 0,o 14 (.bin .geq 0 t13 (.k (.int .u64 256)))]) (.cond t14 (.seq (.reg [v 15 0,o 16 (.bin .shr 0 t15 (.k (.int .u64 8))),v 0 16]) (.reg [v 17 2,o 18 (.bin .add 0 t17 (.k (.int .i64 8))),v 2 18])) .skip))
abbrev t_bits_Len64_0 : MC:=(.seq (.reg [v 19 2,v 20 0,o 21 (.conv .u8 t20),o 22 (.sidx (.k (.str ⟨#[0,1,2,2,3,3,3,3,4,4,4,4,4,4,4,4,5,5,5,5,5,5,5,5,5,5,5,5,5,5,5,5,6,6,6,6,6,6,6,6,6,6,6,6,6,6,6,6,6,6,6,6,6,6,6,6,6,6,6,6,6,6,6,6,7,7,7,7,7,7,7,7,7,7,7,7,7,7,7,7,7,7,7,7,7,7,7,7,7,7,7,7,7,7,7,7,7,7,7,7,7,7,7,7,7,7,7,7,7,7,7,7,7,7,7,7,7,7,7,7,7,7,7,7,7,7,7,7,8,8,8,8,8,8,8,8,8,8,8,8,8,8,8,8,8,8,8,8,8,8,8,8,8,8,8,8,8,8,8,8,8,8,8,8,8,8,8,8,8,8,8,8,8,8,8,8,8,8,8,8,8,8,8,8,8,8,8,8,8,8,8,8,8,8,8,8,8,8,8,8,8,8,8,8,8,8,8,8,8,8,8,8,8,8,8,8,8,8,8,8,8,8,8,8,8,8,8,8,8,8,8,8,8,8,8,8,8,8,8,8,8,8,8,8,8,8,8,8,8,8,8,8,8,8,8,8]⟩)) t21),o 23 (.conv .i64 t22),o 24 (.bin .add 0 t19 t23),v 2 24]) .ret)
abbrev t_bits_Len64_1 : MC:=(.seq (.cut c_bits_Len64_2) t_bits_Len64_0)
abbrev t_bits_Len64_2 : MC:=(.seq (.cut c_bits_Len64_1) t_bits_Len64_1)
abbrev m_bits_Len64 : MC:=(.seq (.reg [c 2 0]) (.seq (.cut c_bits_Len64_0) t_bits_Len64_2))
abbrev rs_bits_Len64 : List RV:=[(.tmp 2)]
abbrev m_slices_SortStableFunc_Obj : MC:=(.reg [v 4 0,v 5 0,n 6 5,v 7 1,o 8 (.call F_slices_stableCmpFunc_Obj [t4,t6,t7])])
abbrev rs_slices_SortStableFunc_Obj : List RV:=[]
abbrev b_tidy_outermost_0 : MC:=(.seq (.reg [o 14 (.bin .lss 0 t13 t12)]) (.seq (.cond t14 .skip (.exit 2)) (.seq (.block 3 (.seq (.reg [v 15 13,o 16 (.iaddr t11 t13 12),l 17 16 12,o 6 (.alloc z4),v 5 15,e (.store t6 t17 12)]) (.draw [(2,3),(6,7),(6,11),(7,11),(8,11),(9,11),(10,11)] [v 18 4,v 19 18,g 20 19 false (.mv t5),g 21 19 false (.mv t3),g 22 19 false (.bin .neq 0 t20 t21),g 23 19 false (.mv t22),g 24 23 true (.mv t0),g 25 23 true (.mv t3),g 26 23 true (.iaddr t24 t25 12),g 27 23 true (.load t26 12 true),g 28 23 true (.call F_tidy_alone [t27]),g 29 23 true (.load t6 12 true),g 30 23 true (.call F_tidy_alone [t29]),g 31 23 true (.call F_below_Below [t28,t30]),g 32 19 false (.pick t23 t31 (.k (.bool false))),o 33 (.pick t19 (.k (.bool true)) t32),v 4 33]))) (.reg [o 34 (.bin .add 0 t13 (.k (.int .i64 1))),v 13 34]))))
abbrev c_tidy_outermost_1 : MC:=(.seq (.reg [v 35 4]) (.cond t35 (.reg [v 36 0,v 37 3,v 38 3,o 39 (.bin .add 0 t38 (.k (.int .i64 1))),o 40 (.call F_slices_Delete_Obj [t36,t37,t39]),v 0 40]) (.reg [v 41 3,o 42 (.bin .add 0 t41 (.k (.int .i64 1))),v 3 42])))
abbrev b_tidy_outermost_2 : MC:=(.seq (.seq (.reg [v 7 3,v 8 0,n 9 8,o 10 (.bin .lss 0 t7 t9)]) (.cond t10 .skip (.exit 0))) (.block 1 (.seq (.reg [o 4 (.mv (.k (.bool false)))]) (.seq (.seq (.reg [v 11 0,n 12 11,c 13 0]) (.block 2 (.loop b_tidy_outermost_0))) (.cut c_tidy_outermost_1)))))
abbrev t_tidy_outermost_0 : MC:=(.seq (.reg [v 43 0,v 2 43]) .ret)
abbrev m_tidy_outermost : MC:=(.seq (.reg [o 2 (.mv (.k (.vec 12 true [])))]) (.seq (.seq (.reg [c 3 0]) (.block 0 (.loop b_tidy_outermost_2))) t_tidy_outermost_0))
abbrev rs_tidy_outermost : List RV:=[(.tmp 2)]
abbrev c_slices_CompactFunc_Obj_0 : MC:=(.seq (.draw [(0,1),(0,2),(1,2),(0,3),(0,4),(0,5),(1,5),(2,5),(3,5),(4,5),(0,6),(1,6),(2,6),(3,6),(4,6),(5,6),(0,7),(1,7),(2,7),(3,7),(4,7),(5,7),(0,8),(1,8),(2,8),(3,8),(4,8),(0,9),(1,9),(2,9),(3,9),(4,9)] [v 38 1,v 39 6,v 40 7,o 41 (.iaddr t39 t40 12),l 42 41 12,v 43 6,v 44 7,o 45 (.bin .sub 0 t44 (.k (.int .i64 1))),o 46 (.iaddr t43 t45 12),l 47 46 12,o 48 (.dcall t38 [t42,t47]),o 49 (.un .not t48)]) (.cond t49 (.seq (.reg [v 50 0,v 51 5,v 52 6,v 53 7,o 54 (.iaddr t52 t53 12),l 55 54 12,o 56 (.iaddr t50 t51 12),e (.store t56 t55 12)]) (.reg [v 57 5,o 58 (.bin .add 0 t57 (.k (.int .i64 1))),v 5 58])) .skip))
abbrev b_slices_CompactFunc_Obj_1 : MC:=(.seq (.seq (.reg [v 32 7,v 33 6,n 34 33,o 35 (.bin .lss 0 t32 t34)]) (.cond t35 .skip (.exit 2))) (.seq (.block 3 (.cut c_slices_CompactFunc_Obj_0)) (.reg [v 36 7,o 37 (.bin .add 0 t36 (.k (.int .i64 1))),v 7 37])))
abbrev t_slices_CompactFunc_Obj_0 : MC:=(.seq (.reg [v 59 0,v 60 5,o 61 (.slc t59 12 (some t60) none none),e (.clr t61 12)]) (.seq (.reg [v 62 0,v 63 5,o 64 (.slc t62 12 none (some t63) none),v 4 64]) .ret))
abbrev b_slices_CompactFunc_Obj_2 : MC:=(.seq (.seq (.reg [v 12 5,v 13 0,n 14 13,o 15 (.bin .lss 0 t12 t14)]) (.cond t15 .skip (.exit 0))) (.seq (.block 1 (.seq (.draw [(0,1),(0,2),(1,2),(0,3),(0,4),(0,5),(1,5),(2,5),(3,5),(4,5),(0,6),(1,6),(2,6),(3,6),(4,6),(5,6),(0,7),(1,7),(2,7),(3,7),(4,7),(5,7),(0,8),(1,8),(2,8),(3,8),(4,8),(0,9),(1,9),(2,9),(3,9),(4,9)] [v 18 1,v 19 0,v 20 5,o 21 (.iaddr t19 t20 12),l 22 21 12,v 23 0,v 24 5,o 25 (.bin .sub 0 t24 (.k (.int .i64 1))),o 26 (.iaddr t23 t25 12),l 27 26 12,o 28 (.dcall t18 [t22,t27])]) (.cond t28 (.seq (.reg [v 29 0,v 30 5,o 31 (.slc t29 12 (some t30) none none),v 6 31]) (.seq (.seq (.reg [c 7 1]) (.block 2 (.loop b_slices_CompactFunc_Obj_1))) t_slices_CompactFunc_Obj_0)) .skip))) (.reg [v 16 5,o 17 (.bin .add 0 t16 (.k (.int .i64 1))),v 5 17])))
abbrev t_slices_CompactFunc_Obj_1 : MC:=(.seq (.reg [v 65 0,v 4 65]) .ret)
abbrev m_slices_CompactFunc_Obj : MC:=(.seq (.reg [o 4 (.mv (.k (.vec 12 true [])))]) (.seq (.seq (.reg [v 8 0,n 9 8,o 10 (.bin .lss 0 t9 (.k (.int .i64 2)))]) (.cond t10 (.seq (.reg [v 11 0,v 4 11]) .ret) .skip)) (.seq (.seq (.reg [c 5 1]) (.block 0 (.loop b_slices_CompactFunc_Obj_2))) t_slices_CompactFunc_Obj_1)))
abbrev rs_slices_CompactFunc_Obj : List RV:=[(.tmp 4)]
abbrev m_shape_bound : MC:=(.seq (.reg [c 6 0]) (.seq (.block 0 (.seq (.reg [v 8 0,v 9 1,o 10 (.bin .eql 0 t8 t9),v 7 10]) (.cond t7 (.seq (.reg [c 6 0]) .ret) (.seq (.reg [v 12 0,o 13 (.bin .eql 0 t12 (.k (.str ⟨#[]⟩))),v 11 13]) (.cond t11 (.seq (.reg [v 14 2,v 6 14]) .ret) (.seq (.reg [v 16 1,o 17 (.bin .eql 0 t16 (.k (.str ⟨#[]⟩))),v 15 17]) (.cond t15 (.seq (.reg [v 18 2,o 19 (.un .neg t18),v 6 19]) .ret) .skip))))))) (.seq (.reg [v 20 0,v 21 1,o 22 (.call F_shape_worth [t20,t21]),v 6 22]) .ret)))
abbrev rs_shape_bound : List RV:=[(.tmp 6)]
abbrev b_tens_text_0 : MC:=(.seq (.seq (.reg [v 4 3,v 5 0,n 6 5,o 7 (.bin .sub 0 t6 (.k (.int .i64 1))),o 8 (.bin .lss 0 t4 t7),v 9 8,g 10 9 true (.mv t0),g 11 9 true (.mv t3),g 12 9 true (.iaddr t10 t11 1),g 13 9 true (.load t12 1 false),g 14 9 true (.bin .eql 0 t13 (.k (.int .u8 48))),o 15 (.pick t9 t14 (.k (.bool false)))]) (.cond t15 .skip (.exit 0))) (.block 1 (.reg [v 16 3,o 17 (.bin .add 0 t16 (.k (.int .i64 1))),v 3 17])))
abbrev t_tens_text_0 : MC:=(.seq (.reg [v 18 0,v 19 3,v 20 0,n 21 20,v 22 0,n 23 22,o 24 (.slc t18 1 (some t19) (some t21) (some t23)),o 25 (.b2s t24),v 2 25]) .ret)
abbrev m_tens_text : MC:=(.seq (.reg [o 2 (.mv (.k (.str ⟨#[]⟩)))]) (.seq (.reg [c 3 0]) (.seq (.block 0 (.loop b_tens_text_0)) t_tens_text_0)))
abbrev rs_tens_text : List RV:=[(.tmp 2)]
abbrev b_slices_stableCmpFunc_Obj_0 : MC:=(.seq (.seq (.reg [v 11 8,v 12 1,o 13 (.bin .leq 0 t11 t12)]) (.cond t13 .skip (.exit 0))) (.block 1 (.seq (.reg [v 14 0,v 15 7,v 16 8,v 17 2,o 18 (.call F_slices_insertionSortCmpFunc_Obj [t14,t15,t16,t17])]) (.seq (.reg [v 19 8,v 7 19]) (.reg [v 20 8,v 21 6,o 22 (.bin .add 0 t20 t21),v 8 22])))))
abbrev b_slices_stableCmpFunc_Obj_1 : MC:=(.seq (.seq (.reg [v 33 8,v 34 1,o 35 (.bin .leq 0 t33 t34)]) (.cond t35 .skip (.exit 4))) (.block 5 (.seq (.reg [v 36 0,v 37 7,v 38 7,v 39 6,o 40 (.bin .add 0 t38 t39),v 41 8,v 42 2,o 43 (.call F_slices_symMergeCmpFunc_Obj [t36,t37,t40,t41,t42])]) (.seq (.reg [v 44 8,v 7 44]) (.reg [v 45 8,v 46 6,o 47 (.bin .mul 0 (.k (.int .i64 2)) t46),o 48 (.bin .add 0 t45 t47),v 8 48])))))
abbrev c_slices_stableCmpFunc_Obj_2 : MC:=(.seq (.reg [v 52 9,v 53 1,o 54 (.bin .lss 0 t52 t53)]) (.cond t54 (.reg [v 55 0,v 56 7,v 57 9,v 58 1,v 59 2,o 60 (.call F_slices_symMergeCmpFunc_Obj [t55,t56,t57,t58,t59])]) .skip))
abbrev t_slices_stableCmpFunc_Obj_0 : MC:=(.seq (.seq (.reg [v 49 7,v 50 6,o 51 (.bin .add 0 t49 t50),v 9 51]) (.cut c_slices_stableCmpFunc_Obj_2)) (.reg [v 61 6,o 62 (.bin .mul 0 t61 (.k (.int .i64 2))),v 6 62]))
abbrev b_slices_stableCmpFunc_Obj_3 : MC:=(.seq (.seq (.reg [v 28 6,v 29 1,o 30 (.bin .lss 0 t28 t29)]) (.cond t30 .skip (.exit 2))) (.block 3 (.seq (.reg [v 31 6,o 32 (.bin .mul 0 (.k (.int .i64 2)) t31),c 7 0,v 8 32]) (.seq (.block 4 (.loop b_slices_stableCmpFunc_Obj_1)) t_slices_stableCmpFunc_Obj_0))))
abbrev t_slices_stableCmpFunc_Obj_1 : MC:=(.seq (.reg [v 23 0,v 24 7,v 25 1,v 26 2,o 27 (.call F_slices_insertionSortCmpFunc_Obj [t23,t24,t25,t26])]) (.block 2 (.loop b_slices_stableCmpFunc_Obj_3)))
abbrev m_slices_stableCmpFunc_Obj : MC:=(.seq (.reg [c 6 20]) (.seq (.reg [v 10 6,c 7 0,v 8 10]) (.seq (.block 0 (.loop b_slices_stableCmpFunc_Obj_0)) t_slices_stableCmpFunc_Obj_1)))
abbrev rs_slices_stableCmpFunc_Obj : List RV:=[]
abbrev b_slices_insertionSortCmpFunc_Obj_0 : MC:=(.seq (.seq (.draw [(0,1),(4,5),(4,6),(5,6),(4,7),(4,8),(4,9),(5,9),(6,9),(7,9),(8,9),(4,10),(5,10),(6,10),(7,10),(8,10),(9,10),(4,11),(5,11),(6,11),(7,11),(8,11),(9,11),(4,12),(5,12),(6,12),(7,12),(8,12),(4,13),(5,13),(6,13),(7,13),(8,13)] [v 18 9,v 19 1,o 20 (.bin .gtr 0 t18 t19),v 21 20,g 22 21 true (.mv t3),g 23 21 true (.mv t0),g 24 21 true (.mv t9),g 25 21 true (.iaddr t23 t24 12),g 26 21 true (.load t25 12 true),g 27 21 true (.mv t0),g 28 21 true (.mv t9),g 29 21 true (.bin .sub 0 t28 (.k (.int .i64 1))),g 30 21 true (.iaddr t27 t29 12),g 31 21 true (.load t30 12 true),g 32 21 true (.dcall t22 [t26,t31]),g 33 21 true (.bin .lss 0 t32 (.k (.int .i64 0))),o 34 (.pick t21 t33 (.k (.bool false)))]) (.cond t34 .skip (.exit 2))) (.seq (.block 3 (.draw [(0,1),(0,2),(1,2),(0,3),(1,3),(2,3),(0,4),(1,4),(2,4),(0,5),(1,5),(2,5),(3,5),(4,5),(0,6),(1,6),(2,6),(3,6),(4,6),(5,6),(0,7),(1,7),(2,7),(3,7),(4,7),(5,7),(0,8),(1,8),(2,8),(3,8),(4,8),(0,9),(1,9),(2,9),(3,9),(4,9),(0,10),(1,10),(2,10),(3,10),(4,10),(5,10),(6,10),(7,10),(8,10),(9,10),(0,11),(1,11),(2,11),(3,11),(4,11),(5,11),(6,11),(7,11),(8,11),(9,11),(10,11),(0,12),(1,12),(2,12),(3,12),(4,12),(5,12),(6,12),(7,12),(8,12),(9,12),(0,13),(1,13),(2,13),(3,13),(4,13),(5,13),(6,13),(7,13),(8,13),(9,13),(2,14),(3,14),(4,14),(2,15),(3,15),(4,15)] [v 37 0,v 38 9,v 39 0,v 40 9,o 41 (.bin .sub 0 t40 (.k (.int .i64 1))),v 42 0,v 43 9,o 44 (.bin .sub 0 t43 (.k (.int .i64 1))),o 45 (.iaddr t42 t44 12),l 46 45 12,v 47 0,v 48 9,o 49 (.iaddr t47 t48 12),l 50 49 12,o 51 (.iaddr t37 t38 12),e (.store t51 t46 12),o 52 (.iaddr t39 t41 12),e (.store t52 t50 12)])) (.reg [v 35 9,o 36 (.bin .sub 0 t35 (.k (.int .i64 1))),v 9 36])))
abbrev b_slices_insertionSortCmpFunc_Obj_1 : MC:=(.seq (.seq (.reg [v 12 8,v 13 2,o 14 (.bin .lss 0 t12 t13)]) (.cond t14 .skip (.exit 0))) (.seq (.block 1 (.seq (.reg [v 17 8,v 9 17]) (.block 2 (.loop b_slices_insertionSortCmpFunc_Obj_0)))) (.reg [v 15 8,o 16 (.bin .add 0 t15 (.k (.int .i64 1))),v 8 16])))
abbrev m_slices_insertionSortCmpFunc_Obj : MC:=(.seq (.reg [v 10 1,o 11 (.bin .add 0 t10 (.k (.int .i64 1))),v 8 11]) (.block 0 (.loop b_slices_insertionSortCmpFunc_Obj_1)))
abbrev rs_slices_insertionSortCmpFunc_Obj : List RV:=[]
end Go.Proofs.YtbdogkmdanmojaaGreatDoor.Pv.M
namespace Go.Proofs.YtbdogkmdanmojaaGreatDoor.Pv
open Go
set_option maxRecDepth 1000000
noncomputable abbrev prog : Program:=Tryz.prog
theorem hmix : prog.follows .mixedOrders=true:=by kernel_rfl
theorem h_law26_RulesNever : mfOf prog M.F_law26_RulesNever=some (M.m_law26_RulesNever.erase,70,M.rs_law26_RulesNever):=by kernel_rfl
theorem h_law26_fixed : mfOf prog M.F_law26_fixed=some (M.m_law26_fixed.erase,91,M.rs_law26_fixed):=by kernel_rfl
theorem h_law26_fits : mfOf prog M.F_law26_fits=some (M.m_law26_fits.erase,80,M.rs_law26_fits):=by kernel_rfl
theorem h_law26_asks : mfOf prog M.F_law26_asks=some (M.m_law26_asks.erase,67,M.rs_law26_asks):=by kernel_rfl
theorem h_law26_same : mfOf prog M.F_law26_same=some (M.m_law26_same.erase,8,M.rs_law26_same):=by kernel_rfl
theorem h_rules_Arith : mfOf prog M.F_rules_Arith=some (M.m_rules_Arith.erase,67,M.rs_rules_Arith):=by kernel_rfl
theorem h_law26_numbers : mfOf prog M.F_law26_numbers=some (M.m_law26_numbers.erase,10,M.rs_law26_numbers):=by kernel_rfl
theorem h_rules_Index : mfOf prog M.F_rules_Index=some (M.m_rules_Index.erase,47,M.rs_rules_Index):=by kernel_rfl
theorem h_rules_Prim : mfOf prog M.F_rules_Prim=some (M.m_rules_Prim.erase,90,M.rs_rules_Prim):=by kernel_rfl
theorem h_kit_FitType : mfOf prog M.F_kit_FitType=some (M.m_kit_FitType.erase,6,M.rs_kit_FitType):=by kernel_rfl
theorem h_ref09_Formed : mfOf prog M.F_ref09_Formed=some (M.m_ref09_Formed.erase,37,M.rs_ref09_Formed):=by kernel_rfl
theorem h_ref09_Height : mfOf prog M.F_ref09_Height=some (M.m_ref09_Height.erase,60,M.rs_ref09_Height):=by kernel_rfl
theorem h_ref12_Modest : mfOf prog M.F_ref12_Modest=some (M.m_ref12_Modest.erase,76,M.rs_ref12_Modest):=by kernel_rfl
theorem h_law26_pieces : mfOf prog M.F_law26_pieces=some (M.m_law26_pieces.erase,15,M.rs_law26_pieces):=by kernel_rfl
theorem h_rules_Neg : mfOf prog M.F_rules_Neg=some (M.m_rules_Neg.erase,10,M.rs_rules_Neg):=by kernel_rfl
theorem h_rules_Slice : mfOf prog M.F_rules_Slice=some (M.m_rules_Slice.erase,61,M.rs_rules_Slice):=by kernel_rfl
theorem h_rules_Each : mfOf prog M.F_rules_Each=some (M.m_rules_Each.erase,10,M.rs_rules_Each):=by kernel_rfl
theorem h_law26_Op_args : mfOf prog M.F_law26_Op_args=some (M.m_law26_Op_args.erase,36,M.rs_law26_Op_args):=by kernel_rfl
theorem h_kit_SameType : mfOf prog M.F_kit_SameType=some (M.m_kit_SameType.erase,62,M.rs_kit_SameType):=by kernel_rfl
theorem h_rules_right : mfOf prog M.F_rules_right=some (M.m_rules_right.erase,6,M.rs_rules_right):=by kernel_rfl
theorem h_rules_operations : mfOf prog M.F_rules_operations=some (M.m_rules_operations.erase,2,M.rs_rules_operations):=by kernel_rfl
theorem h_rules_pieces : mfOf prog M.F_rules_pieces=some (M.m_rules_pieces.erase,86,M.rs_rules_pieces):=by kernel_rfl
theorem h_rules_all : mfOf prog M.F_rules_all=some (M.m_rules_all.erase,40,M.rs_rules_all):=by kernel_rfl
theorem h_rules_under : mfOf prog M.F_rules_under=some (M.m_rules_under.erase,94,M.rs_rules_under):=by kernel_rfl
theorem h_prim_Is : mfOf prog M.F_prim_Is=some (M.m_prim_Is.erase,16,M.rs_prim_Is):=by kernel_rfl
theorem h_rules_primitive : mfOf prog M.F_rules_primitive=some (M.m_rules_primitive.erase,78,M.rs_rules_primitive):=by kernel_rfl
theorem h_kit_typeParts : mfOf prog M.F_kit_typeParts=some (M.m_kit_typeParts.erase,113,M.rs_kit_typeParts):=by kernel_rfl
theorem h_ref09_Bare : mfOf prog M.F_ref09_Bare=some (M.m_ref09_Bare.erase,44,M.rs_ref09_Bare):=by kernel_rfl
theorem h_ref03_Rise : mfOf prog M.F_ref03_Rise=some (M.m_ref03_Rise.erase,30,M.rs_ref03_Rise):=by kernel_rfl
theorem h_ref09_Spans : mfOf prog M.F_ref09_Spans=some (M.m_ref09_Spans.erase,57,M.rs_ref09_Spans):=by kernel_rfl
theorem h_ref09_arrays : mfOf prog M.F_ref09_arrays=some (M.m_ref09_arrays.erase,70,M.rs_ref09_arrays):=by kernel_rfl
theorem h_ref09_objects : mfOf prog M.F_ref09_objects=some (M.m_ref09_objects.erase,16,M.rs_ref09_objects):=by kernel_rfl
theorem h_ref09_higher : mfOf prog M.F_ref09_higher=some (M.m_ref09_higher.erase,15,M.rs_ref09_higher):=by kernel_rfl
theorem h_rules_one : mfOf prog M.F_rules_one=some (M.m_rules_one.erase,36,M.rs_rules_one):=by kernel_rfl
theorem h_rules_gives : mfOf prog M.F_rules_gives=some (M.m_rules_gives.erase,22,M.rs_rules_gives):=by kernel_rfl
theorem h_rules_piece_span : mfOf prog M.F_rules_piece_span=some (M.m_rules_piece_span.erase,8,M.rs_rules_piece_span):=by kernel_rfl
theorem h_rules_piece_obj : mfOf prog M.F_rules_piece_obj=some (M.m_rules_piece_obj.erase,8,M.rs_rules_piece_obj):=by kernel_rfl
theorem h_kit_SameSpans : mfOf prog M.F_kit_SameSpans=some (M.m_kit_SameSpans.erase,27,M.rs_kit_SameSpans):=by kernel_rfl
theorem h_kit_SameStrings : mfOf prog M.F_kit_SameStrings=some (M.m_kit_SameStrings.erase,26,M.rs_kit_SameStrings):=by kernel_rfl
theorem h_kit_SameArrs : mfOf prog M.F_kit_SameArrs=some (M.m_kit_SameArrs.erase,27,M.rs_kit_SameArrs):=by kernel_rfl
theorem h_kit_SameObjs : mfOf prog M.F_kit_SameObjs=some (M.m_kit_SameObjs.erase,27,M.rs_kit_SameObjs):=by kernel_rfl
theorem h_slices_ContainsFunc_Type : mfOf prog M.F_slices_ContainsFunc_Type=some (M.m_slices_ContainsFunc_Type.erase,9,M.rs_slices_ContainsFunc_Type):=by kernel_rfl
theorem h_rules_right_1 : mfOf prog M.F_rules_right_1=some (M.m_rules_right_1.erase,6,M.rs_rules_right_1):=by kernel_rfl
theorem h_shape_Formed : mfOf prog M.F_shape_Formed=some (M.m_shape_Formed.erase,25,M.rs_shape_Formed):=by kernel_rfl
theorem h_rules_pair_add : mfOf prog M.F_rules_pair_add=some (M.m_rules_pair_add.erase,88,M.rs_rules_pair_add):=by kernel_rfl
theorem h_rules_pair_div : mfOf prog M.F_rules_pair_div=some (M.m_rules_pair_div.erase,29,M.rs_rules_pair_div):=by kernel_rfl
theorem h_rules_laidOut : mfOf prog M.F_rules_laidOut=some (M.m_rules_laidOut.erase,10,M.rs_rules_laidOut):=by kernel_rfl
theorem h_tidy_Sum : mfOf prog M.F_tidy_Sum=some (M.m_tidy_Sum.erase,20,M.rs_tidy_Sum):=by kernel_rfl
theorem h_tidy_Tidy : mfOf prog M.F_tidy_Tidy=some (M.m_tidy_Tidy.erase,11,M.rs_tidy_Tidy):=by kernel_rfl
theorem h_rules_field : mfOf prog M.F_rules_field=some (M.m_rules_field.erase,29,M.rs_rules_field):=by kernel_rfl
theorem h_prim_key : mfOf prog M.F_prim_key=some (M.m_prim_key.erase,10,M.rs_prim_key):=by kernel_rfl
theorem h_rules_call_plain : mfOf prog M.F_rules_call_plain=some (M.m_rules_call_plain.erase,147,M.rs_rules_call_plain):=by kernel_rfl
theorem h_ref03_UTF : mfOf prog M.F_ref03_UTF=some (M.m_ref03_UTF.erase,17,M.rs_ref03_UTF):=by kernel_rfl
theorem h_ref09_bound : mfOf prog M.F_ref09_bound=some (M.m_ref09_bound.erase,9,M.rs_ref09_bound):=by kernel_rfl
theorem h_ref03_Numbers : mfOf prog M.F_ref03_Numbers=some (M.m_ref03_Numbers.erase,42,M.rs_ref03_Numbers):=by kernel_rfl
theorem h_ref09_Never : mfOf prog M.F_ref09_Never=some (M.m_ref09_Never.erase,10,M.rs_ref09_Never):=by kernel_rfl
theorem h_ref09_object : mfOf prog M.F_ref09_object=some (M.m_ref09_object.erase,61,M.rs_ref09_object):=by kernel_rfl
theorem h_rules_fault : mfOf prog M.F_rules_fault=some (M.m_rules_fault.erase,8,M.rs_rules_fault):=by kernel_rfl
theorem h_kit_SameSpan : mfOf prog M.F_kit_SameSpan=some (M.m_kit_SameSpan.erase,17,M.rs_kit_SameSpan):=by kernel_rfl
theorem h_kit_SameArr : mfOf prog M.F_kit_SameArr=some (M.m_kit_SameArr.erase,23,M.rs_kit_SameArr):=by kernel_rfl
theorem h_kit_SameObj : mfOf prog M.F_kit_SameObj=some (M.m_kit_SameObj.erase,29,M.rs_kit_SameObj):=by kernel_rfl
theorem h_slices_IndexFunc_Type : mfOf prog M.F_slices_IndexFunc_Type=some (M.m_slices_IndexFunc_Type.erase,19,M.rs_slices_IndexFunc_Type):=by kernel_rfl
theorem h_shape_piece_every : mfOf prog M.F_shape_piece_every=some (M.m_shape_piece_every.erase,10,M.rs_shape_piece_every):=by kernel_rfl
theorem h_shape_piece_nums : mfOf prog M.F_shape_piece_nums=some (M.m_shape_piece_nums.erase,59,M.rs_shape_piece_nums):=by kernel_rfl
theorem h_shape_piece_texts : mfOf prog M.F_shape_piece_texts=some (M.m_shape_piece_texts.erase,17,M.rs_shape_piece_texts):=by kernel_rfl
theorem h_shape_piece_arrays : mfOf prog M.F_shape_piece_arrays=some (M.m_shape_piece_arrays.erase,52,M.rs_shape_piece_arrays):=by kernel_rfl
theorem h_shape_piece_objects : mfOf prog M.F_shape_piece_objects=some (M.m_shape_piece_objects.erase,66,M.rs_shape_piece_objects):=by kernel_rfl
theorem h_rules_pair_both : mfOf prog M.F_rules_pair_both=some (M.m_rules_pair_both.erase,9,M.rs_rules_pair_both):=by kernel_rfl
theorem h_rules_sumOf : mfOf prog M.F_rules_sumOf=some (M.m_rules_sumOf.erase,17,M.rs_rules_sumOf):=by kernel_rfl
theorem h_rules_spanned : mfOf prog M.F_rules_spanned=some (M.m_rules_spanned.erase,8,M.rs_rules_spanned):=by kernel_rfl
theorem h_rules_pair_kinds : mfOf prog M.F_rules_pair_kinds=some (M.m_rules_pair_kinds.erase,19,M.rs_rules_pair_kinds):=by kernel_rfl
theorem h_rules_divided : mfOf prog M.F_rules_divided=some (M.m_rules_divided.erase,45,M.rs_rules_divided):=by kernel_rfl
theorem h_rules_mayBeNull : mfOf prog M.F_rules_mayBeNull=some (M.m_rules_mayBeNull.erase,6,M.rs_rules_mayBeNull):=by kernel_rfl
theorem h_rules_outcome_or : mfOf prog M.F_rules_outcome_or=some (M.m_rules_outcome_or.erase,15,M.rs_rules_outcome_or):=by kernel_rfl
theorem h_shape_Every : mfOf prog M.F_shape_Every=some (M.m_shape_Every.erase,2,M.rs_shape_Every):=by kernel_rfl
theorem h_shape_Twin : mfOf prog M.F_shape_Twin=some (M.m_shape_Twin.erase,109,M.rs_shape_Twin):=by kernel_rfl
theorem h_tidy_together : mfOf prog M.F_tidy_together=some (M.m_tidy_together.erase,82,M.rs_tidy_together):=by kernel_rfl
theorem h_tidy_form : mfOf prog M.F_tidy_form=some (M.m_tidy_form.erase,25,M.rs_tidy_form):=by kernel_rfl
theorem h_tens_Of : mfOf prog M.F_tens_Of=some (M.m_tens_Of.erase,5,M.rs_tens_Of):=by kernel_rfl
theorem h_rules_less : mfOf prog M.F_rules_less=some (M.m_rules_less.erase,23,M.rs_rules_less):=by kernel_rfl
theorem h_slices_BinarySearch_string : mfOf prog M.F_slices_BinarySearch_string=some (M.m_slices_BinarySearch_string.erase,54,M.rs_slices_BinarySearch_string):=by kernel_rfl
theorem h_rules_call_length : mfOf prog M.F_rules_call_length=some (M.m_rules_call_length.erase,64,M.rs_rules_call_length):=by kernel_rfl
theorem h_rules_worth : mfOf prog M.F_rules_worth=some (M.m_rules_worth.erase,30,M.rs_rules_worth):=by kernel_rfl
theorem h_rules_numbers : mfOf prog M.F_rules_numbers=some (M.m_rules_numbers.erase,10,M.rs_rules_numbers):=by kernel_rfl
theorem h_shape_Never : mfOf prog M.F_shape_Never=some (M.m_shape_Never.erase,2,M.rs_shape_Never):=by kernel_rfl
theorem h_ref03_width : mfOf prog M.F_ref03_width=some (M.m_ref03_width.erase,61,M.rs_ref03_width):=by kernel_rfl
theorem h_ref03_Number : mfOf prog M.F_ref03_Number=some (M.m_ref03_Number.erase,44,M.rs_ref03_Number):=by kernel_rfl
theorem h_ref03_Texts : mfOf prog M.F_ref03_Texts=some (M.m_ref03_Texts.erase,11,M.rs_ref03_Texts):=by kernel_rfl
theorem h_arith_Fault : mfOf prog M.F_arith_Fault=some (M.m_arith_Fault.erase,10,M.rs_arith_Fault):=by kernel_rfl
theorem h_shape_Same : mfOf prog M.F_shape_Same=some (M.m_shape_Same.erase,9,M.rs_shape_Same):=by kernel_rfl
theorem h_kit_SameTypes : mfOf prog M.F_kit_SameTypes=some (M.m_kit_SameTypes.erase,27,M.rs_kit_SameTypes):=by kernel_rfl
theorem h_kit_SameBools : mfOf prog M.F_kit_SameBools=some (M.m_kit_SameBools.erase,26,M.rs_kit_SameBools):=by kernel_rfl
theorem h_shape_piece_bare : mfOf prog M.F_shape_piece_bare=some (M.m_shape_piece_bare.erase,45,M.rs_shape_piece_bare):=by kernel_rfl
theorem h_tens_Formed : mfOf prog M.F_tens_Formed=some (M.m_tens_Formed.erase,38,M.rs_tens_Formed):=by kernel_rfl
theorem h_shape_worth : mfOf prog M.F_shape_worth=some (M.m_shape_worth.erase,14,M.rs_shape_worth):=by kernel_rfl
theorem h_shape_rise : mfOf prog M.F_shape_rise=some (M.m_shape_rise.erase,29,M.rs_shape_rise):=by kernel_rfl
theorem h_shape_never : mfOf prog M.F_shape_never=some (M.m_shape_never.erase,10,M.rs_shape_never):=by kernel_rfl
theorem h_rules_plus : mfOf prog M.F_rules_plus=some (M.m_rules_plus.erase,20,M.rs_rules_plus):=by kernel_rfl
theorem h_rules_fromNull : mfOf prog M.F_rules_fromNull=some (M.m_rules_fromNull.erase,12,M.rs_rules_fromNull):=by kernel_rfl
theorem h_rules_upToNull : mfOf prog M.F_rules_upToNull=some (M.m_rules_upToNull.erase,12,M.rs_rules_upToNull):=by kernel_rfl
theorem h_below_Span : mfOf prog M.F_below_Span=some (M.m_below_Span.erase,43,M.rs_below_Span):=by kernel_rfl
theorem h_slices_Clone_Span : mfOf prog M.F_slices_Clone_Span=some (M.m_slices_Clone_Span.erase,8,M.rs_slices_Clone_Span):=by kernel_rfl
theorem h_slices_Clone_string : mfOf prog M.F_slices_Clone_string=some (M.m_slices_Clone_string.erase,8,M.rs_slices_Clone_string):=by kernel_rfl
theorem h_slices_Clone_Arr : mfOf prog M.F_slices_Clone_Arr=some (M.m_slices_Clone_Arr.erase,8,M.rs_slices_Clone_Arr):=by kernel_rfl
theorem h_slices_Clone_Obj : mfOf prog M.F_slices_Clone_Obj=some (M.m_slices_Clone_Obj.erase,8,M.rs_slices_Clone_Obj):=by kernel_rfl
theorem h_tidy_spans : mfOf prog M.F_tidy_spans=some (M.m_tidy_spans.erase,37,M.rs_tidy_spans):=by kernel_rfl
theorem h_slices_Concat_string : mfOf prog M.F_slices_Concat_string=some (M.m_slices_Concat_string.erase,36,M.rs_slices_Concat_string):=by kernel_rfl
theorem h_tidy_arrays : mfOf prog M.F_tidy_arrays=some (M.m_tidy_arrays.erase,62,M.rs_tidy_arrays):=by kernel_rfl
theorem h_slices_Concat_Obj : mfOf prog M.F_slices_Concat_Obj=some (M.m_slices_Concat_Obj.erase,36,M.rs_slices_Concat_Obj):=by kernel_rfl
theorem h_slices_Sort_string : mfOf prog M.F_slices_Sort_string=some (M.m_slices_Sort_string.erase,11,M.rs_slices_Sort_string):=by kernel_rfl
theorem h_slices_Compact_string : mfOf prog M.F_slices_Compact_string=some (M.m_slices_Compact_string.erase,61,M.rs_slices_Compact_string):=by kernel_rfl
theorem h_tidy_normal : mfOf prog M.F_tidy_normal=some (M.m_tidy_normal.erase,83,M.rs_tidy_normal):=by kernel_rfl
theorem h_shape_Height : mfOf prog M.F_shape_Height=some (M.m_shape_Height.erase,50,M.rs_shape_Height):=by kernel_rfl
theorem h_tens_split : mfOf prog M.F_tens_split=some (M.m_tens_split.erase,10,M.rs_tens_split):=by kernel_rfl
theorem h_tens_signed : mfOf prog M.F_tens_signed=some (M.m_tens_signed.erase,13,M.rs_tens_signed):=by kernel_rfl
theorem h_tens_Cmp : mfOf prog M.F_tens_Cmp=some (M.m_tens_Cmp.erase,43,M.rs_tens_Cmp):=by kernel_rfl
theorem h_cmp_Less_string : mfOf prog M.F_cmp_Less_string=some (M.m_cmp_Less_string.erase,17,M.rs_cmp_Less_string):=by kernel_rfl
theorem h_rules_musts : mfOf prog M.F_rules_musts=some (M.m_rules_musts.erase,18,M.rs_rules_musts):=by kernel_rfl
theorem h_ref03_trail : mfOf prog M.F_ref03_trail=some (M.m_ref03_trail.erase,49,M.rs_ref03_trail):=by kernel_rfl
theorem h_utf_Valid : mfOf prog M.F_utf_Valid=some (M.m_utf_Valid.erase,5,M.rs_utf_Valid):=by kernel_rfl
theorem h_strings_Clone : mfOf prog M.F_strings_Clone=some (M.m_strings_Clone.erase,5,M.rs_strings_Clone):=by kernel_rfl
theorem h_shape_Cmp : mfOf prog M.F_shape_Cmp=some (M.m_shape_Cmp.erase,52,M.rs_shape_Cmp):=by kernel_rfl
theorem h_tens_Add : mfOf prog M.F_tens_Add=some (M.m_tens_Add.erase,52,M.rs_tens_Add):=by kernel_rfl
theorem h_below_hollow : mfOf prog M.F_below_hollow=some (M.m_below_hollow.erase,19,M.rs_below_hollow):=by kernel_rfl
theorem h_below_worth : mfOf prog M.F_below_worth=some (M.m_below_worth.erase,14,M.rs_below_worth):=by kernel_rfl
theorem h_slices_Concat_Span : mfOf prog M.F_slices_Concat_Span=some (M.m_slices_Concat_Span.erase,36,M.rs_slices_Concat_Span):=by kernel_rfl
theorem h_slices_Grow_string : mfOf prog M.F_slices_Grow_string=some (M.m_slices_Grow_string.erase,27,M.rs_slices_Grow_string):=by kernel_rfl
theorem h_slices_Concat_Arr : mfOf prog M.F_slices_Concat_Arr=some (M.m_slices_Concat_Arr.erase,36,M.rs_slices_Concat_Arr):=by kernel_rfl
theorem h_slices_Grow_Obj : mfOf prog M.F_slices_Grow_Obj=some (M.m_slices_Grow_Obj.erase,27,M.rs_slices_Grow_Obj):=by kernel_rfl
theorem h_slices_pdqsortOrdered_string : mfOf prog M.F_slices_pdqsortOrdered_string=some (M.m_slices_pdqsortOrdered_string.erase,134,M.rs_slices_pdqsortOrdered_string):=by kernel_rfl
theorem h_bits_Len : mfOf prog M.F_bits_Len=some (M.m_bits_Len.erase,8,M.rs_bits_Len):=by kernel_rfl
theorem h_tidy_objects : mfOf prog M.F_tidy_objects=some (M.m_tidy_objects.erase,25,M.rs_tidy_objects):=by kernel_rfl
theorem h_tidy_laidOut : mfOf prog M.F_tidy_laidOut=some (M.m_tidy_laidOut.erase,14,M.rs_tidy_laidOut):=by kernel_rfl
theorem h_tens_size : mfOf prog M.F_tens_size=some (M.m_tens_size.erase,26,M.rs_tens_size):=by kernel_rfl
theorem h_cmp_isNaN_string : mfOf prog M.F_cmp_isNaN_string=some (M.m_cmp_isNaN_string.erase,6,M.rs_cmp_isNaN_string):=by kernel_rfl
theorem h_utf8_ValidString : mfOf prog M.F_utf8_ValidString=some (M.m_utf8_ValidString.erase,169,M.rs_utf8_ValidString):=by kernel_rfl
theorem h_cmp_Or_int : mfOf prog M.F_cmp_Or_int=some (M.m_cmp_Or_int.erase,18,M.rs_cmp_Or_int):=by kernel_rfl
theorem h_shape_truth : mfOf prog M.F_shape_truth=some (M.m_shape_truth.erase,11,M.rs_shape_truth):=by kernel_rfl
theorem h_slices_CompareFunc_Span : mfOf prog M.F_slices_CompareFunc_Span=some (M.m_slices_CompareFunc_Span.erase,39,M.rs_slices_CompareFunc_Span):=by kernel_rfl
theorem h_shape_span : mfOf prog M.F_shape_span=some (M.m_shape_span.erase,17,M.rs_shape_span):=by kernel_rfl
theorem h_slices_Compare_string : mfOf prog M.F_slices_Compare_string=some (M.m_slices_Compare_string.erase,36,M.rs_slices_Compare_string):=by kernel_rfl
theorem h_slices_CompareFunc_Arr : mfOf prog M.F_slices_CompareFunc_Arr=some (M.m_slices_CompareFunc_Arr.erase,39,M.rs_slices_CompareFunc_Arr):=by kernel_rfl
theorem h_slices_CompareFunc_Obj : mfOf prog M.F_slices_CompareFunc_Obj=some (M.m_slices_CompareFunc_Obj.erase,39,M.rs_slices_CompareFunc_Obj):=by kernel_rfl
theorem h_tens_plus : mfOf prog M.F_tens_plus=some (M.m_tens_plus.erase,78,M.rs_tens_plus):=by kernel_rfl
theorem h_slices_Grow_Span : mfOf prog M.F_slices_Grow_Span=some (M.m_slices_Grow_Span.erase,27,M.rs_slices_Grow_Span):=by kernel_rfl
theorem h_slices_Grow_Arr : mfOf prog M.F_slices_Grow_Arr=some (M.m_slices_Grow_Arr.erase,27,M.rs_slices_Grow_Arr):=by kernel_rfl
theorem h_slices_insertionSortOrdered_string : mfOf prog M.F_slices_insertionSortOrdered_string=some (M.m_slices_insertionSortOrdered_string.erase,49,M.rs_slices_insertionSortOrdered_string):=by kernel_rfl
theorem h_bits_Len64 : mfOf prog M.F_bits_Len64=some (M.m_bits_Len64.erase,25,M.rs_bits_Len64):=by kernel_rfl
theorem h_slices_SortStableFunc_Obj : mfOf prog M.F_slices_SortStableFunc_Obj=some (M.m_slices_SortStableFunc_Obj.erase,9,M.rs_slices_SortStableFunc_Obj):=by kernel_rfl
theorem h_tidy_outermost : mfOf prog M.F_tidy_outermost=some (M.m_tidy_outermost.erase,44,M.rs_tidy_outermost):=by kernel_rfl
theorem h_slices_CompactFunc_Obj : mfOf prog M.F_slices_CompactFunc_Obj=some (M.m_slices_CompactFunc_Obj.erase,66,M.rs_slices_CompactFunc_Obj):=by kernel_rfl
theorem h_shape_bound : mfOf prog M.F_shape_bound=some (M.m_shape_bound.erase,23,M.rs_shape_bound):=by kernel_rfl
theorem h_tens_text : mfOf prog M.F_tens_text=some (M.m_tens_text.erase,26,M.rs_tens_text):=by kernel_rfl
theorem h_slices_stableCmpFunc_Obj : mfOf prog M.F_slices_stableCmpFunc_Obj=some (M.m_slices_stableCmpFunc_Obj.erase,63,M.rs_slices_stableCmpFunc_Obj):=by kernel_rfl
theorem h_slices_insertionSortCmpFunc_Obj : mfOf prog M.F_slices_insertionSortCmpFunc_Obj=some (M.m_slices_insertionSortCmpFunc_Obj.erase,53,M.rs_slices_insertionSortCmpFunc_Obj):=by kernel_rfl
end Go.Proofs.YtbdogkmdanmojaaGreatDoor.Pv
namespace Go.Proofs.YtbdogkmdanmojaaGreatDoor.Pv
open Go Go.RowKit
mutual
def bndV : PV→Prop
 | .int k n=>k.min≤n∧n≤k.max
 | .str s=>s.size≤LIM
 | .vec _ _ xs=>xs.length≤LIM∧bndR xs
 | .own _ _ _ len _=>len≤LIM
 | .ref cs=>bndL cs
 | .agg cs=>bndL cs
 | .tup cs=>bndL cs
 | .fn _ a b=>bndL a∧bndL b
 | .iface _ x=>bndV x
 | _=>True
def bndL : List PV→Prop
 | []=>True
 | x::xs=>bndV x∧bndL xs
def bndR : List (List PV)→Prop
 | []=>True
 | r::rs=>bndL r∧bndR rs
end
mutual
theorem RepV.bnd {w : World} : ∀ (x : PV) (v : Value) {c : Ctx},RepV w c x v→bndV x
 | .int _ _,_,_,h=>h.2
 | .str _,_,_,h=>h.2
 | .vec e f xs,v,c,h=>by
   obtain ⟨a,cap,h1,h2,h3,h4,h5,h6⟩:=h
   refine ⟨h4,?_⟩
   rcases h6 with rfl | ⟨ad,_,_,_,h⟩
   ·trivial
   ·exact RepRows.bnd xs h
 | .own g e o l f,v,c,h=>by
   obtain ⟨_,_,_,a,cap,_,_,_,h4,_⟩:=h
   exact h4
 | .ref cs,v,c,h=>by
   obtain ⟨ad,_,_,_,h⟩:=h
   exact RepAt.bnd cs h
 | .agg cs,v,c,h=>by
   obtain ⟨vs,_,h,_⟩:=h
   exact RepL.bnd cs _ h
 | .tup cs,v,c,h=>by
   obtain ⟨vs,_,h⟩:=h
   exact RepL.bnd cs _ h
 | .fn f a b,v,c,h=>by
   obtain ⟨x,y,_,h1,h2⟩:=h
   exact ⟨RepL.bnd a _ h1,RepL.bnd b _ h2⟩
 | .iface t x,v,c,h=>by
   obtain ⟨u,_,h⟩:=h
   exact RepV.bnd x u h
 | .undef,_,_,_ | .bool _,_,_,_ | .nilp,_,_,_ | .nilf,_,_,_ | .nili,_,_,_ | .ptr _ _ _ _,_,_,_ | .opt _ _,_,_,_ | .raw _,_,_,_ | .mapf _,_,_,_=>trivial
theorem RepL.bnd {w : World} : ∀ (xs : List PV) (vs : List Value) {c : Ctx},RepL w c xs vs→bndL xs
 | [],_,_,_=>trivial
 | x::xs,_,_,h=>by
   obtain ⟨u,us,_,h1,h2⟩:=h
   exact ⟨RepV.bnd x u h1,RepL.bnd xs us h2⟩
theorem RepAt.bnd {w : World} {b : Nat} : ∀ (xs : List PV) {c : Ctx} {o : Nat},RepAt w c b o xs→bndL xs
 | [],_,_,_=>trivial
 | x::xs,_,_,h=>by
   obtain ⟨⟨v,_,_,h1⟩,h2⟩:=h
   exact ⟨RepV.bnd x v h1,RepAt.bnd xs h2⟩
theorem RepRows.bnd {w : World} {esz b : Nat} : ∀ (xs : List (List PV)) {c : Ctx} {o : Nat},RepRows w c esz b o xs→bndR xs
 | [],_,_,_=>trivial
 | r::rs,_,_,h=>⟨RepAt.bnd r h.2.1,RepRows.bnd rs h.2.2⟩
end
theorem bndR_mem {r : List PV} : ∀ {xs : List (List PV)},bndR xs→r ∈ xs→bndL r
 | [],_,h=>by simp at h
 | x::xs,h,hm=>by
   rcases List.mem_cons.1 hm with rfl | hm
   ·exact h.1
   ·exact bndR_mem h.2 hm
theorem bndR_map {α : Type} {f : α→List PV} {l : List α} (h : bndR (l.map f)) : ∀ x ∈ l,bndL (f x):=fun x hx=>bndR_mem h (List.mem_map.2 ⟨x,hx,rfl⟩)
def bndS (E : Env) (st : St) : Prop:=(∀ t,t < E.nt→bndV (lk t st.s))∧∀ k e,hk k st.h=some e→bndR e.xs
theorem Rel.bnd {E : Env} {st : St} {a : Act} {w : World} (h : Rel E st a w) : bndS E st:=by
 obtain ⟨c,hg⟩:=h
 refine ⟨fun t ht=>?_,fun k e he=>?_⟩
 ·obtain ⟨v,_,hr⟩:=hg.tmp ht
  exact RepV.bnd _ _ hr
 ·obtain ⟨_,_,h⟩:=hg.heap k e he
  cases hb : c.β k with
  | none=>rw [hb] at h; rw [h.1]; trivial
  | some ad=>rw [hb] at h; exact RepRows.bnd _ h.2.2.1
theorem XLoop.bnd {E : Env} {m : MC} {st : St} {ks : List KF} {Q : Ex→St→Prop} (h : bndS E st→XLoop E m st ks Q) : XLoop E m st ks Q:=fun c hm a w hr=>h hr.bnd c hm a w hr
theorem XCut.bnd {E : Env} {m : MC} {st : St} {ks : List KF} {Q : Ex→St→Prop} (h : bndS E st→XCut E m st ks Q) : XCut E m st ks Q:=fun c hm a w hr=>h hr.bnd c hm a w hr
theorem Ret.bnd {P : Program} {f : FuncId} {args : List PV} {r : PV} (hc : callable P f=true) (h : bndL args→Ret P f args r) : Ret P f args r :=
 ⟨hc,fun w F vs hG hF hr=>(h (RepL.bnd _ _ hr)).2 w F vs hG hF hr⟩
theorem RetO.bnd {P : Program} {f : FuncId} {args : List PV} {esz : Nat} {xs : List (List PV)} (hc : callable P f=true) (h : bndL args→RetO P f args esz xs) : RetO P f args esz xs :=
 ⟨hc,fun w F vs hG hF hr=>(h (RepL.bnd _ _ hr)).2 w F vs hG hF hr⟩
theorem mf_callable {P : Program} {f : Nat} {x : MC × Nat × List RV} (h : mfOf P f=some x) : callable P f=true:=by
 obtain ⟨m,nt,rs⟩:=x
 obtain ⟨_,_,_,hc,_⟩:=mfOf_spec h
 exact hc
theorem Ret.go {P : Program} {f nt : Nat} {m : MC} {rs : List RV} {args : List PV} {r : PV} (hmix : P.follows .mixedOrders=true) (hm : mfOf P f=some (m.erase,nt,rs)) (hn : args.length≤nt) (h : bndL args→∀ w0 F0 hG,XC ⟨P,w0,F0,nt,[],0,hG⟩ m (St.init args) [] (retIs rs r)) : Ret P f args r :=
 Ret.bnd (mf_callable hm) fun hb=>Ret.of hmix hm hn (h hb)
theorem RetO.go {P : Program} {f nt : Nat} {m : MC} {rs : List RV} {args : List PV} {esz : Nat} {xs : List (List PV)} (hmix : P.follows .mixedOrders=true) (hm : mfOf P f=some (m.erase,nt,rs)) (hn : args.length≤nt) (h : bndL args→∀ w0 F0 hG,XC ⟨P,w0,F0,nt,[],0,hG⟩ m (St.init args) [] (retOwn rs esz xs)) : RetO P f args esz xs :=
 RetO.bnd (mf_callable hm) fun hb=>RetO.of hmix hm hn (h hb)
def LS (st st' : St) : Prop:=subS (fun k=>hk k st.h) st'.s st.s∧subH (fun k=>hk k st.h) st'.h st.h
theorem LS_mk {s s' : List (Nat × PV)} {h h' : List (Key × Option HE)} : LS ⟨s,h⟩ ⟨s',h'⟩=(subS (fun k=>hk k h) s' s∧subH (fun k=>hk k h) h' h):=propext Iff.rfl
theorem LS.le {E : Env} {st st' : St} (h : LS st st') : Le E st st':=by
 obtain ⟨s,h1⟩:=st
 obtain ⟨s',h1'⟩:=st'
 exact Le.of h
section
variable {E : Env} {body m : MC} {st st' : St} {ks : List KF} {Q : Ex→St→Prop} {ι : Type} {S : ι→St} {J : ι→Prop} {μ : ι→Nat} {i : ι} {S1 : St}
def LR (E : Env) {ι : Type} (S : ι→St) (J : ι→Prop) (μ : ι→Nat) (i : ι) (ks : List KF) (Q : Ex→St→Prop) : Ex→St→Prop
 | .normal,st'=>∃ j,J j∧μ j < μ i∧LS st' (S j)
 | e,st'=>XE E e st' ks Q
def CJ (E : Env) {ι : Type} (S : ι→St) (J : ι→Prop) (ks : List KF) (Q : Ex→St→Prop) : Ex→St→Prop
 | .normal,st'=>∃ j,J j∧LS st' (S j)
 | e,st'=>XE E e st' ks Q
def CT (E : Env) (S : St) (ks : List KF) (Q : Ex→St→Prop) : Ex→St→Prop
 | .normal,st'=>LS st' S
 | e,st'=>XE E e st' ks Q
theorem LR_normal : LR E S J μ i ks Q .normal st'=∃ j,J j∧μ j < μ i∧LS st' (S j):=propext Iff.rfl
theorem LR_exit {id : Nat} : LR E S J μ i ks Q (.exit id) st'=XE E (.exit id) st' ks Q:=propext Iff.rfl
theorem LR_ret : LR E S J μ i ks Q .ret st'=XE E .ret st' ks Q:=propext Iff.rfl
theorem LR_goto {id : Nat} : LR E S J μ i ks Q (.goto id) st'=XE E (.goto id) st' ks Q:=propext Iff.rfl
theorem CJ_normal : CJ E S J ks Q .normal st'=∃ j,J j∧LS st' (S j):=propext Iff.rfl
theorem CJ_exit {id : Nat} : CJ E S J ks Q (.exit id) st'=XE E (.exit id) st' ks Q:=propext Iff.rfl
theorem CJ_ret : CJ E S J ks Q .ret st'=XE E .ret st' ks Q:=propext Iff.rfl
theorem CJ_goto {id : Nat} : CJ E S J ks Q (.goto id) st'=XE E (.goto id) st' ks Q:=propext Iff.rfl
theorem CT_normal : CT E S1 ks Q .normal st'=LS st' S1:=propext Iff.rfl
theorem CT_exit {id : Nat} : CT E S1 ks Q (.exit id) st'=XE E (.exit id) st' ks Q:=propext Iff.rfl
theorem CT_ret : CT E S1 ks Q .ret st'=XE E .ret st' ks Q:=propext Iff.rfl
theorem CT_goto {id : Nat} : CT E S1 ks Q (.goto id) st'=XE E (.goto id) st' ks Q:=propext Iff.rfl
theorem XLoop.go (hmix : E.P.follows .mixedOrders=true) (S : ι→St) (J : ι→Prop) (μ : ι→Nat) (i0 : ι) (h0 : J i0) (hst : LS st (S i0)) (hr : ∀ i,J i→XC E body (S i) [] (LR E S J μ i ks Q)) : XLoop E (.loop body) st ks Q:=by
 intro c hm a w hrel
 obtain ⟨x,rfl,hm1⟩:=toMC_loop hm
 refine wp_loop_ghost (fun n a w=>∃ i,J i∧μ i=n∧Rel E (S i) a w) (μ i0) ⟨i0,h0,rfl,hst.le a w hrel⟩ ?_
 rintro n a w ⟨i,hJ,rfl,hri⟩
 refine wp_mono (exec_sound hmix x body (S i) a w _ hm1 hri (hr i hJ)) ?_
 rintro e a' w' ⟨ex,st',rfl,hq,hr'⟩
 cases ex with
 | normal =>
   obtain ⟨j,h1,h2,h3⟩:=hq
   exact ⟨μ j,h2,j,h1,rfl,h3.le a' w' hr'⟩
 | exit id=>exact ⟨.exit id,st',rfl,hq,hr'⟩
 | goto l=>exact ⟨.goto l,st',rfl,hq,hr'⟩
 | ret=>exact ⟨.ret,st',rfl,hq,hr'⟩
def LN (E : Env) {γ : Type} (n : Nat) (S : Nat→γ→St) (J : Nat→γ→Prop) (i : Nat) (ks : List KF) (Q : Ex→St→Prop) : Ex→St→Prop
 | .normal,st'=>i < n∧∃ g,J (i+1) g∧LS st' (S (i+1) g)
 | e,st'=>XE E e st' ks Q
section
variable {γ : Type} {n k : Nat} {S' : Nat→γ→St} {J' : Nat→γ→Prop}
theorem LN_normal : LN E n S' J' k ks Q .normal st'=(k < n∧∃ g,J' (k+1) g∧LS st' (S' (k+1) g)):=propext Iff.rfl
theorem LN_exit {id : Nat} : LN E n S' J' k ks Q (.exit id) st'=XE E (.exit id) st' ks Q:=propext Iff.rfl
theorem LN_ret : LN E n S' J' k ks Q .ret st'=XE E .ret st' ks Q:=propext Iff.rfl
theorem LN_goto {id : Nat} : LN E n S' J' k ks Q (.goto id) st'=XE E (.goto id) st' ks Q:=propext Iff.rfl
theorem XLoop.cnt (hmix : E.P.follows .mixedOrders=true) (n : Nat) (S' : Nat→γ→St) (J' : Nat→γ→Prop) (g0 : γ) (h0 : J' 0 g0) (hst : LS st (S' 0 g0)) (hr : ∀ i g,i≤n→J' i g→XC E body (S' i g) [] (LN E n S' J' i ks Q)) : XLoop E (.loop body) st ks Q:=by
 intro c hm a w hrel
 obtain ⟨x,rfl,hm1⟩:=toMC_loop hm
 refine wp_loop_ghost (fun m a w=>∃ i g,i≤n∧J' i g∧n - i=m∧Rel E (S' i g) a w) n ⟨0,g0,Nat.zero_le _,h0,rfl,hst.le a w hrel⟩ ?_
 rintro m a w ⟨i,g,hi,hJ,rfl,hri⟩
 refine wp_mono (exec_sound hmix x body (S' i g) a w _ hm1 hri (hr i g hi hJ)) ?_
 rintro e a' w' ⟨ex,st',rfl,hq,hr'⟩
 cases ex with
 | normal =>
   obtain ⟨hlt,g',h1,h3⟩:=hq
   exact ⟨n - (i+1),by omega,i+1,g',hlt,h1,rfl,h3.le a' w' hr'⟩
 | exit id=>exact ⟨.exit id,st',rfl,hq,hr'⟩
 | goto l=>exact ⟨.goto l,st',rfl,hq,hr'⟩
 | ret=>exact ⟨.ret,st',rfl,hq,hr'⟩
end
theorem XCut.one (hmix : E.P.follows .mixedOrders=true) (S : St) (h1 : XC E m st [] (CT E S ks Q)) (h2 : XE E .normal S ks Q) : XCut E m st ks Q:=by
 intro c hm a w hr
 refine wp_mono (exec_sound hmix c m st a w _ hm hr h1) ?_
 rintro e a' w' ⟨ex,st',rfl,hq,hr'⟩
 cases ex with
 | normal=>exact ⟨.normal,S,rfl,h2,hq.le a' w' hr'⟩
 | exit id=>exact ⟨.exit id,st',rfl,hq,hr'⟩
 | goto l=>exact ⟨.goto l,st',rfl,hq,hr'⟩
 | ret=>exact ⟨.ret,st',rfl,hq,hr'⟩
theorem XGuard_true {d : Option Nat} {i : MI} {g : Option (Nat × Bool)} {b : Bool} {ms : List MOp} : XGuard E (some true) ⟨d,i,g,b⟩ ms st ks Q=XR E (⟨d,i,none,b⟩::ms) st ks Q:=by simp [XGuard]
theorem XGuard_false {d : Option Nat} {i : MI} {g : Option (Nat × Bool)} {b : Bool} {ms : List MOp} : XGuard E (some false) ⟨d,i,g,b⟩ ms st ks Q=XR E ms (st.skip d) ks Q:=by simp [XGuard]
theorem XGuard_some {gb : Bool} {d : Option Nat} {i : MI} {g : Option (Nat × Bool)} {b : Bool} {ms : List MOp} : XGuard E (some gb) ⟨d,i,g,b⟩ ms st ks Q=((gb=true→XR E (⟨d,i,none,b⟩::ms) st ks Q)∧(gb=false→XR E ms (st.skip d) ks Q)):=propext Iff.rfl
theorem XDGuard_true {un : List (Nat × Nat)} {v : Nat} {acc : List (List Nat × List Nat)} {d : Option Nat} {i : MI} {g : Option (Nat × Bool)} {b : Bool} {ms : List MOp} : XDGuard E un v acc (some true) ⟨d,i,g,b⟩ ms st ks Q=XD E un v acc (⟨d,i,none,b⟩::ms) st ks Q:=by simp [XDGuard]
theorem XDGuard_false {un : List (Nat × Nat)} {v : Nat} {acc : List (List Nat × List Nat)} {d : Option Nat} {i : MI} {g : Option (Nat × Bool)} {b : Bool} {ms : List MOp} : XDGuard E un v acc (some false) ⟨d,i,g,b⟩ ms st ks Q=XD E un v (acc++[([],[])]) ms (st.skip d) ks Q:=by simp [XDGuard]
theorem XDGuard_some {un : List (Nat × Nat)} {v : Nat} {acc : List (List Nat × List Nat)} {gb : Bool} {d : Option Nat} {i : MI} {g : Option (Nat × Bool)} {b : Bool} {ms : List MOp} : XDGuard E un v acc (some gb) ⟨d,i,g,b⟩ ms st ks Q=((gb=true→XD E un v acc (⟨d,i,none,b⟩::ms) st ks Q)∧(gb=false→XD E un v (acc++[([],[])]) ms (st.skip d) ks Q)):=rfl
theorem XCond_true {a b : MC} : XCond E (.bool true) a b st ks Q=XC E a st ks Q:=by simp [XCond_bool]
theorem XCond_false {a b : MC} : XCond E (.bool false) a b st ks Q=XC E b st ks Q:=by simp [XCond_bool]
end
attribute [simp low] XCond_bool XGuard_some XDGuard_some
attribute [simp high] XCond_true XCond_false XGuard_true XGuard_false XDGuard_true XDGuard_false
attribute [simp] XC_skip XC_reg XC_seq XC_cond XC_block XC_loop XC_scope XC_exit XC_goto XC_label XC_ret XC_cut XE_nil XE_sq XE_sq_exit XE_sq_goto XE_sq_ret XE_bk XE_bk_exit XE_bk_goto XE_bk_ret XR_nil XOp_some XOp_none XR_op XR_alloc XR_call XR_dcall XR_nilcmp XR_guard XR_soft XC_draw XD_nil XDOp_some XDOp_none XD_op XD_call XD_dcall XD_guard XD_soft XSoft XDSoft XNil XDyn XDDyn tagsHu okPairs apartL
theorem nilV_false (xs : List (List PV)) : nilV false xs=false:=rfl
theorem nilV_nil : nilV true []=true:=rfl
theorem nilV_cons (f : Bool) (x : List PV) (xs : List (List PV)) : nilV f (x::xs)=false:=by simp [nilV]
theorem bxOk_refl (b : Bool) (xs : List (List PV)) : bxOk b b xs:=.inl rfl
theorem bxOk_true (b : Bool) (xs : List (List PV)) : bxOk b true xs:=.inr (.inl rfl)
theorem bxOk_tf (xs : List (List PV)) : bxOk true false xs=(kfR xs=true):=by simp [bxOk]
attribute [simp] bxOk_refl bxOk_true bxOk_tf kfV kfL kfR nilV_false nilV_nil nilV_cons
attribute [simp] opSem St.init St.get lk hk St.put St.skip putS MI.allocs binSem retIs retOwn retIn ownIs resAll resOne resOk reify reifyL reify0 reify0L cells mk splice isOne storable fillP fillOk fillR fillROk rowsOf natOf bounds mxOf strip guardC optOk optsOk softGet isRun okOpt MI.isPick MI.ops softOk subS subH leV leL leR leE callOut callOutO keysL keysOf keys0 keys0L okL okV ok0 ok0L LS_mk LN_normal LN_exit LN_ret LN_goto LR_normal LR_exit LR_ret LR_goto CJ_normal CJ_exit CJ_ret CJ_goto CT_normal CT_exit CT_ret CT_goto RQ_normal RQ_exit RQ_ret RQ_goto freezeAll tagsOf scalar scalarL
end Go.Proofs.YtbdogkmdanmojaaGreatDoor.Pv
namespace Go.Proofs.YtbdogkmdanmojaaGreatDoor.Pv
open Go Go.RowKit
def renK (k1 k2 k : Key) : Key:=if k=k1 then k2 else k
mutual
def renV (k1 k2 : Key) : PV→PV
 | .own g e o l f=>.own (renK k1 k2 g) e o l f
 | .ptr g e i o=>.ptr (renK k1 k2 g) e i o
 | .agg cs=>.agg (renL k1 k2 cs)
 | .tup cs=>.tup (renL k1 k2 cs)
 | .fn f a b=>.fn f (renL k1 k2 a) (renL k1 k2 b)
 | .iface t x=>.iface t (renV k1 k2 x)
 | .opt b x=>.opt b (renV k1 k2 x)
 | .undef=>.undef
 | .bool b=>.bool b
 | .int k n=>.int k n
 | .str s=>.str s
 | .nilp=>.nilp
 | .nilf=>.nilf
 | .nili=>.nili
 | .vec e f xs=>.vec e f xs
 | .ref cs=>.ref cs
 | .raw u=>.raw u
 | .mapf es=>.mapf es
def renL (k1 k2 : Key) : List PV→List PV
 | []=>[]
 | x::xs=>renV k1 k2 x::renL k1 k2 xs
end
def renR (k1 k2 : Key) : List (List PV)→List (List PV)
 | []=>[]
 | x::xs=>renL k1 k2 x::renR k1 k2 xs
def renE (k1 k2 : Key) : Option HE→Option HE
 | none=>none
 | some ⟨esz,xs,fz,true⟩=>some ⟨esz,renR k1 k2 xs,fz,true⟩
 | some ⟨esz,xs,fz,false⟩=>some ⟨esz,xs,fz,false⟩
def renS (k1 k2 : Key) : List (Nat × PV)→List (Nat × PV)
 | []=>[]
 | (t,x)::s=>(t,renV k1 k2 x)::renS k1 k2 s
def renH (k1 k2 : Key) : List (Key × Option HE)→List (Key × Option HE)
 | []=>[]
 | (k,e)::h=>(renK k1 k2 k,renE k1 k2 e)::renH k1 k2 h
def renSt (k1 k2 : Key) (st : St) : St:=⟨renS k1 k2 st.s,renH k1 k2 st.h⟩
theorem renL_length (k1 k2 : Key) : ∀ xs : List PV,(renL k1 k2 xs).length=xs.length
 | []=>rfl
 | x::xs=>by simp [renL,renL_length k1 k2 xs]
theorem renR_length (k1 k2 : Key) : ∀ xs : List (List PV),(renR k1 k2 xs).length=xs.length
 | []=>rfl
 | x::xs=>by simp [renR,renR_length k1 k2 xs]
def renCtx (c : Ctx) (k1 k2 : Key) : Ctx:=⟨fun k=>if k=k2 then c.β k1 else c.β k,fun k=>if k=k2 then c.es k1 else c.es k,fun k=>c.U k∨(k=k2∧c.U k1),c.Fz⟩
section
variable {c : Ctx} {k1 k2 : Key} {w : World}
theorem ren_le (h2 : ¬ c.U k2) : c.Le (renCtx c k1 k2) :=
 ⟨fun g h=>.inl h,fun g h=>if_neg fun (e : g=k2)=>h2 (e ▸ h),fun g h=>if_neg fun (e : g=k2)=>h2 (e ▸ h),fun _ h=>h⟩
theorem ren_key (h2 : ¬ c.U k2) {g : Key} (hg : c.U g) : (renCtx c k1 k2).U (renK k1 k2 g)∧(renCtx c k1 k2).β (renK k1 k2 g)=c.β g∧(renCtx c k1 k2).es (renK k1 k2 g)=c.es g:=by
 unfold renK
 split
 ·rename_i e; subst e
  exact ⟨.inr ⟨rfl,hg⟩,if_pos rfl,if_pos rfl⟩
 ·have : g ≠ k2:=fun e=>h2 (e ▸ hg)
  exact ⟨.inl hg,if_neg this,if_neg this⟩
mutual
theorem ren_rep (h2 : ¬ c.U k2) : ∀ (x : PV) (v : Value),RepV w c x v→RepV w (renCtx c k1 k2) (renV k1 k2 x) v
 | .own g esz off len full,v,h=>by
   obtain ⟨hg,hes,he,a,cap,h1,h3,h4,h5,h6,h7⟩:=h
   obtain ⟨g1,g2,g3⟩:=ren_key h2 (k1:=k1) hg
   refine ⟨g1,hes.trans g3.symm,he,a,cap,h1,h3,h4,h5,h6,?_⟩
   rw [g2]; exact h7
 | .ptr g esz i off,v,h=>by
   obtain ⟨hg,hes,ad,h1,h3⟩:=h
   obtain ⟨g1,g2,g3⟩:=ren_key h2 (k1:=k1) hg
   exact ⟨g1,hes.trans g3.symm,ad,g2.trans h1,h3⟩
 | .agg cs,v,h=>by
   obtain ⟨vs,e,h,h1⟩:=h
   exact ⟨vs,e,ren_repL h2 cs _ h,h1⟩
 | .tup cs,v,h=>by
   obtain ⟨vs,e,h⟩:=h
   exact ⟨vs,e,ren_repL h2 cs _ h⟩
 | .fn f first cap,v,h=>by
   obtain ⟨a,b,e,h1,h3⟩:=h
   exact ⟨a,b,e,ren_repL h2 first _ h1,ren_repL h2 cap _ h3⟩
 | .iface t x,v,h=>by
   obtain ⟨u,e,h⟩:=h
   exact ⟨u,e,ren_rep h2 x u h⟩
 | .opt b x,v,h=>⟨fun hb=>ren_rep h2 x v (h.1 hb),h.2⟩
 | .undef,v,h | .bool _,v,h | .int _ _,v,h | .str _,v,h | .nilp,v,h | .nilf,v,h | .nili,v,h | .raw _,v,h=>h
 | .vec e f xs,v,h=>RepV.mono (.vec e f xs) v (Mono.refl _ _) (ren_le h2) h
 | .ref cs,v,h=>RepV.mono (.ref cs) v (Mono.refl _ _) (ren_le h2) h
 | .mapf es,v,h=>RepV.mono (.mapf es) v (Mono.refl _ _) (ren_le h2) h
theorem ren_repL (h2 : ¬ c.U k2) : ∀ (xs : List PV) (vs : List Value),RepL w c xs vs→RepL w (renCtx c k1 k2) (renL k1 k2 xs) vs
 | [],_,h=>h
 | x::xs,_,h=>by
   obtain ⟨u,us,e,h1,h3⟩:=h
   exact ⟨u,us,e,ren_rep h2 x u h1,ren_repL h2 xs us h3⟩
end
theorem ren_repAt (h2 : ¬ c.U k2) {b : Nat} : ∀ (o : Nat) (xs : List PV),RepAt w c b o xs→RepAt w (renCtx c k1 k2) b o (renL k1 k2 xs)
 | _,[],_=>trivial
 | o,x::xs,h=>by
   obtain ⟨⟨v,e,e1,h1⟩,h3⟩:=h
   exact ⟨⟨v,e,e1,ren_rep h2 x v h1⟩,ren_repAt h2 (o+1) xs h3⟩
theorem ren_repRows (h2 : ¬ c.U k2) {esz b : Nat} : ∀ (o : Nat) (xs : List (List PV)),RepRows w c esz b o xs→RepRows w (renCtx c k1 k2) esz b o (renR k1 k2 xs)
 | _,[],_=>trivial
 | o,r::rs,h=>by
   obtain ⟨h1,h3,h4⟩:=h
   exact ⟨(renL_length _ _ _).trans h1,ren_repAt h2 o r h3,ren_repRows h2 (o+esz) rs h4⟩
theorem ren_hrep (h2 : ¬ c.U k2) {k : Key} {e e' : HE} (he : renE k1 k2 (some e)=some e') (h : HRep w c k e) : HRep w (renCtx c k1 k2) (renK k1 k2 k) e':=by
 obtain ⟨hU,hes,h⟩:=h
 obtain ⟨g1,g2,g3⟩:=ren_key h2 (k1:=k1) hU
 obtain ⟨esz,xs,fz,bx⟩:=e
 cases bx with
 | true =>
   simp only [renE,Option.some.injEq] at he
   subst he
   refine ⟨g1,hes.trans g3.symm,?_⟩
   rw [g2]
   cases hb : c.β k with
   | none =>
     rw [hb] at h
     have h0 : xs=[]:=h.1
     subst h0
     exact ⟨rfl,h.2⟩
   | some ad =>
     rw [hb] at h
     obtain ⟨h1,⟨cs,el,fr,h3,h4,h5⟩,h6,h7⟩:=h
     exact ⟨h1,⟨cs,el,fr,h3,by rw [renR_length]; exact h4,h5⟩,ren_repRows h2 _ _ h6,h7⟩
 | false =>
   simp only [renE,Option.some.injEq] at he
   subst he
   refine ⟨g1,hes.trans g3.symm,?_⟩
   rw [g2]
   cases hb : c.β k with
   | none=>rw [hb] at h; exact h
   | some ad =>
     rw [hb] at h
     obtain ⟨h1,h3,h6,h7⟩:=h
     have h6' : RepRows w c.d esz ad.block ad.off xs:=h6
     have hm : RepRows w (renCtx c k1 k2).d esz ad.block ad.off xs:=RepRows.mono_cells (c:=c.d) (c':=(renCtx c k1 k2).d) (Mono.refl _ _) (Ctx.Le.d fun _ h=>h) esz ad.block ad.off xs (fun _ _ _=>rfl) h6'
     exact ⟨h1,h3,hm,h7⟩
end
theorem renE_some {k1 k2 : Key} {x : Option HE} {e : HE} (h : renE k1 k2 x=some e) : ∃ e0,x=some e0:=by
 cases x with
 | none=>simp [renE] at h
 | some e0=>exact ⟨e0,rfl⟩
theorem hk_ren {k1 k2 : Key} : ∀ {h : List (Key × Option HE)} {k : Key} {e : HE},hk k (renH k1 k2 h)=some e →
 ∃ k0 e0,hk k0 h=some e0∧renE k1 k2 (some e0)=some e∧k=renK k1 k2 k0∧(k0=k2→hk k2 h=some e0)
 | [],k,e,he=>by simp [renH,hk] at he
 | (m,x)::h,k,e,he=>by
   simp only [renH,hk] at he
   split at he
   ·rename_i hkm
    obtain ⟨e0,rfl⟩:=renE_some he
    exact ⟨m,e0,by simp [hk],he,hkm,fun hm=>by subst hm; simp [hk]⟩
   ·rename_i hkm
    obtain ⟨k0,e0,h1,h2,h3,h4⟩:=hk_ren he
    have hne : k0 ≠ m:=fun e1=>hkm (by rw [h3,e1])
    refine ⟨k0,e0,by simp [hk,hne,h1],h2,h3,fun h5=>?_⟩
    have : k2 ≠ m:=fun e1=>hne (h5.trans e1)
    simp [hk,this,h4 h5]
theorem lk_ren {k1 k2 : Key} (t : Nat) : ∀ s : List (Nat × PV),lk t (renS k1 k2 s)=renV k1 k2 (lk t s)
 | []=>by simp [renS,lk,renV]
 | (u,x)::s=>by
   simp only [renS,lk]
   split
   ·rfl
   ·exact lk_ren t s
theorem ren_good {E : Env} {st : St} {c : Ctx} {a : Act} {w : World} {k1 k2 : Key} (hg : Good E st c a w) (h2 : ¬ c.U k2) : Good E (renSt k1 k2 st) (renCtx c k1 k2) a w:=by
 have hk2 : ∀ {k0 : Key} {e0 : HE},hk k0 st.h=some e0→k0 ≠ k2:=fun h e=>h2 (e ▸ (hg.heap _ _ h).1)
 refine Good.ofH hg.defers hg.size ⟨fun k e he=>?_,fun k e ad he had=>?_,fun k k' e e' ad ad' he he' had had' hne=>?_,hg.fz,hg.le,?_,hg.below⟩ (fun t v hv=>?_) (fun p hp=>RepV.mono _ _ (Mono.refl _ _) (ren_le h2) (hg.ghost p hp))
 ·obtain ⟨k0,e0,h3,h4,rfl,_⟩:=hk_ren he
  exact ren_hrep h2 h4 (hg.heap _ _ h3)
 ·obtain ⟨k0,e0,h3,h4,rfl,_⟩:=hk_ren he
  rw [(ren_key h2 (hg.heap _ _ h3).1).2.1] at had
  exact hg.fresh _ _ _ h3 had
 ·obtain ⟨k0,e0,h3,h4,rfl,_⟩:=hk_ren he
  obtain ⟨k0',e0',h3',h4',rfl,_⟩:=hk_ren he'
  rw [(ren_key h2 (hg.heap _ _ h3).1).2.1] at had
  rw [(ren_key h2 (hg.heap _ _ h3').1).2.1] at had'
  exact hg.apart _ _ _ _ _ _ h3 h3' had had' (fun e=>hne (by rw [e]))
 ·obtain ⟨N,hN⟩:=hg.bnd
  refine ⟨max N (k2.2+1),fun k hk=>?_⟩
  rcases hk with hk | ⟨rfl,_⟩
  ·have:=hN k hk; omega
  ·omega
 ·show RepV w _ (lk t (renS k1 k2 st.s)) v
  rw [lk_ren]
  exact ren_rep h2 _ _ (hg.slot t v hv)
def canonS (t esz tag v : Nat) (st : St) : St:=match lk t st.s with
 | .own g _ _ _ _=>renSt g (tag,v) st
 | .ptr g _ _ _=>renSt g (tag,v) st
 | .vec e f xs=>match f,xs with
   | true,[]=>if e=esz∧0 < esz then own1 t esz tag v st else st
   | _,_=>st
 | _=>st
def ownB (g : Key) (e : Nat) (row : List PV) (fz : Bool) (i esz tag v : Nat) (st : St) : St:=⟨st.s,(g,some ⟨e,[row.set i (.own (tag,v) esz 0 0 true)],fz,true⟩)::((tag,v),some ⟨esz,[],false,false⟩)::st.h⟩
def canonB (t i esz tag v : Nat) (st : St) : St:=match lk t st.s with
 | .ptr g _ _ _=>match hk g st.h with
   | some ⟨e,[row],fz,true⟩=>match row.getD i .undef with
     | .own k _ _ _ _=>renSt k (tag,v) st
     | .vec e' f xs=>match f,xs with
       | true,[]=>if e'=esz∧0 < esz then ownB g e row fz i esz tag v st else st
       | _,_=>st
     | _=>st
   | _=>st
 | _=>st
def canon1 (t esz tag v : Nat) (st : St) : St:=if t < 1000000 then canonS t esz tag v st else canonB (t % 1000000) (t / 1000000 - 1) esz tag v st
def canon : List (Nat × Nat × Nat)→Nat→St→St
 | [],_,st=>st
 | (t,esz,tag)::l,v,st=>canon l v (canon1 t esz tag v st)
theorem canonS_good {E : Env} {st : St} {c : Ctx} {a : Act} {w : World} {t esz tag v : Nat} (hg : Good E st c a w) (hv : ¬ c.U (tag,v)) : ∃ c',Good E (canonS t esz tag v st) c' a w∧∀ k,c'.U k→c.U k∨k=(tag,v):=by
 unfold canonS
 split
 ·exact ⟨_,ren_good hg hv,fun k hk=>hk.imp id fun h=>h.1⟩
 ·exact ⟨_,ren_good hg hv,fun k hk=>hk.imp id fun h=>h.1⟩
 ·rename_i e f xs hl
  split
  ·split
   ·rename_i h
    obtain ⟨rfl,h0⟩:=h
    refine ⟨_,own1_good hg hl h0 hv,fun k hk=>hk.imp id id⟩
   ·exact ⟨c,hg,fun k hk=>.inl hk⟩
  ·exact ⟨c,hg,fun k hk=>.inl hk⟩
 ·exact ⟨c,hg,fun k hk=>.inl hk⟩
theorem RepAt_set {w : World} {c c' : Ctx} (hc : c.Le c') {b : Nat} {x : PV} : ∀ {i o : Nat} {xs : List PV},RepAt w c b o xs→i < xs.length→(∀ v,RepV w c (xs.getD i .undef) v→RepV w c' x v)→RepAt w c' b o (xs.set i x)
 | 0,o,y::ys,h,_,hx=>⟨⟨h.1.choose,h.1.choose_spec.1,h.1.choose_spec.2.1,hx _ h.1.choose_spec.2.2⟩,RepAt.mono b rfl (o+1) ys (Mono.refl _ _) hc h.2⟩
 | i+1,o,y::ys,h,hi,hx=>⟨⟨h.1.choose,h.1.choose_spec.1,h.1.choose_spec.2.1,RepV.mono _ _ (Mono.refl _ _) hc h.1.choose_spec.2.2⟩,RepAt_set hc (i:=i) h.2 (by simpa using hi) (by simpa using hx)⟩
theorem ownB_good {E : Env} {st : St} {c : Ctx} {a : Act} {w : World} {g : Key} {e i esz tag v : Nat} {row : List PV} {fz : Bool} (hg : Good E st c a w) (hk0 : hk g st.h=some ⟨e,[row],fz,true⟩) (hrow : row.getD i .undef=.vec esz true []) (he : 0 < esz) (hk' : ¬ c.U (tag,v)) : Good E (ownB g e row fz i esz tag v st) (newCtx c (tag,v) none esz) a w:=by
 have hi : i < row.length:=by
  rcases Nat.lt_or_ge i row.length with h | h
  ·exact h
  ·simp [List.getD,List.getElem?_eq_none h] at hrow
 have hle:=newCtx_le (a:=none) (n:=esz) hk'
 have hβ : ∀ k,k ≠ (tag,v)→(newCtx c (tag,v) none esz).β k=c.β k:=fun k hk=>if_neg hk
 have hβk : (newCtx c (tag,v) none esz).β (tag,v)=none:=if_pos rfl
 have hgk : g ≠ (tag,v):=fun x=>hk' (x ▸ (hg.heap _ _ hk0).1)
 have look : ∀ k e',hk k (ownB g e row fz i esz tag v st).h=some e'→(k=g∧e'=⟨e,[row.set i (.own (tag,v) esz 0 0 true)],fz,true⟩)∨(k=(tag,v)∧e'=⟨esz,[],false,false⟩)∨(k ≠ (tag,v)∧k ≠ g∧hk k st.h=some e'):=fun k e' h=>by
  simp only [ownB,hk_cons] at h
  split at h
  ·rename_i e1; exact .inl ⟨e1,(Option.some.inj h).symm⟩
  ·rename_i e1
   split at h
   ·rename_i e2; exact .inr (.inl ⟨e2,(Option.some.inj h).symm⟩)
   ·rename_i e2; exact .inr (.inr ⟨e2,e1,h⟩)
 have old : ∀ k e',hk k (ownB g e row fz i esz tag v st).h=some e'→k ≠ (tag,v)→∃ e0,hk k st.h=some e0:=fun k e' h hne=>by
  rcases look k e' h with ⟨rfl,_⟩ | ⟨h1,_⟩ | ⟨_,_,h1⟩
  ·exact ⟨_,hk0⟩
  ·exact absurd h1 hne
  ·exact ⟨_,h1⟩
 refine Good.ofH hg.defers hg.size ⟨fun k e' hke=>?_,fun k e' ad hke had=>?_,fun k k' e1 e2 ad ad' hke hke' had had' hne=>?_,hg.fz,hg.le,newCtx_bnd hg.bnd,hg.below⟩ (fun u x hx=>RepV.mono _ _ (Mono.refl _ _) hle (hg.slot u x hx)) (fun p hp=>RepV.mono _ _ (Mono.refl _ _) hle (hg.ghost p hp))
 ·rcases look k e' hke with ⟨rfl,rfl⟩ | ⟨rfl,rfl⟩ | ⟨h1,h2,h3⟩
  ·obtain ⟨q1,q2,q3⟩:=hg.heap _ _ hk0
   refine ⟨.inl q1,q2.trans (hle.es _ q1).symm,?_⟩
   rw [hβ k hgk]
   cases hb : c.β k with
   | none=>rw [hb] at q3; simp at q3
   | some ad =>
     rw [hb] at q3
     obtain ⟨b1,b2,b3,b4⟩:=q3
     have b3' : row.length=e∧RepAt w c ad.block ad.off row∧True:=b3
     refine ⟨b1,by simpa using b2,?_,b4⟩
     show RepRows w (newCtx c (tag,v) none esz) e ad.block ad.off [row.set i (.own (tag,v) esz 0 0 true)]
     refine ⟨by rw [List.length_set]; exact b3'.1,RepAt_set hle b3'.2.1 hi fun u hu=>?_,trivial⟩
     rw [hrow] at hu
     obtain ⟨a',cap,q1,q2,q3,q4,q5,q6⟩:=hu
     have hcap : cap=0:=q5 rfl
     subst hcap
     refine ⟨.inr rfl,(if_pos rfl).symm,he,a',0,q1,by simp,by simp,by simp [LIM],by simp,?_⟩
     rw [hβk]
     exact ⟨rfl,rfl,rfl⟩
  ·refine ⟨.inr rfl,(if_pos rfl).symm,?_⟩
   rw [hβk]
   exact ⟨rfl,he⟩
  ·exact (hg.heap k e' h3).mono (Mono.refl _ _) hle (fun _ _=>Iff.rfl) (fun _ _=>rfl)
 ·by_cases hkt : k=(tag,v)
  ·subst hkt; rw [hβk] at had; cases had
  ·obtain ⟨e0,h0⟩:=old k e' hke hkt
   rw [hβ k hkt] at had
   exact hg.fresh k e0 ad h0 had
 ·by_cases hkt : k=(tag,v)
  ·subst hkt; rw [hβk] at had; cases had
  ·by_cases hkt' : k'=(tag,v)
   ·subst hkt'; rw [hβk] at had'; cases had'
   ·obtain ⟨e0,h0⟩:=old k e1 hke hkt
    obtain ⟨e0',h0'⟩:=old k' e2 hke' hkt'
    rw [hβ k hkt] at had
    rw [hβ k' hkt'] at had'
    exact hg.apart k k' e0 e0' ad ad' h0 h0' had had' hne
theorem canonB_good {E : Env} {st : St} {c : Ctx} {a : Act} {w : World} {t i esz tag v : Nat} (hg : Good E st c a w) (hv : ¬ c.U (tag,v)) : ∃ c',Good E (canonB t i esz tag v st) c' a w∧∀ k,c'.U k→c.U k∨k=(tag,v):=by
 unfold canonB
 split
 ·split
  ·rename_i h0
   split
   ·exact ⟨_,ren_good hg hv,fun k hk=>hk.imp id fun h=>h.1⟩
   ·rename_i hrow
    split
    ·split
     ·rename_i h
      obtain ⟨rfl,h1⟩:=h
      exact ⟨_,ownB_good hg h0 hrow h1 hv,fun k hk=>hk.imp id id⟩
     ·exact ⟨c,hg,fun k hk=>.inl hk⟩
    ·exact ⟨c,hg,fun k hk=>.inl hk⟩
   ·exact ⟨c,hg,fun k hk=>.inl hk⟩
  ·exact ⟨c,hg,fun k hk=>.inl hk⟩
 ·exact ⟨c,hg,fun k hk=>.inl hk⟩
theorem canon1_good {E : Env} {st : St} {c : Ctx} {a : Act} {w : World} {t esz tag v : Nat} (hg : Good E st c a w) (hv : ¬ c.U (tag,v)) : ∃ c',Good E (canon1 t esz tag v st) c' a w∧∀ k,c'.U k→c.U k∨k=(tag,v):=by
 unfold canon1
 split
 ·exact canonS_good hg hv
 ·exact canonB_good hg hv
def tagsOk : List (Nat × Nat × Nat)→Bool
 | []=>true
 | x::l=>l.all (fun y=>y.2.2 != x.2.2)&&tagsOk l
theorem canon_good {E : Env} {a : Act} {w : World} {v : Nat} : ∀ (ts : List (Nat × Nat × Nat)) (st : St) (c : Ctx),tagsOk ts=true→Good E st c a w→(∀ t ∈ ts,¬ c.U (t.2.2,v))→∃ c',Good E (canon ts v st) c' a w
 | [],st,c,_,hg,_=>⟨c,hg⟩
 | (t,esz,tag)::l,st,c,ho,hg,hU=>by
   simp only [tagsOk,Bool.and_eq_true,List.all_eq_true,bne_iff_ne,ne_eq] at ho
   obtain ⟨c',hg',hU'⟩:=canon1_good (t:=t) (esz:=esz) hg (hU (t,esz,tag) (by simp))
   refine canon_good l _ c' ho.2 hg' fun x hx hu=>?_
   rcases hU' _ hu with h | h
   ·exact hU x (by simp [hx]) h
   ·exact ho.1 x hx (congrArg Prod.fst h)
theorem canon_rel {E : Env} {st : St} {a : Act} {w : World} (ts : List (Nat × Nat × Nat)) (ho : tagsOk ts=true) (hr : Rel E st a w) : ∃ v,E.V≤v∧Rel E (canon ts v st) a w:=by
 obtain ⟨c,hg⟩:=hr
 obtain ⟨N,hN⟩:=hg.bnd
 exact ⟨max N E.V,by omega,canon_good ts st c ho hg fun t _ hu=>by have:=hN _ hu; simp only at this; omega⟩
def frzH (keep : List Key) : List (Key × Option HE)→List (Key × Option HE)
 | []=>[]
 | (k,none)::h=>(k,none)::frzH keep h
 | (k,some ⟨esz,xs,fz,true⟩)::h=>(k,some ⟨esz,xs,fz,true⟩)::frzH keep h
 | (k,some ⟨esz,xs,fz,false⟩)::h=>(k,some ⟨esz,xs,if k ∈ keep then fz else true,false⟩)::frzH keep h
def frzE (keep : List Key) (k : Key) (e : HE) : HE:=if e.bx=true∨k ∈ keep then e else { e with fz:=true }
theorem hk_frzH (keep : List Key) (k : Key) : ∀ h : List (Key × Option HE),hk k (frzH keep h)=(hk k h).map (frzE keep k)
 | []=>rfl
 | (m,none)::h=>by
   simp only [frzH,hk]
   split
   ·rfl
   ·exact hk_frzH keep k h
 | (m,some ⟨esz,xs,fz,true⟩)::h=>by
   simp only [frzH,hk]
   split
   ·simp [frzE]
   ·exact hk_frzH keep k h
 | (m,some ⟨esz,xs,fz,false⟩)::h=>by
   simp only [frzH,hk]
   split
   ·rename_i e; subst e
    simp only [frzE,Option.map_some,Bool.false_eq_true,false_or]
    split <;> rfl
   ·exact hk_frzH keep k h
def frzKs (keep : List Key) (h : List (Key × Option HE)) : List Key:=(h.map (·.1)).filter fun k=>match hk k h with | some e=>!e.bx&&!decide (k ∈ keep) | none=>false
theorem hk_mem {k : Key} {e : HE} : ∀ {h : List (Key × Option HE)},hk k h=some e→k ∈ h.map (·.1)
 | [],h=>by simp [hk] at h
 | (m,x)::l,h=>by
   simp only [hk] at h
   split at h
   ·rename_i e1; subst e1; simp
   ·simp [hk_mem h]
theorem frz_rel {E : Env} {st : St} {a : Act} {w : World} (keep : List Key) (hr : Rel E st a w) : Rel E ⟨st.s,frzH keep st.h⟩ a w:=by
 obtain ⟨c,hg⟩:=Le.freeze (h:=st.h) (s:=st.s) (frzKs keep st.h) a w hr
 refine ⟨c,hg.leH fun k=>?_⟩
 rw [hk_freeze,hk_frzH]
 have hre : ∀ o : Option HE,leE (fun k=>hk k (freezeAll (fun k=>hk k st.h) (frzKs keep st.h)++st.h)) o o:=fun o=>by
  cases o with
  | none=>trivial
  | some e=>exact ⟨rfl,rfl,.inl rfl,leR_refl _ _⟩
 cases he : hk k st.h with
 | none=>split <;> exact hre _
 | some e =>
   by_cases hk1 : e.bx=true∨k ∈ keep
   ·have : k ∉ frzKs keep st.h:=fun hm=>by
       have:=(List.mem_filter.1 hm).2
       rw [he] at this
       simp only [Bool.and_eq_true,Bool.not_eq_true',decide_eq_false_iff_not] at this
       rcases hk1 with h | h
       ·rw [h] at this; simp at this
       ·exact this.2 h
    rw [if_neg this]
    simp only [Option.map_some,frzE,if_pos hk1]
    exact hre _
   ·have : k ∈ frzKs keep st.h:=List.mem_filter.2 ⟨hk_mem he,by
       rw [he]
       simp only [not_or,Bool.not_eq_true] at hk1
       simp [hk1]⟩
    rw [if_pos this]
    simp only [Option.map_some,frzE,if_neg hk1]
    exact hre _
def canonF (ts : List (Nat × Nat × Nat)) (v : Nat) (st : St) : St:=⟨(canon ts v st).s,frzH (ts.map fun t=>(t.2.2,v)) (canon ts v st).h⟩
theorem canonF_rel {E : Env} {st : St} {a : Act} {w : World} (ts : List (Nat × Nat × Nat)) (ho : tagsOk ts=true) (hr : Rel E st a w) : ∃ v,E.V≤v∧Rel E (canonF ts v st) a w:=by
 obtain ⟨v,hv,h⟩:=canon_rel ts ho hr
 exact ⟨v,hv,frz_rel _ h⟩
section
variable {E : Env} {body m : MC} {st st' : St} {ks : List KF} {Q : Ex→St→Prop} {ι γ : Type}
def LNR (E : Env) (ts : List (Nat × Nat × Nat)) (n : Nat) (S : Nat→Nat→γ→St) (J : Nat→γ→Prop) (i : Nat) (ks : List KF) (Q : Ex→St→Prop) : Ex→St→Prop
 | .normal,st'=>i < n∧∃ g,J (i+1) g∧∀ v,LS (canonF ts v st') (S v (i+1) g)
 | e,st'=>XE E e st' ks Q
def LRR (E : Env) (ts : List (Nat × Nat × Nat)) (S : Nat→ι→St) (J : ι→Prop) (μ : ι→Nat) (i : ι) (ks : List KF) (Q : Ex→St→Prop) : Ex→St→Prop
 | .normal,st'=>∃ j,J j∧μ j < μ i∧∀ v,LS (canonF ts v st') (S v j)
 | e,st'=>XE E e st' ks Q
def CJR (E : Env) (ts : List (Nat × Nat × Nat)) (S : Nat→ι→St) (J : ι→Prop) (ks : List KF) (Q : Ex→St→Prop) : Ex→St→Prop
 | .normal,st'=>∃ j,J j∧∀ v,LS (canonF ts v st') (S v j)
 | e,st'=>XE E e st' ks Q
def CTR (E : Env) (ts : List (Nat × Nat × Nat)) (S : Nat→St) (ks : List KF) (Q : Ex→St→Prop) : Ex→St→Prop
 | .normal,st'=>∀ v,LS (canonF ts v st') (S v)
 | e,st'=>XE E e st' ks Q
section
variable {ts : List (Nat × Nat × Nat)} {n k id : Nat} {S' : Nat→Nat→γ→St} {J' : Nat→γ→Prop} {S : Nat→ι→St} {J : ι→Prop} {μ : ι→Nat} {i : ι} {S1 : Nat→St}
theorem LNR_normal : LNR E ts n S' J' k ks Q .normal st'=(k < n∧∃ g,J' (k+1) g∧∀ v,LS (canonF ts v st') (S' v (k+1) g)):=propext Iff.rfl
theorem LNR_exit : LNR E ts n S' J' k ks Q (.exit id) st'=XE E (.exit id) st' ks Q:=propext Iff.rfl
theorem LNR_ret : LNR E ts n S' J' k ks Q .ret st'=XE E .ret st' ks Q:=propext Iff.rfl
theorem LNR_goto : LNR E ts n S' J' k ks Q (.goto id) st'=XE E (.goto id) st' ks Q:=propext Iff.rfl
theorem LRR_normal : LRR E ts S J μ i ks Q .normal st'=∃ j,J j∧μ j < μ i∧∀ v,LS (canonF ts v st') (S v j):=propext Iff.rfl
theorem LRR_exit : LRR E ts S J μ i ks Q (.exit id) st'=XE E (.exit id) st' ks Q:=propext Iff.rfl
theorem LRR_ret : LRR E ts S J μ i ks Q .ret st'=XE E .ret st' ks Q:=propext Iff.rfl
theorem LRR_goto : LRR E ts S J μ i ks Q (.goto id) st'=XE E (.goto id) st' ks Q:=propext Iff.rfl
theorem CJR_normal : CJR E ts S J ks Q .normal st'=∃ j,J j∧∀ v,LS (canonF ts v st') (S v j):=propext Iff.rfl
theorem CJR_exit : CJR E ts S J ks Q (.exit id) st'=XE E (.exit id) st' ks Q:=propext Iff.rfl
theorem CJR_ret : CJR E ts S J ks Q .ret st'=XE E .ret st' ks Q:=propext Iff.rfl
theorem CJR_goto : CJR E ts S J ks Q (.goto id) st'=XE E (.goto id) st' ks Q:=propext Iff.rfl
theorem CTR_normal : CTR E ts S1 ks Q .normal st'=∀ v,LS (canonF ts v st') (S1 v):=propext Iff.rfl
theorem CTR_exit : CTR E ts S1 ks Q (.exit id) st'=XE E (.exit id) st' ks Q:=propext Iff.rfl
theorem CTR_ret : CTR E ts S1 ks Q .ret st'=XE E .ret st' ks Q:=propext Iff.rfl
theorem CTR_goto : CTR E ts S1 ks Q (.goto id) st'=XE E (.goto id) st' ks Q:=propext Iff.rfl
end
theorem XLoop.cntR (hmix : E.P.follows .mixedOrders=true) (ts : List (Nat × Nat × Nat)) (hts : tagsOk ts=true) (n : Nat) (S' : Nat→Nat→γ→St) (J' : Nat→γ→Prop) (g0 : γ) (h0 : J' 0 g0) (hst : ∀ v,LS (canonF ts v st) (S' v 0 g0))
 (hr : ∀ v i g,E.V≤v→i≤n→J' i g→XC E body (S' v i g) [] (LNR E ts n S' J' i ks Q)) : XLoop E (.loop body) st ks Q:=by
 intro c hm a w hrel
 obtain ⟨x,rfl,hm1⟩:=toMC_loop hm
 obtain ⟨v0,hv0,hrel0⟩:=canonF_rel ts hts hrel
 refine wp_loop_ghost (fun m a w=>∃ v i g,E.V≤v∧i≤n∧J' i g∧n - i=m∧Rel E (S' v i g) a w) n ⟨v0,0,g0,hv0,Nat.zero_le _,h0,rfl,(hst v0).le a w hrel0⟩ ?_
 rintro m a w ⟨v,i,g,hv,hi,hJ,rfl,hri⟩
 refine wp_mono (exec_sound hmix x body (S' v i g) a w _ hm1 hri (hr v i g hv hi hJ)) ?_
 rintro e a' w' ⟨ex,st',rfl,hq,hr'⟩
 cases ex with
 | normal =>
   obtain ⟨hlt,g',h1,h3⟩:=hq
   obtain ⟨v',hv',hr2⟩:=canonF_rel ts hts hr'
   exact ⟨n - (i+1),by omega,v',i+1,g',hv',hlt,h1,rfl,(h3 v').le a' w' hr2⟩
 | exit id=>exact ⟨.exit id,st',rfl,hq,hr'⟩
 | goto l=>exact ⟨.goto l,st',rfl,hq,hr'⟩
 | ret=>exact ⟨.ret,st',rfl,hq,hr'⟩
theorem XCut.oneR (hmix : E.P.follows .mixedOrders=true) (ts : List (Nat × Nat × Nat)) (hts : tagsOk ts=true) (S : Nat→St) (h1 : XC E m st [] (CTR E ts S ks Q)) (h2 : ∀ v,E.V≤v→XE E .normal (S v) ks Q) : XCut E m st ks Q:=by
 intro c hm a w hr
 refine wp_mono (exec_sound hmix c m st a w _ hm hr h1) ?_
 rintro e a' w' ⟨ex,st',rfl,hq,hr'⟩
 cases ex with
 | normal =>
   obtain ⟨v,hv,hr2⟩:=canonF_rel ts hts hr'
   exact ⟨.normal,S v,rfl,h2 v hv,(hq v).le a' w' hr2⟩
 | exit id=>exact ⟨.exit id,st',rfl,hq,hr'⟩
 | goto l=>exact ⟨.goto l,st',rfl,hq,hr'⟩
 | ret=>exact ⟨.ret,st',rfl,hq,hr'⟩
end
theorem intBeq (a b : Int) : (a == b)=decide (a=b):=by by_cases h : a=b <;> simp [h]
attribute [simp] intBeq leR_refl
attribute [simp] LNR_normal LNR_exit LNR_ret LNR_goto LRR_normal LRR_exit LRR_ret LRR_goto CJR_normal CJR_exit CJR_ret CJR_goto CTR_normal CTR_exit CTR_ret CTR_goto canon canon1 canonS canonB ownB renSt lk_ren renH renE renR renV renL renK own1 tagsOk frzH canonF
end Go.Proofs.YtbdogkmdanmojaaGreatDoor.Pv
namespace Go.Tidy
abbrev S:=ByteArray
structure Span where
 low : S
 high : S
 deriving Inhabited
mutual
inductive Ty where
 | mk (all null fls tru : Bool) (nums : List Span) (any : Bool) (texts : List S) (arrays : List Arr) (objects : List Ob)
inductive Arr where
 | mk (item : Ty) (min max : Int)
inductive Ob where
 | mk (names : List S) (fields : List Ty) (must : List Bool) (rest : Ty)
end
namespace Ty
def all : Ty→Bool | .mk a _ _ _ _ _ _ _ _=>a
def null : Ty→Bool | .mk _ a _ _ _ _ _ _ _=>a
def fls : Ty→Bool | .mk _ _ a _ _ _ _ _ _=>a
def tru : Ty→Bool | .mk _ _ _ a _ _ _ _ _=>a
def nums : Ty→List Span | .mk _ _ _ _ a _ _ _ _=>a
def any : Ty→Bool | .mk _ _ _ _ _ a _ _ _=>a
def texts : Ty→List S | .mk _ _ _ _ _ _ a _ _=>a
def arrays : Ty→List Arr | .mk _ _ _ _ _ _ _ a _=>a
def objects : Ty→List Ob | .mk _ _ _ _ _ _ _ _ a=>a
end Ty
namespace Arr
def item : Arr→Ty | .mk a _ _=>a
def min : Arr→Int | .mk _ a _=>a
def max : Arr→Int | .mk _ _ a=>a
end Arr
namespace Ob
def names : Ob→List S | .mk a _ _ _=>a
def fields : Ob→List Ty | .mk _ a _ _=>a
def must : Ob→List Bool | .mk _ _ a _=>a
def rest : Ob→Ty | .mk _ _ _ a=>a
end Ob
def tNever : Ty:=.mk false false false false [] false [] [] []
def tEvery : Ty:=.mk true false false false [] false [] [] []
instance : Inhabited Ty:=⟨tNever⟩
instance : Inhabited Arr:=⟨.mk tNever 0 0⟩
instance : Inhabited Ob:=⟨.mk [] [] [] tNever⟩
section
variable (a b c d : Bool) (ns : List Span) (e : Bool) (ts : List S) (az : List Arr) (os : List Ob) (t : Ty) (lo hi : Int) (nm : List S) (fs : List Ty) (ms : List Bool)
@[simp] theorem Ty.all_mk : (Ty.mk a b c d ns e ts az os).all=a:=rfl
@[simp] theorem Ty.null_mk : (Ty.mk a b c d ns e ts az os).null=b:=rfl
@[simp] theorem Ty.fls_mk : (Ty.mk a b c d ns e ts az os).fls=c:=rfl
@[simp] theorem Ty.tru_mk : (Ty.mk a b c d ns e ts az os).tru=d:=rfl
@[simp] theorem Ty.nums_mk : (Ty.mk a b c d ns e ts az os).nums=ns:=rfl
@[simp] theorem Ty.any_mk : (Ty.mk a b c d ns e ts az os).any=e:=rfl
@[simp] theorem Ty.texts_mk : (Ty.mk a b c d ns e ts az os).texts=ts:=rfl
@[simp] theorem Ty.arrays_mk : (Ty.mk a b c d ns e ts az os).arrays=az:=rfl
@[simp] theorem Ty.objects_mk : (Ty.mk a b c d ns e ts az os).objects=os:=rfl
@[simp] theorem Arr.item_mk : (Arr.mk t lo hi).item=t:=rfl
@[simp] theorem Arr.min_mk : (Arr.mk t lo hi).min=lo:=rfl
@[simp] theorem Arr.max_mk : (Arr.mk t lo hi).max=hi:=rfl
@[simp] theorem Ob.names_mk : (Ob.mk nm fs ms t).names=nm:=rfl
@[simp] theorem Ob.fields_mk : (Ob.mk nm fs ms t).fields=fs:=rfl
@[simp] theorem Ob.must_mk : (Ob.mk nm fs ms t).must=ms:=rfl
@[simp] theorem Ob.rest_mk : (Ob.mk nm fs ms t).rest=t:=rfl
end
theorem Ty.eta (t : Ty) : .mk t.all t.null t.fls t.tru t.nums t.any t.texts t.arrays t.objects=t:=by cases t; rfl
theorem Arr.eta (t : Arr) : .mk t.item t.min t.max=t:=by cases t; rfl
theorem Ob.eta (t : Ob) : .mk t.names t.fields t.must t.rest=t:=by cases t; rfl
def sLt (a b : S) : Bool:=Op.bytesLess a.data.toList b.data.toList
def sEq (a b : S) : Bool:=a.data.toList == b.data.toList
def sCmp (a b : S) : Ordering:=if sLt a b then .lt else if sEq a b then .eq else .gt
def sEmp (a : S) : Bool:=a.data.toList.isEmpty
def neg (a : S) : Bool:=a.data.toList.head? == some 45
def digs (a : S) : List UInt8:=if neg a then a.data.toList.tail else a.data.toList
def isDig (c : UInt8) : Bool:=48≤c&&c≤57
def numB (a : S) : Bool:=(digs a).all isDig&&!(digs a).isEmpty&&((digs a).head? != some 48||a.data.toList == [48])
def lCmp (x y : List UInt8) : Ordering:=if Op.bytesLess x y then .lt else if x == y then .eq else .gt
def digCmp (x y : List UInt8) : Ordering:=(compare x.length y.length).then (lCmp x y)
def numCmp (a b : S) : Ordering:=match neg a,neg b with
 | true,true=>digCmp (digs b) (digs a)
 | true,false=>.lt
 | false,true=>.gt
 | false,false=>digCmp (digs a) (digs b)
def lexC {α : Type} (f : α→α→Ordering) : List α→List α→Ordering
 | [],[]=>.eq
 | [],_::_=>.lt
 | _::_,[]=>.gt
 | a::l,b::m=>(f a b).then (lexC f l m)
def trail (l : List UInt8) (n : Nat) (lo hi : UInt8) : Bool:=decide (n≤l.length)&&(l.take n).all (fun c=>128≤c&&c≤191)&&(match l with | c::_=>decide (lo≤c)&&decide (c≤hi) | []=>false)
def width : List UInt8→Nat
 | []=>0
 | c::l =>
   if c < 128 then 1
   else if 194≤c&&c≤223&&trail l 1 128 191 then 2
   else if 224≤c&&c≤239&&trail l 2 (if c == 224 then 160 else 128) (if c == 237 then 159 else 191) then 3
   else if 240≤c&&c≤244&&trail l 3 (if c == 240 then 144 else 128) (if c == 244 then 143 else 191) then 4
   else 0
def utfL : Nat→List UInt8→Bool
 | 0,l=>l.isEmpty
 | n+1,l=>l.isEmpty||(width l != 0&&utfL n (l.drop (width l)))
def utfB (s : S) : Bool:=utfL s.data.toList.length s.data.toList
def riseB : List S→Bool
 | []=>true
 | [a]=>utfB a
 | a::b::l=>utfB a&&sLt a b&&riseB (b::l)
def bare (t : Ty) : Bool:=!t.null&&!t.fls&&!t.tru&&!t.any&&t.nums.isEmpty&&t.texts.isEmpty&&t.arrays.isEmpty&&t.objects.isEmpty
def never (t : Ty) : Bool:=!t.all&&bare t
def boundB (s : S) : Bool:=sEmp s||numB s
def spanB (s : Span) : Bool:=boundB s.low&&boundB s.high&&(sEmp s.low||sEmp s.high||(numCmp s.low s.high).isLE)
mutual
def formedT : Ty→Bool
 | .mk a b c d ns e ts az os=>(!a||bare (.mk a b c d ns e ts az os))&&riseB ts&&(!e||ts.isEmpty)&&decide (ns.length≤1)&&ns.all spanB&&decide (az.length≤1)&&formedAs az&&formedOs os
def formedA : Arr→Bool
 | .mk t lo hi=>decide (0≤lo)&&decide (-1≤hi)&&(decide (hi < 0)||decide (lo≤hi))&&formedT t&&(never t == decide (hi=0))
def formedO : Ob→Bool
 | .mk ns fs ms r=>decide (ns.length=fs.length)&&decide (ns.length=ms.length)&&riseB ns&&formedT r&&formedTs fs&&(fs.zip ms).all (fun p=>!p.2||!never p.1)
def formedAs : List Arr→Bool
 | []=>true
 | a::l=>formedA a&&formedAs l
def formedOs : List Ob→Bool
 | []=>true
 | a::l=>formedO a&&formedOs l
def formedTs : List Ty→Bool
 | []=>true
 | a::l=>formedT a&&formedTs l
end
theorem formedAs_all : ∀ l : List Arr,formedAs l=l.all formedA
 | []=>by simp [formedAs]
 | a::l=>by simp [formedAs,formedAs_all l]
theorem formedOs_all : ∀ l : List Ob,formedOs l=l.all formedO
 | []=>by simp [formedOs]
 | a::l=>by simp [formedOs,formedOs_all l]
theorem formedTs_all : ∀ l : List Ty,formedTs l=l.all formedT
 | []=>by simp [formedTs]
 | a::l=>by simp [formedTs,formedTs_all l]
mutual
def heightT : Ty→Nat
 | .mk _ _ _ _ _ _ _ az os=>max (heightAs az) (heightOs os)
def heightAs : List Arr→Nat
 | []=>0
 | .mk t _ _::l=>max (heightT t+1) (heightAs l)
def heightOs : List Ob→Nat
 | []=>0
 | .mk _ fs _ r::l=>max (max (heightT r+1) (heightTs fs)) (heightOs l)
def heightTs : List Ty→Nat
 | []=>0
 | t::l=>max (heightT t+1) (heightTs l)
end
def laidAll : Ty:=.mk false true true true [⟨ByteArray.empty,ByteArray.empty⟩] true [] [.mk tEvery 0 (-1)] [.mk [] [] [] tEvery]
def laidT (t : Ty) : Ty:=if t.all then laidAll else t
end Go.Tidy
namespace Go.Proofs.YtbdogkmdanmojaaGreatDoor.Pv
open Go Go.Tidy
def encStr (s : S) : List PV:=[.str s]
def encBool (b : Bool) : List PV:=[.bool b]
def encSpan (s : Span) : List PV:=[.str s.low,.str s.high]
mutual
def encTy : Ty→List PV
 | .mk a b c d nums e texts arrs objs=>[.bool a,.bool b,.bool c,.bool d,.vec 2 false (nums.map encSpan),.bool e,.vec 1 false (texts.map encStr),.vec 11 false (encArrs arrs),.vec 12 false (encObjs objs)]
def encArr : Arr→List PV
 | .mk t lo hi=>encTy t++[.int .i64 lo,.int .i64 hi]
def encObj : Ob→List PV
 | .mk ns fs ms r=>[.vec 1 false (ns.map encStr),.vec 9 false (encTys fs),.vec 1 false (ms.map encBool)]++encTy r
def encArrs : List Arr→List (List PV)
 | []=>[]
 | a::l=>encArr a::encArrs l
def encObjs : List Ob→List (List PV)
 | []=>[]
 | a::l=>encObj a::encObjs l
def encTys : List Ty→List (List PV)
 | []=>[]
 | a::l=>encTy a::encTys l
end
theorem encArrs_map (l : List Arr) : encArrs l=l.map encArr:=by induction l with | nil=>rfl | cons a l ih=>simp [encArrs,ih]
theorem encObjs_map (l : List Ob) : encObjs l=l.map encObj:=by induction l with | nil=>rfl | cons a l ih=>simp [encObjs,ih]
theorem encTys_map (l : List Ty) : encTys l=l.map encTy:=by induction l with | nil=>rfl | cons a l ih=>simp [encTys,ih]
abbrev cT (t : Ty) : List PV:=[.bool t.all,.bool t.null,.bool t.fls,.bool t.tru,.vec 2 false (t.nums.map encSpan),.bool t.any,.vec 1 false (t.texts.map encStr),.vec 11 false (t.arrays.map encArr),.vec 12 false (t.objects.map encObj)]
abbrev cA (a : Arr) : List PV:=[.bool a.item.all,.bool a.item.null,.bool a.item.fls,.bool a.item.tru,.vec 2 false (a.item.nums.map encSpan),.bool a.item.any,.vec 1 false (a.item.texts.map encStr),.vec 11 false (a.item.arrays.map encArr),.vec 12 false (a.item.objects.map encObj),.int .i64 a.min,.int .i64 a.max]
abbrev cO (o : Ob) : List PV:=[.vec 1 false (o.names.map encStr),.vec 9 false (o.fields.map encTy),.vec 1 false (o.must.map encBool),.bool o.rest.all,.bool o.rest.null,.bool o.rest.fls,.bool o.rest.tru,.vec 2 false (o.rest.nums.map encSpan),.bool o.rest.any,.vec 1 false (o.rest.texts.map encStr),.vec 11 false (o.rest.arrays.map encArr),.vec 12 false (o.rest.objects.map encObj)]
theorem encTy_eq (t : Ty) : encTy t=cT t:=by
 cases t; simp [encTy,encArrs_map,encObjs_map,Ty.all,Ty.null,Ty.fls,Ty.tru,Ty.nums,Ty.any,Ty.texts,Ty.arrays,Ty.objects]
theorem encArr_eq (a : Arr) : encArr a=cA a:=by
 cases a; simp [encArr,encTy_eq,Arr.item,Arr.min,Arr.max]
theorem encObj_eq (o : Ob) : encObj o=cO o:=by
 cases o; simp [encObj,encTy_eq,encTys_map,Ob.names,Ob.fields,Ob.must,Ob.rest]
attribute [simp] encTy_eq encArr_eq encObj_eq encStr encBool encSpan
theorem wrap64 {n : Int} (h1 : -9223372036854775808≤n) (h2 : n≤9223372036854775807) : IntKind.i64.wrap n=n:=by
 simp only [IntKind.wrap,IntKind.bits,IntKind.signed]
 simp
 omega
end Go.Proofs.YtbdogkmdanmojaaGreatDoor.Pv
namespace Go.Tidy
def Q3 (p q r : Ordering) : Prop:=(p.isLE=true→q.isLE=true→r.isLE=true)∧(p=.eq→q=.eq→r=.eq)∧(p.isLE=true→q.isLE=true→r=.eq→p=.eq∧q=.eq)
instance (p q r : Ordering) : Decidable (Q3 p q r):=by unfold Q3; infer_instance
theorem Q3.then {p q r p' q' r' : Ordering} (h : Q3 p q r) (k : Q3 p' q' r') : Q3 (p.then p') (q.then q') (r.then r'):=by
 revert p q r p' q' r'
 decide
theorem cmpI_lt {a b : Int} : compare a b=.lt↔a < b:=by
 simp only [compare,compareOfLessAndEq]
 split <;> (try split) <;> simp_all
theorem cmpI_gt {a b : Int} : compare a b=.gt↔b < a:=by
 simp only [compare,compareOfLessAndEq]
 split <;> (try split) <;> simp_all <;> omega
theorem cmpN_eq' (a b : Nat) : compare a b=compare (a : Int) (b : Int):=by
 simp only [compare,compareOfLessAndEq]
 split <;> split <;> (try split) <;> simp_all <;> omega
def uCmp (a b : UInt8) : Ordering:=compare a.toNat b.toNat
theorem lCmp_lex : ∀ x y : List UInt8,lCmp x y=lexC uCmp x y
 | [],[]=>rfl
 | [],_::_=>rfl
 | _::_,[]=>rfl
 | a::x,b::y=>by
   have ih:=lCmp_lex x y
   simp only [lexC,← ih]
   unfold lCmp uCmp
   simp only [Op.bytesLess,compare,compareOfLessAndEq]
   by_cases h1 : a < b
   ·have : a.toNat < b.toNat:=h1
    simp [h1,this,Ordering.then]
   ·have h1' : ¬ a.toNat < b.toNat:=h1
    by_cases h2 : a=b
    ·subst h2
     simp [Ordering.then]
    ·have h2' : a.toNat ≠ b.toNat:=fun e=>h2 (UInt8.toNat_inj.1 e)
     simp [h1,h1',h2,h2',Ordering.then]
theorem sCmp_lex (a b : S) : sCmp a b=lexC uCmp a.data.toList b.data.toList:=lCmp_lex _ _
theorem sExt {a b : S} (h : a.data.toList=b.data.toList) : a=b:=ByteArray.ext (Array.ext' h)
theorem sEq_iff {a b : S} : sEq a b=true↔a=b:=⟨fun h=>sExt (by simpa [sEq] using h),fun h=>by subst h; simp [sEq]⟩
theorem sEmp_iff {a : S} : sEmp a=true↔a=ByteArray.empty:=by
 unfold sEmp
 rw [List.isEmpty_iff]
 exact ⟨fun h=>sExt (by rw [h]; rfl),fun h=>by subst h; rfl⟩
end Go.Tidy
namespace Go.Tidy
end Go.Tidy
