/- Part 11. -/
import Derived.Test.YtbdogkmdanmojaaGreatDoorV10
set_option linter.unusedSimpArgs false
set_option linter.unusedVariables false
namespace Go.Proofs.YtbdogkmdanmojaaGreatDoor.Pv
open Go
def cl (f k:Nat) (m:MC) (nt:Nat) (rs:List RV):Option (MC × Nat × List RV):=bif Nat.beq f k then some (m.erase,nt,rs) else none
theorem cl_ok {f k nt:Nat} {m:MC} {rs:List RV} (hk:mfOf prog k=some (m.erase,nt,rs)) {R:MC × Nat × List RV} (h:cl f k m nt rs=some R):mfOf prog f=some R:=by
 unfold cl at h
 cases e:Nat.beq f k with
 | true=>rw[e] at h; rw[Nat.eq_of_beq_eq_true e,hk]; exact h
 | false=>rw[e] at h; cases h
theorem nd_ok {f:Nat} {c:Bool} {x y:Option (MC × Nat × List RV)} {R:MC × Nat × List RV} (hx:x=some R→mfOf prog f=some R) (hy:y=some R→mfOf prog f=some R) (h:(bif c then x else y)=some R):mfOf prog f=some R:=by
 cases c with
 | true=>exact hx h
 | false=>exact hy h
def tab (f:Nat):Option (MC × Nat × List RV):=(bif Nat.blt f M.F_shape_Same then (bif Nat.blt f M.F_prim_key then (bif Nat.blt f M.F_rules_gives then (bif Nat.blt f M.F_rules_right then (bif Nat.blt f M.F_law26_numbers then (bif Nat.blt f M.F_law26_same then (cl f M.F_law26_fixed M.m_law26_fixed 91 M.rs_law26_fixed) else (bif Nat.blt f M.F_rules_Arith then (cl f M.F_law26_same M.m_law26_same 8 M.rs_law26_same) else (cl f M.F_rules_Arith M.m_rules_Arith 67 M.rs_rules_Arith))) else (bif Nat.blt f M.F_rules_Prim then (bif Nat.blt f M.F_rules_Index then (cl f M.F_law26_numbers M.m_law26_numbers 10 M.rs_law26_numbers) else (cl f M.F_rules_Index M.m_rules_Index 47 M.rs_rules_Index)) else (bif Nat.blt f M.F_kit_SameType then (cl f M.F_rules_Prim M.m_rules_Prim 90 M.rs_rules_Prim) else (cl f M.F_kit_SameType M.m_kit_SameType 62 M.rs_kit_SameType)))) else (bif Nat.blt f M.F_rules_all then (bif Nat.blt f M.F_rules_operations then (cl f M.F_rules_right M.m_rules_right 6 M.rs_rules_right) else (bif Nat.blt f M.F_rules_pieces then (cl f M.F_rules_operations M.m_rules_operations 2 M.rs_rules_operations) else (cl f M.F_rules_pieces M.m_rules_pieces 86 M.rs_rules_pieces))) else (bif Nat.blt f M.F_prim_Is then (bif Nat.blt f M.F_rules_under then (cl f M.F_rules_all M.m_rules_all 40 M.rs_rules_all) else (cl f M.F_rules_under M.m_rules_under 94 M.rs_rules_under)) else (bif Nat.blt f M.F_rules_primitive then (cl f M.F_prim_Is M.m_prim_Is 16 M.rs_prim_Is) else (cl f M.F_rules_primitive M.m_rules_primitive 78 M.rs_rules_primitive))))) else (bif Nat.blt f M.F_slices_ContainsFunc_Type then (bif Nat.blt f M.F_kit_SameSpans then (bif Nat.blt f M.F_rules_piece_span then (cl f M.F_rules_gives M.m_rules_gives 22 M.rs_rules_gives) else (bif Nat.blt f M.F_rules_piece_obj then (cl f M.F_rules_piece_span M.m_rules_piece_span 8 M.rs_rules_piece_span) else (cl f M.F_rules_piece_obj M.m_rules_piece_obj 8 M.rs_rules_piece_obj))) else (bif Nat.blt f M.F_kit_SameArrs then (bif Nat.blt f M.F_kit_SameStrings then (cl f M.F_kit_SameSpans M.m_kit_SameSpans 27 M.rs_kit_SameSpans) else (cl f M.F_kit_SameStrings M.m_kit_SameStrings 26 M.rs_kit_SameStrings)) else (bif Nat.blt f M.F_kit_SameObjs then (cl f M.F_kit_SameArrs M.m_kit_SameArrs 27 M.rs_kit_SameArrs) else (cl f M.F_kit_SameObjs M.m_kit_SameObjs 27 M.rs_kit_SameObjs)))) else (bif Nat.blt f M.F_rules_pair_div then (bif Nat.blt f M.F_shape_Formed then (bif Nat.blt f M.F_rules_right_1 then (cl f M.F_slices_ContainsFunc_Type M.m_slices_ContainsFunc_Type 9 M.rs_slices_ContainsFunc_Type) else (cl f M.F_rules_right_1 M.m_rules_right_1 6 M.rs_rules_right_1)) else (bif Nat.blt f M.F_rules_pair_add then (cl f M.F_shape_Formed M.m_shape_Formed 25 M.rs_shape_Formed) else (cl f M.F_rules_pair_add M.m_rules_pair_add 88 M.rs_rules_pair_add))) else (bif Nat.blt f M.F_tidy_Tidy then (bif Nat.blt f M.F_tidy_Sum then (cl f M.F_rules_pair_div M.m_rules_pair_div 29 M.rs_rules_pair_div) else (cl f M.F_tidy_Sum M.m_tidy_Sum 20 M.rs_tidy_Sum)) else (bif Nat.blt f M.F_rules_field then (cl f M.F_tidy_Tidy M.m_tidy_Tidy 11 M.rs_tidy_Tidy) else (cl f M.F_rules_field M.m_rules_field 29 M.rs_rules_field)))))) else (bif Nat.blt f M.F_rules_divided then (bif Nat.blt f M.F_shape_piece_texts then (bif Nat.blt f M.F_kit_SameSpan then (bif Nat.blt f M.F_rules_call_plain then (cl f M.F_prim_key M.m_prim_key 10 M.rs_prim_key) else (bif Nat.blt f M.F_rules_fault then (cl f M.F_rules_call_plain M.m_rules_call_plain 147 M.rs_rules_call_plain) else (cl f M.F_rules_fault M.m_rules_fault 8 M.rs_rules_fault))) else (bif Nat.blt f M.F_shape_piece_every then (bif Nat.blt f M.F_slices_IndexFunc_Type then (cl f M.F_kit_SameSpan M.m_kit_SameSpan 17 M.rs_kit_SameSpan) else (cl f M.F_slices_IndexFunc_Type M.m_slices_IndexFunc_Type 19 M.rs_slices_IndexFunc_Type)) else (bif Nat.blt f M.F_shape_piece_nums then (cl f M.F_shape_piece_every M.m_shape_piece_every 10 M.rs_shape_piece_every) else (cl f M.F_shape_piece_nums M.m_shape_piece_nums 59 M.rs_shape_piece_nums)))) else (bif Nat.blt f M.F_rules_pair_both then (bif Nat.blt f M.F_shape_piece_arrays then (cl f M.F_shape_piece_texts M.m_shape_piece_texts 17 M.rs_shape_piece_texts) else (bif Nat.blt f M.F_shape_piece_objects then (cl f M.F_shape_piece_arrays M.m_shape_piece_arrays 52 M.rs_shape_piece_arrays) else (cl f M.F_shape_piece_objects M.m_shape_piece_objects 66 M.rs_shape_piece_objects))) else (bif Nat.blt f M.F_rules_spanned then (bif Nat.blt f M.F_rules_sumOf then (cl f M.F_rules_pair_both M.m_rules_pair_both 9 M.rs_rules_pair_both) else (cl f M.F_rules_sumOf M.m_rules_sumOf 17 M.rs_rules_sumOf)) else (bif Nat.blt f M.F_rules_pair_kinds then (cl f M.F_rules_spanned M.m_rules_spanned 8 M.rs_rules_spanned) else (cl f M.F_rules_pair_kinds M.m_rules_pair_kinds 19 M.rs_rules_pair_kinds))))) else (bif Nat.blt f M.F_tens_Of then (bif Nat.blt f M.F_shape_Every then (bif Nat.blt f M.F_rules_mayBeNull then (cl f M.F_rules_divided M.m_rules_divided 45 M.rs_rules_divided) else (bif Nat.blt f M.F_rules_outcome_or then (cl f M.F_rules_mayBeNull M.m_rules_mayBeNull 6 M.rs_rules_mayBeNull) else (cl f M.F_rules_outcome_or M.m_rules_outcome_or 15 M.rs_rules_outcome_or))) else (bif Nat.blt f M.F_tidy_together then (bif Nat.blt f M.F_shape_Twin then (cl f M.F_shape_Every M.m_shape_Every 2 M.rs_shape_Every) else (cl f M.F_shape_Twin M.m_shape_Twin 109 M.rs_shape_Twin)) else (bif Nat.blt f M.F_tidy_form then (cl f M.F_tidy_together M.m_tidy_together 82 M.rs_tidy_together) else (cl f M.F_tidy_form M.m_tidy_form 25 M.rs_tidy_form)))) else (bif Nat.blt f M.F_rules_worth then (bif Nat.blt f M.F_slices_BinarySearch_string then (bif Nat.blt f M.F_rules_less then (cl f M.F_tens_Of M.m_tens_Of 5 M.rs_tens_Of) else (cl f M.F_rules_less M.m_rules_less 23 M.rs_rules_less)) else (bif Nat.blt f M.F_rules_call_length then (cl f M.F_slices_BinarySearch_string M.m_slices_BinarySearch_string 54 M.rs_slices_BinarySearch_string) else (cl f M.F_rules_call_length M.m_rules_call_length 64 M.rs_rules_call_length))) else (bif Nat.blt f M.F_shape_Never then (bif Nat.blt f M.F_rules_numbers then (cl f M.F_rules_worth M.m_rules_worth 30 M.rs_rules_worth) else (cl f M.F_rules_numbers M.m_rules_numbers 10 M.rs_rules_numbers)) else (bif Nat.blt f M.F_arith_Fault then (cl f M.F_shape_Never M.m_shape_Never 2 M.rs_shape_Never) else (cl f M.F_arith_Fault M.m_arith_Fault 10 M.rs_arith_Fault))))))) else (bif Nat.blt f M.F_slices_Concat_Span then (bif Nat.blt f M.F_slices_Sort_string then (bif Nat.blt f M.F_rules_fromNull then (bif Nat.blt f M.F_shape_worth then (bif Nat.blt f M.F_shape_piece_bare then (cl f M.F_shape_Same M.m_shape_Same 9 M.rs_shape_Same) else (bif Nat.blt f M.F_tens_Formed then (cl f M.F_shape_piece_bare M.m_shape_piece_bare 45 M.rs_shape_piece_bare) else (cl f M.F_tens_Formed M.m_tens_Formed 38 M.rs_tens_Formed))) else (bif Nat.blt f M.F_shape_never then (bif Nat.blt f M.F_shape_rise then (cl f M.F_shape_worth M.m_shape_worth 14 M.rs_shape_worth) else (cl f M.F_shape_rise M.m_shape_rise 29 M.rs_shape_rise)) else (bif Nat.blt f M.F_rules_plus then (cl f M.F_shape_never M.m_shape_never 10 M.rs_shape_never) else (cl f M.F_rules_plus M.m_rules_plus 20 M.rs_rules_plus)))) else (bif Nat.blt f M.F_tidy_spans then (bif Nat.blt f M.F_rules_upToNull then (cl f M.F_rules_fromNull M.m_rules_fromNull 12 M.rs_rules_fromNull) else (bif Nat.blt f M.F_below_Span then (cl f M.F_rules_upToNull M.m_rules_upToNull 12 M.rs_rules_upToNull) else (cl f M.F_below_Span M.m_below_Span 43 M.rs_below_Span))) else (bif Nat.blt f M.F_tidy_arrays then (bif Nat.blt f M.F_slices_Concat_string then (cl f M.F_tidy_spans M.m_tidy_spans 37 M.rs_tidy_spans) else (cl f M.F_slices_Concat_string M.m_slices_Concat_string 36 M.rs_slices_Concat_string)) else (bif Nat.blt f M.F_slices_Concat_Obj then (cl f M.F_tidy_arrays M.m_tidy_arrays 62 M.rs_tidy_arrays) else (cl f M.F_slices_Concat_Obj M.m_slices_Concat_Obj 36 M.rs_slices_Concat_Obj))))) else (bif Nat.blt f M.F_cmp_Less_string then (bif Nat.blt f M.F_shape_Height then (bif Nat.blt f M.F_slices_Compact_string then (cl f M.F_slices_Sort_string M.m_slices_Sort_string 11 M.rs_slices_Sort_string) else (bif Nat.blt f M.F_tidy_normal then (cl f M.F_slices_Compact_string M.m_slices_Compact_string 61 M.rs_slices_Compact_string) else (cl f M.F_tidy_normal M.m_tidy_normal 83 M.rs_tidy_normal))) else (bif Nat.blt f M.F_tens_signed then (bif Nat.blt f M.F_tens_split then (cl f M.F_shape_Height M.m_shape_Height 50 M.rs_shape_Height) else (cl f M.F_tens_split M.m_tens_split 10 M.rs_tens_split)) else (bif Nat.blt f M.F_tens_Cmp then (cl f M.F_tens_signed M.m_tens_signed 13 M.rs_tens_signed) else (cl f M.F_tens_Cmp M.m_tens_Cmp 43 M.rs_tens_Cmp)))) else (bif Nat.blt f M.F_shape_Cmp then (bif Nat.blt f M.F_utf_Valid then (bif Nat.blt f M.F_rules_musts then (cl f M.F_cmp_Less_string M.m_cmp_Less_string 17 M.rs_cmp_Less_string) else (cl f M.F_rules_musts M.m_rules_musts 18 M.rs_rules_musts)) else (bif Nat.blt f M.F_strings_Clone then (cl f M.F_utf_Valid M.m_utf_Valid 5 M.rs_utf_Valid) else (cl f M.F_strings_Clone M.m_strings_Clone 5 M.rs_strings_Clone))) else (bif Nat.blt f M.F_below_hollow then (bif Nat.blt f M.F_tens_Add then (cl f M.F_shape_Cmp M.m_shape_Cmp 52 M.rs_shape_Cmp) else (cl f M.F_tens_Add M.m_tens_Add 52 M.rs_tens_Add)) else (bif Nat.blt f M.F_below_worth then (cl f M.F_below_hollow M.m_below_hollow 19 M.rs_below_hollow) else (cl f M.F_below_worth M.m_below_worth 14 M.rs_below_worth)))))) else (bif Nat.blt f M.F_slices_Compare_string then (bif Nat.blt f M.F_tidy_laidOut then (bif Nat.blt f M.F_slices_Grow_Obj then (bif Nat.blt f M.F_slices_Grow_string then (cl f M.F_slices_Concat_Span M.m_slices_Concat_Span 36 M.rs_slices_Concat_Span) else (bif Nat.blt f M.F_slices_Concat_Arr then (cl f M.F_slices_Grow_string M.m_slices_Grow_string 27 M.rs_slices_Grow_string) else (cl f M.F_slices_Concat_Arr M.m_slices_Concat_Arr 36 M.rs_slices_Concat_Arr))) else (bif Nat.blt f M.F_bits_Len then (bif Nat.blt f M.F_slices_pdqsortOrdered_string then (cl f M.F_slices_Grow_Obj M.m_slices_Grow_Obj 27 M.rs_slices_Grow_Obj) else (cl f M.F_slices_pdqsortOrdered_string M.m_slices_pdqsortOrdered_string 134 M.rs_slices_pdqsortOrdered_string)) else (bif Nat.blt f M.F_tidy_objects then (cl f M.F_bits_Len M.m_bits_Len 8 M.rs_bits_Len) else (cl f M.F_tidy_objects M.m_tidy_objects 25 M.rs_tidy_objects)))) else (bif Nat.blt f M.F_cmp_Or_int then (bif Nat.blt f M.F_cmp_isNaN_string then (bif Nat.blt f M.F_tens_size then (cl f M.F_tidy_laidOut M.m_tidy_laidOut 14 M.rs_tidy_laidOut) else (cl f M.F_tens_size M.m_tens_size 26 M.rs_tens_size)) else (bif Nat.blt f M.F_utf8_ValidString then (cl f M.F_cmp_isNaN_string M.m_cmp_isNaN_string 6 M.rs_cmp_isNaN_string) else (cl f M.F_utf8_ValidString M.m_utf8_ValidString 169 M.rs_utf8_ValidString))) else (bif Nat.blt f M.F_slices_CompareFunc_Span then (bif Nat.blt f M.F_shape_truth then (cl f M.F_cmp_Or_int M.m_cmp_Or_int 18 M.rs_cmp_Or_int) else (cl f M.F_shape_truth M.m_shape_truth 11 M.rs_shape_truth)) else (bif Nat.blt f M.F_shape_span then (cl f M.F_slices_CompareFunc_Span M.m_slices_CompareFunc_Span 39 M.rs_slices_CompareFunc_Span) else (cl f M.F_shape_span M.m_shape_span 17 M.rs_shape_span))))) else (bif Nat.blt f M.F_bits_Len64 then (bif Nat.blt f M.F_tens_plus then (bif Nat.blt f M.F_slices_CompareFunc_Arr then (cl f M.F_slices_Compare_string M.m_slices_Compare_string 36 M.rs_slices_Compare_string) else (bif Nat.blt f M.F_slices_CompareFunc_Obj then (cl f M.F_slices_CompareFunc_Arr M.m_slices_CompareFunc_Arr 39 M.rs_slices_CompareFunc_Arr) else (cl f M.F_slices_CompareFunc_Obj M.m_slices_CompareFunc_Obj 39 M.rs_slices_CompareFunc_Obj))) else (bif Nat.blt f M.F_slices_Grow_Arr then (bif Nat.blt f M.F_slices_Grow_Span then (cl f M.F_tens_plus M.m_tens_plus 78 M.rs_tens_plus) else (cl f M.F_slices_Grow_Span M.m_slices_Grow_Span 27 M.rs_slices_Grow_Span)) else (bif Nat.blt f M.F_slices_insertionSortOrdered_string then (cl f M.F_slices_Grow_Arr M.m_slices_Grow_Arr 27 M.rs_slices_Grow_Arr) else (cl f M.F_slices_insertionSortOrdered_string M.m_slices_insertionSortOrdered_string 49 M.rs_slices_insertionSortOrdered_string)))) else (bif Nat.blt f M.F_shape_bound then (bif Nat.blt f M.F_tidy_outermost then (bif Nat.blt f M.F_slices_SortStableFunc_Obj then (cl f M.F_bits_Len64 M.m_bits_Len64 25 M.rs_bits_Len64) else (cl f M.F_slices_SortStableFunc_Obj M.m_slices_SortStableFunc_Obj 9 M.rs_slices_SortStableFunc_Obj)) else (bif Nat.blt f M.F_slices_CompactFunc_Obj then (cl f M.F_tidy_outermost M.m_tidy_outermost 44 M.rs_tidy_outermost) else (cl f M.F_slices_CompactFunc_Obj M.m_slices_CompactFunc_Obj 66 M.rs_slices_CompactFunc_Obj))) else (bif Nat.blt f M.F_slices_stableCmpFunc_Obj then (bif Nat.blt f M.F_tens_text then (cl f M.F_shape_bound M.m_shape_bound 23 M.rs_shape_bound) else (cl f M.F_tens_text M.m_tens_text 26 M.rs_tens_text)) else (bif Nat.blt f M.F_slices_insertionSortCmpFunc_Obj then (cl f M.F_slices_stableCmpFunc_Obj M.m_slices_stableCmpFunc_Obj 63 M.rs_slices_stableCmpFunc_Obj) else (cl f M.F_slices_insertionSortCmpFunc_Obj M.m_slices_insertionSortCmpFunc_Obj 53 M.rs_slices_insertionSortCmpFunc_Obj))))))))
theorem tab_ok (f:Nat) (m:MC) (nt:Nat) (rs:List RV) (h:tab f=some (m,nt,rs)):mfOf prog f=some (m,nt,rs):=(nd_ok (nd_ok (nd_ok (nd_ok (nd_ok (nd_ok (cl_ok h_law26_fixed) (nd_ok (cl_ok h_law26_same) (cl_ok h_rules_Arith))) (nd_ok (nd_ok (cl_ok h_law26_numbers) (cl_ok h_rules_Index)) (nd_ok (cl_ok h_rules_Prim) (cl_ok h_kit_SameType)))) (nd_ok (nd_ok (cl_ok h_rules_right) (nd_ok (cl_ok h_rules_operations) (cl_ok h_rules_pieces))) (nd_ok (nd_ok (cl_ok h_rules_all) (cl_ok h_rules_under)) (nd_ok (cl_ok h_prim_Is) (cl_ok h_rules_primitive))))) (nd_ok (nd_ok (nd_ok (cl_ok h_rules_gives) (nd_ok (cl_ok h_rules_piece_span) (cl_ok h_rules_piece_obj))) (nd_ok (nd_ok (cl_ok h_kit_SameSpans) (cl_ok h_kit_SameStrings)) (nd_ok (cl_ok h_kit_SameArrs) (cl_ok h_kit_SameObjs)))) (nd_ok (nd_ok (nd_ok (cl_ok h_slices_ContainsFunc_Type) (cl_ok h_rules_right_1)) (nd_ok (cl_ok h_shape_Formed) (cl_ok h_rules_pair_add))) (nd_ok (nd_ok (cl_ok h_rules_pair_div) (cl_ok h_tidy_Sum)) (nd_ok (cl_ok h_tidy_Tidy) (cl_ok h_rules_field)))))) (nd_ok (nd_ok (nd_ok (nd_ok (cl_ok h_prim_key) (nd_ok (cl_ok h_rules_call_plain) (cl_ok h_rules_fault))) (nd_ok (nd_ok (cl_ok h_kit_SameSpan) (cl_ok h_slices_IndexFunc_Type)) (nd_ok (cl_ok h_shape_piece_every) (cl_ok h_shape_piece_nums)))) (nd_ok (nd_ok (cl_ok h_shape_piece_texts) (nd_ok (cl_ok h_shape_piece_arrays) (cl_ok h_shape_piece_objects))) (nd_ok (nd_ok (cl_ok h_rules_pair_both) (cl_ok h_rules_sumOf)) (nd_ok (cl_ok h_rules_spanned) (cl_ok h_rules_pair_kinds))))) (nd_ok (nd_ok (nd_ok (cl_ok h_rules_divided) (nd_ok (cl_ok h_rules_mayBeNull) (cl_ok h_rules_outcome_or))) (nd_ok (nd_ok (cl_ok h_shape_Every) (cl_ok h_shape_Twin)) (nd_ok (cl_ok h_tidy_together) (cl_ok h_tidy_form)))) (nd_ok (nd_ok (nd_ok (cl_ok h_tens_Of) (cl_ok h_rules_less)) (nd_ok (cl_ok h_slices_BinarySearch_string) (cl_ok h_rules_call_length))) (nd_ok (nd_ok (cl_ok h_rules_worth) (cl_ok h_rules_numbers)) (nd_ok (cl_ok h_shape_Never) (cl_ok h_arith_Fault))))))) (nd_ok (nd_ok (nd_ok (nd_ok (nd_ok (cl_ok h_shape_Same) (nd_ok (cl_ok h_shape_piece_bare) (cl_ok h_tens_Formed))) (nd_ok (nd_ok (cl_ok h_shape_worth) (cl_ok h_shape_rise)) (nd_ok (cl_ok h_shape_never) (cl_ok h_rules_plus)))) (nd_ok (nd_ok (cl_ok h_rules_fromNull) (nd_ok (cl_ok h_rules_upToNull) (cl_ok h_below_Span))) (nd_ok (nd_ok (cl_ok h_tidy_spans) (cl_ok h_slices_Concat_string)) (nd_ok (cl_ok h_tidy_arrays) (cl_ok h_slices_Concat_Obj))))) (nd_ok (nd_ok (nd_ok (cl_ok h_slices_Sort_string) (nd_ok (cl_ok h_slices_Compact_string) (cl_ok h_tidy_normal))) (nd_ok (nd_ok (cl_ok h_shape_Height) (cl_ok h_tens_split)) (nd_ok (cl_ok h_tens_signed) (cl_ok h_tens_Cmp)))) (nd_ok (nd_ok (nd_ok (cl_ok h_cmp_Less_string) (cl_ok h_rules_musts)) (nd_ok (cl_ok h_utf_Valid) (cl_ok h_strings_Clone))) (nd_ok (nd_ok (cl_ok h_shape_Cmp) (cl_ok h_tens_Add)) (nd_ok (cl_ok h_below_hollow) (cl_ok h_below_worth)))))) (nd_ok (nd_ok (nd_ok (nd_ok (cl_ok h_slices_Concat_Span) (nd_ok (cl_ok h_slices_Grow_string) (cl_ok h_slices_Concat_Arr))) (nd_ok (nd_ok (cl_ok h_slices_Grow_Obj) (cl_ok h_slices_pdqsortOrdered_string)) (nd_ok (cl_ok h_bits_Len) (cl_ok h_tidy_objects)))) (nd_ok (nd_ok (nd_ok (cl_ok h_tidy_laidOut) (cl_ok h_tens_size)) (nd_ok (cl_ok h_cmp_isNaN_string) (cl_ok h_utf8_ValidString))) (nd_ok (nd_ok (cl_ok h_cmp_Or_int) (cl_ok h_shape_truth)) (nd_ok (cl_ok h_slices_CompareFunc_Span) (cl_ok h_shape_span))))) (nd_ok (nd_ok (nd_ok (cl_ok h_slices_Compare_string) (nd_ok (cl_ok h_slices_CompareFunc_Arr) (cl_ok h_slices_CompareFunc_Obj))) (nd_ok (nd_ok (cl_ok h_tens_plus) (cl_ok h_slices_Grow_Span)) (nd_ok (cl_ok h_slices_Grow_Arr) (cl_ok h_slices_insertionSortOrdered_string)))) (nd_ok (nd_ok (nd_ok (cl_ok h_bits_Len64) (cl_ok h_slices_SortStableFunc_Obj)) (nd_ok (cl_ok h_tidy_outermost) (cl_ok h_slices_CompactFunc_Obj))) (nd_ok (nd_ok (cl_ok h_shape_bound) (cl_ok h_tens_text)) (nd_ok (cl_ok h_slices_stableCmpFunc_Obj) (cl_ok h_slices_insertionSortCmpFunc_Obj)))))))) h
theorem v_slices_Clone_Obj (fl:Bool) (xs:List (List PV)) (hx:xs.length≤68719476736):RetO prog M.F_slices_Clone_Obj [.vec 12 fl xs] 12 xs:=by
 refine RetO.go hmix h_slices_Clone_Obj (by simp) fun hb w0 F0 hG=>?_
 simp
 omega
theorem v_slices_Clone_Arr (fl:Bool) (xs:List (List PV)) (hx:xs.length≤68719476736):RetO prog M.F_slices_Clone_Arr [.vec 11 fl xs] 11 xs:=by
 refine RetO.go hmix h_slices_Clone_Arr (by simp) fun hb w0 F0 hG=>?_
 simp
 omega
theorem v_slices_Clone_string (fl:Bool) (xs:List (List PV)) (hx:xs.length≤68719476736):RetO prog M.F_slices_Clone_string [.vec 1 fl xs] 1 xs:=by
 refine RetO.go hmix h_slices_Clone_string (by simp) fun hb w0 F0 hG=>?_
 simp
 omega
theorem v_slices_Clone_Span (fl:Bool) (xs:List (List PV)) (hx:xs.length≤68719476736):RetO prog M.F_slices_Clone_Span [.vec 2 fl xs] 2 xs:=by
 refine RetO.go hmix h_slices_Clone_Span (by simp) fun hb w0 F0 hG=>?_
 simp
 omega
def X0:Ext:=fun f args=>match args with
 | [.vec e _ xs]=>if (f == M.F_slices_Clone_Obj&&e == 12||f == M.F_slices_Clone_Arr&&e == 11||f == M.F_slices_Clone_string&&e == 1||f == M.F_slices_Clone_Span&&e == 2)&&Nat.ble xs.length 1000 then some (.own e xs) else none
 | _=>none
theorem X0_ok:CpOk prog X0:=fun f args=>by
 have key:∀ r,X0 f args=some r→∃ e fl xs,args=[.vec e fl xs]∧r=.own e xs∧RetO prog f [.vec e fl xs] e xs:=fun r h=>by
  unfold X0 at h
  split at h
  ·rename_i e fl xs
   split at h
   ·rename_i hc
    cases h
    refine⟨e,fl,xs,rfl,rfl,?_⟩
    simp only[Bool.and_eq_true,Bool.or_eq_true,beq_iff_eq] at hc
    obtain⟨hc,hl⟩:=hc
    have hl:xs.length≤68719476736:=Nat.le_trans (Nat.le_of_ble_eq_true hl) (by decide)
    rcases hc with ((⟨rfl,rfl⟩|⟨rfl,rfl⟩)|⟨rfl,rfl⟩)|⟨rfl,rfl⟩
    ·exact v_slices_Clone_Obj fl xs hl
    ·exact v_slices_Clone_Arr fl xs hl
    ·exact v_slices_Clone_string fl xs hl
    ·exact v_slices_Clone_Span fl xs hl
   ·cases h
  ·cases h
 refine⟨fun r h=>?_,fun esz xs h=>?_⟩
 ·obtain⟨_,_,_,_,hr,_⟩:=key _ h
  cases hr
 ·obtain⟨e,fl,ys,ha,hr,hk⟩:=key _ h
  cases hr
  rw[ha]; exact hk
def itoaD (n:Int):Option ByteArray:=if n=0 then some ⟨#[48]⟩ else if n=1 then some ⟨#[49]⟩ else none
theorem itoaD_ok {n:Int} {b:ByteArray} (h:itoaD n=some b):itoaS n=b:=by
 unfold itoaD at h
 split at h
 ·rename_i e; subst e; cases h; exact itoa0
 split at h
 ·rename_i e; subst e; cases h; exact itoa1
 ·cases h
def X1:Ext:=fun f args=>match args with
 | []=>bif Nat.beq f M.F_prim_table then some (.val (.mapf primT)) else none
 | [.str s]=>bif Nat.beq f M.F_stringslite_Clone then some (.val (.str s)) else none
 | [.int .i64 n]=>bif Nat.beq f M.F_strconv_Itoa then (match itoaD n with|some b=>some (.val (.str b))|none=>none) else none
 | _=>none
theorem X1_ok:CpOk prog X1:=fun f args=>by
 have key:∀ r,X1 f args=some r→∃ x,r=.val x∧Ret prog f args x:=fun r h=>by
  unfold X1 at h
  split at h
  ·cases e:Nat.beq f M.F_prim_table with
   | true=>rw[e] at h; cases h; rw[Nat.eq_of_beq_eq_true e]; exact⟨_,rfl,c_prim_table⟩
   | false=>rw[e] at h; cases h
  ·cases e:Nat.beq f M.F_stringslite_Clone with
   | true=>rw[e] at h; cases h; rw[Nat.eq_of_beq_eq_true e]; exact⟨_,rfl,c_stringslite_Clone _⟩
   | false=>rw[e] at h; cases h
  ·rename_i n
   cases e:Nat.beq f M.F_strconv_Itoa with
   | true =>
     rw[e] at h
     rw[Nat.eq_of_beq_eq_true e]
     cases hb:itoaD n with
     | none=>rw[hb] at h; cases h
     | some b =>
       rw[hb] at h; cases h
       have c:=c_strconv_Itoa n
       rw[itoaD_ok hb] at c
       exact⟨_,rfl,c⟩
   | false=>rw[e] at h; cases h
  ·cases h
 refine⟨fun r h=>?_,fun esz xs h=>?_⟩
 ·obtain⟨_,hr,hk⟩:=key _ h
  cases hr; exact hk
 ·obtain⟨_,hr,hk⟩:=key _ h
  cases hr
def XX:Ext:=fun f args=>match X0 f args with
 | some r=>some r
 | none=>X1 f args
theorem XX_ok:CpOk prog XX:=fun f args=>by
 unfold XX
 cases h:X0 f args with
 | some r=>have:=X0_ok f args; rw[h] at this; exact this
 | none=>exact X1_ok f args
def md (f:Nat):Bool:=([M.F_slices_Concat_string,M.F_slices_Concat_Obj,M.F_slices_Concat_Span,M.F_slices_Grow_string,M.F_slices_Concat_Arr,M.F_slices_Grow_Obj,M.F_slices_Grow_Span,M.F_slices_Grow_Arr]:List Nat).contains f
theorem ev_ret {F:Nat} {args:List PV} {r:PV} (h:cpIn tab (ev XX tab md 1000) F args=some (.val r)):Ret prog F args r:=(cpIn_ok tab_ok (ev_ok (mode:=md) XX_ok hmix tab_ok 1000) F args).1 r h
abbrev nmC (a b:ByteArray):List PV:=[.bool false,.bool false,.bool false,.bool false,.vec 2 false [[.str a,.str b]],.bool false,.vec 1 false [],.vec 11 false [],.vec 12 false []]
abbrev txC (a:ByteArray):List PV:=[.bool false,.bool false,.bool false,.bool false,.vec 2 false [],.bool false,.vec 1 false [[.str a]],.vec 11 false [],.vec 12 false []]
abbrev obC:List PV:=[.bool false,.bool false,.bool false,.bool false,.vec 2 false [],.bool false,.vec 1 false [],.vec 11 false [],.vec 12 false [[.vec 1 false [[.str ⟨#[97]⟩]],.vec 9 false [nmC ⟨#[49]⟩ ⟨#[51]⟩],.vec 1 false [[.bool true]],.bool false,.bool false,.bool false,.bool false,.vec 2 false [],.bool false,.vec 1 false [],.vec 11 false [],.vec 12 false []]]]
set_option maxRecDepth 1000000 in
theorem run_all0:AllNil:=ev_ret (by kernel_rfl)
end Go.Proofs.YtbdogkmdanmojaaGreatDoor.Pv
