/- Part 11. -/
import Derived.Test.YtfilonnphgnplaaGreatDoorC10
import Derived.Test.YtfilonnphgnplaaGreatDoorProg
import Derived.Test.YtfilonnphgnplaaGreatDoorC6
set_option linter.unusedSimpArgs false
set_option linter.unusedVariables false
namespace Go.Proofs.YtfilonnphgnplaaGreatDoor.Pv
open Go
set_option maxRecDepth 1000000
noncomputable abbrev prog:Program:=Tryz.prog
theorem hmix:prog.follows .mixedOrders=true:=by kernel_rfl
theorem h_law11_TidyCuts:mfOf prog M.F_law11_TidyCuts=some (M.m_law11_TidyCuts.erase,73,M.rs_law11_TidyCuts):=by kernel_rfl
theorem h_law11_fixed:mfOf prog M.F_law11_fixed=some (M.m_law11_fixed.erase,129,M.rs_law11_fixed):=by kernel_rfl
theorem h_law11_fits:mfOf prog M.F_law11_fits=some (M.m_law11_fits.erase,21,M.rs_law11_fits):=by kernel_rfl
theorem h_kit_Fit:mfOf prog M.F_kit_Fit=some (M.m_kit_Fit.erase,22,M.rs_kit_Fit):=by kernel_rfl
theorem h_ref09_Formed:mfOf prog M.F_ref09_Formed=some (M.m_ref09_Formed.erase,37,M.rs_ref09_Formed):=by kernel_rfl
theorem h_ref03_Formed:mfOf prog M.F_ref03_Formed=some (M.m_ref03_Formed.erase,90,M.rs_ref03_Formed):=by kernel_rfl
theorem h_tidy_Tidy:mfOf prog M.F_tidy_Tidy=some (M.m_tidy_Tidy.erase,11,M.rs_tidy_Tidy):=by kernel_rfl
theorem h_tidy_Is:mfOf prog M.F_tidy_Is=some (M.m_tidy_Is.erase,11,M.rs_tidy_Is):=by kernel_rfl
theorem h_ref09_Height:mfOf prog M.F_ref09_Height=some (M.m_ref09_Height.erase,60,M.rs_ref09_Height):=by kernel_rfl
theorem h_ref09_Never:mfOf prog M.F_ref09_Never=some (M.m_ref09_Never.erase,10,M.rs_ref09_Never):=by kernel_rfl
theorem h_ref09_In:mfOf prog M.F_ref09_In=some (M.m_ref09_In.erase,90,M.rs_ref09_In):=by kernel_rfl
theorem h_tidy_Sum:mfOf prog M.F_tidy_Sum=some (M.m_tidy_Sum.erase,20,M.rs_tidy_Sum):=by kernel_rfl
theorem h_tidy_One:mfOf prog M.F_tidy_One=some (M.m_tidy_One.erase,29,M.rs_tidy_One):=by kernel_rfl
theorem h_tidy_Cut:mfOf prog M.F_tidy_Cut=some (M.m_tidy_Cut.erase,18,M.rs_tidy_Cut):=by kernel_rfl
theorem h_law11_same:mfOf prog M.F_law11_same=some (M.m_law11_same.erase,8,M.rs_law11_same):=by kernel_rfl
theorem h_kit_FitType:mfOf prog M.F_kit_FitType=some (M.m_kit_FitType.erase,6,M.rs_kit_FitType):=by kernel_rfl
theorem h_kit_PartsOf:mfOf prog M.F_kit_PartsOf=some (M.m_kit_PartsOf.erase,35,M.rs_kit_PartsOf):=by kernel_rfl
theorem h_ref09_Bare:mfOf prog M.F_ref09_Bare=some (M.m_ref09_Bare.erase,44,M.rs_ref09_Bare):=by kernel_rfl
theorem h_ref03_Rise:mfOf prog M.F_ref03_Rise=some (M.m_ref03_Rise.erase,30,M.rs_ref03_Rise):=by kernel_rfl
theorem h_ref09_Spans:mfOf prog M.F_ref09_Spans=some (M.m_ref09_Spans.erase,57,M.rs_ref09_Spans):=by kernel_rfl
theorem h_ref09_arrays:mfOf prog M.F_ref09_arrays=some (M.m_ref09_arrays.erase,70,M.rs_ref09_arrays):=by kernel_rfl
theorem h_ref09_objects:mfOf prog M.F_ref09_objects=some (M.m_ref09_objects.erase,16,M.rs_ref09_objects):=by kernel_rfl
theorem h_ref03_Number:mfOf prog M.F_ref03_Number=some (M.m_ref03_Number.erase,44,M.rs_ref03_Number):=by kernel_rfl
theorem h_ref03_UTF:mfOf prog M.F_ref03_UTF=some (M.m_ref03_UTF.erase,17,M.rs_ref03_UTF):=by kernel_rfl
theorem h_ref03_All:mfOf prog M.F_ref03_All=some (M.m_ref03_All.erase,16,M.rs_ref03_All):=by kernel_rfl
theorem h_shape_Formed:mfOf prog M.F_shape_Formed=some (M.m_shape_Formed.erase,25,M.rs_shape_Formed):=by kernel_rfl
theorem h_shape_Twin:mfOf prog M.F_shape_Twin=some (M.m_shape_Twin.erase,109,M.rs_shape_Twin):=by kernel_rfl
theorem h_tidy_form:mfOf prog M.F_tidy_form=some (M.m_tidy_form.erase,25,M.rs_tidy_form):=by kernel_rfl
theorem h_shape_Same:mfOf prog M.F_shape_Same=some (M.m_shape_Same.erase,9,M.rs_shape_Same):=by kernel_rfl
theorem h_ref09_higher:mfOf prog M.F_ref09_higher=some (M.m_ref09_higher.erase,15,M.rs_ref09_higher):=by kernel_rfl
theorem h_ref09_InSpan:mfOf prog M.F_ref09_InSpan=some (M.m_ref09_InSpan.erase,25,M.rs_ref09_InSpan):=by kernel_rfl
theorem h_ref09_inArr:mfOf prog M.F_ref09_inArr=some (M.m_ref09_inArr.erase,37,M.rs_ref09_inArr):=by kernel_rfl
theorem h_ref09_InObj:mfOf prog M.F_ref09_InObj=some (M.m_ref09_InObj.erase,75,M.rs_ref09_InObj):=by kernel_rfl
theorem h_tidy_together:mfOf prog M.F_tidy_together=some (M.m_tidy_together.erase,82,M.rs_tidy_together):=by kernel_rfl
theorem h_tidy_alone:mfOf prog M.F_tidy_alone=some (M.m_tidy_alone.erase,6,M.rs_tidy_alone):=by kernel_rfl
theorem h_tidy_one:mfOf prog M.F_tidy_one=some (M.m_tidy_one.erase,94,M.rs_tidy_one):=by kernel_rfl
theorem h_tidy_cut:mfOf prog M.F_tidy_cut=some (M.m_tidy_cut.erase,99,M.rs_tidy_cut):=by kernel_rfl
theorem h_kit_SameType:mfOf prog M.F_kit_SameType=some (M.m_kit_SameType.erase,62,M.rs_kit_SameType):=by kernel_rfl
theorem h_kit_typeParts:mfOf prog M.F_kit_typeParts=some (M.m_kit_typeParts.erase,113,M.rs_kit_typeParts):=by kernel_rfl
theorem h_ref09_bound:mfOf prog M.F_ref09_bound=some (M.m_ref09_bound.erase,9,M.rs_ref09_bound):=by kernel_rfl
theorem h_ref03_Numbers:mfOf prog M.F_ref03_Numbers=some (M.m_ref03_Numbers.erase,42,M.rs_ref03_Numbers):=by kernel_rfl
theorem h_ref09_object:mfOf prog M.F_ref09_object=some (M.m_ref09_object.erase,61,M.rs_ref09_object):=by kernel_rfl
theorem h_ref03_width:mfOf prog M.F_ref03_width=some (M.m_ref03_width.erase,61,M.rs_ref03_width):=by kernel_rfl
theorem h_shape_piece_every:mfOf prog M.F_shape_piece_every=some (M.m_shape_piece_every.erase,10,M.rs_shape_piece_every):=by kernel_rfl
theorem h_shape_piece_nums:mfOf prog M.F_shape_piece_nums=some (M.m_shape_piece_nums.erase,59,M.rs_shape_piece_nums):=by kernel_rfl
theorem h_shape_piece_texts:mfOf prog M.F_shape_piece_texts=some (M.m_shape_piece_texts.erase,17,M.rs_shape_piece_texts):=by kernel_rfl
theorem h_shape_piece_arrays:mfOf prog M.F_shape_piece_arrays=some (M.m_shape_piece_arrays.erase,52,M.rs_shape_piece_arrays):=by kernel_rfl
theorem h_shape_piece_objects:mfOf prog M.F_shape_piece_objects=some (M.m_shape_piece_objects.erase,66,M.rs_shape_piece_objects):=by kernel_rfl
theorem h_slices_Clone_Span:mfOf prog M.F_slices_Clone_Span=some (M.m_slices_Clone_Span.erase,8,M.rs_slices_Clone_Span):=by kernel_rfl
theorem h_slices_Clone_string:mfOf prog M.F_slices_Clone_string=some (M.m_slices_Clone_string.erase,8,M.rs_slices_Clone_string):=by kernel_rfl
theorem h_slices_Clone_Arr:mfOf prog M.F_slices_Clone_Arr=some (M.m_slices_Clone_Arr.erase,8,M.rs_slices_Clone_Arr):=by kernel_rfl
theorem h_slices_Clone_Obj:mfOf prog M.F_slices_Clone_Obj=some (M.m_slices_Clone_Obj.erase,8,M.rs_slices_Clone_Obj):=by kernel_rfl
theorem h_slices_Clone_bool:mfOf prog M.F_slices_Clone_bool=some (M.m_slices_Clone_bool.erase,8,M.rs_slices_Clone_bool):=by kernel_rfl
theorem h_slices_Clone_Type:mfOf prog M.F_slices_Clone_Type=some (M.m_slices_Clone_Type.erase,8,M.rs_slices_Clone_Type):=by kernel_rfl
theorem h_tidy_normal:mfOf prog M.F_tidy_normal=some (M.m_tidy_normal.erase,83,M.rs_tidy_normal):=by kernel_rfl
theorem h_shape_Height:mfOf prog M.F_shape_Height=some (M.m_shape_Height.erase,50,M.rs_shape_Height):=by kernel_rfl
theorem h_tidy_parts:mfOf prog M.F_tidy_parts=some (M.m_tidy_parts.erase,57,M.rs_tidy_parts):=by kernel_rfl
theorem h_shape_Cmp:mfOf prog M.F_shape_Cmp=some (M.m_shape_Cmp.erase,52,M.rs_shape_Cmp):=by kernel_rfl
theorem h_ref03_Texts:mfOf prog M.F_ref03_Texts=some (M.m_ref03_Texts.erase,11,M.rs_ref03_Texts):=by kernel_rfl
theorem h_ref03_Get:mfOf prog M.F_ref03_Get=some (M.m_ref03_Get.erase,37,M.rs_ref03_Get):=by kernel_rfl
theorem h_ref09_Has:mfOf prog M.F_ref09_Has=some (M.m_ref09_Has.erase,18,M.rs_ref09_Has):=by kernel_rfl
theorem h_shape_Every:mfOf prog M.F_shape_Every=some (M.m_shape_Every.erase,2,M.rs_shape_Every):=by kernel_rfl
theorem h_tidy_spans:mfOf prog M.F_tidy_spans=some (M.m_tidy_spans.erase,37,M.rs_tidy_spans):=by kernel_rfl
theorem h_slices_Concat_string:mfOf prog M.F_slices_Concat_string=some (M.m_slices_Concat_string.erase,36,M.rs_slices_Concat_string):=by kernel_rfl
theorem h_tidy_arrays:mfOf prog M.F_tidy_arrays=some (M.m_tidy_arrays.erase,62,M.rs_tidy_arrays):=by kernel_rfl
theorem h_slices_Concat_Obj:mfOf prog M.F_slices_Concat_Obj=some (M.m_slices_Concat_Obj.erase,36,M.rs_slices_Concat_Obj):=by kernel_rfl
theorem h_tidy_field:mfOf prog M.F_tidy_field=some (M.m_tidy_field.erase,29,M.rs_tidy_field):=by kernel_rfl
theorem h_kit_SameSpans:mfOf prog M.F_kit_SameSpans=some (M.m_kit_SameSpans.erase,27,M.rs_kit_SameSpans):=by kernel_rfl
theorem h_kit_SameStrings:mfOf prog M.F_kit_SameStrings=some (M.m_kit_SameStrings.erase,26,M.rs_kit_SameStrings):=by kernel_rfl
theorem h_kit_SameArrs:mfOf prog M.F_kit_SameArrs=some (M.m_kit_SameArrs.erase,27,M.rs_kit_SameArrs):=by kernel_rfl
theorem h_kit_SameObjs:mfOf prog M.F_kit_SameObjs=some (M.m_kit_SameObjs.erase,27,M.rs_kit_SameObjs):=by kernel_rfl
theorem h_kit_SameSpan:mfOf prog M.F_kit_SameSpan=some (M.m_kit_SameSpan.erase,17,M.rs_kit_SameSpan):=by kernel_rfl
theorem h_kit_SameArr:mfOf prog M.F_kit_SameArr=some (M.m_kit_SameArr.erase,23,M.rs_kit_SameArr):=by kernel_rfl
theorem h_kit_SameObj:mfOf prog M.F_kit_SameObj=some (M.m_kit_SameObj.erase,29,M.rs_kit_SameObj):=by kernel_rfl
theorem h_ref03_trail:mfOf prog M.F_ref03_trail=some (M.m_ref03_trail.erase,49,M.rs_ref03_trail):=by kernel_rfl
theorem h_shape_piece_bare:mfOf prog M.F_shape_piece_bare=some (M.m_shape_piece_bare.erase,45,M.rs_shape_piece_bare):=by kernel_rfl
theorem h_tens_Formed:mfOf prog M.F_tens_Formed=some (M.m_tens_Formed.erase,38,M.rs_tens_Formed):=by kernel_rfl
theorem h_shape_worth:mfOf prog M.F_shape_worth=some (M.m_shape_worth.erase,14,M.rs_shape_worth):=by kernel_rfl
theorem h_shape_rise:mfOf prog M.F_shape_rise=some (M.m_shape_rise.erase,29,M.rs_shape_rise):=by kernel_rfl
theorem h_shape_never:mfOf prog M.F_shape_never=some (M.m_shape_never.erase,10,M.rs_shape_never):=by kernel_rfl
theorem h_tidy_object:mfOf prog M.F_tidy_object=some (M.m_tidy_object.erase,35,M.rs_tidy_object):=by kernel_rfl
theorem h_tidy_objects:mfOf prog M.F_tidy_objects=some (M.m_tidy_objects.erase,25,M.rs_tidy_objects):=by kernel_rfl
theorem h_tidy_laidOut:mfOf prog M.F_tidy_laidOut=some (M.m_tidy_laidOut.erase,14,M.rs_tidy_laidOut):=by kernel_rfl
theorem h_cmp_Or_int:mfOf prog M.F_cmp_Or_int=some (M.m_cmp_Or_int.erase,18,M.rs_cmp_Or_int):=by kernel_rfl
theorem h_shape_truth:mfOf prog M.F_shape_truth=some (M.m_shape_truth.erase,11,M.rs_shape_truth):=by kernel_rfl
theorem h_slices_CompareFunc_Span:mfOf prog M.F_slices_CompareFunc_Span=some (M.m_slices_CompareFunc_Span.erase,39,M.rs_slices_CompareFunc_Span):=by kernel_rfl
theorem h_shape_span:mfOf prog M.F_shape_span=some (M.m_shape_span.erase,17,M.rs_shape_span):=by kernel_rfl
theorem h_slices_Compare_string:mfOf prog M.F_slices_Compare_string=some (M.m_slices_Compare_string.erase,36,M.rs_slices_Compare_string):=by kernel_rfl
theorem h_slices_CompareFunc_Arr:mfOf prog M.F_slices_CompareFunc_Arr=some (M.m_slices_CompareFunc_Arr.erase,39,M.rs_slices_CompareFunc_Arr):=by kernel_rfl
theorem h_shape_arr:mfOf prog M.F_shape_arr=some (M.m_shape_arr.erase,22,M.rs_shape_arr):=by kernel_rfl
theorem h_slices_CompareFunc_Obj:mfOf prog M.F_slices_CompareFunc_Obj=some (M.m_slices_CompareFunc_Obj.erase,39,M.rs_slices_CompareFunc_Obj):=by kernel_rfl
theorem h_shape_obj:mfOf prog M.F_shape_obj=some (M.m_shape_obj.erase,27,M.rs_shape_obj):=by kernel_rfl
theorem h_slices_Concat_Span:mfOf prog M.F_slices_Concat_Span=some (M.m_slices_Concat_Span.erase,36,M.rs_slices_Concat_Span):=by kernel_rfl
theorem h_tidy_lesser:mfOf prog M.F_tidy_lesser=some (M.m_tidy_lesser.erase,25,M.rs_tidy_lesser):=by kernel_rfl
theorem h_tidy_greater:mfOf prog M.F_tidy_greater=some (M.m_tidy_greater.erase,25,M.rs_tidy_greater):=by kernel_rfl
theorem h_slices_Grow_string:mfOf prog M.F_slices_Grow_string=some (M.m_slices_Grow_string.erase,27,M.rs_slices_Grow_string):=by kernel_rfl
theorem h_slices_Concat_Arr:mfOf prog M.F_slices_Concat_Arr=some (M.m_slices_Concat_Arr.erase,36,M.rs_slices_Concat_Arr):=by kernel_rfl
theorem h_slices_Grow_Obj:mfOf prog M.F_slices_Grow_Obj=some (M.m_slices_Grow_Obj.erase,27,M.rs_slices_Grow_Obj):=by kernel_rfl
theorem h_slices_BinarySearch_string:mfOf prog M.F_slices_BinarySearch_string=some (M.m_slices_BinarySearch_string.erase,54,M.rs_slices_BinarySearch_string):=by kernel_rfl
theorem h_kit_SameTypes:mfOf prog M.F_kit_SameTypes=some (M.m_kit_SameTypes.erase,27,M.rs_kit_SameTypes):=by kernel_rfl
theorem h_kit_SameBools:mfOf prog M.F_kit_SameBools=some (M.m_kit_SameBools.erase,26,M.rs_kit_SameBools):=by kernel_rfl
theorem h_tens_Cmp:mfOf prog M.F_tens_Cmp=some (M.m_tens_Cmp.erase,43,M.rs_tens_Cmp):=by kernel_rfl
theorem h_utf_Valid:mfOf prog M.F_utf_Valid=some (M.m_utf_Valid.erase,5,M.rs_utf_Valid):=by kernel_rfl
theorem h_tidy_trimmed:mfOf prog M.F_tidy_trimmed=some (M.m_tidy_trimmed.erase,39,M.rs_tidy_trimmed):=by kernel_rfl
theorem h_slices_SortStableFunc_Obj:mfOf prog M.F_slices_SortStableFunc_Obj=some (M.m_slices_SortStableFunc_Obj.erase,9,M.rs_slices_SortStableFunc_Obj):=by kernel_rfl
theorem h_tidy_objects_1:mfOf prog M.F_tidy_objects_1=some (M.m_tidy_objects_1.erase,10,M.rs_tidy_objects_1):=by kernel_rfl
theorem h_tidy_outermost:mfOf prog M.F_tidy_outermost=some (M.m_tidy_outermost.erase,44,M.rs_tidy_outermost):=by kernel_rfl
theorem h_slices_CompactFunc_Obj:mfOf prog M.F_slices_CompactFunc_Obj=some (M.m_slices_CompactFunc_Obj.erase,66,M.rs_slices_CompactFunc_Obj):=by kernel_rfl
theorem h_tidy_objects_2:mfOf prog M.F_tidy_objects_2=some (M.m_tidy_objects_2.erase,10,M.rs_tidy_objects_2):=by kernel_rfl
theorem h_shape_bound:mfOf prog M.F_shape_bound=some (M.m_shape_bound.erase,23,M.rs_shape_bound):=by kernel_rfl
theorem h_cmp_Compare_string:mfOf prog M.F_cmp_Compare_string=some (M.m_cmp_Compare_string.erase,20,M.rs_cmp_Compare_string):=by kernel_rfl
theorem h_cmp_Compare_int:mfOf prog M.F_cmp_Compare_int=some (M.m_cmp_Compare_int.erase,20,M.rs_cmp_Compare_int):=by kernel_rfl
theorem h_shape_most:mfOf prog M.F_shape_most=some (M.m_shape_most.erase,18,M.rs_shape_most):=by kernel_rfl
theorem h_slices_CompareFunc_bool:mfOf prog M.F_slices_CompareFunc_bool=some (M.m_slices_CompareFunc_bool.erase,39,M.rs_slices_CompareFunc_bool):=by kernel_rfl
theorem h_slices_CompareFunc_Type:mfOf prog M.F_slices_CompareFunc_Type=some (M.m_slices_CompareFunc_Type.erase,39,M.rs_slices_CompareFunc_Type):=by kernel_rfl
theorem h_slices_Grow_Span:mfOf prog M.F_slices_Grow_Span=some (M.m_slices_Grow_Span.erase,27,M.rs_slices_Grow_Span):=by kernel_rfl
theorem h_slices_Grow_Arr:mfOf prog M.F_slices_Grow_Arr=some (M.m_slices_Grow_Arr.erase,27,M.rs_slices_Grow_Arr):=by kernel_rfl
theorem h_cmp_Less_string:mfOf prog M.F_cmp_Less_string=some (M.m_cmp_Less_string.erase,17,M.rs_cmp_Less_string):=by kernel_rfl
theorem h_slices_isNaN_string:mfOf prog M.F_slices_isNaN_string=some (M.m_slices_isNaN_string.erase,6,M.rs_slices_isNaN_string):=by kernel_rfl
theorem h_tens_split:mfOf prog M.F_tens_split=some (M.m_tens_split.erase,10,M.rs_tens_split):=by kernel_rfl
theorem h_tens_size:mfOf prog M.F_tens_size=some (M.m_tens_size.erase,26,M.rs_tens_size):=by kernel_rfl
theorem h_tidy_spare:mfOf prog M.F_tidy_spare=some (M.m_tidy_spare.erase,61,M.rs_tidy_spare):=by kernel_rfl
theorem h_slices_stableCmpFunc_Obj:mfOf prog M.F_slices_stableCmpFunc_Obj=some (M.m_slices_stableCmpFunc_Obj.erase,63,M.rs_slices_stableCmpFunc_Obj):=by kernel_rfl
theorem h_below_Below:mfOf prog M.F_below_Below=some (M.m_below_Below.erase,24,M.rs_below_Below):=by kernel_rfl
theorem h_cmp_isNaN_string:mfOf prog M.F_cmp_isNaN_string=some (M.m_cmp_isNaN_string.erase,6,M.rs_cmp_isNaN_string):=by kernel_rfl
theorem h_cmp_isNaN_int:mfOf prog M.F_cmp_isNaN_int=some (M.m_cmp_isNaN_int.erase,6,M.rs_cmp_isNaN_int):=by kernel_rfl
theorem h_slices_insertionSortCmpFunc_Obj:mfOf prog M.F_slices_insertionSortCmpFunc_Obj=some (M.m_slices_insertionSortCmpFunc_Obj.erase,53,M.rs_slices_insertionSortCmpFunc_Obj):=by kernel_rfl
theorem h_slices_symMergeCmpFunc_Obj:mfOf prog M.F_slices_symMergeCmpFunc_Obj=some (M.m_slices_symMergeCmpFunc_Obj.erase,220,M.rs_slices_symMergeCmpFunc_Obj):=by kernel_rfl
theorem h_below_never:mfOf prog M.F_below_never=some (M.m_below_never.erase,6,M.rs_below_never):=by kernel_rfl
theorem h_below_side_words:mfOf prog M.F_below_side_words=some (M.m_below_side_words.erase,30,M.rs_below_side_words):=by kernel_rfl
theorem h_below_side_nums:mfOf prog M.F_below_side_nums=some (M.m_below_side_nums.erase,26,M.rs_below_side_nums):=by kernel_rfl
theorem h_below_side_texts:mfOf prog M.F_below_side_texts=some (M.m_below_side_texts.erase,18,M.rs_below_side_texts):=by kernel_rfl
theorem h_below_side_arrays:mfOf prog M.F_below_side_arrays=some (M.m_below_side_arrays.erase,61,M.rs_below_side_arrays):=by kernel_rfl
theorem h_below_side_objects:mfOf prog M.F_below_side_objects=some (M.m_below_side_objects.erase,20,M.rs_below_side_objects):=by kernel_rfl
theorem h_below_laid:mfOf prog M.F_below_laid=some (M.m_below_laid.erase,13,M.rs_below_laid):=by kernel_rfl
theorem h_slices_rotateCmpFunc_Obj:mfOf prog M.F_slices_rotateCmpFunc_Obj=some (M.m_slices_rotateCmpFunc_Obj.erase,58,M.rs_slices_rotateCmpFunc_Obj):=by kernel_rfl
theorem h_shape_Kinds:mfOf prog M.F_shape_Kinds=some (M.m_shape_Kinds.erase,46,M.rs_shape_Kinds):=by kernel_rfl
theorem h_below_Span:mfOf prog M.F_below_Span=some (M.m_below_Span.erase,43,M.rs_below_Span):=by kernel_rfl
theorem h_slices_ContainsFunc_string:mfOf prog M.F_slices_ContainsFunc_string=some (M.m_slices_ContainsFunc_string.erase,9,M.rs_slices_ContainsFunc_string):=by kernel_rfl
theorem h_below_side_texts_1:mfOf prog M.F_below_side_texts_1=some (M.m_below_side_texts_1.erase,9,M.rs_below_side_texts_1):=by kernel_rfl
theorem h_slices_Contains_string:mfOf prog M.F_slices_Contains_string=some (M.m_slices_Contains_string.erase,9,M.rs_slices_Contains_string):=by kernel_rfl
theorem h_slices_ContainsFunc_Obj:mfOf prog M.F_slices_ContainsFunc_Obj=some (M.m_slices_ContainsFunc_Obj.erase,9,M.rs_slices_ContainsFunc_Obj):=by kernel_rfl
theorem h_below_side_objects_1:mfOf prog M.F_below_side_objects_1=some (M.m_below_side_objects_1.erase,7,M.rs_below_side_objects_1):=by kernel_rfl
theorem h_below_lies:mfOf prog M.F_below_lies=some (M.m_below_lies.erase,48,M.rs_below_lies):=by kernel_rfl
theorem h_shape_OfKinds:mfOf prog M.F_shape_OfKinds=some (M.m_shape_OfKinds.erase,37,M.rs_shape_OfKinds):=by kernel_rfl
theorem h_slices_swapRangeCmpFunc_Obj:mfOf prog M.F_slices_swapRangeCmpFunc_Obj=some (M.m_slices_swapRangeCmpFunc_Obj.erase,38,M.rs_slices_swapRangeCmpFunc_Obj):=by kernel_rfl
theorem h_below_hollow:mfOf prog M.F_below_hollow=some (M.m_below_hollow.erase,19,M.rs_below_hollow):=by kernel_rfl
theorem h_below_worth:mfOf prog M.F_below_worth=some (M.m_below_worth.erase,14,M.rs_below_worth):=by kernel_rfl
theorem h_slices_IndexFunc_string:mfOf prog M.F_slices_IndexFunc_string=some (M.m_slices_IndexFunc_string.erase,19,M.rs_slices_IndexFunc_string):=by kernel_rfl
theorem h_slices_Index_string:mfOf prog M.F_slices_Index_string=some (M.m_slices_Index_string.erase,19,M.rs_slices_Index_string):=by kernel_rfl
theorem h_slices_IndexFunc_Obj:mfOf prog M.F_slices_IndexFunc_Obj=some (M.m_slices_IndexFunc_Obj.erase,19,M.rs_slices_IndexFunc_Obj):=by kernel_rfl
theorem h_below_names:mfOf prog M.F_below_names=some (M.m_below_names.erase,11,M.rs_below_names):=by kernel_rfl
theorem h_below_field:mfOf prog M.F_below_field=some (M.m_below_field.erase,28,M.rs_below_field):=by kernel_rfl
theorem h_shape_OfKinds_1:mfOf prog M.F_shape_OfKinds_1=some (M.m_shape_OfKinds_1.erase,9,M.rs_shape_OfKinds_1):=by kernel_rfl
end Go.Proofs.YtfilonnphgnplaaGreatDoor.Pv
namespace Go.Proofs.YtfilonnphgnplaaGreatDoor.Pv
open Go Go.Tidy
def encStr (s:S):List PV:=[.str s]
def encBool (b:Bool):List PV:=[.bool b]
def encSpan (s:Span):List PV:=[.str s.low,.str s.high]
mutual
def encTy:Ty→List PV
 | .mk a b c d nums e texts arrs objs=>[.bool a,.bool b,.bool c,.bool d,.vec 2 false (nums.map encSpan),.bool e,.vec 1 false (texts.map encStr),.vec 11 false (encArrs arrs),.vec 12 false (encObjs objs)]
def encArr:Arr→List PV
 | .mk t lo hi=>encTy t++[.int .i64 lo,.int .i64 hi]
def encObj:Ob→List PV
 | .mk ns fs ms r=>[.vec 1 false (ns.map encStr),.vec 9 false (encTys fs),.vec 1 false (ms.map encBool)]++encTy r
def encArrs:List Arr→List (List PV)
 | []=>[]
 | a::l=>encArr a::encArrs l
def encObjs:List Ob→List (List PV)
 | []=>[]
 | a::l=>encObj a::encObjs l
def encTys:List Ty→List (List PV)
 | []=>[]
 | a::l=>encTy a::encTys l
end
theorem encArrs_map (l:List Arr):encArrs l=l.map encArr:=by induction l with|nil=>rfl|cons a l ih=>simp[encArrs,ih]
theorem encObjs_map (l:List Ob):encObjs l=l.map encObj:=by induction l with|nil=>rfl|cons a l ih=>simp[encObjs,ih]
theorem encTys_map (l:List Ty):encTys l=l.map encTy:=by induction l with|nil=>rfl|cons a l ih=>simp[encTys,ih]
abbrev cT (t:Ty):List PV:=[.bool t.all,.bool t.null,.bool t.fls,.bool t.tru,.vec 2 false (t.nums.map encSpan),.bool t.any,.vec 1 false (t.texts.map encStr),.vec 11 false (t.arrays.map encArr),.vec 12 false (t.objects.map encObj)]
abbrev cA (a:Arr):List PV:=[.bool a.item.all,.bool a.item.null,.bool a.item.fls,.bool a.item.tru,.vec 2 false (a.item.nums.map encSpan),.bool a.item.any,.vec 1 false (a.item.texts.map encStr),.vec 11 false (a.item.arrays.map encArr),.vec 12 false (a.item.objects.map encObj),.int .i64 a.min,.int .i64 a.max]
abbrev cO (o:Ob):List PV:=[.vec 1 false (o.names.map encStr),.vec 9 false (o.fields.map encTy),.vec 1 false (o.must.map encBool),.bool o.rest.all,.bool o.rest.null,.bool o.rest.fls,.bool o.rest.tru,.vec 2 false (o.rest.nums.map encSpan),.bool o.rest.any,.vec 1 false (o.rest.texts.map encStr),.vec 11 false (o.rest.arrays.map encArr),.vec 12 false (o.rest.objects.map encObj)]
theorem encTy_eq (t:Ty):encTy t=cT t:=by
 cases t; simp[encTy,encArrs_map,encObjs_map,Ty.all,Ty.null,Ty.fls,Ty.tru,Ty.nums,Ty.any,Ty.texts,Ty.arrays,Ty.objects]
theorem encArr_eq (a:Arr):encArr a=cA a:=by
 cases a; simp[encArr,encTy_eq,Arr.item,Arr.min,Arr.max]
theorem encObj_eq (o:Ob):encObj o=cO o:=by
 cases o; simp[encObj,encTy_eq,encTys_map,Ob.names,Ob.fields,Ob.must,Ob.rest]
attribute [simp] encTy_eq encArr_eq encObj_eq encStr encBool encSpan
theorem wrap64 {n:Int} (h1 : -9223372036854775808≤n) (h2:n≤9223372036854775807):IntKind.i64.wrap n=n:=by
 simp only[IntKind.wrap,IntKind.bits,IntKind.signed]
 simp
 omega
end Go.Proofs.YtfilonnphgnplaaGreatDoor.Pv
