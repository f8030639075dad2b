/- The seat's types as things, its functions' numbers. No conditions. -/
import Derived.Test.YtadbbgechcjciaaEvZ2
import Derived.Test.YtadbbgechcjciaaCtx
set_option linter.unusedVariables false
set_option maxRecDepth 20000
namespace Go.Proofs.YtadbbgechcjciaaC
open Go Go.Ev Go.Proofs

abbrev n_law11_PagePuts : Nat := 3
abbrev n_law11_PageChild : Nat := 4
abbrev n_law11_PageKids : Nat := 5
abbrev n_r11_Small : Nat := 6
abbrev n_law11_head : Nat := 7
abbrev n_page_Put : Nat := 8
abbrev n_r11_Put : Nat := 9
abbrev n_page_Check : Nat := 10
abbrev n_r11_Check : Nat := 11
abbrev n_page_Range : Nat := 12
abbrev n_r11_Range : Nat := 13
abbrev n_page_Child : Nat := 14
abbrev n_r11_Child : Nat := 15
abbrev n_page_Kid : Nat := 16
abbrev n_r11_Kid : Nat := 17
abbrev n_page_Id : Nat := 18
abbrev n_r11_Id : Nat := 19
abbrev n_r03_Has : Nat := 20
abbrev n_cells_Bytes : Nat := 21
abbrev n_octet_Put : Nat := 22
abbrev n_octet_PutText : Nat := 23
abbrev n_lsns_Put : Nat := 24
abbrev n_r10_Bytes : Nat := 25
abbrev n_r04_Put : Nat := 26
abbrev n_r11_number : Nat := 27
abbrev n_page_Check_1 : Nat := 28
abbrev n_page_Check_2 : Nat := 29
abbrev n_page_Check_3 : Nat := 30
abbrev n_span_Right : Nat := 31
abbrev n_page_Check_4 : Nat := 32
abbrev n_lsns_Right : Nat := 33
abbrev n_lsns_Most : Nat := 34
abbrev n_page_Check_5 : Nat := 35
abbrev n_cells_Right : Nat := 36
abbrev n_cells_Part : Nat := 37
abbrev n_page_Check_6 : Nat := 38
abbrev n_page_leaf : Nat := 39
abbrev n_page_Check_7 : Nat := 40
abbrev n_page_inner : Nat := 41
abbrev n_r03_Right : Nat := 42
abbrev n_r04_Right : Nat := 43
abbrev n_r04_Most : Nat := 44
abbrev n_r10_Right : Nat := 45
abbrev n_span_Has : Nat := 46
abbrev n_cells_At : Nat := 47
abbrev n_r10_At : Nat := 48
abbrev n_octet_Open : Nat := 49
abbrev n_octet_Reader_Num : Nat := 50
abbrev n_r11_worth : Nat := 51
abbrev n_cells_join : Nat := 52
abbrev n_octet_wide : Nat := 53
abbrev n_octet_grown : Nat := 54
abbrev n_octet_lay : Nat := 55
abbrev n_r10_number : Nat := 56
abbrev n_r04_number : Nat := 57
abbrev n_cells_cell_right : Nat := 58
abbrev n_cells_kept_Cell : Nat := 59
abbrev n_cells_Part_1 : Nat := 60
abbrev n_r10_fits : Nat := 61
abbrev n_span_bounds_has : Nat := 62
abbrev n_cells_row_above : Nat := 63
abbrev n_sort_Search : Nat := 64
abbrev n_octet_Reader_want : Nat := 65
abbrev n_octet_Reader_Num_1 : Nat := 66
abbrev n_slices_Concat_byte : Nat := 67
abbrev n_span_bounds_over : Nat := 68
abbrev n_cells_row_above_1 : Nat := 69
abbrev n_octet_Reader_Bad : Nat := 70
abbrev n_octet_Reader_Left : Nat := 71
abbrev n_slices_Grow_byte : Nat := 72
abbrev n_runtime_boundsError_Error : Nat := 73
abbrev n_runtime_boundsError_RuntimeError : Nat := 74
abbrev n_runtime_errorString_Error : Nat := 75
abbrev n_runtime_errorString_RuntimeError : Nat := 76
abbrev n_runtime_plainError_Error : Nat := 77
abbrev n_runtime_plainError_RuntimeError : Nat := 78
abbrev n_runtime_errorAddressString_Error : Nat := 79
abbrev n_runtime_errorAddressString_RuntimeError : Nat := 80
abbrev n_runtime_TypeAssertionError_Error : Nat := 81
abbrev n_runtime_TypeAssertionError_RuntimeError : Nat := 82
abbrev n_runtime_PanicNilError_Error : Nat := 83
abbrev n_runtime_PanicNilError_RuntimeError : Nat := 84
abbrev n_internal_abi_Type_Align : Nat := 85
abbrev n_internal_runtime_maps_unhashableTypeError_Error : Nat := 86
abbrev n_internal_runtime_maps_unhashableTypeError_RuntimeError : Nat := 87
abbrev n_internal_abi_Kind_String : Nat := 88
end Go.Proofs.YtadbbgechcjciaaC
