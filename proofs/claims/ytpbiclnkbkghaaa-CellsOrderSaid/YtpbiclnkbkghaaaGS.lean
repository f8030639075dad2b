/- The seat's types as things, its functions' numbers. No conditions. -/
import Derived.Test.YtpbiclnkbkghaaaEvZ2
import Derived.Test.YtpbiclnkbkghaaaCtx
set_option linter.unusedVariables false
set_option maxRecDepth 20000
namespace Go.Proofs.YtpbiclnkbkghaaaC
open Go Go.Ev Go.Proofs
structure TCell where
  Key : ByteArray
  Value : ByteArray
def eCell (x : TCell) : List AV := [.str x.Key, .str x.Value]
def zCell : TCell := ⟨⟨#[]⟩, ⟨#[]⟩⟩
instance : Inhabited TCell := ⟨zCell⟩
structure TRange where
  From : ByteArray
  To : ByteArray
  End : Bool
def eRange (x : TRange) : List AV := [.str x.From, .str x.To, .bool x.End]
def zRange : TRange := ⟨⟨#[]⟩, ⟨#[]⟩, false⟩
instance : Inhabited TRange := ⟨zRange⟩
structure TCuts where
  A : Sl TCell
  Low : ByteArray
  Mid : ByteArray
  High : ByteArray
def eCuts (x : TCuts) : List AV := [.sl 2 x.A.n (rowOf eCell x.A.w) x.A.u, .str x.Low, .str x.Mid, .str x.High]
def zCuts : TCuts := ⟨⟨0, fun _ => ⟨⟨#[]⟩, ⟨#[]⟩⟩, true⟩, ⟨#[]⟩, ⟨#[]⟩, ⟨#[]⟩⟩
instance : Inhabited TCuts := ⟨zCuts⟩
abbrev n_law10_CellsAsks : Nat := 3
abbrev n_law10_CellsMeans : Nat := 4
abbrev n_law10_CellsOrder : Nat := 5
abbrev n_law10_CellsTurns : Nat := 6
abbrev n_law10_CellsParts : Nat := 7
abbrev n_law10_CellsSizes : Nat := 8
abbrev n_law10_CellsBytes : Nat := 9
abbrev n_law10_great : Nat := 10
abbrev n_law10_head : Nat := 11
abbrev n_cells_Find : Nat := 12
abbrev n_r10_Find : Nat := 13
abbrev n_cells_Half : Nat := 14
abbrev n_r10_Half : Nat := 15
abbrev n_cells_Right : Nat := 16
abbrev n_r10_Right : Nat := 17
abbrev n_cells_Size : Nat := 18
abbrev n_r10_Size : Nat := 19
abbrev n_cells_Same : Nat := 20
abbrev n_r10_Same : Nat := 21
abbrev n_r10_Copy : Nat := 22
abbrev n_cells_At : Nat := 23
abbrev n_r10_At : Nat := 24
abbrev n_cells_Put : Nat := 25
abbrev n_cells_Delete : Nat := 26
abbrev n_r10_Put : Nat := 27
abbrev n_r10_Delete : Nat := 28
abbrev n_cells_Part : Nat := 29
abbrev n_r10_Part : Nat := 30
abbrev n_cells_Bytes : Nat := 31
abbrev n_r10_Bytes : Nat := 32
abbrev n_cells_Get : Nat := 33
abbrev n_r10_Get : Nat := 34
abbrev n_cells_cell_size : Nat := 35
abbrev n_cells_cell_right : Nat := 36
abbrev n_r10_fits : Nat := 37
abbrev n_slices_Equal_Cell : Nat := 38
abbrev n_cells_row_above : Nat := 39
abbrev n_sort_Search : Nat := 40
abbrev n_slices_Clone_Cell : Nat := 41
abbrev n_cells_kept_Cell : Nat := 42
abbrev n_cells_Delete_1 : Nat := 43
abbrev n_cells_Part_1 : Nat := 44
abbrev n_span_Has : Nat := 45
abbrev n_r03_Has : Nat := 46
abbrev n_octet_Put : Nat := 47
abbrev n_octet_PutText : Nat := 48
abbrev n_cells_join : Nat := 49
abbrev n_r10_number : Nat := 50
abbrev n_octet_Open : Nat := 51
abbrev n_octet_Reader_Num : Nat := 52
abbrev n_octet_Reader_Take : Nat := 53
abbrev n_octet_Reader_Text : Nat := 54
abbrev n_octet_Reader_Bad : Nat := 55
abbrev n_r10_text : Nat := 56
abbrev n_cells_row_above_1 : Nat := 57
abbrev n_span_Right : Nat := 58
abbrev n_span_bounds_has : Nat := 59
abbrev n_r03_Right : Nat := 60
abbrev n_octet_wide : Nat := 61
abbrev n_octet_grown : Nat := 62
abbrev n_octet_lay : Nat := 63
abbrev n_slices_Concat_byte : Nat := 64
abbrev n_octet_Reader_want : Nat := 65
abbrev n_octet_Reader_Num_1 : Nat := 66
abbrev n_octet_Reader_Take_1 : Nat := 67
abbrev n_octet_Reader_Text_1 : Nat := 68
abbrev n_span_bounds_over : Nat := 69
abbrev n_slices_Grow_byte : Nat := 70
abbrev n_octet_Reader_Left : Nat := 71
end Go.Proofs.YtpbiclnkbkghaaaC
