import Derived.Test.YthbkgikjaiaigaaGreatY6T
import Derived.Test.YthbkgikjaiaigaaGreatProg
namespace Go.AM.P
set_option linter.all false
open Go Go.Proofs
theorem k_part_Part_Batches : fnChk Tryz.prog Tryz.f32 f_part_Part_Batches = true := by decide +kernel
theorem k_ledger_Ledger_Get : fnChk Tryz.prog Tryz.f35 f_ledger_Ledger_Get = true := by decide +kernel
theorem k_ledger_Ledger_All : fnChk Tryz.prog Tryz.f38 f_ledger_Ledger_All = true := by decide +kernel
theorem k_part_Part_temp : fnChk Tryz.prog Tryz.f63 f_part_Part_temp = true := by decide +kernel
theorem k_part_Part_load : fnChk Tryz.prog Tryz.f66 f_part_Part_load = true := by decide +kernel
theorem k_wire_Reader_End : fnChk Tryz.prog Tryz.f84 f_wire_Reader_End = true := by decide +kernel
theorem k_part_mark : fnChk Tryz.prog Tryz.f88 f_part_mark = true := by decide +kernel
theorem k_part_Part_put : fnChk Tryz.prog Tryz.f89 f_part_Part_put = true := by decide +kernel
theorem k_part_Part_ask : fnChk Tryz.prog Tryz.f91 f_part_Part_ask = true := by decide +kernel
theorem k_seglog_Log_Next : fnChk Tryz.prog Tryz.f105 f_seglog_Log_Next = true := by decide +kernel
theorem k_compact_Table_Len : fnChk Tryz.prog Tryz.f111 f_compact_Table_Len = true := by decide +kernel
theorem k_towpathlaw13_config : fnChk Tryz.prog Tryz.f113 f_towpathlaw13_config = true := by decide +kernel
theorem k_seglog_Log_name : fnChk Tryz.prog Tryz.f139 f_seglog_Log_name = true := by decide +kernel
theorem k_disk_Disk_Read : fnChk Tryz.prog Tryz.f143 f_disk_Disk_Read = true := by decide +kernel
theorem k_wire_Reader_Text : fnChk Tryz.prog Tryz.f151 f_wire_Reader_Text = true := by decide +kernel
theorem k_iso_View_Take : fnChk Tryz.prog Tryz.f157 f_iso_View_Take = true := by decide +kernel
theorem k_compact_New : fnChk Tryz.prog Tryz.f172 f_compact_New = true := by decide +kernel
theorem k_seglog_Log_Append : fnChk Tryz.prog Tryz.f173 f_seglog_Log_Append = true := by decide +kernel
theorem k_sort_Search : fnChk Tryz.prog Tryz.f178 f_sort_Search = true := by decide +kernel
theorem k_rec_Valid : fnChk Tryz.prog Tryz.f186 f_rec_Valid = true := by decide +kernel
theorem k_seglog_Log_last : fnChk Tryz.prog Tryz.f205 f_seglog_Log_last = true := by decide +kernel
theorem k_seglog_segment_reach : fnChk Tryz.prog Tryz.f206 f_seglog_segment_reach = true := by decide +kernel
theorem k_compact_Table_set : fnChk Tryz.prog Tryz.f212 f_compact_Table_set = true := by decide +kernel
theorem k_disk_Disk_Names : rfnChk Tryz.prog Tryz.f226 f226 = true := by decide +kernel
theorem k_seglog_head : fnChk Tryz.prog Tryz.f249 f_seglog_head = true := by decide +kernel
theorem k_rec_numbers : fnChk Tryz.prog Tryz.f256 f_rec_numbers = true := by decide +kernel
theorem k_frame_Sum : fnChk Tryz.prog Tryz.f265 f_frame_Sum = true := by decide +kernel
theorem k_disk_Disk_Free : fnChk Tryz.prog Tryz.f267 f_disk_Disk_Free = true := by decide +kernel
theorem k_wire_Flag : fnChk Tryz.prog Tryz.f274 f_wire_Flag = true := by decide +kernel
theorem k_math_bits_Len64 : fnChk Tryz.prog Tryz.f288 f_math_bits_Len64 = true := by decide +kernel
theorem k_maps_Keys_map_string_disk_file_string_disk_file : fnChk Tryz.prog Tryz.f291 f_maps_Keys_map_string_disk_file_string_disk_file = true := by decide +kernel
theorem k_rec_upto : fnChk Tryz.prog Tryz.f297 f_rec_upto = true := by decide +kernel
theorem k_seglog_latest : fnChk Tryz.prog Tryz.f299 f_seglog_latest = true := by decide +kernel
theorem k_index_Index_Note : fnChk Tryz.prog Tryz.f300 f_index_Index_Note = true := by decide +kernel
theorem k_index_Index_Find_1 : fnChk Tryz.prog Tryz.f307 f_index_Index_Find_1 = true := by decide +kernel
end Go.AM.P
