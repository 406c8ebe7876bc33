import Derived.Test.YthbkgikjaiaigaaGreatY4T
import Derived.Test.YthbkgikjaiaigaaGreatProg
namespace Go.AM.P
set_option linter.all false
open Go Go.Proofs
theorem k_part_Part_Next : fnChk Tryz.prog Tryz.f30 f_part_Part_Next = true := by decide +kernel
theorem k_part_Part_Stable : fnChk Tryz.prog Tryz.f31 f_part_Part_Stable = true := by decide +kernel
theorem k_part_Part_Batches : fnChk Tryz.prog Tryz.f32 f_part_Part_Batches = true := by decide +kernel
theorem k_part_Part_load : fnChk Tryz.prog Tryz.f66 f_part_Part_load = true := by decide +kernel
theorem k_seglog_Log_All : fnChk Tryz.prog Tryz.f67 f_seglog_Log_All = true := by decide +kernel
theorem k_offsets_Commit_may : fnChk Tryz.prog Tryz.f76 f_offsets_Commit_may = true := by decide +kernel
theorem k_wire_NewReader : fnChk Tryz.prog Tryz.f82 f_wire_NewReader = true := by decide +kernel
theorem k_towpathlaw14_config : fnChk Tryz.prog Tryz.f87 f_towpathlaw14_config = true := by decide +kernel
theorem k_part_mark : fnChk Tryz.prog Tryz.f88 f_part_mark = true := by decide +kernel
theorem k_iso_View_Fate : fnChk Tryz.prog Tryz.f93 f_iso_View_Fate = true := by decide +kernel
theorem k_seglog_Log_First : fnChk Tryz.prog Tryz.f104 f_seglog_Log_First = true := by decide +kernel
theorem k_iso_View_Open : fnChk Tryz.prog Tryz.f106 f_iso_View_Open = true := by decide +kernel
theorem k_offsets_Offsets_read : fnChk Tryz.prog Tryz.f132 f_offsets_Offsets_read = true := by decide +kernel
theorem k_seglog_Prefix : fnChk Tryz.prog Tryz.f135 f_seglog_Prefix = true := by decide +kernel
theorem k_seglog_Log_name : fnChk Tryz.prog Tryz.f139 f_seglog_Log_name = true := by decide +kernel
theorem k_disk_Disk_may : fnChk Tryz.prog Tryz.f144 f_disk_Disk_may = true := by decide +kernel
theorem k_disk_power_spend : fnChk Tryz.prog Tryz.f146 f_disk_power_spend = true := by decide +kernel
theorem k_dedup_Table_Take : fnChk Tryz.prog Tryz.f156 f_dedup_Table_Take = true := by decide +kernel
theorem k_bytes_Clone : fnChk Tryz.prog Tryz.f165 f_bytes_Clone = true := by decide +kernel
theorem k_wire_place_fail : fnChk Tryz.prog Tryz.f169 f_wire_place_fail = true := by decide +kernel
theorem k_dedup_Table_Judge : fnChk Tryz.prog Tryz.f176 f_dedup_Table_Judge = true := by decide +kernel
theorem k_sort_Search : fnChk Tryz.prog Tryz.f178 f_sort_Search = true := by decide +kernel
theorem k_seglog_Log_walk : fnChk Tryz.prog Tryz.f180 f_seglog_Log_walk = true := by decide +kernel
theorem k_disk_Disk_Sync : fnChk Tryz.prog Tryz.f196 f_disk_Disk_Sync = true := by decide +kernel
theorem k_seglog_Log_last : fnChk Tryz.prog Tryz.f205 f_seglog_Log_last = true := by decide +kernel
theorem k_math_bits_Len : fnChk Tryz.prog Tryz.f220 f_math_bits_Len = true := by decide +kernel
theorem k_disk_Disk_Names : rfnChk Tryz.prog Tryz.f226 f226 = true := by decide +kernel
theorem k_rec_Decode : fnChk Tryz.prog Tryz.f231 f_rec_Decode = true := by decide +kernel
theorem k_wire_Reader_Within : fnChk Tryz.prog Tryz.f237 f_wire_Reader_Within = true := by decide +kernel
theorem k_dedup_Table_row : fnChk Tryz.prog Tryz.f243 f_dedup_Table_row = true := by decide +kernel
theorem k_seglog_head : fnChk Tryz.prog Tryz.f249 f_seglog_head = true := by decide +kernel
theorem k_dedup_again : fnChk Tryz.prog Tryz.f251 f_dedup_again = true := by decide +kernel
theorem k_rec_record : fnChk Tryz.prog Tryz.f258 f_rec_record = true := by decide +kernel
theorem k_frame_four : fnChk Tryz.prog Tryz.f264 f_frame_four = true := by decide +kernel
theorem k_frame_Sum : fnChk Tryz.prog Tryz.f265 f_frame_Sum = true := by decide +kernel
theorem k_slices_Insert_rec_At : fnChk Tryz.prog Tryz.f272 f_slices_Insert_rec_At = true := by decide +kernel
theorem k_maps_Keys_map_string_disk_file_string_disk_file : fnChk Tryz.prog Tryz.f291 f_maps_Keys_map_string_disk_file_string_disk_file = true := by decide +kernel
theorem k_index_Index_Note : fnChk Tryz.prog Tryz.f300 f_index_Index_Note = true := by decide +kernel
theorem k_dedup_Row_next : fnChk Tryz.prog Tryz.f302 f_dedup_Row_next = true := by decide +kernel
theorem k_slices_insertionSortCmpFunc_iso_Txn : fnChk Tryz.prog Tryz.f325 f_slices_insertionSortCmpFunc_iso_Txn = true := by decide +kernel
theorem k_maps_Keys_map_string_disk_file_string_disk_file_1 : fnChk Tryz.prog Tryz.f346 f_maps_Keys_map_string_disk_file_string_disk_file_1 = true := by decide +kernel
end Go.AM.P
