import Derived.Test.YthbkgikjaiaigaaGreatY4T
import Derived.Test.YthbkgikjaiaigaaGreatProg
namespace Go.AM.P
set_option linter.all false
open Go Go.Proofs
theorem k_towpathlaw14_OffsetsRecords : fnChk Tryz.prog Tryz.f4 f_towpathlaw14_OffsetsRecords = true := by decide +kernel
theorem k_disk_New : fnChk Tryz.prog Tryz.f9 f_disk_New = true := by decide +kernel
theorem k_offsets_Record : fnChk Tryz.prog Tryz.f15 f_offsets_Record = true := by decide +kernel
theorem k_towpathref14_Record : fnChk Tryz.prog Tryz.f17 f_towpathref14_Record = true := by decide +kernel
theorem k_offsets_Parse : fnChk Tryz.prog Tryz.f18 f_offsets_Parse = true := by decide +kernel
theorem k_towpathref14_Parse : fnChk Tryz.prog Tryz.f20 f_towpathref14_Parse = true := by decide +kernel
theorem k_part_Part_Read : fnChk Tryz.prog Tryz.f25 f_part_Part_Read = true := by decide +kernel
theorem k_offsets_Offsets_Of : fnChk Tryz.prog Tryz.f56 f_offsets_Offsets_Of = true := by decide +kernel
theorem k_part_Part_temp : fnChk Tryz.prog Tryz.f63 f_part_Part_temp = true := by decide +kernel
theorem k_part_Part_take : fnChk Tryz.prog Tryz.f68 f_part_Part_take = true := by decide +kernel
theorem k_wire_Uint : fnChk Tryz.prog Tryz.f78 f_wire_Uint = true := by decide +kernel
theorem k_towpathref14_digits : fnChk Tryz.prog Tryz.f81 f_towpathref14_digits = true := by decide +kernel
theorem k_wire_Reader_Uint : fnChk Tryz.prog Tryz.f83 f_wire_Reader_Uint = true := by decide +kernel
theorem k_wire_Reader_End : fnChk Tryz.prog Tryz.f84 f_wire_Reader_End = true := by decide +kernel
theorem k_rec_Next : fnChk Tryz.prog Tryz.f95 f_rec_Next = true := by decide +kernel
theorem k_offsets_ended : fnChk Tryz.prog Tryz.f134 f_offsets_ended = true := by decide +kernel
theorem k_seglog_may : fnChk Tryz.prog Tryz.f136 f_seglog_may = true := by decide +kernel
theorem k_frame_Open : fnChk Tryz.prog Tryz.f150 f_frame_Open = true := by decide +kernel
theorem k_seglog_Log_Sync : fnChk Tryz.prog Tryz.f174 f_seglog_Log_Sync = true := by decide +kernel
theorem k_rec_Copy : fnChk Tryz.prog Tryz.f175 f_rec_Copy = true := by decide +kernel
theorem k_seglog_Log_Read_1 : fnChk Tryz.prog Tryz.f179 f_seglog_Log_Read_1 = true := by decide +kernel
theorem k_seglog_segment_from : fnChk Tryz.prog Tryz.f181 f_seglog_segment_from = true := by decide +kernel
theorem k_iso_mark : fnChk Tryz.prog Tryz.f184 f_iso_mark = true := by decide +kernel
theorem k_dedup_Row_open : fnChk Tryz.prog Tryz.f189 f_dedup_Row_open = true := by decide +kernel
theorem k_slices_ContainsFunc_api_Batch : fnChk Tryz.prog Tryz.f224 f_slices_ContainsFunc_api_Batch = true := by decide +kernel
theorem k_seglog_segment_take : fnChk Tryz.prog Tryz.f232 f_seglog_segment_take = true := by decide +kernel
theorem k_seglog_Log_put : fnChk Tryz.prog Tryz.f233 f_seglog_Log_put = true := by decide +kernel
theorem k_seglog_Log_placed : fnChk Tryz.prog Tryz.f247 f_seglog_Log_placed = true := by decide +kernel
theorem k_iso_View_may : fnChk Tryz.prog Tryz.f253 f_iso_View_may = true := by decide +kernel
theorem k_rec_numbers : fnChk Tryz.prog Tryz.f256 f_rec_numbers = true := by decide +kernel
theorem k_rec_fits : fnChk Tryz.prog Tryz.f257 f_rec_fits = true := by decide +kernel
theorem k_disk_Disk_Free : fnChk Tryz.prog Tryz.f267 f_disk_Disk_Free = true := by decide +kernel
theorem k_slices_pdqsortCmpFunc_iso_Txn : fnChk Tryz.prog Tryz.f269 f_slices_pdqsortCmpFunc_iso_Txn = true := by decide +kernel
theorem k_wire_Flag : fnChk Tryz.prog Tryz.f274 f_wire_Flag = true := by decide +kernel
theorem k_math_bits_Len64 : fnChk Tryz.prog Tryz.f288 f_math_bits_Len64 = true := by decide +kernel
theorem k_rec_read : fnChk Tryz.prog Tryz.f298 f_rec_read = true := by decide +kernel
theorem k_index_Index_Find_1 : fnChk Tryz.prog Tryz.f307 f_index_Index_Find_1 = true := by decide +kernel
theorem k_frame_More : fnChk Tryz.prog Tryz.f323 f_frame_More = true := by decide +kernel
theorem k_rec_alike : fnChk Tryz.prog Tryz.f324 f_rec_alike = true := by decide +kernel
theorem k_index_may : fnChk Tryz.prog Tryz.f349 f_index_may = true := by decide +kernel
theorem k_slices_insertionSortOrdered_string : fnChk Tryz.prog Tryz.f363 f_slices_insertionSortOrdered_string = true := by decide +kernel
end Go.AM.P
