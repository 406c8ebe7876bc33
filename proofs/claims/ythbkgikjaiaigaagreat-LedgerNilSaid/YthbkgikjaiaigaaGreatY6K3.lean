import Derived.Test.YthbkgikjaiaigaaGreatY6T
import Derived.Test.YthbkgikjaiaigaaGreatProg
namespace Go.AM.P
set_option linter.all false
open Go Go.Proofs
theorem k_part_Open : fnChk Tryz.prog Tryz.f10 f_part_Open = true := by decide +kernel
theorem k_part_Part_Append : fnChk Tryz.prog Tryz.f22 f_part_Part_Append = true := by decide +kernel
theorem k_ledger_Ledger_Clean : fnChk Tryz.prog Tryz.f34 f_ledger_Ledger_Clean = true := by decide +kernel
theorem k_ledger_Ledger_Len : fnChk Tryz.prog Tryz.f40 f_ledger_Ledger_Len = true := by decide +kernel
theorem k_ledger_Ledger_Spare : fnChk Tryz.prog Tryz.f41 f_ledger_Ledger_Spare = true := by decide +kernel
theorem k_part_has : fnChk Tryz.prog Tryz.f64 f_part_has = true := by decide +kernel
theorem k_wire_Join : fnChk Tryz.prog Tryz.f77 f_wire_Join = true := by decide +kernel
theorem k_wire_Uint : fnChk Tryz.prog Tryz.f78 f_wire_Uint = true := by decide +kernel
theorem k_wire_Reader_Uint : fnChk Tryz.prog Tryz.f83 f_wire_Reader_Uint = true := by decide +kernel
theorem k_compact_Table_Apply : fnChk Tryz.prog Tryz.f109 f_compact_Table_Apply = true := by decide +kernel
theorem k_ledger_Open : fnChk Tryz.prog Tryz.f112 f_ledger_Open = true := by decide +kernel
theorem k_seglog_Log_files : fnChk Tryz.prog Tryz.f138 f_seglog_Log_files = true := by decide +kernel
theorem k_dedup_New : fnChk Tryz.prog Tryz.f147 f_dedup_New = true := by decide +kernel
theorem k_iso_New : fnChk Tryz.prog Tryz.f148 f_iso_New = true := by decide +kernel
theorem k_bytes_Clone : fnChk Tryz.prog Tryz.f165 f_bytes_Clone = true := by decide +kernel
theorem k_seglog_Log_Sync : fnChk Tryz.prog Tryz.f174 f_seglog_Log_Sync = true := by decide +kernel
theorem k_dedup_Table_Judge : fnChk Tryz.prog Tryz.f176 f_dedup_Table_Judge = true := by decide +kernel
theorem k_seglog_Log_Read_1 : fnChk Tryz.prog Tryz.f179 f_seglog_Log_Read_1 = true := by decide +kernel
theorem k_frame_Seal : fnChk Tryz.prog Tryz.f193 f_frame_Seal = true := by decide +kernel
theorem k_disk_Disk_Append : fnChk Tryz.prog Tryz.f195 f_disk_Disk_Append = true := by decide +kernel
theorem k_disk_Disk_Sync : fnChk Tryz.prog Tryz.f196 f_disk_Disk_Sync = true := by decide +kernel
theorem k_compact_Table_from : fnChk Tryz.prog Tryz.f213 f_compact_Table_from = true := by decide +kernel
theorem k_math_bits_Len : fnChk Tryz.prog Tryz.f220 f_math_bits_Len = true := by decide +kernel
theorem k_seglog_Log_segment : fnChk Tryz.prog Tryz.f230 f_seglog_Log_segment = true := by decide +kernel
theorem k_rec_Decode : fnChk Tryz.prog Tryz.f231 f_rec_Decode = true := by decide +kernel
theorem k_seglog_segment_take : fnChk Tryz.prog Tryz.f232 f_seglog_segment_take = true := by decide +kernel
theorem k_seglog_Log_put : fnChk Tryz.prog Tryz.f233 f_seglog_Log_put = true := by decide +kernel
theorem k_wire_place_take : fnChk Tryz.prog Tryz.f235 f_wire_place_take = true := by decide +kernel
theorem k_wire_Reader_Within : fnChk Tryz.prog Tryz.f237 f_wire_Reader_Within = true := by decide +kernel
theorem k_index_Index_Find : fnChk Tryz.prog Tryz.f254 f_index_Index_Find = true := by decide +kernel
theorem k_rec_record : fnChk Tryz.prog Tryz.f258 f_rec_record = true := by decide +kernel
theorem k_frame_four : fnChk Tryz.prog Tryz.f264 f_frame_four = true := by decide +kernel
theorem k_slices_Sort_string : fnChk Tryz.prog Tryz.f293 f_slices_Sort_string = true := by decide +kernel
theorem k_index_Index_entry : fnChk Tryz.prog Tryz.f306 f_index_Index_entry = true := by decide +kernel
end Go.AM.P
