import Derived.Test.YthbkgikjaiaigaaGreatY6T
import Derived.Test.YthbkgikjaiaigaaGreatProg
namespace Go.AM.P
set_option linter.all false
open Go Go.Proofs
theorem k_part_Part_First : fnChk Tryz.prog Tryz.f29 f_part_Part_First = true := by decide +kernel
theorem k_ledger_Ledger_Set : fnChk Tryz.prog Tryz.f36 f_ledger_Ledger_Set = true := by decide +kernel
theorem k_ledger_Ledger_Range : fnChk Tryz.prog Tryz.f39 f_ledger_Ledger_Range = true := by decide +kernel
theorem k_part_Part_take : fnChk Tryz.prog Tryz.f68 f_part_Part_take = true := by decide +kernel
theorem k_seglog_Log_Read : fnChk Tryz.prog Tryz.f92 f_seglog_Log_Read = true := by decide +kernel
theorem k_rec_Flat : fnChk Tryz.prog Tryz.f94 f_rec_Flat = true := by decide +kernel
theorem k_rec_Next : fnChk Tryz.prog Tryz.f95 f_rec_Next = true := by decide +kernel
theorem k_seglog_Log_First : fnChk Tryz.prog Tryz.f104 f_seglog_Log_First = true := by decide +kernel
theorem k_compact_Table_Get : fnChk Tryz.prog Tryz.f108 f_compact_Table_Get = true := by decide +kernel
theorem k_seglog_Prefix : fnChk Tryz.prog Tryz.f135 f_seglog_Prefix = true := by decide +kernel
theorem k_seglog_may : fnChk Tryz.prog Tryz.f136 f_seglog_may = true := by decide +kernel
theorem k_disk_Disk_Gone : fnChk Tryz.prog Tryz.f137 f_disk_Disk_Gone = true := by decide +kernel
theorem k_disk_Disk_may : fnChk Tryz.prog Tryz.f144 f_disk_Disk_may = true := by decide +kernel
theorem k_part_Part_snap : fnChk Tryz.prog Tryz.f149 f_part_Part_snap = true := by decide +kernel
theorem k_dedup_Table_Take : fnChk Tryz.prog Tryz.f156 f_dedup_Table_Take = true := by decide +kernel
theorem k_wire_place_uint : fnChk Tryz.prog Tryz.f167 f_wire_place_uint = true := by decide +kernel
theorem k_wire_place_left : fnChk Tryz.prog Tryz.f168 f_wire_place_left = true := by decide +kernel
theorem k_seglog_segment_from : fnChk Tryz.prog Tryz.f181 f_seglog_segment_from = true := by decide +kernel
theorem k_iso_mark : fnChk Tryz.prog Tryz.f184 f_iso_mark = true := by decide +kernel
theorem k_wire_Text : fnChk Tryz.prog Tryz.f194 f_wire_Text = true := by decide +kernel
theorem k_wire_Reader_Err : fnChk Tryz.prog Tryz.f238 f_wire_Reader_Err = true := by decide +kernel
theorem k_seglog_Log_placed : fnChk Tryz.prog Tryz.f247 f_seglog_Log_placed = true := by decide +kernel
theorem k_rec_fits : fnChk Tryz.prog Tryz.f257 f_rec_fits = true := by decide +kernel
theorem k_rec_Encode : fnChk Tryz.prog Tryz.f268 f_rec_Encode = true := by decide +kernel
theorem k_slices_Insert_rec_At : fnChk Tryz.prog Tryz.f272 f_slices_Insert_rec_At = true := by decide +kernel
theorem k_frame_number : fnChk Tryz.prog Tryz.f294 f_frame_number = true := by decide +kernel
theorem k_wire_Reader_Byte : fnChk Tryz.prog Tryz.f295 f_wire_Reader_Byte = true := by decide +kernel
theorem k_rec_read : fnChk Tryz.prog Tryz.f298 f_rec_read = true := by decide +kernel
theorem k_rec_within : fnChk Tryz.prog Tryz.f308 f_rec_within = true := by decide +kernel
theorem k_rec_alike : fnChk Tryz.prog Tryz.f324 f_rec_alike = true := by decide +kernel
theorem k_wire_Reader_Flag : fnChk Tryz.prog Tryz.f344 f_wire_Reader_Flag = true := by decide +kernel
theorem k_maps_Keys_map_string_disk_file_string_disk_file_1 : fnChk Tryz.prog Tryz.f346 f_maps_Keys_map_string_disk_file_string_disk_file_1 = true := by decide +kernel
theorem k_index_may : fnChk Tryz.prog Tryz.f349 f_index_may = true := by decide +kernel
theorem k_slices_insertionSortOrdered_string : fnChk Tryz.prog Tryz.f363 f_slices_insertionSortOrdered_string = true := by decide +kernel
end Go.AM.P
