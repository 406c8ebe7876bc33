import Derived.Test.YthbkgikjaiaigaaGreatY4T
import Derived.Test.YthbkgikjaiaigaaGreatProg
namespace Go.AM.P
set_option linter.all false
open Go Go.Proofs
theorem k_towpathlaw14_ours : fnChk Tryz.prog Tryz.f16 f_towpathlaw14_ours = true := by decide +kernel
theorem k_part_Part_Append : fnChk Tryz.prog Tryz.f22 f_part_Part_Append = true := by decide +kernel
theorem k_part_Part_Mark : fnChk Tryz.prog Tryz.f23 f_part_Part_Mark = true := by decide +kernel
theorem k_offsets_Offsets_Put : fnChk Tryz.prog Tryz.f53 f_offsets_Offsets_Put = true := by decide +kernel
theorem k_offsets_Offsets_Waiting : fnChk Tryz.prog Tryz.f58 f_offsets_Offsets_Waiting = true := by decide +kernel
theorem k_seglog_Open : fnChk Tryz.prog Tryz.f61 f_seglog_Open = true := by decide +kernel
theorem k_disk_Disk_Size : fnChk Tryz.prog Tryz.f62 f_disk_Disk_Size = true := by decide +kernel
theorem k_offsets_key : fnChk Tryz.prog Tryz.f79 f_offsets_key = true := by decide +kernel
theorem k_towpathref01_Reader_Uint : fnChk Tryz.prog Tryz.f85 f_towpathref01_Reader_Uint = true := by decide +kernel
theorem k_part_Part_ask : fnChk Tryz.prog Tryz.f91 f_part_Part_ask = true := by decide +kernel
theorem k_rec_Flat : fnChk Tryz.prog Tryz.f94 f_rec_Flat = true := by decide +kernel
theorem k_seglog_Log_Next : fnChk Tryz.prog Tryz.f105 f_seglog_Log_Next = true := by decide +kernel
theorem k_compact_Table_Get : fnChk Tryz.prog Tryz.f108 f_compact_Table_Get = true := by decide +kernel
theorem k_seglog_Log_files : fnChk Tryz.prog Tryz.f138 f_seglog_Log_files = true := by decide +kernel
theorem k_disk_Disk_at : fnChk Tryz.prog Tryz.f142 f_disk_Disk_at = true := by decide +kernel
theorem k_iso_New : fnChk Tryz.prog Tryz.f148 f_iso_New = true := by decide +kernel
theorem k_part_Part_snap : fnChk Tryz.prog Tryz.f149 f_part_Part_snap = true := by decide +kernel
theorem k_wire_Reader_Text : fnChk Tryz.prog Tryz.f151 f_wire_Reader_Text = true := by decide +kernel
theorem k_iso_View_Take : fnChk Tryz.prog Tryz.f157 f_iso_View_Take = true := by decide +kernel
theorem k_wire_place_left : fnChk Tryz.prog Tryz.f168 f_wire_place_left = true := by decide +kernel
theorem k_seglog_Log_Append : fnChk Tryz.prog Tryz.f173 f_seglog_Log_Append = true := by decide +kernel
theorem k_iso_View_May : fnChk Tryz.prog Tryz.f177 f_iso_View_May = true := by decide +kernel
theorem k_seglog_Log_Read_2 : fnChk Tryz.prog Tryz.f182 f_seglog_Log_Read_2 = true := by decide +kernel
theorem k_rec_mark : fnChk Tryz.prog Tryz.f185 f_rec_mark = true := by decide +kernel
theorem k_rec_Valid : fnChk Tryz.prog Tryz.f186 f_rec_Valid = true := by decide +kernel
theorem k_rec_Span : fnChk Tryz.prog Tryz.f187 f_rec_Span = true := by decide +kernel
theorem k_frame_Seal : fnChk Tryz.prog Tryz.f193 f_frame_Seal = true := by decide +kernel
theorem k_disk_Disk_Append : fnChk Tryz.prog Tryz.f195 f_disk_Disk_Append = true := by decide +kernel
theorem k_compact_Table_set : fnChk Tryz.prog Tryz.f212 f_compact_Table_set = true := by decide +kernel
theorem k_wire_Reader_Err : fnChk Tryz.prog Tryz.f238 f_wire_Reader_Err = true := by decide +kernel
theorem k_seglog_Log_fits : fnChk Tryz.prog Tryz.f248 f_seglog_Log_fits = true := by decide +kernel
theorem k_dedup_mark : fnChk Tryz.prog Tryz.f250 f_dedup_mark = true := by decide +kernel
theorem k_wire_Int : fnChk Tryz.prog Tryz.f262 f_wire_Int = true := by decide +kernel
theorem k_compact_Table_from_1 : fnChk Tryz.prog Tryz.f273 f_compact_Table_from_1 = true := by decide +kernel
theorem k_frame_number : fnChk Tryz.prog Tryz.f294 f_frame_number = true := by decide +kernel
theorem k_wire_Reader_Byte : fnChk Tryz.prog Tryz.f295 f_wire_Reader_Byte = true := by decide +kernel
theorem k_rec_upto : fnChk Tryz.prog Tryz.f297 f_rec_upto = true := by decide +kernel
theorem k_seglog_latest : fnChk Tryz.prog Tryz.f299 f_seglog_latest = true := by decide +kernel
theorem k_index_Index_entry : fnChk Tryz.prog Tryz.f306 f_index_Index_entry = true := by decide +kernel
theorem k_rec_within : fnChk Tryz.prog Tryz.f308 f_rec_within = true := by decide +kernel
theorem k_wire_Reader_Flag : fnChk Tryz.prog Tryz.f344 f_wire_Reader_Flag = true := by decide +kernel
end Go.AM.P
