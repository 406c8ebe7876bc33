import Derived.Test.YthbkgikjaiaigaaGreatY4T
import Derived.Test.YthbkgikjaiaigaaGreatProg
namespace Go.AM.P
set_option linter.all false
open Go Go.Proofs
theorem k_part_Open : fnChk Tryz.prog Tryz.f10 f_part_Open = true := by decide +kernel
theorem k_towpathlaw14_plain : fnChk Tryz.prog Tryz.f19 f_towpathlaw14_plain = true := by decide +kernel
theorem k_towpathlaw14_awake : fnChk Tryz.prog Tryz.f21 f_towpathlaw14_awake = true := by decide +kernel
theorem k_part_Part_First : fnChk Tryz.prog Tryz.f29 f_part_Part_First = true := by decide +kernel
theorem k_offsets_Offsets_Mark : fnChk Tryz.prog Tryz.f54 f_offsets_Offsets_Mark = true := by decide +kernel
theorem k_part_has : fnChk Tryz.prog Tryz.f64 f_part_has = true := by decide +kernel
theorem k_wire_Join : fnChk Tryz.prog Tryz.f77 f_wire_Join = true := by decide +kernel
theorem k_towpathref01_Uint : fnChk Tryz.prog Tryz.f80 f_towpathref01_Uint = true := by decide +kernel
theorem k_offsets_Open : fnChk Tryz.prog Tryz.f86 f_offsets_Open = true := by decide +kernel
theorem k_part_Part_put : fnChk Tryz.prog Tryz.f89 f_part_Part_put = true := by decide +kernel
theorem k_rec_Mark : fnChk Tryz.prog Tryz.f90 f_rec_Mark = true := by decide +kernel
theorem k_seglog_Log_Read : fnChk Tryz.prog Tryz.f92 f_seglog_Log_Read = true := by decide +kernel
theorem k_iso_View_Stable : fnChk Tryz.prog Tryz.f107 f_iso_View_Stable = true := by decide +kernel
theorem k_compact_Table_Apply : fnChk Tryz.prog Tryz.f109 f_compact_Table_Apply = true := by decide +kernel
theorem k_disk_Disk_Gone : fnChk Tryz.prog Tryz.f137 f_disk_Disk_Gone = true := by decide +kernel
theorem k_disk_Disk_Read : fnChk Tryz.prog Tryz.f143 f_disk_Disk_Read = true := by decide +kernel
theorem k_dedup_New : fnChk Tryz.prog Tryz.f147 f_dedup_New = true := by decide +kernel
theorem k_wire_Reader_good : fnChk Tryz.prog Tryz.f166 f_wire_Reader_good = true := by decide +kernel
theorem k_wire_place_uint : fnChk Tryz.prog Tryz.f167 f_wire_place_uint = true := by decide +kernel
theorem k_towpathref01_number : fnChk Tryz.prog Tryz.f170 f_towpathref01_number = true := by decide +kernel
theorem k_towpathref01_Reader_fail : fnChk Tryz.prog Tryz.f171 f_towpathref01_Reader_fail = true := by decide +kernel
theorem k_compact_New : fnChk Tryz.prog Tryz.f172 f_compact_New = true := by decide +kernel
theorem k_rec_From : fnChk Tryz.prog Tryz.f183 f_rec_From = true := by decide +kernel
theorem k_wire_Text : fnChk Tryz.prog Tryz.f194 f_wire_Text = true := by decide +kernel
theorem k_compact_rise : fnChk Tryz.prog Tryz.f200 f_compact_rise = true := by decide +kernel
theorem k_seglog_segment_reach : fnChk Tryz.prog Tryz.f206 f_seglog_segment_reach = true := by decide +kernel
theorem k_slices_SortFunc_iso_Txn : fnChk Tryz.prog Tryz.f208 f_slices_SortFunc_iso_Txn = true := by decide +kernel
theorem k_compact_Table_at : fnChk Tryz.prog Tryz.f211 f_compact_Table_at = true := by decide +kernel
theorem k_compact_Table_from : fnChk Tryz.prog Tryz.f213 f_compact_Table_from = true := by decide +kernel
theorem k_frame_First : fnChk Tryz.prog Tryz.f228 f_frame_First = true := by decide +kernel
theorem k_seglog_Log_segment : fnChk Tryz.prog Tryz.f230 f_seglog_Log_segment = true := by decide +kernel
theorem k_wire_place_take : fnChk Tryz.prog Tryz.f235 f_wire_place_take = true := by decide +kernel
theorem k_dedup_Table_fresh : fnChk Tryz.prog Tryz.f252 f_dedup_Table_fresh = true := by decide +kernel
theorem k_index_Index_Find : fnChk Tryz.prog Tryz.f254 f_index_Index_Find = true := by decide +kernel
theorem k_disk_Name : fnChk Tryz.prog Tryz.f266 f_disk_Name = true := by decide +kernel
theorem k_rec_Encode : fnChk Tryz.prog Tryz.f268 f_rec_Encode = true := by decide +kernel
theorem k_slices_IndexFunc_api_Batch : fnChk Tryz.prog Tryz.f290 f_slices_IndexFunc_api_Batch = true := by decide +kernel
theorem k_slices_Sort_string : fnChk Tryz.prog Tryz.f293 f_slices_Sort_string = true := by decide +kernel
theorem k_index_New : fnChk Tryz.prog Tryz.f296 f_index_New = true := by decide +kernel
theorem k_wire_Reader_Int : fnChk Tryz.prog Tryz.f301 f_wire_Reader_Int = true := by decide +kernel
theorem k_slices_pdqsortOrdered_string : fnChk Tryz.prog Tryz.f348 f_slices_pdqsortOrdered_string = true := by decide +kernel
end Go.AM.P
