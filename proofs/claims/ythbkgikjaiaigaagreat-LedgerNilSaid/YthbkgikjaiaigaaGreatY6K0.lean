import Derived.Test.YthbkgikjaiaigaaGreatY6T
import Derived.Test.YthbkgikjaiaigaaGreatProg
namespace Go.AM.P
set_option linter.all false
open Go Go.Proofs
theorem k_towpathlaw13_LedgerNil : fnChk Tryz.prog Tryz.f6 f_towpathlaw13_LedgerNil = true := by decide +kernel
theorem k_disk_New : fnChk Tryz.prog Tryz.f9 f_disk_New = true := by decide +kernel
theorem k_part_Part_Read : fnChk Tryz.prog Tryz.f25 f_part_Part_Read = true := by decide +kernel
theorem k_part_Part_Next : fnChk Tryz.prog Tryz.f30 f_part_Part_Next = true := by decide +kernel
theorem k_towpathlaw13_short : fnChk Tryz.prog Tryz.f33 f_towpathlaw13_short = true := by decide +kernel
theorem k_ledger_Ledger_Drop : fnChk Tryz.prog Tryz.f37 f_ledger_Ledger_Drop = true := by decide +kernel
theorem k_towpathlaw13_awake : fnChk Tryz.prog Tryz.f42 f_towpathlaw13_awake = true := by decide +kernel
theorem k_seglog_Open : fnChk Tryz.prog Tryz.f61 f_seglog_Open = true := by decide +kernel
theorem k_disk_Disk_Size : fnChk Tryz.prog Tryz.f62 f_disk_Disk_Size = true := by decide +kernel
theorem k_seglog_Log_All : fnChk Tryz.prog Tryz.f67 f_seglog_Log_All = true := by decide +kernel
theorem k_wire_NewReader : fnChk Tryz.prog Tryz.f82 f_wire_NewReader = true := by decide +kernel
theorem k_disk_Disk_at : fnChk Tryz.prog Tryz.f142 f_disk_Disk_at = true := by decide +kernel
theorem k_disk_power_spend : fnChk Tryz.prog Tryz.f146 f_disk_power_spend = true := by decide +kernel
theorem k_frame_Open : fnChk Tryz.prog Tryz.f150 f_frame_Open = true := by decide +kernel
theorem k_wire_Reader_good : fnChk Tryz.prog Tryz.f166 f_wire_Reader_good = true := by decide +kernel
theorem k_rec_Copy : fnChk Tryz.prog Tryz.f175 f_rec_Copy = true := by decide +kernel
theorem k_iso_View_May : fnChk Tryz.prog Tryz.f177 f_iso_View_May = true := by decide +kernel
theorem k_seglog_Log_walk : fnChk Tryz.prog Tryz.f180 f_seglog_Log_walk = true := by decide +kernel
theorem k_seglog_Log_Read_2 : fnChk Tryz.prog Tryz.f182 f_seglog_Log_Read_2 = true := by decide +kernel
theorem k_rec_From : fnChk Tryz.prog Tryz.f183 f_rec_From = true := by decide +kernel
theorem k_rec_mark : fnChk Tryz.prog Tryz.f185 f_rec_mark = true := by decide +kernel
theorem k_rec_Span : fnChk Tryz.prog Tryz.f187 f_rec_Span = true := by decide +kernel
theorem k_compact_rise : fnChk Tryz.prog Tryz.f200 f_compact_rise = true := by decide +kernel
theorem k_compact_Table_at : fnChk Tryz.prog Tryz.f211 f_compact_Table_at = true := by decide +kernel
theorem k_frame_First : fnChk Tryz.prog Tryz.f228 f_frame_First = true := by decide +kernel
theorem k_seglog_Log_fits : fnChk Tryz.prog Tryz.f248 f_seglog_Log_fits = true := by decide +kernel
theorem k_wire_Int : fnChk Tryz.prog Tryz.f262 f_wire_Int = true := by decide +kernel
theorem k_disk_Name : fnChk Tryz.prog Tryz.f266 f_disk_Name = true := by decide +kernel
theorem k_slices_Delete_rec_At : fnChk Tryz.prog Tryz.f271 f_slices_Delete_rec_At = true := by decide +kernel
theorem k_compact_Table_from_1 : fnChk Tryz.prog Tryz.f273 f_compact_Table_from_1 = true := by decide +kernel
theorem k_index_New : fnChk Tryz.prog Tryz.f296 f_index_New = true := by decide +kernel
theorem k_wire_Reader_Int : fnChk Tryz.prog Tryz.f301 f_wire_Reader_Int = true := by decide +kernel
theorem k_frame_More : fnChk Tryz.prog Tryz.f323 f_frame_More = true := by decide +kernel
theorem k_slices_pdqsortOrdered_string : fnChk Tryz.prog Tryz.f348 f_slices_pdqsortOrdered_string = true := by decide +kernel
end Go.AM.P
