import Derived.Test.YthbkgikjaiaigaaGreatAmGg
namespace Go.AM.P
set_option linter.all false
/- towpathlaw14_OffsetsRecords -/
def f_towpathlaw14_OffsetsRecords_r0 : List AOp := [
  ⟨(some 3), .none, .box (.t 0)⟩,
  ⟨(some 5), .none, .box (.t 2)⟩,
  ⟨(some 6), .none, .mv (.c (.bool false))⟩]
def f_towpathlaw14_OffsetsRecords_r1 : List AOp := [
  ⟨(some 17), .none, .faddr 0 (.t 5)⟩,
  ⟨(some 18), .none, .load1 (.t 17)⟩,
  ⟨(some 19), .none, .len .str (.t 18)⟩,
  ⟨(some 20), .none, .bin .gtr .num (.t 19) (.c (.int .i64 40))⟩]
def f_towpathlaw14_OffsetsRecords_r2 : List AOp := [
  ⟨(some 21), .none, .faddr 0 (.t 5)⟩,
  ⟨(some 22), .none, .load1 (.t 21)⟩,
  ⟨(some 23), .none, .sslc (.t 22) .none (some (.c (.int .i64 40)))⟩,
  ⟨(some 24), .none, .faddr 0 (.t 5)⟩,
  ⟨.none, .none, .store 1 (.t 24) (.t 23)⟩]
def f_towpathlaw14_OffsetsRecords_c0 : AC := (.cond (.t 20) (.reg f_towpathlaw14_OffsetsRecords_r2) .skip)
def f_towpathlaw14_OffsetsRecords_r3 : List AOp := [
  ⟨(some 25), .none, .faddr 1 (.t 5)⟩,
  ⟨(some 26), .none, .load1 (.t 25)⟩,
  ⟨(some 27), .none, .len .str (.t 26)⟩,
  ⟨(some 28), .none, .bin .gtr .num (.t 27) (.c (.int .i64 60))⟩]
def f_towpathlaw14_OffsetsRecords_r4 : List AOp := [
  ⟨(some 29), .none, .faddr 1 (.t 5)⟩,
  ⟨(some 30), .none, .load1 (.t 29)⟩,
  ⟨(some 31), .none, .sslc (.t 30) .none (some (.c (.int .i64 60)))⟩,
  ⟨(some 32), .none, .faddr 1 (.t 5)⟩,
  ⟨.none, .none, .store 1 (.t 32) (.t 31)⟩]
def f_towpathlaw14_OffsetsRecords_c1 : AC := (.cond (.t 28) (.reg f_towpathlaw14_OffsetsRecords_r4) .skip)
def f_towpathlaw14_OffsetsRecords_r5 : List AOp := [
  ⟨(some 34), .none, .loadn 4 (.t 3)⟩,
  ⟨(some 35), .none, .call 16 [(.t 34)]⟩,
  ⟨(some 36), .none, .mv (.t 1)⟩,
  ⟨(some 37), .none, .call 15 [(.t 35), (.t 36)]⟩,
  ⟨(some 33), .none, .mv (.t 37)⟩,
  ⟨(some 38), .none, .ext (.t 33) 0⟩,
  ⟨(some 39), .none, .ext (.t 33) 1⟩,
  ⟨(some 7), .none, .alloc [(.str []), (.str []), (.bool false), (.int .i64 0)]⟩,
  ⟨.none, .none, .store 4 (.t 7) (.t 38)⟩,
  ⟨(some 8), .none, .mv (.t 39)⟩]
def f_towpathlaw14_OffsetsRecords_r6 : List AOp := [
  ⟨(some 41), .none, .loadn 4 (.t 3)⟩,
  ⟨(some 42), .none, .mv (.t 1)⟩,
  ⟨(some 43), .none, .call 17 [(.t 41), (.t 42)]⟩,
  ⟨(some 40), .none, .mv (.t 43)⟩,
  ⟨(some 44), .none, .ext (.t 40) 0⟩,
  ⟨(some 45), .none, .ext (.t 40) 1⟩,
  ⟨(some 9), .none, .alloc [(.str []), (.str []), (.bool false), (.int .i64 0)]⟩,
  ⟨.none, .none, .store 4 (.t 9) (.t 44)⟩,
  ⟨(some 10), .none, .mv (.t 45)⟩]
def f_towpathlaw14_OffsetsRecords_r7 : List AOp := [
  ⟨(some 46), .none, .loadn 4 (.t 7)⟩,
  ⟨(some 47), .none, .loadn 4 (.t 9)⟩,
  ⟨(some 48), .none, .bin .neq (.agg [.str, .str, .bool, .num]) (.t 46) (.t 47)⟩,
  ⟨(some 49), .none, .mv (.t 48)⟩,
  ⟨(some 50), (some (49, false)), .mv (.t 8)⟩,
  ⟨(some 51), (some (49, false)), .mv (.t 10)⟩,
  ⟨(some 52), (some (49, false)), .bin .neq .num (.t 50) (.t 51)⟩,
  ⟨(some 53), .none, .pick (.t 49) (.c (.bool true)) (.t 52)⟩]
def f_towpathlaw14_OffsetsRecords_r8 : List AOp := [
  ⟨(some 6), .none, .mv (.c (.bool false))⟩]
def f_towpathlaw14_OffsetsRecords_c2 : AC := .ret
def f_towpathlaw14_OffsetsRecords_c3 : AC := (.cond (.t 53) (.seq (.reg f_towpathlaw14_OffsetsRecords_r8) f_towpathlaw14_OffsetsRecords_c2) .skip)
def f_towpathlaw14_OffsetsRecords_r9 : List AOp := [
  ⟨(some 54), .none, .mv (.t 8)⟩,
  ⟨(some 55), .none, .bin .eql .num (.t 54) (.c (.int .i64 0))⟩]
def f_towpathlaw14_OffsetsRecords_r10 : List AOp := [
  ⟨(some 57), .none, .loadn 4 (.t 7)⟩,
  ⟨(some 58), .none, .call 18 [(.t 57)]⟩,
  ⟨(some 56), .none, .mv (.t 58)⟩,
  ⟨(some 59), .none, .ext (.t 56) 0⟩,
  ⟨(some 60), .none, .ext (.t 56) 1⟩,
  ⟨(some 11), .none, .alloc [(.int .i64 0), (.int .i64 0), (.int .i64 0), (.int .i64 0)]⟩,
  ⟨.none, .none, .store 4 (.t 11) (.t 59)⟩,
  ⟨(some 12), .none, .mv (.t 60)⟩]
def f_towpathlaw14_OffsetsRecords_r11 : DR := ⟨[
  ⟨(some 61), .none, .mv (.t 12)⟩,
  ⟨(some 62), .none, .bin .neq .num (.t 61) (.c (.int .i64 0))⟩,
  ⟨(some 63), .none, .mv (.t 62)⟩,
  ⟨(some 64), (some (63, false)), .loadn 4 (.t 11)⟩,
  ⟨(some 65), (some (63, false)), .call 19 [(.t 64)]⟩,
  ⟨(some 66), (some (63, false)), .loadn 4 (.t 3)⟩,
  ⟨(some 67), (some (63, false)), .bin .neq (.agg [.num, .num, .num, .num]) (.t 65) (.t 66)⟩,
  ⟨(some 68), .none, .pick (.t 63) (.c (.bool true)) (.t 67)⟩],
  [0, 1, 3, 7, 15, 7, 63, 127], [0, 1, 2, 3, 4, 5, 6, 7], [(5, 0)], .none⟩
def f_towpathlaw14_OffsetsRecords_r12 : List AOp := [
  ⟨(some 6), .none, .mv (.c (.bool false))⟩]
def f_towpathlaw14_OffsetsRecords_c4 : AC := .ret
def f_towpathlaw14_OffsetsRecords_c5 : AC := (.cond (.t 68) (.seq (.reg f_towpathlaw14_OffsetsRecords_r12) f_towpathlaw14_OffsetsRecords_c4) .skip)
def f_towpathlaw14_OffsetsRecords_c6 : AC := (.seq (.dreg f_towpathlaw14_OffsetsRecords_r11) f_towpathlaw14_OffsetsRecords_c5)
def f_towpathlaw14_OffsetsRecords_c7 : AC := (.cond (.t 55) (.seq (.reg f_towpathlaw14_OffsetsRecords_r10) f_towpathlaw14_OffsetsRecords_c6) .skip)
def f_towpathlaw14_OffsetsRecords_r13 : List AOp := [
  ⟨(some 70), .none, .loadn 4 (.t 5)⟩,
  ⟨(some 71), .none, .call 18 [(.t 70)]⟩,
  ⟨(some 69), .none, .mv (.t 71)⟩,
  ⟨(some 72), .none, .ext (.t 69) 0⟩,
  ⟨(some 73), .none, .ext (.t 69) 1⟩,
  ⟨(some 13), .none, .alloc [(.int .i64 0), (.int .i64 0), (.int .i64 0), (.int .i64 0)]⟩,
  ⟨.none, .none, .store 4 (.t 13) (.t 72)⟩,
  ⟨(some 14), .none, .mv (.t 73)⟩]
def f_towpathlaw14_OffsetsRecords_r14 : List AOp := [
  ⟨(some 75), .none, .loadn 4 (.t 5)⟩,
  ⟨(some 76), .none, .call 20 [(.t 75)]⟩,
  ⟨(some 74), .none, .mv (.t 76)⟩,
  ⟨(some 77), .none, .ext (.t 74) 0⟩,
  ⟨(some 78), .none, .ext (.t 74) 1⟩,
  ⟨(some 15), .none, .alloc [(.int .i64 0), (.int .i64 0), (.int .i64 0), (.int .i64 0)]⟩,
  ⟨.none, .none, .store 4 (.t 15) (.t 77)⟩,
  ⟨(some 16), .none, .mv (.t 78)⟩]
def f_towpathlaw14_OffsetsRecords_r15 : DR := ⟨[
  ⟨(some 79), .none, .mv (.t 14)⟩,
  ⟨(some 80), .none, .mv (.t 16)⟩,
  ⟨(some 81), .none, .bin .eql .num (.t 79) (.t 80)⟩,
  ⟨(some 82), .none, .mv (.t 81)⟩,
  ⟨(some 83), (some (82, true)), .loadn 4 (.t 13)⟩,
  ⟨(some 84), (some (82, true)), .call 19 [(.t 83)]⟩,
  ⟨(some 85), (some (82, true)), .loadn 4 (.t 15)⟩,
  ⟨(some 86), (some (82, true)), .bin .eql (.agg [.num, .num, .num, .num]) (.t 84) (.t 85)⟩,
  ⟨(some 87), .none, .pick (.t 82) (.t 86) (.c (.bool false))⟩,
  ⟨(some 88), .none, .mv (.t 87)⟩,
  ⟨(some 89), (some (88, true)), .call 21 []⟩,
  ⟨(some 90), .none, .pick (.t 88) (.t 89) (.c (.bool false))⟩,
  ⟨(some 6), .none, .mv (.t 90)⟩],
  [0, 0, 3, 7, 15, 31, 15, 127, 255, 511, 1023, 2047, 4095], [0, 1, 2, 3, 4, 5, 6, 7, 8, 9, 10, 11, 12], [(6, 0)], .none⟩
def f_towpathlaw14_OffsetsRecords_c8 : AC := .ret
def f_towpathlaw14_OffsetsRecords_c9 : AC := (.seq (.dreg f_towpathlaw14_OffsetsRecords_r15) f_towpathlaw14_OffsetsRecords_c8)
def f_towpathlaw14_OffsetsRecords_c10 : AC := (.seq (.reg f_towpathlaw14_OffsetsRecords_r14) f_towpathlaw14_OffsetsRecords_c9)
def f_towpathlaw14_OffsetsRecords_c11 : AC := (.keep 7 [5] (.seq (.reg f_towpathlaw14_OffsetsRecords_r13) f_towpathlaw14_OffsetsRecords_c10))
def f_towpathlaw14_OffsetsRecords_c12 : AC := (.seq (.seq (.reg f_towpathlaw14_OffsetsRecords_r9) f_towpathlaw14_OffsetsRecords_c7) f_towpathlaw14_OffsetsRecords_c11)
def f_towpathlaw14_OffsetsRecords_c13 : AC := (.seq (.seq (.reg f_towpathlaw14_OffsetsRecords_r7) f_towpathlaw14_OffsetsRecords_c3) f_towpathlaw14_OffsetsRecords_c12)
def f_towpathlaw14_OffsetsRecords_c14 : AC := (.seq (.reg f_towpathlaw14_OffsetsRecords_r6) f_towpathlaw14_OffsetsRecords_c13)
def f_towpathlaw14_OffsetsRecords_c15 : AC := (.keep 7 [1, 3, 5] (.seq (.reg f_towpathlaw14_OffsetsRecords_r5) f_towpathlaw14_OffsetsRecords_c14))
def f_towpathlaw14_OffsetsRecords_c16 : AC := (.keep 7 [1, 3, 5] (.seq (.seq (.reg f_towpathlaw14_OffsetsRecords_r3) f_towpathlaw14_OffsetsRecords_c1) f_towpathlaw14_OffsetsRecords_c15))
def f_towpathlaw14_OffsetsRecords_c17 : AC := (.seq (.seq (.reg f_towpathlaw14_OffsetsRecords_r1) f_towpathlaw14_OffsetsRecords_c0) f_towpathlaw14_OffsetsRecords_c16)
def f_towpathlaw14_OffsetsRecords : AF := ⟨91, [.tmp 6], (.seq (.reg f_towpathlaw14_OffsetsRecords_r0) f_towpathlaw14_OffsetsRecords_c17)⟩
/- disk_New -/
def f_disk_New_r0 : List AOp := [
  ⟨(some 2), .none, .mv (.c .nilp)⟩,
  ⟨(some 3), .none, .mv (.c (.int .i64 0))⟩]
def f_disk_New_r1 : List AOp := [
  ⟨(some 4), .none, .mv (.t 0)⟩,
  ⟨(some 5), .none, .bin .lss .num (.t 4) (.c (.int .i64 0))⟩,
  ⟨(some 6), .none, .mv (.t 5)⟩,
  ⟨(some 7), (some (6, false)), .mv (.t 0)⟩,
  ⟨(some 8), (some (6, false)), .bin .gtr .num (.t 7) (.c (.int .i64 4194304))⟩,
  ⟨(some 9), .none, .pick (.t 6) (.c (.bool true)) (.t 8)⟩]
def f_disk_New_r2 : List AOp := [
  ⟨(some 2), .none, .mv (.c .nilp)⟩,
  ⟨(some 3), .none, .mv (.c (.int .i64 2))⟩]
def f_disk_New_c0 : AC := .ret
def f_disk_New_c1 : AC := (.cond (.t 9) (.seq (.reg f_disk_New_r2) f_disk_New_c0) .skip)
def f_disk_New_r3 : List AOp := [
  ⟨(some 10), .none, .build [(.int .i64 0), (.bool false)] [(0, 1, (.c (.int .i64 (-1))))]⟩,
  ⟨(some 11), .none, .mv (.t 0)⟩,
  ⟨(some 12), .none, .mkmap⟩,
  ⟨(some 13), .none, .build [(.int .i64 0), (.bool false), (.int .i64 0), (.int .i64 0), .nilm] [(0, 2, (.t 10)), (2, 1, (.t 11)), (4, 1, (.t 12))]⟩,
  ⟨(some 14), .none, .box (.t 13)⟩,
  ⟨(some 2), .none, .mv (.t 14)⟩,
  ⟨(some 3), .none, .mv (.c (.int .i64 0))⟩]
def f_disk_New_c2 : AC := .ret
def f_disk_New_c3 : AC := (.seq (.reg f_disk_New_r3) f_disk_New_c2)
def f_disk_New_c4 : AC := (.seq (.seq (.reg f_disk_New_r1) f_disk_New_c1) f_disk_New_c3)
def f_disk_New : AF := ⟨15, [.tmp 2, .tmp 3], (.seq (.reg f_disk_New_r0) f_disk_New_c4)⟩
/- part_Open -/
def f_part_Open_r0 : List AOp := [
  ⟨(some 5), .none, .box (.t 2)⟩,
  ⟨(some 6), .none, .mv (.c .nilp)⟩,
  ⟨(some 7), .none, .mv (.c (.int .i64 0))⟩]
def f_part_Open_r1 : List AOp := [
  ⟨(some 15), .none, .faddr 2 (.t 5)⟩,
  ⟨(some 16), .none, .load1 (.t 15)⟩,
  ⟨(some 17), .none, .bin .lss .num (.t 16) (.c (.int .i64 1))⟩,
  ⟨(some 18), .none, .mv (.t 17)⟩,
  ⟨(some 19), (some (18, false)), .faddr 2 (.t 5)⟩,
  ⟨(some 20), (some (18, false)), .load1 (.t 19)⟩,
  ⟨(some 21), (some (18, false)), .bin .gtr .num (.t 20) (.c (.int .i64 1024))⟩,
  ⟨(some 22), .none, .pick (.t 18) (.c (.bool true)) (.t 21)⟩]
def f_part_Open_r2 : List AOp := [
  ⟨(some 23), .none, .mv (.t 0)⟩,
  ⟨(some 24), .none, .bin .eql .ptr (.t 23) (.c .nilp)⟩]
def f_part_Open_r3 : List AOp := [
  ⟨(some 6), .none, .mv (.c .nilp)⟩,
  ⟨(some 7), .none, .mv (.c (.int .i64 1))⟩]
def f_part_Open_c0 : AC := .ret
def f_part_Open_c1 : AC := (.cond (.t 24) (.seq (.reg f_part_Open_r3) f_part_Open_c0) .skip)
def f_part_Open_r4 : List AOp := [
  ⟨(some 6), .none, .mv (.c .nilp)⟩,
  ⟨(some 7), .none, .mv (.c (.int .i64 2))⟩]
def f_part_Open_c2 : AC := .ret
def f_part_Open_c3 : AC := (.seq (.reg f_part_Open_r4) f_part_Open_c2)
def f_part_Open_c4 : AC := (.cond (.t 22) (.seq (.seq (.reg f_part_Open_r2) f_part_Open_c1) f_part_Open_c3) .skip)
def f_part_Open_r5 : List AOp := [
  ⟨(some 26), .none, .mv (.t 0)⟩,
  ⟨(some 27), .none, .mv (.t 1)⟩,
  ⟨(some 28), .none, .faddr 0 (.t 5)⟩,
  ⟨(some 29), .none, .loadn 2 (.t 28)⟩,
  ⟨(some 30), .none, .call 61 [(.t 26), (.t 27), (.t 29)]⟩,
  ⟨(some 25), .none, .mv (.t 30)⟩,
  ⟨(some 31), .none, .ext (.t 25) 0⟩,
  ⟨(some 32), .none, .ext (.t 25) 1⟩,
  ⟨(some 8), .none, .mv (.t 31)⟩,
  ⟨(some 9), .none, .mv (.t 32)⟩]
def f_part_Open_r6 : List AOp := [
  ⟨(some 33), .none, .mv (.t 9)⟩,
  ⟨(some 34), .none, .bin .neq .num (.t 33) (.c (.int .i64 0))⟩]
def f_part_Open_r7 : List AOp := [
  ⟨(some 35), .none, .mv (.t 9)⟩,
  ⟨(some 6), .none, .mv (.c .nilp)⟩,
  ⟨(some 7), .none, .mv (.t 35)⟩]
def f_part_Open_c5 : AC := .ret
def f_part_Open_c6 : AC := (.cond (.t 34) (.seq (.reg f_part_Open_r7) f_part_Open_c5) .skip)
def f_part_Open_r8 : List AOp := [
  ⟨(some 36), .none, .mv (.t 8)⟩,
  ⟨(some 37), .none, .mv (.t 0)⟩,
  ⟨(some 38), .none, .mv (.t 1)⟩,
  ⟨(some 39), .none, .build [.nilp, .nilp, (.str [])] [(0, 1, (.t 36)), (1, 1, (.t 37)), (2, 1, (.t 38))]⟩,
  ⟨(some 40), .none, .faddr 2 (.t 5)⟩,
  ⟨(some 41), .none, .load1 (.t 40)⟩,
  ⟨(some 42), .none, .build [.nilp, .nilp, (.str []), (.int .i64 0), .nilp, .nilp] [(0, 3, (.t 39)), (3, 1, (.t 41))]⟩,
  ⟨(some 43), .none, .box (.t 42)⟩,
  ⟨(some 10), .none, .mv (.t 43)⟩]
def f_part_Open_r9 : List AOp := [
  ⟨(some 44), .none, .mv (.t 0)⟩,
  ⟨(some 45), .none, .mv (.t 10)⟩,
  ⟨(some 46), .none, .call 63 [(.t 45)]⟩,
  ⟨(some 47), .none, .call 62 [(.t 44), (.t 46)]⟩,
  ⟨(some 48), .none, .bin .gtr .num (.t 47) (.c (.int .i64 0))⟩,
  ⟨(some 49), .none, .mv (.t 48)⟩,
  ⟨(some 50), (some (49, false)), .mv (.t 0)⟩,
  ⟨(some 51), (some (49, false)), .mv (.t 10)⟩,
  ⟨(some 52), (some (49, false)), .call 63 [(.t 51)]⟩,
  ⟨(some 53), (some (49, false)), .call 64 [(.t 50), (.t 52)]⟩,
  ⟨(some 54), .none, .pick (.t 49) (.c (.bool true)) (.t 53)⟩]
def f_part_Open_r10 : List AOp := [
  ⟨(some 55), .none, .mv (.t 0)⟩,
  ⟨(some 56), .none, .mv (.t 10)⟩,
  ⟨(some 57), .none, .call 63 [(.t 56)]⟩,
  ⟨(some 58), .none, .call 65 [(.t 55), (.t 57)]⟩,
  ⟨(some 11), .none, .mv (.t 58)⟩]
def f_part_Open_r11 : List AOp := [
  ⟨(some 59), .none, .mv (.t 11)⟩,
  ⟨(some 60), .none, .bin .neq .num (.t 59) (.c (.int .i64 0))⟩]
def f_part_Open_r12 : List AOp := [
  ⟨(some 61), .none, .mv (.t 11)⟩,
  ⟨(some 6), .none, .mv (.c .nilp)⟩,
  ⟨(some 7), .none, .mv (.t 61)⟩]
def f_part_Open_c7 : AC := .ret
def f_part_Open_c8 : AC := (.cond (.t 60) (.seq (.reg f_part_Open_r12) f_part_Open_c7) .skip)
def f_part_Open_c9 : AC := (.seq (.reg f_part_Open_r11) f_part_Open_c8)
def f_part_Open_c10 : AC := (.cond (.t 54) (.seq (.reg f_part_Open_r10) f_part_Open_c9) .skip)
def f_part_Open_r13 : List AOp := [
  ⟨(some 62), .none, .mv (.t 10)⟩,
  ⟨(some 63), .none, .call 66 [(.t 62)]⟩,
  ⟨(some 12), .none, .mv (.t 63)⟩]
def f_part_Open_r14 : List AOp := [
  ⟨(some 64), .none, .mv (.t 8)⟩,
  ⟨(some 65), .none, .call 67 [(.t 64)]⟩,
  ⟨(some 66), .none, .len .slice (.t 65)⟩,
  ⟨(some 67), .none, .mv (.c (.int .i64 0))⟩]
def f_part_Open_r15 : List AOp := [
  ⟨(some 68), .none, .bin .lss .num (.t 67) (.t 66)⟩]
def f_part_Open_r16 : List AOp := [
  ⟨(some 69), .none, .iaddr 7 (.t 65) (.t 67)⟩,
  ⟨(some 70), .none, .loadn 7 (.t 69)⟩,
  ⟨(some 14), .none, .alloc [(.int .i64 0), (.int .i64 0), (.int .i64 0), (.int .i64 0), (.int .i64 0), (.int .i64 0), .nils]⟩,
  ⟨.none, .none, .store 7 (.t 14) (.t 70)⟩]
def f_part_Open_r17 : List AOp := [
  ⟨(some 71), .none, .faddr 0 (.t 14)⟩,
  ⟨(some 72), .none, .load1 (.t 71)⟩,
  ⟨(some 73), .none, .mv (.t 12)⟩,
  ⟨(some 74), .none, .bin .geq .num (.t 72) (.t 73)⟩]
def f_part_Open_r18 : List AOp := [
  ⟨(some 75), .none, .mv (.t 10)⟩,
  ⟨(some 76), .none, .loadn 7 (.t 14)⟩,
  ⟨(some 77), .none, .call 68 [(.t 75), (.t 76)]⟩]
def f_part_Open_c11 : AC := (.cond (.t 74) (.reg f_part_Open_r18) .skip)
def f_part_Open_c12 : AC := (.seq (.reg f_part_Open_r17) f_part_Open_c11)
def f_part_Open_r19 : List AOp := [
  ⟨(some 78), .none, .bin .add .num (.t 67) (.c (.int .i64 1))⟩,
  ⟨(some 67), .none, .mv (.t 78)⟩]
def f_part_Open_c13 : AC := (.keep 7 [10, 12, 65, 66, 67] (.reg f_part_Open_r19))
def f_part_Open_c14 : AC := (.seq (.block 1 (.seq (.reg f_part_Open_r16) f_part_Open_c12)) f_part_Open_c13)
def f_part_Open_c15 : AC := (.seq (.cond (.t 68) .skip (.exit 0)) f_part_Open_c14)
def f_part_Open_c16 : AC := (.seq (.reg f_part_Open_r15) f_part_Open_c15)
def f_part_Open_c17 : AC := (.block 0 (.keep 7 [10, 12, 65, 66, 67] (.loop (.keep 7 [10, 12, 65, 66, 67] f_part_Open_c16))))
def f_part_Open_r20 : List AOp := [
  ⟨(some 79), .none, .mv (.t 10)⟩,
  ⟨(some 6), .none, .mv (.t 79)⟩,
  ⟨(some 7), .none, .mv (.c (.int .i64 0))⟩]
def f_part_Open_c18 : AC := .ret
def f_part_Open_c19 : AC := (.seq (.reg f_part_Open_r20) f_part_Open_c18)
def f_part_Open_c20 : AC := (.seq (.seq (.reg f_part_Open_r14) f_part_Open_c17) f_part_Open_c19)
def f_part_Open_c21 : AC := (.keep 7 [8, 10] (.seq (.reg f_part_Open_r13) f_part_Open_c20))
def f_part_Open_c22 : AC := (.seq (.seq (.reg f_part_Open_r9) f_part_Open_c10) f_part_Open_c21)
def f_part_Open_c23 : AC := (.seq (.reg f_part_Open_r8) f_part_Open_c22)
def f_part_Open_c24 : AC := (.seq (.seq (.reg f_part_Open_r6) f_part_Open_c6) f_part_Open_c23)
def f_part_Open_c25 : AC := (.seq (.reg f_part_Open_r5) f_part_Open_c24)
def f_part_Open_c26 : AC := (.seq (.seq (.reg f_part_Open_r1) f_part_Open_c4) f_part_Open_c25)
def f_part_Open : AF := ⟨80, [.tmp 6, .tmp 7], (.seq (.reg f_part_Open_r0) f_part_Open_c26)⟩
/- offsets_Record -/
def f_offsets_Record_r0 : List AOp := [
  ⟨(some 2), .none, .box (.t 0)⟩,
  ⟨(some 4), .none, .alloc [(.str []), (.str []), (.bool false), (.int .i64 0)]⟩,
  ⟨(some 5), .none, .mv (.c (.int .i64 0))⟩]
def f_offsets_Record_r1 : List AOp := [
  ⟨(some 7), .none, .loadn 4 (.t 2)⟩,
  ⟨(some 8), .none, .call 76 [(.t 7)]⟩,
  ⟨(some 9), .none, .un .not (.t 8)⟩,
  ⟨(some 10), .none, .mv (.t 9)⟩,
  ⟨(some 11), (some (10, false)), .mv (.t 1)⟩,
  ⟨(some 12), (some (10, false)), .bin .lss .num (.t 11) (.c (.int .i64 0))⟩,
  ⟨(some 13), .none, .pick (.t 10) (.c (.bool true)) (.t 12)⟩,
  ⟨(some 14), .none, .mv (.t 13)⟩,
  ⟨(some 15), (some (14, false)), .mv (.t 1)⟩,
  ⟨(some 16), (some (14, false)), .bin .gtr .num (.t 15) (.c (.int .i64 1099511627776))⟩,
  ⟨(some 17), .none, .pick (.t 14) (.c (.bool true)) (.t 16)⟩]
def f_offsets_Record_r2 : List AOp := [
  ⟨(some 18), .none, .build [(.str []), (.str []), (.bool false), (.int .i64 0)] []⟩,
  ⟨.none, .none, .store 4 (.t 4) (.t 18)⟩,
  ⟨(some 5), .none, .mv (.c (.int .i64 2))⟩]
def f_offsets_Record_c0 : AC := .ret
def f_offsets_Record_c1 : AC := (.cond (.t 17) (.seq (.reg f_offsets_Record_r2) f_offsets_Record_c0) .skip)
def f_offsets_Record_r3 : DR := ⟨[
  ⟨(some 19), .none, .faddr 1 (.t 2)⟩,
  ⟨(some 20), .none, .load1 (.t 19)⟩,
  ⟨(some 21), .none, .conv (.int .u64) (.t 20)⟩,
  ⟨(some 22), .none, .call 78 [(.t 21)]⟩,
  ⟨(some 23), .none, .faddr 2 (.t 2)⟩,
  ⟨(some 24), .none, .load1 (.t 23)⟩,
  ⟨(some 25), .none, .conv (.int .u64) (.t 24)⟩,
  ⟨(some 26), .none, .call 78 [(.t 25)]⟩,
  ⟨(some 27), .none, .faddr 3 (.t 2)⟩,
  ⟨(some 28), .none, .load1 (.t 27)⟩,
  ⟨(some 29), .none, .conv (.int .u64) (.t 28)⟩,
  ⟨(some 30), .none, .call 78 [(.t 29)]⟩,
  ⟨(some 31), .none, .bsl false 1 3 [.nils] [(0, 1, (.t 22)), (1, 1, (.t 26)), (2, 1, (.t 30))]⟩,
  ⟨(some 32), .none, .call 77 [(.t 31)]⟩,
  ⟨(some 6), .none, .mv (.t 32)⟩],
  [0, 1, 3, 7, 0, 16, 48, 127, 0, 256, 768, 2047, 4095, 8191, 16383], [0, 1, 2, 3, 4, 5, 6, 7, 8, 9, 10, 11, 12, 13, 14], [(5, 0), (9, 0), (9, 1)], .none⟩
def f_offsets_Record_r4 : DR := ⟨[
  ⟨(some 33), .none, .faddr 0 (.t 2)⟩,
  ⟨(some 34), .none, .load1 (.t 33)⟩,
  ⟨(some 35), .none, .call 79 [(.t 34)]⟩,
  ⟨(some 36), .none, .mv (.t 6)⟩,
  ⟨(some 37), .none, .conv .toStr (.t 36)⟩,
  ⟨(some 38), .none, .mv (.t 1)⟩,
  ⟨(some 39), .none, .build [(.str []), (.str []), (.bool false), (.int .i64 0)] [(0, 1, (.t 35)), (1, 1, (.t 37)), (3, 1, (.t 38))]⟩,
  ⟨.none, .none, .store 4 (.t 4) (.t 39)⟩,
  ⟨(some 5), .none, .mv (.c (.int .i64 0))⟩],
  [0, 1, 3, 0, 8, 0, 63, 127, 255], [0, 1, 2, 3, 4, 5, 6, 7, 8], [(4, 0)], .none⟩
def f_offsets_Record_c2 : AC := .ret
def f_offsets_Record_c3 : AC := (.seq (.dreg f_offsets_Record_r4) f_offsets_Record_c2)
def f_offsets_Record_c4 : AC := (.seq (.dreg f_offsets_Record_r3) f_offsets_Record_c3)
def f_offsets_Record_c5 : AC := (.seq (.seq (.reg f_offsets_Record_r1) f_offsets_Record_c1) f_offsets_Record_c4)
def f_offsets_Record : AF := ⟨40, [.celln 4 4, .tmp 5], (.seq (.reg f_offsets_Record_r0) f_offsets_Record_c5)⟩
/- towpathlaw14_ours -/
def f_towpathlaw14_ours_r0 : List AOp := [
  ⟨(some 1), .none, .box (.t 0)⟩,
  ⟨(some 2), .none, .alloc [(.int .i64 0), (.int .i64 0), (.int .i64 0), (.int .i64 0)]⟩]
def f_towpathlaw14_ours_r1 : List AOp := [
  ⟨(some 3), .none, .faddr 0 (.t 1)⟩,
  ⟨(some 4), .none, .load1 (.t 3)⟩,
  ⟨(some 5), .none, .faddr 1 (.t 1)⟩,
  ⟨(some 6), .none, .load1 (.t 5)⟩,
  ⟨(some 7), .none, .faddr 2 (.t 1)⟩,
  ⟨(some 8), .none, .load1 (.t 7)⟩,
  ⟨(some 9), .none, .faddr 3 (.t 1)⟩,
  ⟨(some 10), .none, .load1 (.t 9)⟩,
  ⟨(some 11), .none, .build [(.int .i64 0), (.int .i64 0), (.int .i64 0), (.int .i64 0)] [(0, 1, (.t 4)), (1, 1, (.t 6)), (2, 1, (.t 8)), (3, 1, (.t 10))]⟩,
  ⟨.none, .none, .store 4 (.t 2) (.t 11)⟩]
def f_towpathlaw14_ours_c0 : AC := .ret
def f_towpathlaw14_ours_c1 : AC := (.seq (.reg f_towpathlaw14_ours_r1) f_towpathlaw14_ours_c0)
def f_towpathlaw14_ours : AF := ⟨12, [.celln 2 4], (.seq (.reg f_towpathlaw14_ours_r0) f_towpathlaw14_ours_c1)⟩
/- towpathref14_Record -/
def f_towpathref14_Record_r0 : List AOp := [
  ⟨(some 2), .none, .box (.t 0)⟩,
  ⟨(some 4), .none, .alloc [(.str []), (.str []), (.bool false), (.int .i64 0)]⟩,
  ⟨(some 5), .none, .mv (.c (.int .i64 0))⟩]
def f_towpathref14_Record_r1 : List AOp := [
  ⟨(some 7), .none, .faddr 0 (.t 2)⟩,
  ⟨(some 8), .none, .load1 (.t 7)⟩,
  ⟨(some 9), .none, .bin .lss .num (.t 8) (.c (.int .i64 0))⟩,
  ⟨(some 10), .none, .mv (.t 9)⟩,
  ⟨(some 11), (some (10, false)), .faddr 0 (.t 2)⟩,
  ⟨(some 12), (some (10, false)), .load1 (.t 11)⟩,
  ⟨(some 13), (some (10, false)), .bin .gtr .num (.t 12) (.c (.int .i64 255))⟩,
  ⟨(some 14), .none, .pick (.t 10) (.c (.bool true)) (.t 13)⟩,
  ⟨(some 15), .none, .mv (.t 14)⟩,
  ⟨(some 16), (some (15, false)), .faddr 1 (.t 2)⟩,
  ⟨(some 17), (some (15, false)), .load1 (.t 16)⟩,
  ⟨(some 18), (some (15, false)), .bin .lss .num (.t 17) (.c (.int .i64 0))⟩,
  ⟨(some 19), .none, .pick (.t 15) (.c (.bool true)) (.t 18)⟩,
  ⟨(some 20), .none, .mv (.t 19)⟩,
  ⟨(some 21), (some (20, false)), .faddr 1 (.t 2)⟩,
  ⟨(some 22), (some (20, false)), .load1 (.t 21)⟩,
  ⟨(some 23), (some (20, false)), .bin .gtr .num (.t 22) (.c (.int .i64 1099511627776))⟩,
  ⟨(some 24), .none, .pick (.t 20) (.c (.bool true)) (.t 23)⟩,
  ⟨(some 25), .none, .mv (.t 24)⟩,
  ⟨(some 26), (some (25, false)), .faddr 2 (.t 2)⟩,
  ⟨(some 27), (some (25, false)), .load1 (.t 26)⟩,
  ⟨(some 28), (some (25, false)), .bin .lss .num (.t 27) (.c (.int .i64 0))⟩,
  ⟨(some 29), .none, .pick (.t 25) (.c (.bool true)) (.t 28)⟩,
  ⟨(some 30), .none, .mv (.t 29)⟩,
  ⟨(some 31), (some (30, false)), .faddr 2 (.t 2)⟩,
  ⟨(some 32), (some (30, false)), .load1 (.t 31)⟩,
  ⟨(some 33), (some (30, false)), .bin .gtr .num (.t 32) (.c (.int .i64 64))⟩,
  ⟨(some 34), .none, .pick (.t 30) (.c (.bool true)) (.t 33)⟩,
  ⟨(some 35), .none, .mv (.t 34)⟩,
  ⟨(some 36), (some (35, false)), .faddr 3 (.t 2)⟩,
  ⟨(some 37), (some (35, false)), .load1 (.t 36)⟩,
  ⟨(some 38), (some (35, false)), .bin .lss .num (.t 37) (.c (.int .i64 0))⟩,
  ⟨(some 39), .none, .pick (.t 35) (.c (.bool true)) (.t 38)⟩,
  ⟨(some 40), .none, .mv (.t 39)⟩,
  ⟨(some 41), (some (40, false)), .faddr 3 (.t 2)⟩,
  ⟨(some 42), (some (40, false)), .load1 (.t 41)⟩,
  ⟨(some 43), (some (40, false)), .bin .gtr .num (.t 42) (.c (.int .i64 2147483647))⟩,
  ⟨(some 44), .none, .pick (.t 40) (.c (.bool true)) (.t 43)⟩,
  ⟨(some 45), .none, .mv (.t 44)⟩,
  ⟨(some 46), (some (45, false)), .mv (.t 1)⟩,
  ⟨(some 47), (some (45, false)), .bin .lss .num (.t 46) (.c (.int .i64 0))⟩,
  ⟨(some 48), .none, .pick (.t 45) (.c (.bool true)) (.t 47)⟩,
  ⟨(some 49), .none, .mv (.t 48)⟩,
  ⟨(some 50), (some (49, false)), .mv (.t 1)⟩,
  ⟨(some 51), (some (49, false)), .bin .gtr .num (.t 50) (.c (.int .i64 1099511627776))⟩,
  ⟨(some 52), .none, .pick (.t 49) (.c (.bool true)) (.t 51)⟩]
def f_towpathref14_Record_r2 : List AOp := [
  ⟨(some 53), .none, .build [(.str []), (.str []), (.bool false), (.int .i64 0)] []⟩,
  ⟨.none, .none, .store 4 (.t 4) (.t 53)⟩,
  ⟨(some 5), .none, .mv (.c (.int .i64 2))⟩]
def f_towpathref14_Record_c0 : AC := .ret
def f_towpathref14_Record_c1 : AC := (.cond (.t 52) (.seq (.reg f_towpathref14_Record_r2) f_towpathref14_Record_c0) .skip)
def f_towpathref14_Record_r3 : List AOp := [
  ⟨(some 54), .none, .faddr 1 (.t 2)⟩,
  ⟨(some 55), .none, .load1 (.t 54)⟩,
  ⟨(some 56), .none, .conv (.int .u64) (.t 55)⟩,
  ⟨(some 57), .none, .call 80 [(.t 56)]⟩,
  ⟨(some 6), .none, .mv (.t 57)⟩]
def f_towpathref14_Record_r4 : List AOp := [
  ⟨(some 58), .none, .mv (.t 6)⟩,
  ⟨(some 59), .none, .faddr 2 (.t 2)⟩,
  ⟨(some 60), .none, .load1 (.t 59)⟩,
  ⟨(some 61), .none, .conv (.int .u64) (.t 60)⟩,
  ⟨(some 62), .none, .call 80 [(.t 61)]⟩,
  ⟨(some 63), .none, .app false 1 1 (.t 58) (.t 62)⟩,
  ⟨(some 6), .none, .mv (.t 63)⟩]
def f_towpathref14_Record_r5 : List AOp := [
  ⟨(some 64), .none, .mv (.t 6)⟩,
  ⟨(some 65), .none, .faddr 3 (.t 2)⟩,
  ⟨(some 66), .none, .load1 (.t 65)⟩,
  ⟨(some 67), .none, .conv (.int .u64) (.t 66)⟩,
  ⟨(some 68), .none, .call 80 [(.t 67)]⟩,
  ⟨(some 69), .none, .app false 1 1 (.t 64) (.t 68)⟩,
  ⟨(some 6), .none, .mv (.t 69)⟩]
def f_towpathref14_Record_r6 : DR := ⟨[
  ⟨(some 70), .none, .faddr 0 (.t 2)⟩,
  ⟨(some 71), .none, .load1 (.t 70)⟩,
  ⟨(some 72), .none, .call 81 [(.t 71)]⟩,
  ⟨(some 73), .none, .bin .add .str (.c (.str [111])) (.t 72)⟩,
  ⟨(some 74), .none, .mv (.t 6)⟩,
  ⟨(some 75), .none, .conv .toStr (.t 74)⟩,
  ⟨(some 76), .none, .mv (.t 1)⟩,
  ⟨(some 77), .none, .build [(.str []), (.str []), (.bool false), (.int .i64 0)] [(0, 1, (.t 73)), (1, 1, (.t 75)), (3, 1, (.t 76))]⟩,
  ⟨.none, .none, .store 4 (.t 4) (.t 77)⟩,
  ⟨(some 5), .none, .mv (.c (.int .i64 0))⟩],
  [0, 1, 3, 7, 0, 16, 0, 127, 255, 511], [0, 1, 2, 3, 4, 5, 6, 7, 8, 9], [(5, 0)], .none⟩
def f_towpathref14_Record_c2 : AC := .ret
def f_towpathref14_Record_c3 : AC := (.seq (.dreg f_towpathref14_Record_r6) f_towpathref14_Record_c2)
def f_towpathref14_Record_c4 : AC := (.seq (.reg f_towpathref14_Record_r5) f_towpathref14_Record_c3)
def f_towpathref14_Record_c5 : AC := (.seq (.reg f_towpathref14_Record_r4) f_towpathref14_Record_c4)
def f_towpathref14_Record_c6 : AC := (.seq (.reg f_towpathref14_Record_r3) f_towpathref14_Record_c5)
def f_towpathref14_Record_c7 : AC := (.seq (.seq (.reg f_towpathref14_Record_r1) f_towpathref14_Record_c1) f_towpathref14_Record_c6)
def f_towpathref14_Record : AF := ⟨78, [.celln 4 4, .tmp 5], (.seq (.reg f_towpathref14_Record_r0) f_towpathref14_Record_c7)⟩
/- offsets_Parse -/
def f_offsets_Parse_r0 : List AOp := [
  ⟨(some 1), .none, .box (.t 0)⟩,
  ⟨(some 2), .none, .alloc [(.int .i64 0), (.int .i64 0), (.int .i64 0), (.int .i64 0)]⟩,
  ⟨(some 3), .none, .mv (.c (.int .i64 0))⟩]
def f_offsets_Parse_r1 : List AOp := [
  ⟨(some 11), .none, .faddr 0 (.t 1)⟩,
  ⟨(some 12), .none, .load1 (.t 11)⟩,
  ⟨(some 13), .none, .len .str (.t 12)⟩,
  ⟨(some 14), .none, .bin .neq .num (.t 13) (.c (.int .i64 4))⟩,
  ⟨(some 15), .none, .mv (.t 14)⟩,
  ⟨(some 16), (some (15, false)), .faddr 2 (.t 1)⟩,
  ⟨(some 17), (some (15, false)), .load1 (.t 16)⟩,
  ⟨(some 18), .none, .pick (.t 15) (.c (.bool true)) (.t 17)⟩]
def f_offsets_Parse_r2 : List AOp := [
  ⟨(some 19), .none, .build [(.int .i64 0), (.int .i64 0), (.int .i64 0), (.int .i64 0)] []⟩,
  ⟨.none, .none, .store 4 (.t 2) (.t 19)⟩,
  ⟨(some 3), .none, .mv (.c (.int .i64 6))⟩]
def f_offsets_Parse_c0 : AC := .ret
def f_offsets_Parse_c1 : AC := (.cond (.t 18) (.seq (.reg f_offsets_Parse_r2) f_offsets_Parse_c0) .skip)
def f_offsets_Parse_r3 : List AOp := [
  ⟨(some 20), .none, .build [(.int .i64 0), (.int .i64 0), (.int .i64 0), (.int .i64 0)] []⟩,
  ⟨(some 4), .none, .alloc [(.int .i64 0), (.int .i64 0), (.int .i64 0), (.int .i64 0)]⟩,
  ⟨.none, .none, .store 4 (.t 4) (.t 20)⟩]
def f_offsets_Parse_r4 : List AOp := [
  ⟨(some 21), .none, .faddr 0 (.t 1)⟩,
  ⟨(some 22), .none, .load1 (.t 21)⟩,
  ⟨(some 23), .none, .sslc (.t 22) (some (.c (.int .i64 1))) .none⟩,
  ⟨(some 24), .none, .conv .toBytes (.t 23)⟩,
  ⟨(some 25), .none, .len .slice (.t 24)⟩,
  ⟨(some 26), .none, .mv (.c (.int .i64 0))⟩]
def f_offsets_Parse_r5 : List AOp := [
  ⟨(some 27), .none, .bin .lss .num (.t 26) (.t 25)⟩]
def f_offsets_Parse_r6 : List AOp := [
  ⟨(some 28), .none, .iaddr 1 (.t 24) (.t 26)⟩,
  ⟨(some 29), .none, .load1 (.t 28)⟩,
  ⟨(some 6), .none, .mv (.t 29)⟩]
def f_offsets_Parse_r7 : List AOp := [
  ⟨(some 30), .none, .mv (.t 6)⟩,
  ⟨(some 31), .none, .bin .lss .num (.t 30) (.c (.int .u8 48))⟩,
  ⟨(some 32), .none, .mv (.t 31)⟩,
  ⟨(some 33), (some (32, false)), .mv (.t 6)⟩,
  ⟨(some 34), (some (32, false)), .bin .gtr .num (.t 33) (.c (.int .u8 57))⟩,
  ⟨(some 35), .none, .pick (.t 32) (.c (.bool true)) (.t 34)⟩]
def f_offsets_Parse_r8 : List AOp := [
  ⟨(some 36), .none, .build [(.int .i64 0), (.int .i64 0), (.int .i64 0), (.int .i64 0)] []⟩,
  ⟨.none, .none, .store 4 (.t 2) (.t 36)⟩,
  ⟨(some 3), .none, .mv (.c (.int .i64 6))⟩]
def f_offsets_Parse_c2 : AC := .ret
def f_offsets_Parse_c3 : AC := (.cond (.t 35) (.seq (.reg f_offsets_Parse_r8) f_offsets_Parse_c2) .skip)
def f_offsets_Parse_r9 : List AOp := [
  ⟨(some 37), .none, .faddr 0 (.t 4)⟩,
  ⟨(some 38), .none, .load1 (.t 37)⟩,
  ⟨(some 39), .none, .bin .mul .num (.t 38) (.c (.int .i64 10))⟩,
  ⟨(some 40), .none, .mv (.t 6)⟩,
  ⟨(some 41), .none, .bin .sub .num (.t 40) (.c (.int .u8 48))⟩,
  ⟨(some 42), .none, .conv (.int .i64) (.t 41)⟩,
  ⟨(some 43), .none, .bin .add .num (.t 39) (.t 42)⟩,
  ⟨(some 44), .none, .faddr 0 (.t 4)⟩,
  ⟨.none, .none, .store 1 (.t 44) (.t 43)⟩]
def f_offsets_Parse_c4 : AC := (.reg f_offsets_Parse_r9)
def f_offsets_Parse_c5 : AC := (.seq (.seq (.reg f_offsets_Parse_r7) f_offsets_Parse_c3) f_offsets_Parse_c4)
def f_offsets_Parse_r10 : List AOp := [
  ⟨(some 45), .none, .bin .add .num (.t 26) (.c (.int .i64 1))⟩,
  ⟨(some 26), .none, .mv (.t 45)⟩]
def f_offsets_Parse_c6 : AC := (.reg f_offsets_Parse_r10)
def f_offsets_Parse_c7 : AC := (.seq (.block 1 (.seq (.reg f_offsets_Parse_r6) f_offsets_Parse_c5)) f_offsets_Parse_c6)
def f_offsets_Parse_c8 : AC := (.seq (.cond (.t 27) .skip (.exit 0)) f_offsets_Parse_c7)
def f_offsets_Parse_c9 : AC := (.seq (.reg f_offsets_Parse_r5) f_offsets_Parse_c8)
def f_offsets_Parse_c10 : AC := (.block 0 (.keep 7 [1, 2, 4, 24, 25, 26] (.loop (.keep 7 [1, 2, 4, 24, 25, 26] f_offsets_Parse_c9))))
def f_offsets_Parse_r11 : List AOp := [
  ⟨(some 46), .none, .faddr 1 (.t 1)⟩,
  ⟨(some 47), .none, .load1 (.t 46)⟩,
  ⟨(some 48), .none, .conv .toBytes (.t 47)⟩,
  ⟨(some 49), .none, .call 82 [(.t 48)]⟩,
  ⟨(some 7), .none, .mv (.t 49)⟩]
def f_offsets_Parse_r12 : List AOp := [
  ⟨(some 50), .none, .mv (.t 7)⟩,
  ⟨(some 51), .none, .call 83 [(.t 50)]⟩,
  ⟨(some 52), .none, .mv (.t 7)⟩,
  ⟨(some 53), .none, .call 83 [(.t 52)]⟩,
  ⟨(some 54), .none, .mv (.t 7)⟩,
  ⟨(some 55), .none, .call 83 [(.t 54)]⟩,
  ⟨(some 8), .none, .mv (.t 51)⟩,
  ⟨(some 9), .none, .mv (.t 53)⟩,
  ⟨(some 10), .none, .mv (.t 55)⟩]
def f_offsets_Parse_r13 : List AOp := [
  ⟨(some 56), .none, .mv (.t 7)⟩,
  ⟨(some 57), .none, .call 84 [(.t 56)]⟩,
  ⟨(some 58), .none, .bin .neq .num (.t 57) (.c (.int .i64 0))⟩,
  ⟨(some 59), .none, .mv (.t 58)⟩,
  ⟨(some 60), (some (59, false)), .mv (.t 8)⟩,
  ⟨(some 61), (some (59, false)), .bin .gtr .num (.t 60) (.c (.int .u64 1099511627776))⟩,
  ⟨(some 62), .none, .pick (.t 59) (.c (.bool true)) (.t 61)⟩,
  ⟨(some 63), .none, .mv (.t 62)⟩,
  ⟨(some 64), (some (63, false)), .mv (.t 9)⟩,
  ⟨(some 65), (some (63, false)), .bin .gtr .num (.t 64) (.c (.int .u64 64))⟩,
  ⟨(some 66), .none, .pick (.t 63) (.c (.bool true)) (.t 65)⟩,
  ⟨(some 67), .none, .mv (.t 66)⟩,
  ⟨(some 68), (some (67, false)), .mv (.t 10)⟩,
  ⟨(some 69), (some (67, false)), .bin .gtr .num (.t 68) (.c (.int .u64 2147483647))⟩,
  ⟨(some 70), .none, .pick (.t 67) (.c (.bool true)) (.t 69)⟩]
def f_offsets_Parse_r14 : List AOp := [
  ⟨(some 71), .none, .build [(.int .i64 0), (.int .i64 0), (.int .i64 0), (.int .i64 0)] []⟩,
  ⟨.none, .none, .store 4 (.t 2) (.t 71)⟩,
  ⟨(some 3), .none, .mv (.c (.int .i64 6))⟩]
def f_offsets_Parse_c11 : AC := .ret
def f_offsets_Parse_c12 : AC := (.cond (.t 70) (.seq (.reg f_offsets_Parse_r14) f_offsets_Parse_c11) .skip)
def f_offsets_Parse_r15 : List AOp := [
  ⟨(some 72), .none, .mv (.t 8)⟩,
  ⟨(some 73), .none, .conv (.int .i64) (.t 72)⟩,
  ⟨(some 74), .none, .mv (.t 9)⟩,
  ⟨(some 75), .none, .conv (.int .i64) (.t 74)⟩,
  ⟨(some 76), .none, .mv (.t 10)⟩,
  ⟨(some 77), .none, .conv (.int .i64) (.t 76)⟩,
  ⟨(some 78), .none, .faddr 1 (.t 4)⟩,
  ⟨.none, .none, .store 1 (.t 78) (.t 73)⟩,
  ⟨(some 79), .none, .faddr 2 (.t 4)⟩,
  ⟨.none, .none, .store 1 (.t 79) (.t 75)⟩,
  ⟨(some 80), .none, .faddr 3 (.t 4)⟩,
  ⟨.none, .none, .store 1 (.t 80) (.t 77)⟩]
def f_offsets_Parse_r16 : DR := ⟨[
  ⟨(some 81), .none, .loadn 4 (.t 4)⟩,
  ⟨(some 82), .none, .call 76 [(.t 81)]⟩,
  ⟨(some 83), .none, .un .not (.t 82)⟩,
  ⟨(some 84), .none, .mv (.t 83)⟩,
  ⟨(some 85), (some (84, false)), .faddr 0 (.t 1)⟩,
  ⟨(some 86), (some (84, false)), .load1 (.t 85)⟩,
  ⟨(some 87), (some (84, false)), .faddr 0 (.t 4)⟩,
  ⟨(some 88), (some (84, false)), .load1 (.t 87)⟩,
  ⟨(some 89), (some (84, false)), .call 79 [(.t 88)]⟩,
  ⟨(some 90), (some (84, false)), .bin .neq .str (.t 86) (.t 89)⟩,
  ⟨(some 91), .none, .pick (.t 84) (.c (.bool true)) (.t 90)⟩],
  [0, 1, 3, 7, 15, 31, 15, 79, 207, 511, 1023], [0, 1, 2, 3, 4, 5, 6, 7, 8, 9, 10], [(5, 2)], .none⟩
def f_offsets_Parse_r17 : List AOp := [
  ⟨(some 92), .none, .build [(.int .i64 0), (.int .i64 0), (.int .i64 0), (.int .i64 0)] []⟩,
  ⟨.none, .none, .store 4 (.t 2) (.t 92)⟩,
  ⟨(some 3), .none, .mv (.c (.int .i64 6))⟩]
def f_offsets_Parse_c13 : AC := .ret
def f_offsets_Parse_c14 : AC := (.cond (.t 91) (.seq (.reg f_offsets_Parse_r17) f_offsets_Parse_c13) .skip)
def f_offsets_Parse_r18 : List AOp := [
  ⟨(some 93), .none, .loadn 4 (.t 4)⟩,
  ⟨.none, .none, .store 4 (.t 2) (.t 93)⟩,
  ⟨(some 3), .none, .mv (.c (.int .i64 0))⟩]
def f_offsets_Parse_c15 : AC := .ret
def f_offsets_Parse_c16 : AC := (.seq (.reg f_offsets_Parse_r18) f_offsets_Parse_c15)
def f_offsets_Parse_c17 : AC := (.seq (.seq (.dreg f_offsets_Parse_r16) f_offsets_Parse_c14) f_offsets_Parse_c16)
def f_offsets_Parse_c18 : AC := (.seq (.reg f_offsets_Parse_r15) f_offsets_Parse_c17)
def f_offsets_Parse_c19 : AC := (.seq (.seq (.reg f_offsets_Parse_r13) f_offsets_Parse_c12) f_offsets_Parse_c18)
def f_offsets_Parse_c20 : AC := (.seq (.reg f_offsets_Parse_r12) f_offsets_Parse_c19)
def f_offsets_Parse_c21 : AC := (.seq (.reg f_offsets_Parse_r11) f_offsets_Parse_c20)
def f_offsets_Parse_c22 : AC := (.seq (.seq (.reg f_offsets_Parse_r4) f_offsets_Parse_c10) f_offsets_Parse_c21)
def f_offsets_Parse_c23 : AC := (.seq (.reg f_offsets_Parse_r3) f_offsets_Parse_c22)
def f_offsets_Parse_c24 : AC := (.seq (.seq (.reg f_offsets_Parse_r1) f_offsets_Parse_c1) f_offsets_Parse_c23)
def f_offsets_Parse : AF := ⟨94, [.celln 2 4, .tmp 3], (.seq (.reg f_offsets_Parse_r0) f_offsets_Parse_c24)⟩
/- towpathlaw14_plain -/
def f_towpathlaw14_plain_r0 : List AOp := [
  ⟨(some 1), .none, .box (.t 0)⟩,
  ⟨(some 2), .none, .alloc [(.int .i64 0), (.int .i64 0), (.int .i64 0), (.int .i64 0)]⟩]
def f_towpathlaw14_plain_r1 : List AOp := [
  ⟨(some 3), .none, .faddr 0 (.t 1)⟩,
  ⟨(some 4), .none, .load1 (.t 3)⟩,
  ⟨(some 5), .none, .faddr 1 (.t 1)⟩,
  ⟨(some 6), .none, .load1 (.t 5)⟩,
  ⟨(some 7), .none, .faddr 2 (.t 1)⟩,
  ⟨(some 8), .none, .load1 (.t 7)⟩,
  ⟨(some 9), .none, .faddr 3 (.t 1)⟩,
  ⟨(some 10), .none, .load1 (.t 9)⟩,
  ⟨(some 11), .none, .build [(.int .i64 0), (.int .i64 0), (.int .i64 0), (.int .i64 0)] [(0, 1, (.t 4)), (1, 1, (.t 6)), (2, 1, (.t 8)), (3, 1, (.t 10))]⟩,
  ⟨.none, .none, .store 4 (.t 2) (.t 11)⟩]
def f_towpathlaw14_plain_c0 : AC := .ret
def f_towpathlaw14_plain_c1 : AC := (.seq (.reg f_towpathlaw14_plain_r1) f_towpathlaw14_plain_c0)
def f_towpathlaw14_plain : AF := ⟨12, [.celln 2 4], (.seq (.reg f_towpathlaw14_plain_r0) f_towpathlaw14_plain_c1)⟩
/- towpathref14_Parse -/
def f_towpathref14_Parse_r0 : List AOp := [
  ⟨(some 1), .none, .box (.t 0)⟩,
  ⟨(some 2), .none, .alloc [(.int .i64 0), (.int .i64 0), (.int .i64 0), (.int .i64 0)]⟩,
  ⟨(some 3), .none, .mv (.c (.int .i64 0))⟩]
def f_towpathref14_Parse_r1 : List AOp := [
  ⟨(some 12), .none, .faddr 1 (.t 1)⟩,
  ⟨(some 13), .none, .load1 (.t 12)⟩,
  ⟨(some 14), .none, .conv .toBytes (.t 13)⟩,
  ⟨(some 15), .none, .build [.nils, (.int .i64 0), (.int .i64 0)] [(0, 1, (.t 14))]⟩,
  ⟨(some 16), .none, .box (.t 15)⟩,
  ⟨(some 4), .none, .mv (.t 16)⟩]
def f_towpathref14_Parse_r2 : List AOp := [
  ⟨(some 17), .none, .mv (.t 4)⟩,
  ⟨(some 18), .none, .call 85 [(.t 17)]⟩,
  ⟨(some 5), .none, .mv (.t 18)⟩]
def f_towpathref14_Parse_r3 : List AOp := [
  ⟨(some 19), .none, .mv (.t 4)⟩,
  ⟨(some 20), .none, .call 85 [(.t 19)]⟩,
  ⟨(some 6), .none, .mv (.t 20)⟩]
def f_towpathref14_Parse_r4 : List AOp := [
  ⟨(some 21), .none, .mv (.t 4)⟩,
  ⟨(some 22), .none, .call 85 [(.t 21)]⟩,
  ⟨(some 7), .none, .mv (.t 22)⟩]
def f_towpathref14_Parse_r5 : List AOp := [
  ⟨(some 23), .none, .mv (.t 5)⟩,
  ⟨(some 24), .none, .bin .gtr .num (.t 23) (.c (.int .u64 2199023255552))⟩,
  ⟨(some 25), .none, .mv (.t 24)⟩,
  ⟨(some 26), (some (25, false)), .mv (.t 6)⟩,
  ⟨(some 27), (some (25, false)), .bin .gtr .num (.t 26) (.c (.int .u64 1000))⟩,
  ⟨(some 28), .none, .pick (.t 25) (.c (.bool true)) (.t 27)⟩,
  ⟨(some 29), .none, .mv (.t 28)⟩,
  ⟨(some 30), (some (29, false)), .mv (.t 7)⟩,
  ⟨(some 31), (some (29, false)), .bin .gtr .num (.t 30) (.c (.int .u64 1099511627776))⟩,
  ⟨(some 32), .none, .pick (.t 29) (.c (.bool true)) (.t 31)⟩]
def f_towpathref14_Parse_r6 : List AOp := [
  ⟨(some 33), .none, .build [(.int .i64 0), (.int .i64 0), (.int .i64 0), (.int .i64 0)] []⟩,
  ⟨.none, .none, .store 4 (.t 2) (.t 33)⟩,
  ⟨(some 3), .none, .mv (.c (.int .i64 6))⟩]
def f_towpathref14_Parse_c0 : AC := .ret
def f_towpathref14_Parse_c1 : AC := (.cond (.t 32) (.seq (.reg f_towpathref14_Parse_r6) f_towpathref14_Parse_c0) .skip)
def f_towpathref14_Parse_r7 : List AOp := [
  ⟨(some 8), .none, .mv (.c (.int .i64 0))⟩]
def f_towpathref14_Parse_r8 : List AOp := [
  ⟨(some 34), .none, .mv (.t 8)⟩,
  ⟨(some 35), .none, .bin .leq .num (.t 34) (.c (.int .i64 255))⟩]
def f_towpathref14_Parse_c2 : AC := (.cond (.t 35) .skip (.exit 0))
def f_towpathref14_Parse_r10 : List AOp := [
  ⟨(some 38), .none, .mv (.t 8)⟩,
  ⟨(some 39), .none, .mv (.t 5)⟩,
  ⟨(some 40), .none, .conv (.int .i64) (.t 39)⟩,
  ⟨(some 41), .none, .mv (.t 6)⟩,
  ⟨(some 42), .none, .conv (.int .i64) (.t 41)⟩,
  ⟨(some 43), .none, .mv (.t 7)⟩,
  ⟨(some 44), .none, .conv (.int .i64) (.t 43)⟩,
  ⟨(some 45), .none, .build [(.int .i64 0), (.int .i64 0), (.int .i64 0), (.int .i64 0)] [(0, 1, (.t 38)), (1, 1, (.t 40)), (2, 1, (.t 42)), (3, 1, (.t 44))]⟩,
  ⟨(some 9), .none, .alloc [(.int .i64 0), (.int .i64 0), (.int .i64 0), (.int .i64 0)]⟩,
  ⟨.none, .none, .store 4 (.t 9) (.t 45)⟩]
def f_towpathref14_Parse_r11 : List AOp := [
  ⟨(some 47), .none, .loadn 4 (.t 9)⟩,
  ⟨(some 48), .none, .call 17 [(.t 47), (.c (.int .i64 0))]⟩,
  ⟨(some 46), .none, .mv (.t 48)⟩,
  ⟨(some 49), .none, .ext (.t 46) 0⟩,
  ⟨(some 50), .none, .ext (.t 46) 1⟩,
  ⟨(some 10), .none, .alloc [(.str []), (.str []), (.bool false), (.int .i64 0)]⟩,
  ⟨.none, .none, .store 4 (.t 10) (.t 49)⟩,
  ⟨(some 11), .none, .mv (.t 50)⟩]
def f_towpathref14_Parse_r12 : List AOp := [
  ⟨(some 51), .none, .mv (.t 11)⟩,
  ⟨(some 52), .none, .bin .eql .num (.t 51) (.c (.int .i64 0))⟩,
  ⟨(some 53), .none, .mv (.t 52)⟩,
  ⟨(some 54), (some (53, true)), .faddr 0 (.t 10)⟩,
  ⟨(some 55), (some (53, true)), .load1 (.t 54)⟩,
  ⟨(some 56), (some (53, true)), .faddr 0 (.t 1)⟩,
  ⟨(some 57), (some (53, true)), .load1 (.t 56)⟩,
  ⟨(some 58), (some (53, true)), .bin .eql .str (.t 55) (.t 57)⟩,
  ⟨(some 59), .none, .pick (.t 53) (.t 58) (.c (.bool false))⟩,
  ⟨(some 60), .none, .mv (.t 59)⟩,
  ⟨(some 61), (some (60, true)), .faddr 1 (.t 10)⟩,
  ⟨(some 62), (some (60, true)), .load1 (.t 61)⟩,
  ⟨(some 63), (some (60, true)), .faddr 1 (.t 1)⟩,
  ⟨(some 64), (some (60, true)), .load1 (.t 63)⟩,
  ⟨(some 65), (some (60, true)), .bin .eql .str (.t 62) (.t 64)⟩,
  ⟨(some 66), .none, .pick (.t 60) (.t 65) (.c (.bool false))⟩,
  ⟨(some 67), .none, .mv (.t 66)⟩,
  ⟨(some 68), (some (67, true)), .faddr 2 (.t 1)⟩,
  ⟨(some 69), (some (67, true)), .load1 (.t 68)⟩,
  ⟨(some 70), (some (67, true)), .un .not (.t 69)⟩,
  ⟨(some 71), .none, .pick (.t 67) (.t 70) (.c (.bool false))⟩]
def f_towpathref14_Parse_r13 : List AOp := [
  ⟨(some 72), .none, .loadn 4 (.t 9)⟩,
  ⟨.none, .none, .store 4 (.t 2) (.t 72)⟩,
  ⟨(some 3), .none, .mv (.c (.int .i64 0))⟩]
def f_towpathref14_Parse_c3 : AC := .ret
def f_towpathref14_Parse_c4 : AC := (.cond (.t 71) (.seq (.reg f_towpathref14_Parse_r13) f_towpathref14_Parse_c3) .skip)
def f_towpathref14_Parse_c5 : AC := (.seq (.reg f_towpathref14_Parse_r12) f_towpathref14_Parse_c4)
def f_towpathref14_Parse_c6 : AC := (.seq (.reg f_towpathref14_Parse_r11) f_towpathref14_Parse_c5)
def f_towpathref14_Parse_r9 : List AOp := [
  ⟨(some 36), .none, .mv (.t 8)⟩,
  ⟨(some 37), .none, .bin .add .num (.t 36) (.c (.int .i64 1))⟩,
  ⟨(some 8), .none, .mv (.t 37)⟩]
def f_towpathref14_Parse_c7 : AC := (.reg f_towpathref14_Parse_r9)
def f_towpathref14_Parse_c8 : AC := (.seq (.block 1 (.seq (.reg f_towpathref14_Parse_r10) f_towpathref14_Parse_c6)) f_towpathref14_Parse_c7)
def f_towpathref14_Parse_c9 : AC := (.seq (.seq (.reg f_towpathref14_Parse_r8) f_towpathref14_Parse_c2) f_towpathref14_Parse_c8)
def f_towpathref14_Parse_c10 : AC := (.block 0 (.keep 7 [1, 2, 5, 6, 7, 8] (.loop (.keep 7 [1, 2, 5, 6, 7, 8] f_towpathref14_Parse_c9))))
def f_towpathref14_Parse_r14 : List AOp := [
  ⟨(some 73), .none, .build [(.int .i64 0), (.int .i64 0), (.int .i64 0), (.int .i64 0)] []⟩,
  ⟨.none, .none, .store 4 (.t 2) (.t 73)⟩,
  ⟨(some 3), .none, .mv (.c (.int .i64 6))⟩]
def f_towpathref14_Parse_c11 : AC := .ret
def f_towpathref14_Parse_c12 : AC := (.seq (.reg f_towpathref14_Parse_r14) f_towpathref14_Parse_c11)
def f_towpathref14_Parse_c13 : AC := (.seq (.seq (.reg f_towpathref14_Parse_r7) f_towpathref14_Parse_c10) f_towpathref14_Parse_c12)
def f_towpathref14_Parse_c14 : AC := (.seq (.seq (.reg f_towpathref14_Parse_r5) f_towpathref14_Parse_c1) f_towpathref14_Parse_c13)
def f_towpathref14_Parse_c15 : AC := (.seq (.reg f_towpathref14_Parse_r4) f_towpathref14_Parse_c14)
def f_towpathref14_Parse_c16 : AC := (.seq (.reg f_towpathref14_Parse_r3) f_towpathref14_Parse_c15)
def f_towpathref14_Parse_c17 : AC := (.seq (.reg f_towpathref14_Parse_r2) f_towpathref14_Parse_c16)
def f_towpathref14_Parse_c18 : AC := (.seq (.reg f_towpathref14_Parse_r1) f_towpathref14_Parse_c17)
def f_towpathref14_Parse : AF := ⟨74, [.celln 2 4, .tmp 3], (.seq (.reg f_towpathref14_Parse_r0) f_towpathref14_Parse_c18)⟩
/- towpathlaw14_awake -/
def f_towpathlaw14_awake_r0 : List AOp := [
  ⟨(some 0), .none, .mv (.c (.bool false))⟩]
def f_towpathlaw14_awake_r1 : List AOp := [
  ⟨(some 17), .none, .build [(.int .i64 0), (.int .i64 0), (.int .i64 0), (.int .i64 0)] [(0, 1, (.c (.int .i64 7))), (1, 1, (.c (.int .i64 300))), (2, 1, (.c (.int .i64 2))), (3, 1, (.c (.int .i64 5)))]⟩,
  ⟨(some 1), .none, .alloc [(.int .i64 0), (.int .i64 0), (.int .i64 0), (.int .i64 0)]⟩,
  ⟨.none, .none, .store 4 (.t 1) (.t 17)⟩]
def f_towpathlaw14_awake_r2 : List AOp := [
  ⟨(some 19), .none, .loadn 4 (.t 1)⟩,
  ⟨(some 20), .none, .call 15 [(.t 19), (.c (.int .i64 9))]⟩,
  ⟨(some 18), .none, .mv (.t 20)⟩,
  ⟨(some 21), .none, .ext (.t 18) 0⟩,
  ⟨(some 22), .none, .ext (.t 18) 1⟩,
  ⟨(some 2), .none, .alloc [(.str []), (.str []), (.bool false), (.int .i64 0)]⟩,
  ⟨.none, .none, .store 4 (.t 2) (.t 21)⟩,
  ⟨(some 3), .none, .mv (.t 22)⟩]
def f_towpathlaw14_awake_r3 : List AOp := [
  ⟨(some 24), .none, .call 9 [(.c (.int .i64 65536))]⟩,
  ⟨(some 23), .none, .mv (.t 24)⟩,
  ⟨(some 25), .none, .ext (.t 23) 0⟩,
  ⟨(some 26), .none, .ext (.t 23) 1⟩,
  ⟨(some 4), .none, .mv (.t 25)⟩,
  ⟨(some 5), .none, .mv (.t 26)⟩]
def f_towpathlaw14_awake_r4 : List AOp := [
  ⟨(some 28), .none, .mv (.t 4)⟩,
  ⟨(some 29), .none, .call 87 [(.c (.int .i64 0))]⟩,
  ⟨(some 30), .none, .call 86 [(.t 28), (.c (.str [111])), (.t 29)]⟩,
  ⟨(some 27), .none, .mv (.t 30)⟩,
  ⟨(some 31), .none, .ext (.t 27) 0⟩,
  ⟨(some 32), .none, .ext (.t 27) 1⟩,
  ⟨(some 6), .none, .mv (.t 31)⟩,
  ⟨(some 7), .none, .mv (.t 32)⟩]
def f_towpathlaw14_awake_r5 : List AOp := [
  ⟨(some 33), .none, .mv (.t 3)⟩,
  ⟨(some 34), .none, .bin .neq .num (.t 33) (.c (.int .i64 0))⟩,
  ⟨(some 35), .none, .mv (.t 34)⟩,
  ⟨(some 36), (some (35, false)), .faddr 0 (.t 2)⟩,
  ⟨(some 37), (some (35, false)), .load1 (.t 36)⟩,
  ⟨(some 38), (some (35, false)), .bin .neq .str (.t 37) (.c (.str [111, 48, 48, 55]))⟩,
  ⟨(some 39), .none, .pick (.t 35) (.c (.bool true)) (.t 38)⟩,
  ⟨(some 40), .none, .mv (.t 39)⟩,
  ⟨(some 41), (some (40, false)), .faddr 1 (.t 2)⟩,
  ⟨(some 42), (some (40, false)), .load1 (.t 41)⟩,
  ⟨(some 43), (some (40, false)), .bin .neq .str (.t 42) (.c (.str [172, 2, 2, 5]))⟩,
  ⟨(some 44), .none, .pick (.t 40) (.c (.bool true)) (.t 43)⟩,
  ⟨(some 45), .none, .mv (.t 44)⟩,
  ⟨(some 46), (some (45, false)), .mv (.t 7)⟩,
  ⟨(some 47), (some (45, false)), .bin .neq .num (.t 46) (.c (.int .i64 0))⟩,
  ⟨(some 48), .none, .pick (.t 45) (.c (.bool true)) (.t 47)⟩,
  ⟨(some 49), .none, .mv (.t 48)⟩,
  ⟨(some 50), (some (49, false)), .mv (.t 6)⟩,
  ⟨(some 51), (some (49, false)), .bin .eql .ptr (.t 50) (.c .nilp)⟩,
  ⟨(some 52), .none, .pick (.t 49) (.c (.bool true)) (.t 51)⟩]
def f_towpathlaw14_awake_r6 : List AOp := [
  ⟨(some 0), .none, .mv (.c (.bool false))⟩]
def f_towpathlaw14_awake_c0 : AC := .ret
def f_towpathlaw14_awake_c1 : AC := (.cond (.t 52) (.seq (.reg f_towpathlaw14_awake_r6) f_towpathlaw14_awake_c0) .skip)
def f_towpathlaw14_awake_r7 : List AOp := [
  ⟨(some 54), .none, .mv (.t 6)⟩,
  ⟨(some 55), .none, .loadn 4 (.t 1)⟩,
  ⟨(some 56), .none, .bsl false 4 1 [(.int .i64 0), (.int .i64 0), (.int .i64 0), (.int .i64 0)] [(0, 4, (.t 55))]⟩,
  ⟨(some 57), .none, .call 53 [(.t 54), (.c (.int .i64 3)), (.c (.int .i64 0)), (.c (.int .i64 0)), (.c (.int .i64 9)), (.t 56)]⟩,
  ⟨(some 53), .none, .mv (.t 57)⟩,
  ⟨(some 58), .none, .ext (.t 53) 0⟩,
  ⟨(some 59), .none, .ext (.t 53) 1⟩,
  ⟨(some 8), .none, .mv (.t 58)⟩,
  ⟨(some 9), .none, .mv (.t 59)⟩]
def f_towpathlaw14_awake_r8 : List AOp := [
  ⟨(some 61), .none, .mv (.t 6)⟩,
  ⟨(some 62), .none, .call 56 [(.t 61), (.c (.int .i64 7))]⟩,
  ⟨(some 60), .none, .mv (.t 62)⟩,
  ⟨(some 63), .none, .ext (.t 60) 0⟩,
  ⟨(some 64), .none, .ext (.t 60) 1⟩,
  ⟨(some 10), .none, .alloc [(.int .i64 0), (.int .i64 0), (.int .i64 0), (.int .i64 0)]⟩,
  ⟨.none, .none, .store 4 (.t 10) (.t 63)⟩,
  ⟨(some 11), .none, .mv (.t 64)⟩]
def f_towpathlaw14_awake_r9 : List AOp := [
  ⟨(some 65), .none, .mv (.t 6)⟩,
  ⟨(some 66), .none, .call 58 [(.t 65)]⟩,
  ⟨(some 12), .none, .mv (.t 66)⟩]
def f_towpathlaw14_awake_r10 : List AOp := [
  ⟨(some 68), .none, .mv (.t 6)⟩,
  ⟨(some 69), .none, .call 54 [(.t 68), (.c (.int .i64 3)), (.c (.int .i64 0)), (.c (.bool true)), (.c (.int .i64 9))]⟩,
  ⟨(some 67), .none, .mv (.t 69)⟩,
  ⟨(some 70), .none, .ext (.t 67) 0⟩,
  ⟨(some 71), .none, .ext (.t 67) 1⟩,
  ⟨(some 13), .none, .mv (.t 70)⟩,
  ⟨(some 14), .none, .mv (.t 71)⟩]
def f_towpathlaw14_awake_r11 : List AOp := [
  ⟨(some 73), .none, .mv (.t 6)⟩,
  ⟨(some 74), .none, .call 56 [(.t 73), (.c (.int .i64 7))]⟩,
  ⟨(some 72), .none, .mv (.t 74)⟩,
  ⟨(some 75), .none, .ext (.t 72) 0⟩,
  ⟨(some 76), .none, .ext (.t 72) 1⟩,
  ⟨(some 15), .none, .alloc [(.int .i64 0), (.int .i64 0), (.int .i64 0), (.int .i64 0)]⟩,
  ⟨.none, .none, .store 4 (.t 15) (.t 75)⟩,
  ⟨(some 16), .none, .mv (.t 76)⟩]
def f_towpathlaw14_awake_r12 : List AOp := [
  ⟨(some 77), .none, .mv (.t 8)⟩,
  ⟨(some 78), .none, .un .not (.t 77)⟩,
  ⟨(some 79), .none, .mv (.t 78)⟩,
  ⟨(some 80), (some (79, true)), .mv (.t 9)⟩,
  ⟨(some 81), (some (79, true)), .bin .eql .num (.t 80) (.c (.int .i64 0))⟩,
  ⟨(some 82), .none, .pick (.t 79) (.t 81) (.c (.bool false))⟩,
  ⟨(some 83), .none, .mv (.t 82)⟩,
  ⟨(some 84), (some (83, true)), .mv (.t 11)⟩,
  ⟨(some 85), (some (83, true)), .un .not (.t 84)⟩,
  ⟨(some 86), .none, .pick (.t 83) (.t 85) (.c (.bool false))⟩,
  ⟨(some 87), .none, .mv (.t 86)⟩,
  ⟨(some 88), (some (87, true)), .mv (.t 12)⟩,
  ⟨(some 89), (some (87, true)), .len .slice (.t 88)⟩,
  ⟨(some 90), (some (87, true)), .bin .eql .num (.t 89) (.c (.int .i64 1))⟩,
  ⟨(some 91), .none, .pick (.t 87) (.t 90) (.c (.bool false))⟩,
  ⟨(some 92), .none, .mv (.t 91)⟩,
  ⟨(some 93), (some (92, true)), .mv (.t 12)⟩,
  ⟨(some 94), (some (92, true)), .iaddr 6 (.t 93) (.c (.int .i64 0))⟩,
  ⟨(some 95), (some (92, true)), .faddr 2 (.t 94)⟩,
  ⟨(some 96), (some (92, true)), .faddr 1 (.t 95)⟩,
  ⟨(some 97), (some (92, true)), .load1 (.t 96)⟩,
  ⟨(some 98), (some (92, true)), .bin .eql .num (.t 97) (.c (.int .i64 300))⟩,
  ⟨(some 99), .none, .pick (.t 92) (.t 98) (.c (.bool false))⟩,
  ⟨(some 100), .none, .mv (.t 99)⟩,
  ⟨(some 101), (some (100, true)), .mv (.t 14)⟩,
  ⟨(some 102), (some (100, true)), .bin .eql .num (.t 101) (.c (.int .i64 0))⟩,
  ⟨(some 103), .none, .pick (.t 100) (.t 102) (.c (.bool false))⟩,
  ⟨(some 104), .none, .mv (.t 103)⟩,
  ⟨(some 105), (some (104, true)), .mv (.t 16)⟩,
  ⟨(some 106), .none, .pick (.t 104) (.t 105) (.c (.bool false))⟩,
  ⟨(some 107), .none, .mv (.t 106)⟩,
  ⟨(some 108), (some (107, true)), .loadn 4 (.t 15)⟩,
  ⟨(some 109), (some (107, true)), .loadn 4 (.t 1)⟩,
  ⟨(some 110), (some (107, true)), .bin .eql (.agg [.num, .num, .num, .num]) (.t 108) (.t 109)⟩,
  ⟨(some 111), .none, .pick (.t 107) (.t 110) (.c (.bool false))⟩,
  ⟨(some 0), .none, .mv (.t 111)⟩]
def f_towpathlaw14_awake_c2 : AC := .ret
def f_towpathlaw14_awake_c3 : AC := (.seq (.reg f_towpathlaw14_awake_r12) f_towpathlaw14_awake_c2)
def f_towpathlaw14_awake_c4 : AC := (.seq (.reg f_towpathlaw14_awake_r11) f_towpathlaw14_awake_c3)
def f_towpathlaw14_awake_c5 : AC := (.seq (.reg f_towpathlaw14_awake_r10) f_towpathlaw14_awake_c4)
def f_towpathlaw14_awake_c6 : AC := (.seq (.reg f_towpathlaw14_awake_r9) f_towpathlaw14_awake_c5)
def f_towpathlaw14_awake_c7 : AC := (.seq (.reg f_towpathlaw14_awake_r8) f_towpathlaw14_awake_c6)
def f_towpathlaw14_awake_c8 : AC := (.seq (.reg f_towpathlaw14_awake_r7) f_towpathlaw14_awake_c7)
def f_towpathlaw14_awake_c9 : AC := (.seq (.seq (.reg f_towpathlaw14_awake_r5) f_towpathlaw14_awake_c1) f_towpathlaw14_awake_c8)
def f_towpathlaw14_awake_c10 : AC := (.seq (.reg f_towpathlaw14_awake_r4) f_towpathlaw14_awake_c9)
def f_towpathlaw14_awake_c11 : AC := (.seq (.reg f_towpathlaw14_awake_r3) f_towpathlaw14_awake_c10)
def f_towpathlaw14_awake_c12 : AC := (.seq (.reg f_towpathlaw14_awake_r2) f_towpathlaw14_awake_c11)
def f_towpathlaw14_awake_c13 : AC := (.seq (.reg f_towpathlaw14_awake_r1) f_towpathlaw14_awake_c12)
def f_towpathlaw14_awake : AF := ⟨112, [.tmp 0], (.seq (.reg f_towpathlaw14_awake_r0) f_towpathlaw14_awake_c13)⟩
/- part_Part_Append -/
def f_part_Part_Append_r0 : List AOp := [
  ⟨(some 3), .none, .box (.t 1)⟩,
  ⟨(some 4), .none, .mv (.c (.int .i64 0))⟩,
  ⟨(some 5), .none, .mv (.c (.bool false))⟩,
  ⟨(some 6), .none, .mv (.c (.int .i64 0))⟩]
def f_part_Part_Append_r1 : List AOp := [
  ⟨(some 8), .none, .mv (.t 0)⟩,
  ⟨(some 9), .none, .bin .eql .ptr (.t 8) (.c .nilp)⟩,
  ⟨(some 7), .none, .mv (.t 9)⟩]
def f_part_Part_Append_r2 : List AOp := [
  ⟨(some 4), .none, .mv (.c (.int .i64 0))⟩,
  ⟨(some 5), .none, .mv (.c (.bool false))⟩,
  ⟨(some 6), .none, .mv (.c (.int .i64 1))⟩]
def f_part_Part_Append_c0 : AC := .ret
def f_part_Part_Append_r3 : List AOp := [
  ⟨(some 11), .none, .loadn 7 (.t 3)⟩,
  ⟨(some 12), .none, .call 88 [(.t 11)]⟩,
  ⟨(some 10), .none, .mv (.t 12)⟩]
def f_part_Part_Append_r4 : List AOp := [
  ⟨(some 4), .none, .mv (.c (.int .i64 0))⟩,
  ⟨(some 5), .none, .mv (.c (.bool false))⟩,
  ⟨(some 6), .none, .mv (.c (.int .i64 2))⟩]
def f_part_Part_Append_c1 : AC := .ret
def f_part_Part_Append_c2 : AC := (.cond (.t 10) (.seq (.reg f_part_Part_Append_r4) f_part_Part_Append_c1) .skip)
def f_part_Part_Append_c3 : AC := (.cond (.t 7) (.seq (.reg f_part_Part_Append_r2) f_part_Part_Append_c0) (.seq (.reg f_part_Part_Append_r3) f_part_Part_Append_c2))
def f_part_Part_Append_r5 : List AOp := [
  ⟨(some 13), .none, .mv (.t 0)⟩,
  ⟨(some 14), .none, .loadn 7 (.t 3)⟩,
  ⟨(some 15), .none, .call 89 [(.t 13), (.t 14)]⟩,
  ⟨(some 16), .none, .ext (.t 15) 0⟩,
  ⟨(some 17), .none, .ext (.t 15) 1⟩,
  ⟨(some 18), .none, .ext (.t 15) 2⟩,
  ⟨(some 4), .none, .mv (.t 16)⟩,
  ⟨(some 5), .none, .mv (.t 17)⟩,
  ⟨(some 6), .none, .mv (.t 18)⟩]
def f_part_Part_Append_c4 : AC := .ret
def f_part_Part_Append_c5 : AC := (.seq (.reg f_part_Part_Append_r5) f_part_Part_Append_c4)
def f_part_Part_Append_c6 : AC := (.seq (.block 0 (.seq (.reg f_part_Part_Append_r1) f_part_Part_Append_c3)) f_part_Part_Append_c5)
def f_part_Part_Append : AF := ⟨19, [.tmp 4, .tmp 5, .tmp 6], (.seq (.reg f_part_Part_Append_r0) f_part_Part_Append_c6)⟩
/- part_Part_Mark -/
def f_part_Part_Mark_r0 : List AOp := [
  ⟨(some 10), .none, .mv (.c (.int .i64 0))⟩,
  ⟨(some 11), .none, .mv (.c (.bool false))⟩,
  ⟨(some 12), .none, .mv (.c (.int .i64 0))⟩]
def f_part_Part_Mark_r1 : List AOp := [
  ⟨(some 13), .none, .mv (.t 0)⟩,
  ⟨(some 14), .none, .bin .eql .ptr (.t 13) (.c .nilp)⟩]
def f_part_Part_Mark_r2 : List AOp := [
  ⟨(some 10), .none, .mv (.c (.int .i64 0))⟩,
  ⟨(some 11), .none, .mv (.c (.bool false))⟩,
  ⟨(some 12), .none, .mv (.c (.int .i64 1))⟩]
def f_part_Part_Mark_c0 : AC := .ret
def f_part_Part_Mark_c1 : AC := (.cond (.t 14) (.seq (.reg f_part_Part_Mark_r2) f_part_Part_Mark_c0) .skip)
def f_part_Part_Mark_r3 : List AOp := [
  ⟨(some 15), .none, .mv (.t 0)⟩,
  ⟨(some 16), .none, .mv (.t 1)⟩,
  ⟨(some 17), .none, .mv (.t 2)⟩,
  ⟨(some 18), .none, .mv (.t 3)⟩,
  ⟨(some 19), .none, .mv (.t 4)⟩,
  ⟨(some 20), .none, .call 90 [(.t 16), (.t 17), (.t 18), (.t 19)]⟩,
  ⟨(some 21), .none, .call 89 [(.t 15), (.t 20)]⟩,
  ⟨(some 22), .none, .ext (.t 21) 0⟩,
  ⟨(some 23), .none, .ext (.t 21) 1⟩,
  ⟨(some 24), .none, .ext (.t 21) 2⟩,
  ⟨(some 10), .none, .mv (.t 22)⟩,
  ⟨(some 11), .none, .mv (.t 23)⟩,
  ⟨(some 12), .none, .mv (.t 24)⟩]
def f_part_Part_Mark_c2 : AC := .ret
def f_part_Part_Mark_c3 : AC := (.seq (.reg f_part_Part_Mark_r3) f_part_Part_Mark_c2)
def f_part_Part_Mark_c4 : AC := (.seq (.seq (.reg f_part_Part_Mark_r1) f_part_Part_Mark_c1) f_part_Part_Mark_c3)
def f_part_Part_Mark : AF := ⟨25, [.tmp 10, .tmp 11, .tmp 12], (.seq (.reg f_part_Part_Mark_r0) f_part_Part_Mark_c4)⟩
/- part_Part_Read -/
def f_part_Part_Read_r0 : List AOp := [
  ⟨(some 8), .none, .mv (.c .nils)⟩,
  ⟨(some 9), .none, .mv (.c (.int .i64 0))⟩,
  ⟨(some 10), .none, .mv (.c (.int .i64 0))⟩]
def f_part_Part_Read_r1 : List AOp := [
  ⟨(some 17), .none, .mv (.t 0)⟩,
  ⟨(some 18), .none, .bin .eql .ptr (.t 17) (.c .nilp)⟩]
def f_part_Part_Read_r2 : List AOp := [
  ⟨(some 8), .none, .mv (.c .nils)⟩,
  ⟨(some 9), .none, .mv (.c (.int .i64 0))⟩,
  ⟨(some 10), .none, .mv (.c (.int .i64 1))⟩]
def f_part_Part_Read_c0 : AC := .ret
def f_part_Part_Read_c1 : AC := (.cond (.t 18) (.seq (.reg f_part_Part_Read_r2) f_part_Part_Read_c0) .skip)
def f_part_Part_Read_r3 : List AOp := [
  ⟨(some 20), .none, .mv (.t 0)⟩,
  ⟨(some 21), .none, .nilck (.t 20)⟩,
  ⟨(some 22), .none, .faddr 0 (.t 21)⟩,
  ⟨(some 23), .none, .faddr 0 (.t 22)⟩,
  ⟨(some 24), .none, .load1 (.t 23)⟩,
  ⟨(some 25), .none, .mv (.t 1)⟩,
  ⟨(some 26), .none, .mv (.t 2)⟩,
  ⟨(some 27), .none, .call 92 [(.t 24), (.t 25), (.t 26)]⟩,
  ⟨(some 19), .none, .mv (.t 27)⟩,
  ⟨(some 28), .none, .ext (.t 19) 0⟩,
  ⟨(some 29), .none, .ext (.t 19) 1⟩,
  ⟨(some 11), .none, .mv (.t 28)⟩,
  ⟨(some 12), .none, .mv (.t 29)⟩]
def f_part_Part_Read_r4 : List AOp := [
  ⟨(some 30), .none, .mv (.t 12)⟩,
  ⟨(some 31), .none, .bin .neq .num (.t 30) (.c (.int .i64 0))⟩]
def f_part_Part_Read_r5 : List AOp := [
  ⟨(some 32), .none, .mv (.t 12)⟩,
  ⟨(some 8), .none, .mv (.c .nils)⟩,
  ⟨(some 9), .none, .mv (.c (.int .i64 0))⟩,
  ⟨(some 10), .none, .mv (.t 32)⟩]
def f_part_Part_Read_c2 : AC := .ret
def f_part_Part_Read_c3 : AC := (.cond (.t 31) (.seq (.reg f_part_Part_Read_r5) f_part_Part_Read_c2) .skip)
def f_part_Part_Read_r6 : List AOp := [
  ⟨(some 13), .none, .mv (.c .nils)⟩]
def f_part_Part_Read_r7 : List AOp := [
  ⟨(some 33), .none, .mv (.t 1)⟩,
  ⟨(some 14), .none, .mv (.t 33)⟩]
def f_part_Part_Read_r8 : List AOp := [
  ⟨(some 34), .none, .mv (.t 11)⟩,
  ⟨(some 35), .none, .len .slice (.t 34)⟩,
  ⟨(some 36), .none, .mv (.c (.int .i64 0))⟩]
def f_part_Part_Read_r9 : List AOp := [
  ⟨(some 37), .none, .bin .lss .num (.t 36) (.t 35)⟩]
def f_part_Part_Read_r10 : List AOp := [
  ⟨(some 38), .none, .iaddr 7 (.t 34) (.t 36)⟩,
  ⟨(some 39), .none, .loadn 7 (.t 38)⟩,
  ⟨(some 16), .none, .alloc [(.int .i64 0), (.int .i64 0), (.int .i64 0), (.int .i64 0), (.int .i64 0), (.int .i64 0), .nils]⟩,
  ⟨.none, .none, .store 7 (.t 16) (.t 39)⟩]
def f_part_Part_Read_r11 : DR := ⟨[
  ⟨(some 40), .none, .mv (.t 3)⟩,
  ⟨(some 41), .none, .mv (.t 40)⟩,
  ⟨(some 42), (some (41, true)), .faddr 0 (.t 16)⟩,
  ⟨(some 43), (some (41, true)), .load1 (.t 42)⟩,
  ⟨(some 44), (some (41, true)), .mv (.t 0)⟩,
  ⟨(some 45), (some (41, true)), .call 31 [(.t 44)]⟩,
  ⟨(some 46), (some (41, true)), .bin .geq .num (.t 43) (.t 45)⟩,
  ⟨(some 47), .none, .pick (.t 41) (.t 46) (.c (.bool false))⟩],
  [0, 1, 3, 7, 3, 19, 63, 127], [0, 1, 2, 3, 4, 5, 6, 7], [(3, 1)], .none⟩
def f_part_Part_Read_c4 : AC := (.cond (.t 47) (.exit 0) .skip)
def f_part_Part_Read_r12 : DR := ⟨[
  ⟨(some 48), .none, .mv (.t 3)⟩,
  ⟨(some 49), .none, .un .not (.t 48)⟩,
  ⟨(some 50), .none, .mv (.t 49)⟩,
  ⟨(some 51), (some (50, false)), .mv (.t 0)⟩,
  ⟨(some 52), (some (50, false)), .nilck (.t 51)⟩,
  ⟨(some 53), (some (50, false)), .faddr 5 (.t 52)⟩,
  ⟨(some 54), (some (50, false)), .load1 (.t 53)⟩,
  ⟨(some 55), (some (50, false)), .loadn 7 (.t 16)⟩,
  ⟨(some 56), (some (50, false)), .call 93 [(.t 54), (.t 55)]⟩,
  ⟨(some 57), (some (50, false)), .bin .eql .num (.t 56) (.c (.int .i64 1))⟩,
  ⟨(some 58), .none, .pick (.t 50) (.c (.bool true)) (.t 57)⟩],
  [0, 1, 3, 7, 15, 31, 63, 7, 255, 511, 1023], [0, 1, 2, 3, 4, 5, 6, 7, 8, 9, 10], [], .none⟩
def f_part_Part_Read_r13 : List AOp := [
  ⟨(some 59), .none, .mv (.t 13)⟩,
  ⟨(some 60), .none, .loadn 7 (.t 16)⟩,
  ⟨(some 61), .none, .bsl false 7 1 [(.int .i64 0), (.int .i64 0), (.int .i64 0), (.int .i64 0), (.int .i64 0), (.int .i64 0), .nils] [(0, 7, (.t 60))]⟩,
  ⟨(some 62), .none, .call 94 [(.t 61)]⟩,
  ⟨(some 63), .none, .app false 5 56 (.t 59) (.t 62)⟩,
  ⟨(some 13), .none, .mv (.t 63)⟩]
def f_part_Part_Read_c5 : AC := (.cond (.t 58) (.reg f_part_Part_Read_r13) .skip)
def f_part_Part_Read_r14 : List AOp := [
  ⟨(some 64), .none, .loadn 7 (.t 16)⟩,
  ⟨(some 65), .none, .call 95 [(.t 64)]⟩,
  ⟨(some 14), .none, .mv (.t 65)⟩]
def f_part_Part_Read_c6 : AC := (.keep 7 [0, 3, 13, 16, 34, 35, 36] (.reg f_part_Part_Read_r14))
def f_part_Part_Read_c7 : AC := (.seq (.seq (.dreg f_part_Part_Read_r12) f_part_Part_Read_c5) f_part_Part_Read_c6)
def f_part_Part_Read_c8 : AC := (.seq (.seq (.dreg f_part_Part_Read_r11) f_part_Part_Read_c4) f_part_Part_Read_c7)
def f_part_Part_Read_r15 : List AOp := [
  ⟨(some 66), .none, .bin .add .num (.t 36) (.c (.int .i64 1))⟩,
  ⟨(some 36), .none, .mv (.t 66)⟩]
def f_part_Part_Read_c9 : AC := (.reg f_part_Part_Read_r15)
def f_part_Part_Read_c10 : AC := (.seq (.block 1 (.seq (.reg f_part_Part_Read_r10) f_part_Part_Read_c8)) f_part_Part_Read_c9)
def f_part_Part_Read_c11 : AC := (.seq (.cond (.t 37) .skip (.exit 0)) f_part_Part_Read_c10)
def f_part_Part_Read_c12 : AC := (.seq (.reg f_part_Part_Read_r9) f_part_Part_Read_c11)
def f_part_Part_Read_c13 : AC := (.block 0 (.keep 7 [0, 3, 13, 14, 34, 35, 36] (.loop (.keep 7 [0, 3, 13, 14, 34, 35, 36] f_part_Part_Read_c12))))
def f_part_Part_Read_r16 : List AOp := [
  ⟨(some 67), .none, .mv (.t 13)⟩,
  ⟨(some 68), .none, .mv (.t 14)⟩,
  ⟨(some 8), .none, .mv (.t 67)⟩,
  ⟨(some 9), .none, .mv (.t 68)⟩,
  ⟨(some 10), .none, .mv (.c (.int .i64 0))⟩]
def f_part_Part_Read_c14 : AC := .ret
def f_part_Part_Read_c15 : AC := (.keep 7 [13, 14] (.seq (.reg f_part_Part_Read_r16) f_part_Part_Read_c14))
def f_part_Part_Read_c16 : AC := (.seq (.seq (.reg f_part_Part_Read_r8) f_part_Part_Read_c13) f_part_Part_Read_c15)
def f_part_Part_Read_c17 : AC := (.seq (.reg f_part_Part_Read_r7) f_part_Part_Read_c16)
def f_part_Part_Read_c18 : AC := (.seq (.reg f_part_Part_Read_r6) f_part_Part_Read_c17)
def f_part_Part_Read_c19 : AC := (.seq (.seq (.reg f_part_Part_Read_r4) f_part_Part_Read_c3) f_part_Part_Read_c18)
def f_part_Part_Read_c20 : AC := (.seq (.reg f_part_Part_Read_r3) f_part_Part_Read_c19)
def f_part_Part_Read_c21 : AC := (.seq (.seq (.reg f_part_Part_Read_r1) f_part_Part_Read_c1) f_part_Part_Read_c20)
def f_part_Part_Read : AF := ⟨69, [.tmp 8, .tmp 9, .tmp 10], (.seq (.reg f_part_Part_Read_r0) f_part_Part_Read_c21)⟩
/- part_Part_First -/
def f_part_Part_First_r0 : List AOp := [
  ⟨(some 2), .none, .mv (.c (.int .i64 0))⟩]
def f_part_Part_First_r1 : List AOp := [
  ⟨(some 3), .none, .mv (.t 0)⟩,
  ⟨(some 4), .none, .bin .eql .ptr (.t 3) (.c .nilp)⟩]
def f_part_Part_First_r2 : List AOp := [
  ⟨(some 2), .none, .mv (.c (.int .i64 0))⟩]
def f_part_Part_First_c0 : AC := .ret
def f_part_Part_First_c1 : AC := (.cond (.t 4) (.seq (.reg f_part_Part_First_r2) f_part_Part_First_c0) .skip)
def f_part_Part_First_r3 : List AOp := [
  ⟨(some 5), .none, .mv (.t 0)⟩,
  ⟨(some 6), .none, .nilck (.t 5)⟩,
  ⟨(some 7), .none, .faddr 0 (.t 6)⟩,
  ⟨(some 8), .none, .faddr 0 (.t 7)⟩,
  ⟨(some 9), .none, .load1 (.t 8)⟩,
  ⟨(some 10), .none, .call 104 [(.t 9)]⟩,
  ⟨(some 2), .none, .mv (.t 10)⟩]
def f_part_Part_First_c2 : AC := .ret
def f_part_Part_First_c3 : AC := (.seq (.reg f_part_Part_First_r3) f_part_Part_First_c2)
def f_part_Part_First_c4 : AC := (.seq (.seq (.reg f_part_Part_First_r1) f_part_Part_First_c1) f_part_Part_First_c3)
def f_part_Part_First : AF := ⟨11, [.tmp 2], (.seq (.reg f_part_Part_First_r0) f_part_Part_First_c4)⟩
/- part_Part_Next -/
def f_part_Part_Next_r0 : List AOp := [
  ⟨(some 2), .none, .mv (.c (.int .i64 0))⟩]
def f_part_Part_Next_r1 : List AOp := [
  ⟨(some 3), .none, .mv (.t 0)⟩,
  ⟨(some 4), .none, .bin .eql .ptr (.t 3) (.c .nilp)⟩]
def f_part_Part_Next_r2 : List AOp := [
  ⟨(some 2), .none, .mv (.c (.int .i64 0))⟩]
def f_part_Part_Next_c0 : AC := .ret
def f_part_Part_Next_c1 : AC := (.cond (.t 4) (.seq (.reg f_part_Part_Next_r2) f_part_Part_Next_c0) .skip)
def f_part_Part_Next_r3 : List AOp := [
  ⟨(some 5), .none, .mv (.t 0)⟩,
  ⟨(some 6), .none, .nilck (.t 5)⟩,
  ⟨(some 7), .none, .faddr 0 (.t 6)⟩,
  ⟨(some 8), .none, .faddr 0 (.t 7)⟩,
  ⟨(some 9), .none, .load1 (.t 8)⟩,
  ⟨(some 10), .none, .call 105 [(.t 9)]⟩,
  ⟨(some 2), .none, .mv (.t 10)⟩]
def f_part_Part_Next_c2 : AC := .ret
def f_part_Part_Next_c3 : AC := (.seq (.reg f_part_Part_Next_r3) f_part_Part_Next_c2)
def f_part_Part_Next_c4 : AC := (.seq (.seq (.reg f_part_Part_Next_r1) f_part_Part_Next_c1) f_part_Part_Next_c3)
def f_part_Part_Next : AF := ⟨11, [.tmp 2], (.seq (.reg f_part_Part_Next_r0) f_part_Part_Next_c4)⟩
/- part_Part_Stable -/
def f_part_Part_Stable_r0 : List AOp := [
  ⟨(some 2), .none, .mv (.c (.int .i64 0))⟩]
def f_part_Part_Stable_r1 : List AOp := [
  ⟨(some 3), .none, .mv (.t 0)⟩,
  ⟨(some 4), .none, .bin .eql .ptr (.t 3) (.c .nilp)⟩]
def f_part_Part_Stable_r2 : List AOp := [
  ⟨(some 2), .none, .mv (.c (.int .i64 0))⟩]
def f_part_Part_Stable_c0 : AC := .ret
def f_part_Part_Stable_c1 : AC := (.cond (.t 4) (.seq (.reg f_part_Part_Stable_r2) f_part_Part_Stable_c0) .skip)
def f_part_Part_Stable_r3 : List AOp := [
  ⟨(some 5), .none, .mv (.t 0)⟩,
  ⟨(some 6), .none, .nilck (.t 5)⟩,
  ⟨(some 7), .none, .faddr 5 (.t 6)⟩,
  ⟨(some 8), .none, .load1 (.t 7)⟩,
  ⟨(some 9), .none, .call 106 [(.t 8)]⟩,
  ⟨(some 10), .none, .len .slice (.t 9)⟩,
  ⟨(some 11), .none, .bin .eql .num (.t 10) (.c (.int .i64 0))⟩]
def f_part_Part_Stable_r4 : List AOp := [
  ⟨(some 12), .none, .mv (.t 0)⟩,
  ⟨(some 13), .none, .call 30 [(.t 12)]⟩,
  ⟨(some 2), .none, .mv (.t 13)⟩]
def f_part_Part_Stable_c2 : AC := .ret
def f_part_Part_Stable_c3 : AC := (.cond (.t 11) (.seq (.reg f_part_Part_Stable_r4) f_part_Part_Stable_c2) .skip)
def f_part_Part_Stable_r5 : List AOp := [
  ⟨(some 14), .none, .mv (.t 0)⟩,
  ⟨(some 15), .none, .nilck (.t 14)⟩,
  ⟨(some 16), .none, .faddr 5 (.t 15)⟩,
  ⟨(some 17), .none, .load1 (.t 16)⟩,
  ⟨(some 18), .none, .call 107 [(.t 17)]⟩,
  ⟨(some 19), .none, .mv (.t 0)⟩,
  ⟨(some 20), .none, .call 29 [(.t 19)]⟩,
  ⟨(some 21), .none, .mx [(.t 18), (.t 20)]⟩,
  ⟨(some 2), .none, .mv (.t 21)⟩]
def f_part_Part_Stable_c4 : AC := .ret
def f_part_Part_Stable_c5 : AC := (.seq (.reg f_part_Part_Stable_r5) f_part_Part_Stable_c4)
def f_part_Part_Stable_c6 : AC := (.seq (.seq (.reg f_part_Part_Stable_r3) f_part_Part_Stable_c3) f_part_Part_Stable_c5)
def f_part_Part_Stable_c7 : AC := (.seq (.seq (.reg f_part_Part_Stable_r1) f_part_Part_Stable_c1) f_part_Part_Stable_c6)
def f_part_Part_Stable : AF := ⟨22, [.tmp 2], (.seq (.reg f_part_Part_Stable_r0) f_part_Part_Stable_c7)⟩
/- part_Part_Batches -/
def f_part_Part_Batches_r0 : List AOp := [
  ⟨(some 2), .none, .mv (.c .nils)⟩]
def f_part_Part_Batches_r1 : List AOp := [
  ⟨(some 3), .none, .mv (.t 0)⟩,
  ⟨(some 4), .none, .bin .eql .ptr (.t 3) (.c .nilp)⟩]
def f_part_Part_Batches_r2 : List AOp := [
  ⟨(some 2), .none, .mv (.c .nils)⟩]
def f_part_Part_Batches_c0 : AC := .ret
def f_part_Part_Batches_c1 : AC := (.cond (.t 4) (.seq (.reg f_part_Part_Batches_r2) f_part_Part_Batches_c0) .skip)
def f_part_Part_Batches_r3 : List AOp := [
  ⟨(some 5), .none, .mv (.t 0)⟩,
  ⟨(some 6), .none, .nilck (.t 5)⟩,
  ⟨(some 7), .none, .faddr 0 (.t 6)⟩,
  ⟨(some 8), .none, .faddr 0 (.t 7)⟩,
  ⟨(some 9), .none, .load1 (.t 8)⟩,
  ⟨(some 10), .none, .call 67 [(.t 9)]⟩,
  ⟨(some 2), .none, .mv (.t 10)⟩]
def f_part_Part_Batches_c2 : AC := .ret
def f_part_Part_Batches_c3 : AC := (.seq (.reg f_part_Part_Batches_r3) f_part_Part_Batches_c2)
def f_part_Part_Batches_c4 : AC := (.seq (.seq (.reg f_part_Part_Batches_r1) f_part_Part_Batches_c1) f_part_Part_Batches_c3)
def f_part_Part_Batches : AF := ⟨11, [.tmp 2], (.seq (.reg f_part_Part_Batches_r0) f_part_Part_Batches_c4)⟩
/- offsets_Offsets_Put -/
def f_offsets_Offsets_Put_r0 : List AOp := [
  ⟨(some 12), .none, .mv (.c (.bool false))⟩,
  ⟨(some 13), .none, .mv (.c (.int .i64 0))⟩]
def f_offsets_Offsets_Put_r1 : List AOp := [
  ⟨(some 23), .none, .mv (.t 0)⟩,
  ⟨(some 24), .none, .bin .eql .ptr (.t 23) (.c .nilp)⟩]
def f_offsets_Offsets_Put_r2 : List AOp := [
  ⟨(some 12), .none, .mv (.c (.bool false))⟩,
  ⟨(some 13), .none, .mv (.c (.int .i64 1))⟩]
def f_offsets_Offsets_Put_c0 : AC := .ret
def f_offsets_Offsets_Put_c1 : AC := (.cond (.t 24) (.seq (.reg f_offsets_Offsets_Put_r2) f_offsets_Offsets_Put_c0) .skip)
def f_offsets_Offsets_Put_r3 : List AOp := [
  ⟨(some 25), .none, .mv (.t 5)⟩,
  ⟨(some 26), .none, .len .slice (.t 25)⟩,
  ⟨(some 27), .none, .bin .eql .num (.t 26) (.c (.int .i64 0))⟩]
def f_offsets_Offsets_Put_r4 : List AOp := [
  ⟨(some 12), .none, .mv (.c (.bool false))⟩,
  ⟨(some 13), .none, .mv (.c (.int .i64 3))⟩]
def f_offsets_Offsets_Put_c2 : AC := .ret
def f_offsets_Offsets_Put_c3 : AC := (.cond (.t 27) (.seq (.reg f_offsets_Offsets_Put_r4) f_offsets_Offsets_Put_c2) .skip)
def f_offsets_Offsets_Put_r5 : List AOp := [
  ⟨(some 28), .none, .mv (.t 1)⟩,
  ⟨(some 29), .none, .mv (.t 2)⟩,
  ⟨(some 30), .none, .mv (.t 3)⟩,
  ⟨(some 31), .none, .mv (.t 4)⟩,
  ⟨(some 32), .none, .build [(.int .i64 0), (.int .i64 0), (.int .i64 0), (.int .i64 0), (.int .i64 0), (.int .i64 0), .nils] [(1, 1, (.t 28)), (2, 1, (.t 29)), (3, 1, (.t 30)), (4, 1, (.c (.int .i64 1))), (5, 1, (.t 31))]⟩,
  ⟨(some 14), .none, .alloc [(.int .i64 0), (.int .i64 0), (.int .i64 0), (.int .i64 0), (.int .i64 0), (.int .i64 0), .nils]⟩,
  ⟨.none, .none, .store 7 (.t 14) (.t 32)⟩]
def f_offsets_Offsets_Put_r6 : List AOp := [
  ⟨(some 33), .none, .mv (.t 5)⟩,
  ⟨(some 34), .none, .len .slice (.t 33)⟩,
  ⟨(some 35), .none, .mv (.c (.int .i64 0))⟩]
def f_offsets_Offsets_Put_r7 : List AOp := [
  ⟨(some 36), .none, .bin .lss .num (.t 35) (.t 34)⟩]
def f_offsets_Offsets_Put_r8 : List AOp := [
  ⟨(some 37), .none, .iaddr 4 (.t 33) (.t 35)⟩,
  ⟨(some 38), .none, .loadn 4 (.t 37)⟩,
  ⟨(some 16), .none, .alloc [(.int .i64 0), (.int .i64 0), (.int .i64 0), (.int .i64 0)]⟩,
  ⟨.none, .none, .store 4 (.t 16) (.t 38)⟩]
def f_offsets_Offsets_Put_r9 : List AOp := [
  ⟨(some 40), .none, .loadn 4 (.t 16)⟩,
  ⟨(some 41), .none, .mv (.t 4)⟩,
  ⟨(some 42), .none, .call 15 [(.t 40), (.t 41)]⟩,
  ⟨(some 39), .none, .mv (.t 42)⟩,
  ⟨(some 43), .none, .ext (.t 39) 0⟩,
  ⟨(some 44), .none, .ext (.t 39) 1⟩,
  ⟨(some 17), .none, .alloc [(.str []), (.str []), (.bool false), (.int .i64 0)]⟩,
  ⟨.none, .none, .store 4 (.t 17) (.t 43)⟩,
  ⟨(some 18), .none, .mv (.t 44)⟩]
def f_offsets_Offsets_Put_r10 : List AOp := [
  ⟨(some 45), .none, .mv (.t 18)⟩,
  ⟨(some 46), .none, .bin .neq .num (.t 45) (.c (.int .i64 0))⟩]
def f_offsets_Offsets_Put_r11 : List AOp := [
  ⟨(some 47), .none, .mv (.t 18)⟩,
  ⟨(some 12), .none, .mv (.c (.bool false))⟩,
  ⟨(some 13), .none, .mv (.t 47)⟩]
def f_offsets_Offsets_Put_c4 : AC := .ret
def f_offsets_Offsets_Put_c5 : AC := (.cond (.t 46) (.seq (.reg f_offsets_Offsets_Put_r11) f_offsets_Offsets_Put_c4) .skip)
def f_offsets_Offsets_Put_r12 : List AOp := [
  ⟨(some 48), .none, .faddr 6 (.t 14)⟩,
  ⟨(some 49), .none, .load1 (.t 48)⟩,
  ⟨(some 50), .none, .loadn 4 (.t 17)⟩,
  ⟨(some 51), .none, .bsl false 4 1 [(.str []), (.str []), (.bool false), (.int .i64 0)] [(0, 4, (.t 50))]⟩,
  ⟨(some 52), .none, .app false 4 48 (.t 49) (.t 51)⟩,
  ⟨(some 19), .none, .mv (.t 52)⟩]
def f_offsets_Offsets_Put_r13 : List AOp := [
  ⟨(some 53), .none, .mv (.t 19)⟩,
  ⟨(some 54), .none, .faddr 6 (.t 14)⟩,
  ⟨.none, .none, .store 1 (.t 54) (.t 53)⟩]
def f_offsets_Offsets_Put_c6 : AC := (.reg f_offsets_Offsets_Put_r13)
def f_offsets_Offsets_Put_c7 : AC := (.seq (.reg f_offsets_Offsets_Put_r12) f_offsets_Offsets_Put_c6)
def f_offsets_Offsets_Put_c8 : AC := (.seq (.seq (.reg f_offsets_Offsets_Put_r10) f_offsets_Offsets_Put_c5) f_offsets_Offsets_Put_c7)
def f_offsets_Offsets_Put_c9 : AC := (.seq (.reg f_offsets_Offsets_Put_r9) f_offsets_Offsets_Put_c8)
def f_offsets_Offsets_Put_r14 : List AOp := [
  ⟨(some 55), .none, .bin .add .num (.t 35) (.c (.int .i64 1))⟩,
  ⟨(some 35), .none, .mv (.t 55)⟩]
def f_offsets_Offsets_Put_c10 : AC := (.reg f_offsets_Offsets_Put_r14)
def f_offsets_Offsets_Put_c11 : AC := (.seq (.block 1 (.seq (.reg f_offsets_Offsets_Put_r8) f_offsets_Offsets_Put_c9)) f_offsets_Offsets_Put_c10)
def f_offsets_Offsets_Put_c12 : AC := (.seq (.cond (.t 36) .skip (.exit 0)) f_offsets_Offsets_Put_c11)
def f_offsets_Offsets_Put_c13 : AC := (.seq (.reg f_offsets_Offsets_Put_r7) f_offsets_Offsets_Put_c12)
def f_offsets_Offsets_Put_c14 : AC := (.block 0 (.keep 7 [0, 4, 14, 33, 34, 35] (.loop (.keep 7 [0, 4, 14, 33, 34, 35] f_offsets_Offsets_Put_c13))))
def f_offsets_Offsets_Put_r15 : DR := ⟨[
  ⟨(some 57), .none, .mv (.t 0)⟩,
  ⟨(some 58), .none, .nilck (.t 57)⟩,
  ⟨(some 59), .none, .faddr 0 (.t 58)⟩,
  ⟨(some 60), .none, .load1 (.t 59)⟩,
  ⟨(some 61), .none, .loadn 7 (.t 14)⟩,
  ⟨(some 62), .none, .call 22 [(.t 60), (.t 61)]⟩,
  ⟨(some 56), .none, .mv (.t 62)⟩,
  ⟨(some 63), .none, .ext (.t 56) 0⟩,
  ⟨(some 64), .none, .ext (.t 56) 1⟩,
  ⟨(some 65), .none, .ext (.t 56) 2⟩,
  ⟨(some 20), .none, .mv (.t 63)⟩,
  ⟨(some 21), .none, .mv (.t 64)⟩,
  ⟨(some 22), .none, .mv (.t 65)⟩],
  [0, 1, 3, 7, 0, 31, 63, 127, 127, 127, 255, 1535, 4095], [0, 1, 2, 3, 4, 5, 6, 7, 8, 9, 10, 11, 12], [], .none⟩
def f_offsets_Offsets_Put_r16 : List AOp := [
  ⟨(some 66), .none, .mv (.t 21)⟩,
  ⟨(some 67), .none, .mv (.t 22)⟩,
  ⟨(some 12), .none, .mv (.t 66)⟩,
  ⟨(some 13), .none, .mv (.t 67)⟩]
def f_offsets_Offsets_Put_c15 : AC := .ret
def f_offsets_Offsets_Put_c16 : AC := (.seq (.reg f_offsets_Offsets_Put_r16) f_offsets_Offsets_Put_c15)
def f_offsets_Offsets_Put_c17 : AC := (.seq (.dreg f_offsets_Offsets_Put_r15) f_offsets_Offsets_Put_c16)
def f_offsets_Offsets_Put_c18 : AC := (.seq (.seq (.reg f_offsets_Offsets_Put_r6) f_offsets_Offsets_Put_c14) f_offsets_Offsets_Put_c17)
def f_offsets_Offsets_Put_c19 : AC := (.seq (.reg f_offsets_Offsets_Put_r5) f_offsets_Offsets_Put_c18)
def f_offsets_Offsets_Put_c20 : AC := (.seq (.seq (.reg f_offsets_Offsets_Put_r3) f_offsets_Offsets_Put_c3) f_offsets_Offsets_Put_c19)
def f_offsets_Offsets_Put_c21 : AC := (.seq (.seq (.reg f_offsets_Offsets_Put_r1) f_offsets_Offsets_Put_c1) f_offsets_Offsets_Put_c20)
def f_offsets_Offsets_Put : AF := ⟨68, [.tmp 12, .tmp 13], (.seq (.reg f_offsets_Offsets_Put_r0) f_offsets_Offsets_Put_c21)⟩
/- offsets_Offsets_Mark -/
def f_offsets_Offsets_Mark_r0 : List AOp := [
  ⟨(some 10), .none, .mv (.c (.bool false))⟩,
  ⟨(some 11), .none, .mv (.c (.int .i64 0))⟩]
def f_offsets_Offsets_Mark_r1 : List AOp := [
  ⟨(some 15), .none, .mv (.t 0)⟩,
  ⟨(some 16), .none, .bin .eql .ptr (.t 15) (.c .nilp)⟩]
def f_offsets_Offsets_Mark_r2 : List AOp := [
  ⟨(some 10), .none, .mv (.c (.bool false))⟩,
  ⟨(some 11), .none, .mv (.c (.int .i64 1))⟩]
def f_offsets_Offsets_Mark_c0 : AC := .ret
def f_offsets_Offsets_Mark_c1 : AC := (.cond (.t 16) (.seq (.reg f_offsets_Offsets_Mark_r2) f_offsets_Offsets_Mark_c0) .skip)
def f_offsets_Offsets_Mark_r3 : List AOp := [
  ⟨(some 18), .none, .mv (.t 0)⟩,
  ⟨(some 19), .none, .nilck (.t 18)⟩,
  ⟨(some 20), .none, .faddr 0 (.t 19)⟩,
  ⟨(some 21), .none, .load1 (.t 20)⟩,
  ⟨(some 22), .none, .mv (.t 1)⟩,
  ⟨(some 23), .none, .mv (.t 2)⟩,
  ⟨(some 24), .none, .mv (.t 3)⟩,
  ⟨(some 25), .none, .mv (.t 4)⟩,
  ⟨(some 26), .none, .call 23 [(.t 21), (.t 22), (.t 23), (.t 24), (.t 25)]⟩,
  ⟨(some 17), .none, .mv (.t 26)⟩,
  ⟨(some 27), .none, .ext (.t 17) 0⟩,
  ⟨(some 28), .none, .ext (.t 17) 1⟩,
  ⟨(some 29), .none, .ext (.t 17) 2⟩,
  ⟨(some 12), .none, .mv (.t 27)⟩,
  ⟨(some 13), .none, .mv (.t 28)⟩,
  ⟨(some 14), .none, .mv (.t 29)⟩]
def f_offsets_Offsets_Mark_r4 : List AOp := [
  ⟨(some 30), .none, .mv (.t 14)⟩,
  ⟨(some 31), .none, .bin .eql .num (.t 30) (.c (.int .i64 0))⟩]
def f_offsets_Offsets_Mark_r5 : List AOp := [
  ⟨(some 32), .none, .mv (.t 0)⟩,
  ⟨(some 33), .none, .call 132 [(.t 32)]⟩]
def f_offsets_Offsets_Mark_c2 : AC := (.cond (.t 31) (.reg f_offsets_Offsets_Mark_r5) .skip)
def f_offsets_Offsets_Mark_r6 : List AOp := [
  ⟨(some 34), .none, .mv (.t 13)⟩,
  ⟨(some 35), .none, .mv (.t 14)⟩,
  ⟨(some 10), .none, .mv (.t 34)⟩,
  ⟨(some 11), .none, .mv (.t 35)⟩]
def f_offsets_Offsets_Mark_c3 : AC := .ret
def f_offsets_Offsets_Mark_c4 : AC := (.keep 6 [13, 14] (.seq (.reg f_offsets_Offsets_Mark_r6) f_offsets_Offsets_Mark_c3))
def f_offsets_Offsets_Mark_c5 : AC := (.seq (.seq (.reg f_offsets_Offsets_Mark_r4) f_offsets_Offsets_Mark_c2) f_offsets_Offsets_Mark_c4)
def f_offsets_Offsets_Mark_c6 : AC := (.seq (.reg f_offsets_Offsets_Mark_r3) f_offsets_Offsets_Mark_c5)
def f_offsets_Offsets_Mark_c7 : AC := (.seq (.seq (.reg f_offsets_Offsets_Mark_r1) f_offsets_Offsets_Mark_c1) f_offsets_Offsets_Mark_c6)
def f_offsets_Offsets_Mark : AF := ⟨36, [.tmp 10, .tmp 11], (.seq (.reg f_offsets_Offsets_Mark_r0) f_offsets_Offsets_Mark_c7)⟩
/- offsets_Offsets_Of -/
def f_offsets_Offsets_Of_r0 : List AOp := [
  ⟨(some 4), .none, .alloc [(.int .i64 0), (.int .i64 0), (.int .i64 0), (.int .i64 0)]⟩,
  ⟨(some 5), .none, .mv (.c (.bool false))⟩]
def f_offsets_Offsets_Of_r1 : List AOp := [
  ⟨(some 10), .none, .mv (.t 0)⟩,
  ⟨(some 11), .none, .bin .eql .ptr (.t 10) (.c .nilp)⟩,
  ⟨(some 12), .none, .mv (.t 11)⟩,
  ⟨(some 13), (some (12, false)), .mv (.t 1)⟩,
  ⟨(some 14), (some (12, false)), .bin .lss .num (.t 13) (.c (.int .i64 0))⟩,
  ⟨(some 15), .none, .pick (.t 12) (.c (.bool true)) (.t 14)⟩,
  ⟨(some 16), .none, .mv (.t 15)⟩,
  ⟨(some 17), (some (16, false)), .mv (.t 1)⟩,
  ⟨(some 18), (some (16, false)), .bin .gtr .num (.t 17) (.c (.int .i64 255))⟩,
  ⟨(some 19), .none, .pick (.t 16) (.c (.bool true)) (.t 18)⟩]
def f_offsets_Offsets_Of_r2 : List AOp := [
  ⟨(some 20), .none, .build [(.int .i64 0), (.int .i64 0), (.int .i64 0), (.int .i64 0)] []⟩,
  ⟨.none, .none, .store 4 (.t 4) (.t 20)⟩,
  ⟨(some 5), .none, .mv (.c (.bool false))⟩]
def f_offsets_Offsets_Of_c0 : AC := .ret
def f_offsets_Offsets_Of_c1 : AC := (.cond (.t 19) (.seq (.reg f_offsets_Offsets_Of_r2) f_offsets_Offsets_Of_c0) .skip)
def f_offsets_Offsets_Of_r3 : DR := ⟨[
  ⟨(some 22), .none, .mv (.t 0)⟩,
  ⟨(some 23), .none, .nilck (.t 22)⟩,
  ⟨(some 24), .none, .faddr 2 (.t 23)⟩,
  ⟨(some 25), .none, .load1 (.t 24)⟩,
  ⟨(some 26), .none, .mv (.t 1)⟩,
  ⟨(some 27), .none, .call 79 [(.t 26)]⟩,
  ⟨(some 28), .none, .call 108 [(.t 25), (.t 27)]⟩,
  ⟨(some 21), .none, .mv (.t 28)⟩,
  ⟨(some 29), .none, .ext (.t 21) 0⟩,
  ⟨(some 30), .none, .ext (.t 21) 1⟩,
  ⟨(some 6), .none, .alloc [(.int .i64 0), (.str []), (.str []), (.bool false), (.int .i64 0)]⟩,
  ⟨.none, .none, .store 5 (.t 6) (.t 29)⟩,
  ⟨(some 7), .none, .mv (.t 30)⟩],
  [0, 1, 3, 7, 0, 16, 63, 127, 255, 255, 0, 1535, 4095], [0, 1, 2, 3, 4, 5, 6, 7, 8, 9, 10, 11, 12], [(3, 1), (3, 2)], (some 10)⟩
def f_offsets_Offsets_Of_r4 : List AOp := [
  ⟨(some 31), .none, .mv (.t 7)⟩,
  ⟨(some 32), .none, .un .not (.t 31)⟩]
def f_offsets_Offsets_Of_r5 : List AOp := [
  ⟨(some 33), .none, .build [(.int .i64 0), (.int .i64 0), (.int .i64 0), (.int .i64 0)] []⟩,
  ⟨.none, .none, .store 4 (.t 4) (.t 33)⟩,
  ⟨(some 5), .none, .mv (.c (.bool false))⟩]
def f_offsets_Offsets_Of_c2 : AC := .ret
def f_offsets_Offsets_Of_c3 : AC := (.cond (.t 32) (.seq (.reg f_offsets_Offsets_Of_r5) f_offsets_Offsets_Of_c2) .skip)
def f_offsets_Offsets_Of_r6 : List AOp := [
  ⟨(some 35), .none, .faddr 1 (.t 6)⟩,
  ⟨(some 36), .none, .loadn 4 (.t 35)⟩,
  ⟨(some 37), .none, .call 18 [(.t 36)]⟩,
  ⟨(some 34), .none, .mv (.t 37)⟩,
  ⟨(some 38), .none, .ext (.t 34) 0⟩,
  ⟨(some 39), .none, .ext (.t 34) 1⟩,
  ⟨(some 8), .none, .alloc [(.int .i64 0), (.int .i64 0), (.int .i64 0), (.int .i64 0)]⟩,
  ⟨.none, .none, .store 4 (.t 8) (.t 38)⟩,
  ⟨(some 9), .none, .mv (.t 39)⟩]
def f_offsets_Offsets_Of_r7 : List AOp := [
  ⟨(some 40), .none, .loadn 4 (.t 8)⟩,
  ⟨.none, .none, .store 4 (.t 4) (.t 40)⟩,
  ⟨(some 5), .none, .mv (.c (.bool true))⟩]
def f_offsets_Offsets_Of_c4 : AC := .ret
def f_offsets_Offsets_Of_c5 : AC := (.seq (.reg f_offsets_Offsets_Of_r7) f_offsets_Offsets_Of_c4)
def f_offsets_Offsets_Of_c6 : AC := (.seq (.reg f_offsets_Offsets_Of_r6) f_offsets_Offsets_Of_c5)
def f_offsets_Offsets_Of_c7 : AC := (.seq (.seq (.reg f_offsets_Offsets_Of_r4) f_offsets_Offsets_Of_c3) f_offsets_Offsets_Of_c6)
def f_offsets_Offsets_Of_c8 : AC := (.seq (.dreg f_offsets_Offsets_Of_r3) f_offsets_Offsets_Of_c7)
def f_offsets_Offsets_Of_c9 : AC := (.seq (.seq (.reg f_offsets_Offsets_Of_r1) f_offsets_Offsets_Of_c1) f_offsets_Offsets_Of_c8)
def f_offsets_Offsets_Of : AF := ⟨41, [.celln 4 4, .tmp 5], (.seq (.reg f_offsets_Offsets_Of_r0) f_offsets_Offsets_Of_c9)⟩
/- offsets_Offsets_Waiting -/
def f_offsets_Offsets_Waiting_r0 : List AOp := [
  ⟨(some 2), .none, .mv (.c .nils)⟩]
def f_offsets_Offsets_Waiting_r1 : List AOp := [
  ⟨(some 11), .none, .mv (.t 0)⟩,
  ⟨(some 12), .none, .bin .eql .ptr (.t 11) (.c .nilp)⟩]
def f_offsets_Offsets_Waiting_r2 : List AOp := [
  ⟨(some 2), .none, .mv (.c .nils)⟩]
def f_offsets_Offsets_Waiting_c0 : AC := .ret
def f_offsets_Offsets_Waiting_c1 : AC := (.cond (.t 12) (.seq (.reg f_offsets_Offsets_Waiting_r2) f_offsets_Offsets_Waiting_c0) .skip)
def f_offsets_Offsets_Waiting_r3 : List AOp := [
  ⟨(some 13), .none, .mv (.t 0)⟩,
  ⟨(some 14), .none, .nilck (.t 13)⟩,
  ⟨(some 15), .none, .faddr 0 (.t 14)⟩,
  ⟨(some 16), .none, .load1 (.t 15)⟩,
  ⟨(some 17), .none, .call 32 [(.t 16)]⟩,
  ⟨(some 3), .none, .mv (.t 17)⟩]
def f_offsets_Offsets_Waiting_r4 : List AOp := [
  ⟨(some 4), .none, .mv (.c .nils)⟩]
def f_offsets_Offsets_Waiting_r5 : List AOp := [
  ⟨(some 18), .none, .mv (.t 3)⟩,
  ⟨(some 19), .none, .len .slice (.t 18)⟩,
  ⟨(some 20), .none, .mv (.c (.int .i64 0))⟩]
def f_offsets_Offsets_Waiting_r6 : List AOp := [
  ⟨(some 21), .none, .bin .lss .num (.t 20) (.t 19)⟩]
def f_offsets_Offsets_Waiting_r7 : List AOp := [
  ⟨(some 22), .none, .mv (.t 20)⟩,
  ⟨(some 23), .none, .iaddr 7 (.t 18) (.t 20)⟩,
  ⟨(some 24), .none, .loadn 7 (.t 23)⟩,
  ⟨(some 6), .none, .alloc [(.int .i64 0), (.int .i64 0), (.int .i64 0), (.int .i64 0), (.int .i64 0), (.int .i64 0), .nils]⟩,
  ⟨(some 5), .none, .mv (.t 22)⟩,
  ⟨.none, .none, .store 7 (.t 6) (.t 24)⟩]
def f_offsets_Offsets_Waiting_r8 : DR := ⟨[
  ⟨(some 25), .none, .faddr 4 (.t 6)⟩,
  ⟨(some 26), .none, .load1 (.t 25)⟩,
  ⟨(some 27), .none, .bin .neq .num (.t 26) (.c (.int .i64 1))⟩,
  ⟨(some 28), .none, .mv (.t 27)⟩,
  ⟨(some 29), (some (28, false)), .loadn 7 (.t 6)⟩,
  ⟨(some 30), (some (28, false)), .mv (.t 3)⟩,
  ⟨(some 31), (some (28, false)), .mv (.t 5)⟩,
  ⟨(some 32), (some (28, false)), .bin .add .num (.t 31) (.c (.int .i64 1))⟩,
  ⟨(some 33), (some (28, false)), .slc 7 (.t 30) (some (.t 32)) .none .none⟩,
  ⟨(some 34), (some (28, false)), .call 134 [(.t 29), (.t 33)]⟩,
  ⟨(some 35), .none, .pick (.t 28) (.c (.bool true)) (.t 34)⟩],
  [0, 1, 3, 7, 15, 15, 15, 79, 239, 511, 1023], [0, 1, 2, 3, 4, 5, 6, 7, 8, 9, 10], [], .none⟩
def f_offsets_Offsets_Waiting_c2 : AC := (.cond (.t 35) (.exit 1) .skip)
def f_offsets_Offsets_Waiting_r9 : List AOp := [
  ⟨(some 36), .none, .faddr 6 (.t 6)⟩,
  ⟨(some 37), .none, .load1 (.t 36)⟩,
  ⟨(some 38), .none, .len .slice (.t 37)⟩,
  ⟨(some 39), .none, .mv (.c (.int .i64 0))⟩]
def f_offsets_Offsets_Waiting_r10 : List AOp := [
  ⟨(some 40), .none, .bin .lss .num (.t 39) (.t 38)⟩]
def f_offsets_Offsets_Waiting_r11 : List AOp := [
  ⟨(some 41), .none, .iaddr 4 (.t 37) (.t 39)⟩,
  ⟨(some 42), .none, .loadn 4 (.t 41)⟩,
  ⟨(some 8), .none, .alloc [(.str []), (.str []), (.bool false), (.int .i64 0)]⟩,
  ⟨.none, .none, .store 4 (.t 8) (.t 42)⟩]
def f_offsets_Offsets_Waiting_r12 : List AOp := [
  ⟨(some 44), .none, .loadn 4 (.t 8)⟩,
  ⟨(some 45), .none, .call 18 [(.t 44)]⟩,
  ⟨(some 43), .none, .mv (.t 45)⟩,
  ⟨(some 46), .none, .ext (.t 43) 0⟩,
  ⟨(some 47), .none, .ext (.t 43) 1⟩,
  ⟨(some 9), .none, .alloc [(.int .i64 0), (.int .i64 0), (.int .i64 0), (.int .i64 0)]⟩,
  ⟨.none, .none, .store 4 (.t 9) (.t 46)⟩,
  ⟨(some 10), .none, .mv (.t 47)⟩]
def f_offsets_Offsets_Waiting_r13 : List AOp := [
  ⟨(some 48), .none, .mv (.t 10)⟩,
  ⟨(some 49), .none, .bin .eql .num (.t 48) (.c (.int .i64 0))⟩]
def f_offsets_Offsets_Waiting_r14 : List AOp := [
  ⟨(some 50), .none, .mv (.t 4)⟩,
  ⟨(some 51), .none, .faddr 1 (.t 6)⟩,
  ⟨(some 52), .none, .load1 (.t 51)⟩,
  ⟨(some 53), .none, .faddr 2 (.t 6)⟩,
  ⟨(some 54), .none, .load1 (.t 53)⟩,
  ⟨(some 55), .none, .loadn 4 (.t 9)⟩,
  ⟨(some 56), .none, .build [(.int .i64 0), (.int .i64 0), (.int .i64 0), (.int .i64 0), (.int .i64 0), (.int .i64 0)] [(0, 1, (.t 52)), (1, 1, (.t 54)), (2, 4, (.t 55))]⟩,
  ⟨(some 57), .none, .bsl false 6 1 [(.int .i64 0), (.int .i64 0), (.int .i64 0), (.int .i64 0), (.int .i64 0), (.int .i64 0)] [(0, 6, (.t 56))]⟩,
  ⟨(some 58), .none, .app false 6 48 (.t 50) (.t 57)⟩,
  ⟨(some 4), .none, .mv (.t 58)⟩]
def f_offsets_Offsets_Waiting_c3 : AC := (.cond (.t 49) (.reg f_offsets_Offsets_Waiting_r14) .skip)
def f_offsets_Offsets_Waiting_c4 : AC := (.seq (.reg f_offsets_Offsets_Waiting_r13) f_offsets_Offsets_Waiting_c3)
def f_offsets_Offsets_Waiting_c5 : AC := (.seq (.reg f_offsets_Offsets_Waiting_r12) f_offsets_Offsets_Waiting_c4)
def f_offsets_Offsets_Waiting_r15 : List AOp := [
  ⟨(some 59), .none, .bin .add .num (.t 39) (.c (.int .i64 1))⟩,
  ⟨(some 39), .none, .mv (.t 59)⟩]
def f_offsets_Offsets_Waiting_c6 : AC := (.keep 6 [3, 4, 6, 18, 19, 20, 37, 38, 39] (.reg f_offsets_Offsets_Waiting_r15))
def f_offsets_Offsets_Waiting_c7 : AC := (.seq (.block 3 (.seq (.reg f_offsets_Offsets_Waiting_r11) f_offsets_Offsets_Waiting_c5)) f_offsets_Offsets_Waiting_c6)
def f_offsets_Offsets_Waiting_c8 : AC := (.seq (.cond (.t 40) .skip (.exit 2)) f_offsets_Offsets_Waiting_c7)
def f_offsets_Offsets_Waiting_c9 : AC := (.seq (.reg f_offsets_Offsets_Waiting_r10) f_offsets_Offsets_Waiting_c8)
def f_offsets_Offsets_Waiting_c10 : AC := (.block 2 (.keep 6 [3, 4, 6, 18, 19, 20, 37, 38, 39] (.loop (.keep 6 [3, 4, 6, 18, 19, 20, 37, 38, 39] f_offsets_Offsets_Waiting_c9))))
def f_offsets_Offsets_Waiting_c11 : AC := (.seq (.reg f_offsets_Offsets_Waiting_r9) f_offsets_Offsets_Waiting_c10)
def f_offsets_Offsets_Waiting_c12 : AC := (.seq (.seq (.dreg f_offsets_Offsets_Waiting_r8) f_offsets_Offsets_Waiting_c2) f_offsets_Offsets_Waiting_c11)
def f_offsets_Offsets_Waiting_r16 : List AOp := [
  ⟨(some 60), .none, .bin .add .num (.t 20) (.c (.int .i64 1))⟩,
  ⟨(some 20), .none, .mv (.t 60)⟩]
def f_offsets_Offsets_Waiting_c13 : AC := (.keep 6 [3, 4, 18, 19, 20] (.reg f_offsets_Offsets_Waiting_r16))
def f_offsets_Offsets_Waiting_c14 : AC := (.seq (.block 1 (.seq (.reg f_offsets_Offsets_Waiting_r7) f_offsets_Offsets_Waiting_c12)) f_offsets_Offsets_Waiting_c13)
def f_offsets_Offsets_Waiting_c15 : AC := (.seq (.cond (.t 21) .skip (.exit 0)) f_offsets_Offsets_Waiting_c14)
def f_offsets_Offsets_Waiting_c16 : AC := (.seq (.reg f_offsets_Offsets_Waiting_r6) f_offsets_Offsets_Waiting_c15)
def f_offsets_Offsets_Waiting_c17 : AC := (.block 0 (.keep 6 [3, 4, 18, 19, 20] (.loop (.keep 6 [3, 4, 18, 19, 20] f_offsets_Offsets_Waiting_c16))))
def f_offsets_Offsets_Waiting_r17 : List AOp := [
  ⟨(some 61), .none, .mv (.t 4)⟩,
  ⟨(some 2), .none, .mv (.t 61)⟩]
def f_offsets_Offsets_Waiting_c18 : AC := .ret
def f_offsets_Offsets_Waiting_c19 : AC := (.seq (.reg f_offsets_Offsets_Waiting_r17) f_offsets_Offsets_Waiting_c18)
def f_offsets_Offsets_Waiting_c20 : AC := (.seq (.seq (.reg f_offsets_Offsets_Waiting_r5) f_offsets_Offsets_Waiting_c17) f_offsets_Offsets_Waiting_c19)
def f_offsets_Offsets_Waiting_c21 : AC := (.seq (.reg f_offsets_Offsets_Waiting_r4) f_offsets_Offsets_Waiting_c20)
def f_offsets_Offsets_Waiting_c22 : AC := (.seq (.reg f_offsets_Offsets_Waiting_r3) f_offsets_Offsets_Waiting_c21)
def f_offsets_Offsets_Waiting_c23 : AC := (.seq (.seq (.reg f_offsets_Offsets_Waiting_r1) f_offsets_Offsets_Waiting_c1) f_offsets_Offsets_Waiting_c22)
def f_offsets_Offsets_Waiting : AF := ⟨62, [.tmp 2], (.seq (.reg f_offsets_Offsets_Waiting_r0) f_offsets_Offsets_Waiting_c23)⟩
/- seglog_Open -/
def f_seglog_Open_r0 : List AOp := [
  ⟨(some 5), .none, .box (.t 2)⟩,
  ⟨(some 6), .none, .mv (.c .nilp)⟩,
  ⟨(some 7), .none, .mv (.c (.int .i64 0))⟩]
def f_seglog_Open_r1 : List AOp := [
  ⟨(some 15), .none, .mv (.t 0)⟩,
  ⟨(some 16), .none, .bin .eql .ptr (.t 15) (.c .nilp)⟩,
  ⟨(some 14), .none, .mv (.t 16)⟩]
def f_seglog_Open_r2 : List AOp := [
  ⟨(some 6), .none, .mv (.c .nilp)⟩,
  ⟨(some 7), .none, .mv (.c (.int .i64 1))⟩]
def f_seglog_Open_c0 : AC := .ret
def f_seglog_Open_r3 : List AOp := [
  ⟨(some 18), .none, .mv (.t 1)⟩,
  ⟨(some 19), .none, .call 135 [(.t 18)]⟩,
  ⟨(some 20), .none, .un .not (.t 19)⟩,
  ⟨(some 21), .none, .mv (.t 20)⟩,
  ⟨(some 22), (some (21, false)), .loadn 2 (.t 5)⟩,
  ⟨(some 23), (some (21, false)), .call 136 [(.t 22)]⟩,
  ⟨(some 24), (some (21, false)), .un .not (.t 23)⟩,
  ⟨(some 25), .none, .pick (.t 21) (.c (.bool true)) (.t 24)⟩,
  ⟨(some 17), .none, .mv (.t 25)⟩]
def f_seglog_Open_r4 : List AOp := [
  ⟨(some 6), .none, .mv (.c .nilp)⟩,
  ⟨(some 7), .none, .mv (.c (.int .i64 2))⟩]
def f_seglog_Open_c1 : AC := .ret
def f_seglog_Open_r5 : List AOp := [
  ⟨(some 27), .none, .mv (.t 0)⟩,
  ⟨(some 28), .none, .call 137 [(.t 27)]⟩,
  ⟨(some 26), .none, .mv (.t 28)⟩]
def f_seglog_Open_r6 : List AOp := [
  ⟨(some 6), .none, .mv (.c .nilp)⟩,
  ⟨(some 7), .none, .mv (.c (.int .i64 9))⟩]
def f_seglog_Open_c2 : AC := .ret
def f_seglog_Open_c3 : AC := (.cond (.t 26) (.seq (.reg f_seglog_Open_r6) f_seglog_Open_c2) .skip)
def f_seglog_Open_c4 : AC := (.cond (.t 17) (.seq (.reg f_seglog_Open_r4) f_seglog_Open_c1) (.seq (.reg f_seglog_Open_r5) f_seglog_Open_c3))
def f_seglog_Open_c5 : AC := (.cond (.t 14) (.seq (.reg f_seglog_Open_r2) f_seglog_Open_c0) (.seq (.reg f_seglog_Open_r3) f_seglog_Open_c4))
def f_seglog_Open_r7 : List AOp := [
  ⟨(some 29), .none, .mv (.t 0)⟩,
  ⟨(some 30), .none, .mv (.t 1)⟩,
  ⟨(some 31), .none, .loadn 2 (.t 5)⟩,
  ⟨(some 32), .none, .build [.nilp, (.str []), (.int .i64 0), (.int .i64 0), .nils] [(0, 1, (.t 29)), (1, 1, (.t 30)), (2, 2, (.t 31))]⟩,
  ⟨(some 33), .none, .box (.t 32)⟩,
  ⟨(some 8), .none, .mv (.t 33)⟩]
def f_seglog_Open_r8 : List AOp := [
  ⟨(some 35), .none, .mv (.t 8)⟩,
  ⟨(some 36), .none, .call 138 [(.t 35)]⟩,
  ⟨(some 34), .none, .mv (.t 36)⟩,
  ⟨(some 37), .none, .ext (.t 34) 0⟩,
  ⟨(some 38), .none, .ext (.t 34) 1⟩,
  ⟨(some 9), .none, .mv (.t 37)⟩,
  ⟨(some 10), .none, .mv (.t 38)⟩]
def f_seglog_Open_r9 : List AOp := [
  ⟨(some 39), .none, .mv (.t 10)⟩,
  ⟨(some 40), .none, .bin .neq .num (.t 39) (.c (.int .i64 0))⟩]
def f_seglog_Open_r10 : List AOp := [
  ⟨(some 41), .none, .mv (.t 10)⟩,
  ⟨(some 6), .none, .mv (.c .nilp)⟩,
  ⟨(some 7), .none, .mv (.t 41)⟩]
def f_seglog_Open_c6 : AC := .ret
def f_seglog_Open_c7 : AC := (.cond (.t 40) (.seq (.reg f_seglog_Open_r10) f_seglog_Open_c6) .skip)
def f_seglog_Open_r11 : List AOp := [
  ⟨(some 11), .none, .mv (.c (.bool true))⟩]
def f_seglog_Open_r12 : List AOp := [
  ⟨(some 42), .none, .mv (.t 9)⟩,
  ⟨(some 43), .none, .len .slice (.t 42)⟩,
  ⟨(some 44), .none, .mv (.c (.int .i64 0))⟩]
def f_seglog_Open_r13 : List AOp := [
  ⟨(some 45), .none, .bin .lss .num (.t 44) (.t 43)⟩]
def f_seglog_Open_r14 : List AOp := [
  ⟨(some 46), .none, .mv (.t 44)⟩,
  ⟨(some 47), .none, .iaddr 1 (.t 42) (.t 44)⟩,
  ⟨(some 48), .none, .load1 (.t 47)⟩,
  ⟨(some 12), .none, .mv (.t 46)⟩,
  ⟨(some 13), .none, .mv (.t 48)⟩]
def f_seglog_Open_r15 : List AOp := [
  ⟨(some 49), .none, .mv (.t 13)⟩,
  ⟨(some 50), .none, .mv (.t 8)⟩,
  ⟨(some 51), .none, .call 105 [(.t 50)]⟩,
  ⟨(some 52), .none, .bin .lss .num (.t 49) (.t 51)⟩]
def f_seglog_Open_r16 : List AOp := [
  ⟨(some 53), .none, .mv (.t 0)⟩,
  ⟨(some 54), .none, .mv (.t 8)⟩,
  ⟨(some 55), .none, .mv (.t 13)⟩,
  ⟨(some 56), .none, .call 139 [(.t 54), (.t 55), (.c (.str [46, 108, 111, 103]))]⟩,
  ⟨(some 57), .none, .call 65 [(.t 53), (.t 56)]⟩,
  ⟨(some 10), .none, .mv (.t 57)⟩]
def f_seglog_Open_r17 : List AOp := [
  ⟨(some 58), .none, .mv (.t 10)⟩,
  ⟨(some 59), .none, .bin .neq .num (.t 58) (.c (.int .i64 0))⟩]
def f_seglog_Open_c8 : AC := (.cond (.t 59) (.exit 1) .skip)
def f_seglog_Open_c9 : AC := (.seq (.reg f_seglog_Open_r17) f_seglog_Open_c8)
def f_seglog_Open_c10 : AC := (.exit 2)
def f_seglog_Open_c11 : AC := (.cond (.t 52) (.seq (.seq (.reg f_seglog_Open_r16) f_seglog_Open_c9) f_seglog_Open_c10) .skip)
def f_seglog_Open_r18 : List AOp := [
  ⟨(some 61), .none, .mv (.t 8)⟩,
  ⟨(some 62), .none, .mv (.t 13)⟩,
  ⟨(some 63), .none, .call 140 [(.t 61), (.t 62)]⟩,
  ⟨(some 60), .none, .mv (.t 63)⟩,
  ⟨(some 64), .none, .ext (.t 60) 0⟩,
  ⟨(some 65), .none, .ext (.t 60) 1⟩,
  ⟨(some 11), .none, .mv (.t 64)⟩,
  ⟨(some 10), .none, .mv (.t 65)⟩]
def f_seglog_Open_r19 : List AOp := [
  ⟨(some 66), .none, .mv (.t 10)⟩,
  ⟨(some 67), .none, .bin .eql .num (.t 66) (.c (.int .i64 0))⟩,
  ⟨(some 68), .none, .mv (.t 67)⟩,
  ⟨(some 69), (some (68, true)), .mv (.t 11)⟩,
  ⟨(some 70), (some (68, true)), .un .not (.t 69)⟩,
  ⟨(some 71), .none, .pick (.t 68) (.t 70) (.c (.bool false))⟩]
def f_seglog_Open_r20 : List AOp := [
  ⟨(some 72), .none, .mv (.t 8)⟩,
  ⟨(some 73), .none, .mv (.t 9)⟩,
  ⟨(some 74), .none, .mv (.t 12)⟩,
  ⟨(some 75), .none, .bin .add .num (.t 74) (.c (.int .i64 1))⟩,
  ⟨(some 76), .none, .slc 1 (.t 73) (some (.t 75)) .none .none⟩,
  ⟨(some 77), .none, .call 141 [(.t 72), (.t 76)]⟩,
  ⟨(some 10), .none, .mv (.t 77)⟩]
def f_seglog_Open_c12 : AC := (.exit 1)
def f_seglog_Open_c13 : AC := (.cond (.t 71) (.seq (.reg f_seglog_Open_r20) f_seglog_Open_c12) .skip)
def f_seglog_Open_r21 : List AOp := [
  ⟨(some 78), .none, .mv (.t 10)⟩,
  ⟨(some 79), .none, .bin .neq .num (.t 78) (.c (.int .i64 0))⟩]
def f_seglog_Open_c14 : AC := (.cond (.t 79) (.exit 1) .skip)
def f_seglog_Open_c15 : AC := (.seq (.reg f_seglog_Open_r21) f_seglog_Open_c14)
def f_seglog_Open_c16 : AC := (.seq (.seq (.reg f_seglog_Open_r19) f_seglog_Open_c13) f_seglog_Open_c15)
def f_seglog_Open_c17 : AC := (.seq (.reg f_seglog_Open_r18) f_seglog_Open_c16)
def f_seglog_Open_c18 : AC := (.seq (.seq (.reg f_seglog_Open_r15) f_seglog_Open_c11) f_seglog_Open_c17)
def f_seglog_Open_r22 : List AOp := [
  ⟨(some 80), .none, .bin .add .num (.t 44) (.c (.int .i64 1))⟩,
  ⟨(some 44), .none, .mv (.t 80)⟩]
def f_seglog_Open_c19 : AC := (.keep 7 [0, 8, 9, 10, 42, 43, 44] (.reg f_seglog_Open_r22))
def f_seglog_Open_c20 : AC := (.seq (.block 2 (.seq (.reg f_seglog_Open_r14) f_seglog_Open_c18)) f_seglog_Open_c19)
def f_seglog_Open_c21 : AC := (.seq (.cond (.t 45) .skip (.exit 1)) f_seglog_Open_c20)
def f_seglog_Open_c22 : AC := (.seq (.reg f_seglog_Open_r13) f_seglog_Open_c21)
def f_seglog_Open_c23 : AC := (.block 1 (.keep 7 [0, 8, 9, 10, 42, 43, 44] (.loop (.keep 7 [0, 8, 9, 10, 42, 43, 44] f_seglog_Open_c22))))
def f_seglog_Open_r23 : List AOp := [
  ⟨(some 81), .none, .mv (.t 10)⟩,
  ⟨(some 82), .none, .bin .neq .num (.t 81) (.c (.int .i64 0))⟩]
def f_seglog_Open_r24 : List AOp := [
  ⟨(some 83), .none, .mv (.t 10)⟩,
  ⟨(some 6), .none, .mv (.c .nilp)⟩,
  ⟨(some 7), .none, .mv (.t 83)⟩]
def f_seglog_Open_c24 : AC := .ret
def f_seglog_Open_c25 : AC := (.cond (.t 82) (.seq (.reg f_seglog_Open_r24) f_seglog_Open_c24) .skip)
def f_seglog_Open_r25 : List AOp := [
  ⟨(some 84), .none, .mv (.t 8)⟩,
  ⟨(some 6), .none, .mv (.t 84)⟩,
  ⟨(some 7), .none, .mv (.c (.int .i64 0))⟩]
def f_seglog_Open_c26 : AC := .ret
def f_seglog_Open_c27 : AC := (.seq (.reg f_seglog_Open_r25) f_seglog_Open_c26)
def f_seglog_Open_c28 : AC := (.keep 7 [8, 10] (.seq (.seq (.reg f_seglog_Open_r23) f_seglog_Open_c25) f_seglog_Open_c27))
def f_seglog_Open_c29 : AC := (.seq (.seq (.reg f_seglog_Open_r12) f_seglog_Open_c23) f_seglog_Open_c28)
def f_seglog_Open_c30 : AC := (.seq .skip f_seglog_Open_c29)
def f_seglog_Open_c31 : AC := (.seq (.reg f_seglog_Open_r11) f_seglog_Open_c30)
def f_seglog_Open_c32 : AC := (.seq (.seq (.reg f_seglog_Open_r9) f_seglog_Open_c7) f_seglog_Open_c31)
def f_seglog_Open_c33 : AC := (.seq (.reg f_seglog_Open_r8) f_seglog_Open_c32)
def f_seglog_Open_c34 : AC := (.seq (.reg f_seglog_Open_r7) f_seglog_Open_c33)
def f_seglog_Open_c35 : AC := (.scope (.seq (.block 0 (.seq (.reg f_seglog_Open_r1) f_seglog_Open_c5)) f_seglog_Open_c34))
def f_seglog_Open : AF := ⟨85, [.tmp 6, .tmp 7], (.seq (.reg f_seglog_Open_r0) f_seglog_Open_c35)⟩
/- disk_Disk_Size -/
def f_disk_Disk_Size_r0 : List AOp := [
  ⟨(some 4), .none, .mv (.c (.int .i64 0))⟩]
def f_disk_Disk_Size_r1 : List AOp := [
  ⟨(some 5), .none, .mv (.t 0)⟩,
  ⟨(some 6), .none, .mv (.t 1)⟩,
  ⟨(some 7), .none, .call 142 [(.t 5), (.t 6)]⟩,
  ⟨(some 8), .none, .field 0 .none (.t 7)⟩,
  ⟨(some 9), .none, .len .slice (.t 8)⟩,
  ⟨(some 4), .none, .mv (.t 9)⟩]
def f_disk_Disk_Size_c0 : AC := .ret
def f_disk_Disk_Size_c1 : AC := (.seq (.reg f_disk_Disk_Size_r1) f_disk_Disk_Size_c0)
def f_disk_Disk_Size : AF := ⟨10, [.tmp 4], (.seq (.reg f_disk_Disk_Size_r0) f_disk_Disk_Size_c1)⟩
/- part_Part_temp -/
def f_part_Part_temp_r0 : List AOp := [
  ⟨(some 2), .none, .mv (.c (.str []))⟩]
def f_part_Part_temp_r1 : List AOp := [
  ⟨(some 3), .none, .mv (.t 0)⟩,
  ⟨(some 4), .none, .nilck (.t 3)⟩,
  ⟨(some 5), .none, .faddr 0 (.t 4)⟩,
  ⟨(some 6), .none, .faddr 2 (.t 5)⟩,
  ⟨(some 7), .none, .load1 (.t 6)⟩,
  ⟨(some 8), .none, .bin .add .str (.t 7) (.c (.str [46, 116, 109, 112]))⟩,
  ⟨(some 2), .none, .mv (.t 8)⟩]
def f_part_Part_temp_c0 : AC := .ret
def f_part_Part_temp_c1 : AC := (.seq (.reg f_part_Part_temp_r1) f_part_Part_temp_c0)
def f_part_Part_temp : AF := ⟨9, [.tmp 2], (.seq (.reg f_part_Part_temp_r0) f_part_Part_temp_c1)⟩
/- part_has -/
def f_part_has_r0 : List AOp := [
  ⟨(some 4), .none, .mv (.c (.bool false))⟩]
def f_part_has_r1 : List AOp := [
  ⟨(some 8), .none, .mv (.t 0)⟩,
  ⟨(some 9), .none, .mv (.t 1)⟩,
  ⟨(some 10), .none, .call 143 [(.t 8), (.t 9)]⟩,
  ⟨(some 7), .none, .mv (.t 10)⟩,
  ⟨(some 11), .none, .ext (.t 7) 0⟩,
  ⟨(some 12), .none, .ext (.t 7) 1⟩,
  ⟨(some 5), .none, .mv (.t 11)⟩,
  ⟨(some 6), .none, .mv (.t 12)⟩]
def f_part_has_r2 : List AOp := [
  ⟨(some 13), .none, .mv (.t 6)⟩,
  ⟨(some 14), .none, .bin .eql .num (.t 13) (.c (.int .i64 0))⟩,
  ⟨(some 4), .none, .mv (.t 14)⟩]
def f_part_has_c0 : AC := .ret
def f_part_has_c1 : AC := (.seq (.reg f_part_has_r2) f_part_has_c0)
def f_part_has_c2 : AC := (.seq (.reg f_part_has_r1) f_part_has_c1)
def f_part_has : AF := ⟨15, [.tmp 4], (.seq (.reg f_part_has_r0) f_part_has_c2)⟩
/- part_Part_load -/
def f_part_Part_load_r0 : List AOp := [
  ⟨(some 2), .none, .mv (.c (.int .i64 0))⟩]
def f_part_Part_load_r1 : List AOp := [
  ⟨(some 15), .none, .mv (.t 0)⟩,
  ⟨(some 16), .none, .mv (.t 0)⟩,
  ⟨(some 17), .none, .nilck (.t 16)⟩,
  ⟨(some 18), .none, .faddr 3 (.t 17)⟩,
  ⟨(some 19), .none, .load1 (.t 18)⟩,
  ⟨(some 20), .none, .call 147 [(.t 19)]⟩,
  ⟨(some 14), .none, .mv (.t 20)⟩,
  ⟨(some 21), .none, .ext (.t 14) 0⟩,
  ⟨(some 22), .none, .ext (.t 14) 1⟩,
  ⟨(some 23), .none, .nilck (.t 15)⟩,
  ⟨(some 24), .none, .faddr 4 (.t 23)⟩,
  ⟨.none, .none, .store 1 (.t 24) (.t 21)⟩]
def f_part_Part_load_r2 : List AOp := [
  ⟨(some 25), .none, .mv (.t 0)⟩,
  ⟨(some 26), .none, .call 148 []⟩,
  ⟨(some 27), .none, .nilck (.t 25)⟩,
  ⟨(some 28), .none, .faddr 5 (.t 27)⟩,
  ⟨.none, .none, .store 1 (.t 28) (.t 26)⟩]
def f_part_Part_load_r3 : DR := ⟨[
  ⟨(some 30), .none, .mv (.t 0)⟩,
  ⟨(some 31), .none, .nilck (.t 30)⟩,
  ⟨(some 32), .none, .faddr 0 (.t 31)⟩,
  ⟨(some 33), .none, .faddr 1 (.t 32)⟩,
  ⟨(some 34), .none, .load1 (.t 33)⟩,
  ⟨(some 35), .none, .mv (.t 0)⟩,
  ⟨(some 36), .none, .call 149 [(.t 35)]⟩,
  ⟨(some 37), .none, .call 143 [(.t 34), (.t 36)]⟩,
  ⟨(some 29), .none, .mv (.t 37)⟩,
  ⟨(some 38), .none, .ext (.t 29) 0⟩,
  ⟨(some 39), .none, .ext (.t 29) 1⟩,
  ⟨(some 3), .none, .mv (.t 38)⟩,
  ⟨(some 4), .none, .mv (.t 39)⟩],
  [0, 1, 3, 7, 15, 0, 32, 127, 255, 511, 511, 1023, 4095], [0, 1, 2, 3, 4, 5, 6, 7, 8, 9, 10, 11, 12], [(4, 1)], .none⟩
def f_part_Part_load_r4 : List AOp := [
  ⟨(some 41), .none, .mv (.t 3)⟩,
  ⟨(some 42), .none, .call 150 [(.t 41)]⟩,
  ⟨(some 40), .none, .mv (.t 42)⟩,
  ⟨(some 43), .none, .ext (.t 40) 0⟩,
  ⟨(some 44), .none, .ext (.t 40) 1⟩,
  ⟨(some 5), .none, .mv (.t 43)⟩,
  ⟨(some 6), .none, .mv (.t 44)⟩]
def f_part_Part_load_r5 : List AOp := [
  ⟨(some 45), .none, .mv (.t 6)⟩,
  ⟨(some 46), .none, .un .not (.t 45)⟩]
def f_part_Part_load_r6 : List AOp := [
  ⟨(some 2), .none, .mv (.c (.int .i64 0))⟩]
def f_part_Part_load_c0 : AC := .ret
def f_part_Part_load_c1 : AC := (.cond (.t 46) (.seq (.reg f_part_Part_load_r6) f_part_Part_load_c0) .skip)
def f_part_Part_load_r7 : List AOp := [
  ⟨(some 47), .none, .mv (.t 5)⟩,
  ⟨(some 48), .none, .call 82 [(.t 47)]⟩,
  ⟨(some 7), .none, .mv (.t 48)⟩]
def f_part_Part_load_r8 : List AOp := [
  ⟨(some 49), .none, .mv (.t 7)⟩,
  ⟨(some 50), .none, .call 83 [(.t 49)]⟩,
  ⟨(some 51), .none, .mv (.t 7)⟩,
  ⟨(some 52), .none, .call 151 [(.t 51), (.c (.int .i64 262144))]⟩,
  ⟨(some 53), .none, .mv (.t 7)⟩,
  ⟨(some 54), .none, .call 151 [(.t 53), (.c (.int .i64 262144))]⟩,
  ⟨(some 8), .none, .mv (.t 50)⟩,
  ⟨(some 9), .none, .mv (.t 52)⟩,
  ⟨(some 10), .none, .mv (.t 54)⟩]
def f_part_Part_load_r9 : List AOp := [
  ⟨(some 55), .none, .mv (.t 7)⟩,
  ⟨(some 56), .none, .call 84 [(.t 55)]⟩,
  ⟨(some 57), .none, .bin .neq .num (.t 56) (.c (.int .i64 0))⟩,
  ⟨(some 58), .none, .mv (.t 57)⟩,
  ⟨(some 59), (some (58, false)), .mv (.t 8)⟩,
  ⟨(some 60), (some (58, false)), .mv (.t 0)⟩,
  ⟨(some 61), (some (58, false)), .call 30 [(.t 60)]⟩,
  ⟨(some 62), (some (58, false)), .conv (.int .u64) (.t 61)⟩,
  ⟨(some 63), (some (58, false)), .bin .gtr .num (.t 59) (.t 62)⟩,
  ⟨(some 64), .none, .pick (.t 58) (.c (.bool true)) (.t 63)⟩,
  ⟨(some 65), .none, .mv (.t 64)⟩,
  ⟨(some 66), (some (65, false)), .mv (.t 8)⟩,
  ⟨(some 67), (some (65, false)), .conv (.int .i64) (.t 66)⟩,
  ⟨(some 68), (some (65, false)), .mv (.t 0)⟩,
  ⟨(some 69), (some (65, false)), .call 29 [(.t 68)]⟩,
  ⟨(some 70), (some (65, false)), .bin .lss .num (.t 67) (.t 69)⟩,
  ⟨(some 71), .none, .pick (.t 65) (.c (.bool true)) (.t 70)⟩]
def f_part_Part_load_r10 : List AOp := [
  ⟨(some 2), .none, .mv (.c (.int .i64 0))⟩]
def f_part_Part_load_c2 : AC := .ret
def f_part_Part_load_c3 : AC := (.cond (.t 71) (.seq (.reg f_part_Part_load_r10) f_part_Part_load_c2) .skip)
def f_part_Part_load_r11 : List AOp := [
  ⟨(some 73), .none, .mv (.t 9)⟩,
  ⟨(some 74), .none, .conv .toBytes (.t 73)⟩,
  ⟨(some 75), .none, .mv (.t 0)⟩,
  ⟨(some 76), .none, .nilck (.t 75)⟩,
  ⟨(some 77), .none, .faddr 3 (.t 76)⟩,
  ⟨(some 78), .none, .load1 (.t 77)⟩,
  ⟨(some 79), .none, .call 152 [(.t 74), (.t 78)]⟩,
  ⟨(some 72), .none, .mv (.t 79)⟩,
  ⟨(some 80), .none, .ext (.t 72) 0⟩,
  ⟨(some 81), .none, .ext (.t 72) 1⟩,
  ⟨(some 11), .none, .mv (.t 80)⟩,
  ⟨(some 12), .none, .mv (.t 81)⟩]
def f_part_Part_load_r12 : List AOp := [
  ⟨(some 82), .none, .mv (.t 12)⟩,
  ⟨(some 83), .none, .bin .neq .num (.t 82) (.c (.int .i64 0))⟩,
  ⟨(some 84), .none, .mv (.t 83)⟩,
  ⟨(some 85), (some (84, false)), .mv (.t 11)⟩,
  ⟨(some 86), (some (84, false)), .call 153 [(.t 85)]⟩,
  ⟨(some 87), (some (84, false)), .mv (.t 8)⟩,
  ⟨(some 88), (some (84, false)), .conv (.int .i64) (.t 87)⟩,
  ⟨(some 89), (some (84, false)), .bin .gtr .num (.t 86) (.t 88)⟩,
  ⟨(some 90), .none, .pick (.t 84) (.c (.bool true)) (.t 89)⟩]
def f_part_Part_load_r13 : List AOp := [
  ⟨(some 2), .none, .mv (.c (.int .i64 0))⟩]
def f_part_Part_load_c4 : AC := .ret
def f_part_Part_load_c5 : AC := (.cond (.t 90) (.seq (.reg f_part_Part_load_r13) f_part_Part_load_c4) .skip)
def f_part_Part_load_r14 : List AOp := [
  ⟨(some 92), .none, .mv (.t 10)⟩,
  ⟨(some 93), .none, .conv .toBytes (.t 92)⟩,
  ⟨(some 94), .none, .call 154 [(.t 93)]⟩,
  ⟨(some 91), .none, .mv (.t 94)⟩,
  ⟨(some 95), .none, .ext (.t 91) 0⟩,
  ⟨(some 96), .none, .ext (.t 91) 1⟩,
  ⟨(some 13), .none, .mv (.t 95)⟩,
  ⟨(some 12), .none, .mv (.t 96)⟩]
def f_part_Part_load_r15 : List AOp := [
  ⟨(some 97), .none, .mv (.t 12)⟩,
  ⟨(some 98), .none, .bin .neq .num (.t 97) (.c (.int .i64 0))⟩,
  ⟨(some 99), .none, .mv (.t 98)⟩,
  ⟨(some 100), (some (99, false)), .mv (.t 13)⟩,
  ⟨(some 101), (some (99, false)), .call 155 [(.t 100)]⟩,
  ⟨(some 102), (some (99, false)), .mv (.t 8)⟩,
  ⟨(some 103), (some (99, false)), .conv (.int .i64) (.t 102)⟩,
  ⟨(some 104), (some (99, false)), .bin .gtr .num (.t 101) (.t 103)⟩,
  ⟨(some 105), .none, .pick (.t 99) (.c (.bool true)) (.t 104)⟩]
def f_part_Part_load_r16 : List AOp := [
  ⟨(some 2), .none, .mv (.c (.int .i64 0))⟩]
def f_part_Part_load_c6 : AC := .ret
def f_part_Part_load_c7 : AC := (.cond (.t 105) (.seq (.reg f_part_Part_load_r16) f_part_Part_load_c6) .skip)
def f_part_Part_load_r17 : List AOp := [
  ⟨(some 106), .none, .mv (.t 0)⟩,
  ⟨(some 107), .none, .mv (.t 0)⟩,
  ⟨(some 108), .none, .mv (.t 11)⟩,
  ⟨(some 109), .none, .mv (.t 13)⟩,
  ⟨(some 110), .none, .nilck (.t 106)⟩,
  ⟨(some 111), .none, .faddr 4 (.t 110)⟩,
  ⟨.none, .none, .store 1 (.t 111) (.t 108)⟩,
  ⟨(some 112), .none, .nilck (.t 107)⟩,
  ⟨(some 113), .none, .faddr 5 (.t 112)⟩,
  ⟨.none, .none, .store 1 (.t 113) (.t 109)⟩]
def f_part_Part_load_r18 : List AOp := [
  ⟨(some 114), .none, .mv (.t 8)⟩,
  ⟨(some 115), .none, .conv (.int .i64) (.t 114)⟩,
  ⟨(some 2), .none, .mv (.t 115)⟩]
def f_part_Part_load_c8 : AC := .ret
def f_part_Part_load_c9 : AC := (.seq (.reg f_part_Part_load_r18) f_part_Part_load_c8)
def f_part_Part_load_c10 : AC := (.seq (.reg f_part_Part_load_r17) f_part_Part_load_c9)
def f_part_Part_load_c11 : AC := (.seq (.seq (.reg f_part_Part_load_r15) f_part_Part_load_c7) f_part_Part_load_c10)
def f_part_Part_load_c12 : AC := (.seq (.reg f_part_Part_load_r14) f_part_Part_load_c11)
def f_part_Part_load_c13 : AC := (.seq (.seq (.reg f_part_Part_load_r12) f_part_Part_load_c5) f_part_Part_load_c12)
def f_part_Part_load_c14 : AC := (.seq (.reg f_part_Part_load_r11) f_part_Part_load_c13)
def f_part_Part_load_c15 : AC := (.seq (.seq (.reg f_part_Part_load_r9) f_part_Part_load_c3) f_part_Part_load_c14)
def f_part_Part_load_c16 : AC := (.seq (.reg f_part_Part_load_r8) f_part_Part_load_c15)
def f_part_Part_load_c17 : AC := (.seq (.reg f_part_Part_load_r7) f_part_Part_load_c16)
def f_part_Part_load_c18 : AC := (.seq (.seq (.reg f_part_Part_load_r5) f_part_Part_load_c1) f_part_Part_load_c17)
def f_part_Part_load_c19 : AC := (.seq (.reg f_part_Part_load_r4) f_part_Part_load_c18)
def f_part_Part_load_c20 : AC := (.seq (.dreg f_part_Part_load_r3) f_part_Part_load_c19)
def f_part_Part_load_c21 : AC := (.seq (.reg f_part_Part_load_r2) f_part_Part_load_c20)
def f_part_Part_load_c22 : AC := (.seq (.reg f_part_Part_load_r1) f_part_Part_load_c21)
def f_part_Part_load : AF := ⟨116, [.tmp 2], (.seq (.reg f_part_Part_load_r0) f_part_Part_load_c22)⟩
/- seglog_Log_All -/
def f_seglog_Log_All_r0 : List AOp := [
  ⟨(some 2), .none, .mv (.c .nils)⟩]
def f_seglog_Log_All_r1 : List AOp := [
  ⟨(some 5), .none, .mv (.t 0)⟩,
  ⟨(some 6), .none, .bin .eql .ptr (.t 5) (.c .nilp)⟩]
def f_seglog_Log_All_r2 : List AOp := [
  ⟨(some 2), .none, .mv (.c .nils)⟩]
def f_seglog_Log_All_c0 : AC := .ret
def f_seglog_Log_All_c1 : AC := (.cond (.t 6) (.seq (.reg f_seglog_Log_All_r2) f_seglog_Log_All_c0) .skip)
def f_seglog_Log_All_r3 : List AOp := [
  ⟨(some 8), .none, .mv (.t 0)⟩,
  ⟨(some 9), .none, .mv (.t 0)⟩,
  ⟨(some 10), .none, .call 104 [(.t 9)]⟩,
  ⟨(some 11), .none, .call 92 [(.t 8), (.t 10), (.c (.int .i64 1099511627776))]⟩,
  ⟨(some 7), .none, .mv (.t 11)⟩,
  ⟨(some 12), .none, .ext (.t 7) 0⟩,
  ⟨(some 13), .none, .ext (.t 7) 1⟩,
  ⟨(some 3), .none, .mv (.t 12)⟩,
  ⟨(some 4), .none, .mv (.t 13)⟩]
def f_seglog_Log_All_r4 : List AOp := [
  ⟨(some 14), .none, .mv (.t 3)⟩,
  ⟨(some 2), .none, .mv (.t 14)⟩]
def f_seglog_Log_All_c2 : AC := .ret
def f_seglog_Log_All_c3 : AC := (.seq (.reg f_seglog_Log_All_r4) f_seglog_Log_All_c2)
def f_seglog_Log_All_c4 : AC := (.seq (.reg f_seglog_Log_All_r3) f_seglog_Log_All_c3)
def f_seglog_Log_All_c5 : AC := (.seq (.seq (.reg f_seglog_Log_All_r1) f_seglog_Log_All_c1) f_seglog_Log_All_c4)
def f_seglog_Log_All : AF := ⟨15, [.tmp 2], (.seq (.reg f_seglog_Log_All_r0) f_seglog_Log_All_c5)⟩
/- part_Part_take -/
def f_part_Part_take_r0 : List AOp := [
  ⟨(some 3), .none, .box (.t 1)⟩]
def f_part_Part_take_r1 : DR := ⟨[
  ⟨(some 4), .none, .mv (.t 0)⟩,
  ⟨(some 5), .none, .nilck (.t 4)⟩,
  ⟨(some 6), .none, .faddr 4 (.t 5)⟩,
  ⟨(some 7), .none, .load1 (.t 6)⟩,
  ⟨(some 8), .none, .loadn 7 (.t 3)⟩,
  ⟨(some 9), .none, .call 156 [(.t 7), (.t 8)]⟩],
  [0, 1, 3, 7, 0, 31], [0, 1, 2, 3, 4, 5], [], .none⟩
def f_part_Part_take_r2 : DR := ⟨[
  ⟨(some 10), .none, .mv (.t 0)⟩,
  ⟨(some 11), .none, .nilck (.t 10)⟩,
  ⟨(some 12), .none, .faddr 5 (.t 11)⟩,
  ⟨(some 13), .none, .load1 (.t 12)⟩,
  ⟨(some 14), .none, .loadn 7 (.t 3)⟩,
  ⟨(some 15), .none, .call 157 [(.t 13), (.t 14)]⟩],
  [0, 1, 3, 7, 0, 31], [0, 1, 2, 3, 4, 5], [], .none⟩
def f_part_Part_take_c0 : AC := (.dreg f_part_Part_take_r2)
def f_part_Part_take_c1 : AC := (.seq (.dreg f_part_Part_take_r1) f_part_Part_take_c0)
def f_part_Part_take : AF := ⟨16, [], (.seq (.reg f_part_Part_take_r0) f_part_Part_take_c1)⟩
/- offsets_Commit_may -/
def f_offsets_Commit_may_r0 : List AOp := [
  ⟨(some 1), .none, .box (.t 0)⟩,
  ⟨(some 2), .none, .mv (.c (.bool false))⟩]
def f_offsets_Commit_may_r1 : List AOp := [
  ⟨(some 3), .none, .faddr 0 (.t 1)⟩,
  ⟨(some 4), .none, .load1 (.t 3)⟩,
  ⟨(some 5), .none, .bin .geq .num (.t 4) (.c (.int .i64 0))⟩,
  ⟨(some 6), .none, .mv (.t 5)⟩,
  ⟨(some 7), (some (6, true)), .faddr 0 (.t 1)⟩,
  ⟨(some 8), (some (6, true)), .load1 (.t 7)⟩,
  ⟨(some 9), (some (6, true)), .bin .leq .num (.t 8) (.c (.int .i64 255))⟩,
  ⟨(some 10), .none, .pick (.t 6) (.t 9) (.c (.bool false))⟩,
  ⟨(some 11), .none, .mv (.t 10)⟩,
  ⟨(some 12), (some (11, true)), .faddr 1 (.t 1)⟩,
  ⟨(some 13), (some (11, true)), .load1 (.t 12)⟩,
  ⟨(some 14), (some (11, true)), .bin .geq .num (.t 13) (.c (.int .i64 0))⟩,
  ⟨(some 15), .none, .pick (.t 11) (.t 14) (.c (.bool false))⟩,
  ⟨(some 16), .none, .mv (.t 15)⟩,
  ⟨(some 17), (some (16, true)), .faddr 1 (.t 1)⟩,
  ⟨(some 18), (some (16, true)), .load1 (.t 17)⟩,
  ⟨(some 19), (some (16, true)), .bin .leq .num (.t 18) (.c (.int .i64 1099511627776))⟩,
  ⟨(some 20), .none, .pick (.t 16) (.t 19) (.c (.bool false))⟩,
  ⟨(some 21), .none, .mv (.t 20)⟩,
  ⟨(some 22), (some (21, true)), .faddr 2 (.t 1)⟩,
  ⟨(some 23), (some (21, true)), .load1 (.t 22)⟩,
  ⟨(some 24), (some (21, true)), .bin .geq .num (.t 23) (.c (.int .i64 0))⟩,
  ⟨(some 25), .none, .pick (.t 21) (.t 24) (.c (.bool false))⟩,
  ⟨(some 26), .none, .mv (.t 25)⟩,
  ⟨(some 27), (some (26, true)), .faddr 2 (.t 1)⟩,
  ⟨(some 28), (some (26, true)), .load1 (.t 27)⟩,
  ⟨(some 29), (some (26, true)), .bin .leq .num (.t 28) (.c (.int .i64 64))⟩,
  ⟨(some 30), .none, .pick (.t 26) (.t 29) (.c (.bool false))⟩,
  ⟨(some 31), .none, .mv (.t 30)⟩,
  ⟨(some 32), (some (31, true)), .faddr 3 (.t 1)⟩,
  ⟨(some 33), (some (31, true)), .load1 (.t 32)⟩,
  ⟨(some 34), (some (31, true)), .bin .geq .num (.t 33) (.c (.int .i64 0))⟩,
  ⟨(some 35), .none, .pick (.t 31) (.t 34) (.c (.bool false))⟩,
  ⟨(some 36), .none, .mv (.t 35)⟩,
  ⟨(some 37), (some (36, true)), .faddr 3 (.t 1)⟩,
  ⟨(some 38), (some (36, true)), .load1 (.t 37)⟩,
  ⟨(some 39), (some (36, true)), .bin .leq .num (.t 38) (.c (.int .i64 2147483647))⟩,
  ⟨(some 40), .none, .pick (.t 36) (.t 39) (.c (.bool false))⟩,
  ⟨(some 2), .none, .mv (.t 40)⟩]
def f_offsets_Commit_may_c0 : AC := .ret
def f_offsets_Commit_may_c1 : AC := (.seq (.reg f_offsets_Commit_may_r1) f_offsets_Commit_may_c0)
def f_offsets_Commit_may : AF := ⟨41, [.tmp 2], (.seq (.reg f_offsets_Commit_may_r0) f_offsets_Commit_may_c1)⟩
/- wire_Join -/
def f_wire_Join_r0 : List AOp := [
  ⟨(some 2), .none, .mv (.c .nils)⟩]
def f_wire_Join_r1 : List AOp := [
  ⟨(some 3), .none, .mv (.c (.int .i64 0))⟩]
def f_wire_Join_r2 : List AOp := [
  ⟨(some 9), .none, .mv (.t 0)⟩,
  ⟨(some 10), .none, .len .slice (.t 9)⟩,
  ⟨(some 11), .none, .mv (.c (.int .i64 0))⟩]
def f_wire_Join_r3 : List AOp := [
  ⟨(some 12), .none, .bin .lss .num (.t 11) (.t 10)⟩]
def f_wire_Join_r4 : List AOp := [
  ⟨(some 13), .none, .iaddr 1 (.t 9) (.t 11)⟩,
  ⟨(some 14), .none, .load1 (.t 13)⟩,
  ⟨(some 5), .none, .mv (.t 14)⟩]
def f_wire_Join_r5 : List AOp := [
  ⟨(some 15), .none, .mv (.t 3)⟩,
  ⟨(some 16), .none, .mv (.t 5)⟩,
  ⟨(some 17), .none, .len .slice (.t 16)⟩,
  ⟨(some 18), .none, .bin .add .num (.t 15) (.t 17)⟩,
  ⟨(some 3), .none, .mv (.t 18)⟩]
def f_wire_Join_c0 : AC := (.reg f_wire_Join_r5)
def f_wire_Join_r6 : List AOp := [
  ⟨(some 19), .none, .bin .add .num (.t 11) (.c (.int .i64 1))⟩,
  ⟨(some 11), .none, .mv (.t 19)⟩]
def f_wire_Join_c1 : AC := (.reg f_wire_Join_r6)
def f_wire_Join_c2 : AC := (.seq (.block 1 (.seq (.reg f_wire_Join_r4) f_wire_Join_c0)) f_wire_Join_c1)
def f_wire_Join_c3 : AC := (.seq (.cond (.t 12) .skip (.exit 0)) f_wire_Join_c2)
def f_wire_Join_c4 : AC := (.seq (.reg f_wire_Join_r3) f_wire_Join_c3)
def f_wire_Join_c5 : AC := (.block 0 (.keep 6 [0, 3, 9, 10, 11] (.loop (.keep 6 [0, 3, 9, 10, 11] f_wire_Join_c4))))
def f_wire_Join_r7 : List AOp := [
  ⟨(some 20), .none, .mv (.t 3)⟩,
  ⟨(some 21), .none, .mksl 1 1 [(.int .u8 0)] (.c (.int .i64 0)) (.t 20)⟩,
  ⟨(some 6), .none, .mv (.t 21)⟩]
def f_wire_Join_r8 : List AOp := [
  ⟨(some 22), .none, .mv (.t 0)⟩,
  ⟨(some 23), .none, .len .slice (.t 22)⟩,
  ⟨(some 24), .none, .mv (.c (.int .i64 0))⟩]
def f_wire_Join_r9 : List AOp := [
  ⟨(some 25), .none, .bin .lss .num (.t 24) (.t 23)⟩]
def f_wire_Join_r10 : List AOp := [
  ⟨(some 26), .none, .iaddr 1 (.t 22) (.t 24)⟩,
  ⟨(some 27), .none, .load1 (.t 26)⟩,
  ⟨(some 8), .none, .mv (.t 27)⟩]
def f_wire_Join_r11 : List AOp := [
  ⟨(some 28), .none, .mv (.t 6)⟩,
  ⟨(some 29), .none, .mv (.t 8)⟩,
  ⟨(some 30), .none, .app false 1 1 (.t 28) (.t 29)⟩,
  ⟨(some 6), .none, .mv (.t 30)⟩]
def f_wire_Join_c6 : AC := (.reg f_wire_Join_r11)
def f_wire_Join_r12 : List AOp := [
  ⟨(some 31), .none, .bin .add .num (.t 24) (.c (.int .i64 1))⟩,
  ⟨(some 24), .none, .mv (.t 31)⟩]
def f_wire_Join_c7 : AC := (.reg f_wire_Join_r12)
def f_wire_Join_c8 : AC := (.seq (.block 3 (.seq (.reg f_wire_Join_r10) f_wire_Join_c6)) f_wire_Join_c7)
def f_wire_Join_c9 : AC := (.seq (.cond (.t 25) .skip (.exit 2)) f_wire_Join_c8)
def f_wire_Join_c10 : AC := (.seq (.reg f_wire_Join_r9) f_wire_Join_c9)
def f_wire_Join_c11 : AC := (.block 2 (.keep 6 [6, 22, 23, 24] (.loop (.keep 6 [6, 22, 23, 24] f_wire_Join_c10))))
def f_wire_Join_r13 : List AOp := [
  ⟨(some 32), .none, .mv (.t 6)⟩,
  ⟨(some 2), .none, .mv (.t 32)⟩]
def f_wire_Join_c12 : AC := .ret
def f_wire_Join_c13 : AC := (.seq (.reg f_wire_Join_r13) f_wire_Join_c12)
def f_wire_Join_c14 : AC := (.seq (.seq (.reg f_wire_Join_r8) f_wire_Join_c11) f_wire_Join_c13)
def f_wire_Join_c15 : AC := (.seq (.reg f_wire_Join_r7) f_wire_Join_c14)
def f_wire_Join_c16 : AC := (.seq (.seq (.reg f_wire_Join_r2) f_wire_Join_c5) f_wire_Join_c15)
def f_wire_Join_c17 : AC := (.seq (.reg f_wire_Join_r1) f_wire_Join_c16)
def f_wire_Join : AF := ⟨33, [.tmp 2], (.seq (.reg f_wire_Join_r0) f_wire_Join_c17)⟩
/- wire_Uint -/
def f_wire_Uint_r0 : List AOp := [
  ⟨(some 2), .none, .mv (.c .nils)⟩]
def f_wire_Uint_r1 : List AOp := [
  ⟨(some 3), .none, .mv (.c .nils)⟩]
def f_wire_Uint_r2 : List AOp := [
  ⟨(some 4), .none, .mv (.t 0)⟩,
  ⟨(some 5), .none, .bin .geq .num (.t 4) (.c (.int .u64 128))⟩]
def f_wire_Uint_c0 : AC := (.cond (.t 5) .skip (.exit 0))
def f_wire_Uint_r3 : List AOp := [
  ⟨(some 6), .none, .mv (.t 3)⟩,
  ⟨(some 7), .none, .mv (.t 0)⟩,
  ⟨(some 8), .none, .conv (.int .u8) (.t 7)⟩,
  ⟨(some 9), .none, .bin .or .num (.t 8) (.c (.int .u8 128))⟩,
  ⟨(some 10), .none, .bsl false 1 1 [(.int .u8 0)] [(0, 1, (.t 9))]⟩,
  ⟨(some 11), .none, .app false 1 1 (.t 6) (.t 10)⟩,
  ⟨(some 3), .none, .mv (.t 11)⟩]
def f_wire_Uint_r4 : List AOp := [
  ⟨(some 12), .none, .mv (.t 0)⟩,
  ⟨(some 13), .none, .bin .shr .num (.t 12) (.c (.int .u64 7))⟩,
  ⟨(some 0), .none, .mv (.t 13)⟩]
def f_wire_Uint_c1 : AC := (.reg f_wire_Uint_r4)
def f_wire_Uint_c2 : AC := (.block 1 (.seq (.reg f_wire_Uint_r3) f_wire_Uint_c1))
def f_wire_Uint_c3 : AC := (.seq (.seq (.reg f_wire_Uint_r2) f_wire_Uint_c0) f_wire_Uint_c2)
def f_wire_Uint_r5 : List AOp := [
  ⟨(some 14), .none, .mv (.t 3)⟩,
  ⟨(some 15), .none, .mv (.t 0)⟩,
  ⟨(some 16), .none, .conv (.int .u8) (.t 15)⟩,
  ⟨(some 17), .none, .bsl false 1 1 [(.int .u8 0)] [(0, 1, (.t 16))]⟩,
  ⟨(some 18), .none, .app false 1 1 (.t 14) (.t 17)⟩,
  ⟨(some 2), .none, .mv (.t 18)⟩]
def f_wire_Uint_c4 : AC := .ret
def f_wire_Uint_c5 : AC := (.seq (.reg f_wire_Uint_r5) f_wire_Uint_c4)
def f_wire_Uint_c6 : AC := (.seq (.block 0 (.keep 5 [0, 3] (.loop (.keep 5 [0, 3] f_wire_Uint_c3)))) f_wire_Uint_c5)
def f_wire_Uint_c7 : AC := (.seq (.reg f_wire_Uint_r1) f_wire_Uint_c6)
def f_wire_Uint : AF := ⟨19, [.tmp 2], (.seq (.reg f_wire_Uint_r0) f_wire_Uint_c7)⟩
/- offsets_key -/
def f_offsets_key_r0 : List AOp := [
  ⟨(some 2), .none, .mv (.c (.str []))⟩]
def f_offsets_key_r1 : List AOp := [
  ⟨(some 3), .none, .mv (.t 0)⟩,
  ⟨(some 4), .none, .bin .quo .num (.t 3) (.c (.int .i64 100))⟩,
  ⟨(some 5), .none, .bin .add .num (.c (.int .i64 48)) (.t 4)⟩,
  ⟨(some 6), .none, .conv (.int .u8) (.t 5)⟩,
  ⟨(some 7), .none, .mv (.t 0)⟩,
  ⟨(some 8), .none, .bin .quo .num (.t 7) (.c (.int .i64 10))⟩,
  ⟨(some 9), .none, .bin .rem .num (.t 8) (.c (.int .i64 10))⟩,
  ⟨(some 10), .none, .bin .add .num (.c (.int .i64 48)) (.t 9)⟩,
  ⟨(some 11), .none, .conv (.int .u8) (.t 10)⟩,
  ⟨(some 12), .none, .mv (.t 0)⟩,
  ⟨(some 13), .none, .bin .rem .num (.t 12) (.c (.int .i64 10))⟩,
  ⟨(some 14), .none, .bin .add .num (.c (.int .i64 48)) (.t 13)⟩,
  ⟨(some 15), .none, .conv (.int .u8) (.t 14)⟩,
  ⟨(some 16), .none, .bsl false 1 3 [(.int .u8 0)] [(0, 1, (.t 6)), (1, 1, (.t 11)), (2, 1, (.t 15))]⟩,
  ⟨(some 17), .none, .conv .toStr (.t 16)⟩,
  ⟨(some 18), .none, .bin .add .str (.c (.str [111])) (.t 17)⟩,
  ⟨(some 2), .none, .mv (.t 18)⟩]
def f_offsets_key_c0 : AC := .ret
def f_offsets_key_c1 : AC := (.seq (.reg f_offsets_key_r1) f_offsets_key_c0)
def f_offsets_key : AF := ⟨19, [.tmp 2], (.seq (.reg f_offsets_key_r0) f_offsets_key_c1)⟩
/- towpathref01_Uint -/
def f_towpathref01_Uint_r0 : List AOp := [
  ⟨(some 2), .none, .mv (.c .nils)⟩]
def f_towpathref01_Uint_r1 : List AOp := [
  ⟨(some 4), .none, .mv (.t 0)⟩,
  ⟨(some 5), .none, .bin .lss .num (.t 4) (.c (.int .u64 128))⟩]
def f_towpathref01_Uint_r2 : List AOp := [
  ⟨(some 6), .none, .mv (.t 0)⟩,
  ⟨(some 7), .none, .conv (.int .u8) (.t 6)⟩,
  ⟨(some 8), .none, .bsl false 1 1 [(.int .u8 0)] [(0, 1, (.t 7))]⟩,
  ⟨(some 2), .none, .mv (.t 8)⟩]
def f_towpathref01_Uint_c0 : AC := .ret
def f_towpathref01_Uint_c1 : AC := (.cond (.t 5) (.seq (.reg f_towpathref01_Uint_r2) f_towpathref01_Uint_c0) .skip)
def f_towpathref01_Uint_r3 : List AOp := [
  ⟨(some 9), .none, .mv (.t 0)⟩,
  ⟨(some 10), .none, .bin .rem .num (.t 9) (.c (.int .u64 128))⟩,
  ⟨(some 11), .none, .bin .add .num (.t 10) (.c (.int .u64 128))⟩,
  ⟨(some 12), .none, .conv (.int .u8) (.t 11)⟩,
  ⟨(some 13), .none, .bsl false 1 1 [(.int .u8 0)] [(0, 1, (.t 12))]⟩,
  ⟨(some 3), .none, .mv (.t 13)⟩]
def f_towpathref01_Uint_r4 : List AOp := [
  ⟨(some 14), .none, .mv (.t 3)⟩,
  ⟨(some 15), .none, .mv (.t 0)⟩,
  ⟨(some 16), .none, .bin .quo .num (.t 15) (.c (.int .u64 128))⟩,
  ⟨(some 17), .none, .call 80 [(.t 16)]⟩,
  ⟨(some 18), .none, .app false 1 1 (.t 14) (.t 17)⟩,
  ⟨(some 2), .none, .mv (.t 18)⟩]
def f_towpathref01_Uint_c2 : AC := .ret
def f_towpathref01_Uint_c3 : AC := (.seq (.reg f_towpathref01_Uint_r4) f_towpathref01_Uint_c2)
def f_towpathref01_Uint_c4 : AC := (.seq (.reg f_towpathref01_Uint_r3) f_towpathref01_Uint_c3)
def f_towpathref01_Uint_c5 : AC := (.seq (.seq (.reg f_towpathref01_Uint_r1) f_towpathref01_Uint_c1) f_towpathref01_Uint_c4)
def f_towpathref01_Uint : AF := ⟨19, [.tmp 2], (.seq (.reg f_towpathref01_Uint_r0) f_towpathref01_Uint_c5)⟩
/- towpathref14_digits -/
def f_towpathref14_digits_r0 : List AOp := [
  ⟨(some 2), .none, .mv (.c (.str []))⟩]
def f_towpathref14_digits_r1 : DR := ⟨[
  ⟨(some 3), .none, .mv (.t 0)⟩,
  ⟨(some 4), .none, .bin .quo .num (.t 3) (.c (.int .i64 100))⟩,
  ⟨(some 5), .none, .mv (.t 0)⟩,
  ⟨(some 6), .none, .bin .quo .num (.t 5) (.c (.int .i64 100))⟩,
  ⟨(some 7), .none, .bin .add .num (.t 6) (.c (.int .i64 1))⟩,
  ⟨(some 8), .none, .sslc (.c (.str [48, 49, 50, 51, 52, 53, 54, 55, 56, 57])) (some (.t 4)) (some (.t 7))⟩,
  ⟨(some 9), .none, .mv (.t 0)⟩,
  ⟨(some 10), .none, .bin .quo .num (.t 9) (.c (.int .i64 10))⟩,
  ⟨(some 11), .none, .bin .rem .num (.t 10) (.c (.int .i64 10))⟩,
  ⟨(some 12), .none, .mv (.t 0)⟩,
  ⟨(some 13), .none, .bin .quo .num (.t 12) (.c (.int .i64 10))⟩,
  ⟨(some 14), .none, .bin .rem .num (.t 13) (.c (.int .i64 10))⟩,
  ⟨(some 15), .none, .bin .add .num (.t 14) (.c (.int .i64 1))⟩,
  ⟨(some 16), .none, .sslc (.c (.str [48, 49, 50, 51, 52, 53, 54, 55, 56, 57])) (some (.t 11)) (some (.t 15))⟩,
  ⟨(some 17), .none, .bin .add .str (.t 8) (.t 16)⟩,
  ⟨(some 18), .none, .mv (.t 0)⟩,
  ⟨(some 19), .none, .bin .rem .num (.t 18) (.c (.int .i64 10))⟩,
  ⟨(some 20), .none, .mv (.t 0)⟩,
  ⟨(some 21), .none, .bin .rem .num (.t 20) (.c (.int .i64 10))⟩,
  ⟨(some 22), .none, .bin .add .num (.t 21) (.c (.int .i64 1))⟩,
  ⟨(some 23), .none, .sslc (.c (.str [48, 49, 50, 51, 52, 53, 54, 55, 56, 57])) (some (.t 19)) (some (.t 22))⟩,
  ⟨(some 24), .none, .bin .add .str (.t 17) (.t 23)⟩,
  ⟨(some 2), .none, .mv (.t 24)⟩],
  [0, 1, 0, 4, 12, 31, 0, 64, 192, 0, 512, 1536, 3584, 8128, 16383, 0, 32768, 0, 131072, 393216, 1015808, 2097151, 4194303], [0, 1, 2, 3, 4, 5, 6, 7, 8, 9, 10, 11, 12, 13, 14, 15, 16, 17, 18, 19, 20, 21, 22], [], .none⟩
def f_towpathref14_digits_c0 : AC := .ret
def f_towpathref14_digits_c1 : AC := (.seq (.dreg f_towpathref14_digits_r1) f_towpathref14_digits_c0)
def f_towpathref14_digits : AF := ⟨25, [.tmp 2], (.seq (.reg f_towpathref14_digits_r0) f_towpathref14_digits_c1)⟩
/- wire_NewReader -/
def f_wire_NewReader_r0 : List AOp := [
  ⟨(some 2), .none, .mv (.c .nilp)⟩]
def f_wire_NewReader_r1 : List AOp := [
  ⟨(some 3), .none, .mv (.t 0)⟩,
  ⟨(some 4), .none, .call 165 [(.t 3)]⟩,
  ⟨(some 5), .none, .build [.nils, (.int .i64 0), (.int .i64 0)] [(0, 1, (.t 4))]⟩,
  ⟨(some 6), .none, .build [.nils, (.int .i64 0), (.int .i64 0)] [(0, 3, (.t 5))]⟩,
  ⟨(some 7), .none, .box (.t 6)⟩,
  ⟨(some 2), .none, .mv (.t 7)⟩]
def f_wire_NewReader_c0 : AC := .ret
def f_wire_NewReader_c1 : AC := (.seq (.reg f_wire_NewReader_r1) f_wire_NewReader_c0)
def f_wire_NewReader : AF := ⟨8, [.tmp 2], (.seq (.reg f_wire_NewReader_r0) f_wire_NewReader_c1)⟩
/- wire_Reader_Uint -/
def f_wire_Reader_Uint_r0 : List AOp := [
  ⟨(some 2), .none, .mv (.c (.int .u64 0))⟩]
def f_wire_Reader_Uint_r1 : List AOp := [
  ⟨(some 3), .none, .mv (.t 0)⟩,
  ⟨(some 4), .none, .call 166 [(.t 3)]⟩,
  ⟨(some 5), .none, .un .not (.t 4)⟩]
def f_wire_Reader_Uint_r2 : List AOp := [
  ⟨(some 2), .none, .mv (.c (.int .u64 0))⟩]
def f_wire_Reader_Uint_c0 : AC := .ret
def f_wire_Reader_Uint_c1 : AC := (.cond (.t 5) (.seq (.reg f_wire_Reader_Uint_r2) f_wire_Reader_Uint_c0) .skip)
def f_wire_Reader_Uint_r3 : List AOp := [
  ⟨(some 6), .none, .mv (.t 0)⟩,
  ⟨(some 7), .none, .nilck (.t 6)⟩,
  ⟨(some 8), .none, .faddr 0 (.t 7)⟩,
  ⟨(some 9), .none, .call 167 [(.t 8)]⟩,
  ⟨(some 2), .none, .mv (.t 9)⟩]
def f_wire_Reader_Uint_c2 : AC := .ret
def f_wire_Reader_Uint_c3 : AC := (.seq (.reg f_wire_Reader_Uint_r3) f_wire_Reader_Uint_c2)
def f_wire_Reader_Uint_c4 : AC := (.seq (.seq (.reg f_wire_Reader_Uint_r1) f_wire_Reader_Uint_c1) f_wire_Reader_Uint_c3)
def f_wire_Reader_Uint : AF := ⟨10, [.tmp 2], (.seq (.reg f_wire_Reader_Uint_r0) f_wire_Reader_Uint_c4)⟩
/- wire_Reader_End -/
def f_wire_Reader_End_r0 : List AOp := [
  ⟨(some 2), .none, .mv (.c (.int .i64 0))⟩]
def f_wire_Reader_End_r1 : List AOp := [
  ⟨(some 3), .none, .mv (.t 0)⟩,
  ⟨(some 4), .none, .bin .eql .ptr (.t 3) (.c .nilp)⟩]
def f_wire_Reader_End_r2 : List AOp := [
  ⟨(some 2), .none, .mv (.c (.int .i64 1))⟩]
def f_wire_Reader_End_c0 : AC := .ret
def f_wire_Reader_End_c1 : AC := (.cond (.t 4) (.seq (.reg f_wire_Reader_End_r2) f_wire_Reader_End_c0) .skip)
def f_wire_Reader_End_r3 : List AOp := [
  ⟨(some 5), .none, .mv (.t 0)⟩,
  ⟨(some 6), .none, .nilck (.t 5)⟩,
  ⟨(some 7), .none, .faddr 0 (.t 6)⟩,
  ⟨(some 8), .none, .call 168 [(.t 7)]⟩,
  ⟨(some 9), .none, .bin .gtr .num (.t 8) (.c (.int .i64 0))⟩]
def f_wire_Reader_End_r4 : List AOp := [
  ⟨(some 10), .none, .mv (.t 0)⟩,
  ⟨(some 11), .none, .nilck (.t 10)⟩,
  ⟨(some 12), .none, .faddr 0 (.t 11)⟩,
  ⟨(some 13), .none, .call 169 [(.t 12), (.c (.int .i64 6))]⟩]
def f_wire_Reader_End_c2 : AC := (.cond (.t 9) (.reg f_wire_Reader_End_r4) .skip)
def f_wire_Reader_End_r5 : List AOp := [
  ⟨(some 14), .none, .mv (.t 0)⟩,
  ⟨(some 15), .none, .nilck (.t 14)⟩,
  ⟨(some 16), .none, .faddr 0 (.t 15)⟩,
  ⟨(some 17), .none, .faddr 2 (.t 16)⟩,
  ⟨(some 18), .none, .load1 (.t 17)⟩,
  ⟨(some 2), .none, .mv (.t 18)⟩]
def f_wire_Reader_End_c3 : AC := .ret
def f_wire_Reader_End_c4 : AC := (.keep 5 [0] (.seq (.reg f_wire_Reader_End_r5) f_wire_Reader_End_c3))
def f_wire_Reader_End_c5 : AC := (.seq (.seq (.reg f_wire_Reader_End_r3) f_wire_Reader_End_c2) f_wire_Reader_End_c4)
def f_wire_Reader_End_c6 : AC := (.seq (.seq (.reg f_wire_Reader_End_r1) f_wire_Reader_End_c1) f_wire_Reader_End_c5)
def f_wire_Reader_End : AF := ⟨19, [.tmp 2], (.seq (.reg f_wire_Reader_End_r0) f_wire_Reader_End_c6)⟩
/- towpathref01_Reader_Uint -/
def f_towpathref01_Reader_Uint_r0 : List AOp := [
  ⟨(some 2), .none, .mv (.c (.int .u64 0))⟩]
def f_towpathref01_Reader_Uint_r1 : List AOp := [
  ⟨(some 5), .none, .mv (.t 0)⟩,
  ⟨(some 6), .none, .nilck (.t 5)⟩,
  ⟨(some 7), .none, .faddr 2 (.t 6)⟩,
  ⟨(some 8), .none, .load1 (.t 7)⟩,
  ⟨(some 9), .none, .bin .neq .num (.t 8) (.c (.int .i64 0))⟩]
def f_towpathref01_Reader_Uint_r2 : List AOp := [
  ⟨(some 2), .none, .mv (.c (.int .u64 0))⟩]
def f_towpathref01_Reader_Uint_c0 : AC := .ret
def f_towpathref01_Reader_Uint_c1 : AC := (.cond (.t 9) (.seq (.reg f_towpathref01_Reader_Uint_r2) f_towpathref01_Reader_Uint_c0) .skip)
def f_towpathref01_Reader_Uint_r3 : DR := ⟨[
  ⟨(some 11), .none, .mv (.t 0)⟩,
  ⟨(some 12), .none, .nilck (.t 11)⟩,
  ⟨(some 13), .none, .faddr 0 (.t 12)⟩,
  ⟨(some 14), .none, .load1 (.t 13)⟩,
  ⟨(some 15), .none, .mv (.t 0)⟩,
  ⟨(some 16), .none, .nilck (.t 15)⟩,
  ⟨(some 17), .none, .faddr 1 (.t 16)⟩,
  ⟨(some 18), .none, .load1 (.t 17)⟩,
  ⟨(some 19), .none, .slc 1 (.t 14) (some (.t 18)) .none .none⟩,
  ⟨(some 20), .none, .call 170 [(.t 19)]⟩,
  ⟨(some 10), .none, .mv (.t 20)⟩,
  ⟨(some 21), .none, .ext (.t 10) 0⟩,
  ⟨(some 22), .none, .ext (.t 10) 1⟩,
  ⟨(some 3), .none, .mv (.t 21)⟩,
  ⟨(some 4), .none, .mv (.t 22)⟩],
  [0, 1, 3, 7, 0, 16, 48, 112, 255, 511, 1023, 2047, 2047, 4095, 16383], [0, 1, 2, 3, 4, 5, 6, 7, 8, 9, 10, 11, 12, 13, 14], [], .none⟩
def f_towpathref01_Reader_Uint_r4 : List AOp := [
  ⟨(some 23), .none, .mv (.t 4)⟩,
  ⟨(some 24), .none, .bin .eql .num (.t 23) (.c (.int .i64 0))⟩]
def f_towpathref01_Reader_Uint_r5 : List AOp := [
  ⟨(some 25), .none, .mv (.t 0)⟩,
  ⟨(some 26), .none, .call 171 [(.t 25), (.c (.int .i64 6))]⟩]
def f_towpathref01_Reader_Uint_r6 : List AOp := [
  ⟨(some 2), .none, .mv (.c (.int .u64 0))⟩]
def f_towpathref01_Reader_Uint_c2 : AC := .ret
def f_towpathref01_Reader_Uint_c3 : AC := (.seq (.reg f_towpathref01_Reader_Uint_r6) f_towpathref01_Reader_Uint_c2)
def f_towpathref01_Reader_Uint_c4 : AC := (.cond (.t 24) (.seq (.reg f_towpathref01_Reader_Uint_r5) f_towpathref01_Reader_Uint_c3) .skip)
def f_towpathref01_Reader_Uint_r7 : List AOp := [
  ⟨(some 27), .none, .mv (.t 0)⟩,
  ⟨(some 28), .none, .nilck (.t 27)⟩,
  ⟨(some 29), .none, .faddr 1 (.t 28)⟩,
  ⟨(some 30), .none, .load1 (.t 29)⟩,
  ⟨(some 31), .none, .mv (.t 4)⟩,
  ⟨(some 32), .none, .bin .add .num (.t 30) (.t 31)⟩,
  ⟨(some 33), .none, .nilck (.t 27)⟩,
  ⟨(some 34), .none, .faddr 1 (.t 33)⟩,
  ⟨.none, .none, .store 1 (.t 34) (.t 32)⟩]
def f_towpathref01_Reader_Uint_r8 : List AOp := [
  ⟨(some 35), .none, .mv (.t 3)⟩,
  ⟨(some 2), .none, .mv (.t 35)⟩]
def f_towpathref01_Reader_Uint_c5 : AC := .ret
def f_towpathref01_Reader_Uint_c6 : AC := (.seq (.reg f_towpathref01_Reader_Uint_r8) f_towpathref01_Reader_Uint_c5)
def f_towpathref01_Reader_Uint_c7 : AC := (.seq (.reg f_towpathref01_Reader_Uint_r7) f_towpathref01_Reader_Uint_c6)
def f_towpathref01_Reader_Uint_c8 : AC := (.seq (.seq (.reg f_towpathref01_Reader_Uint_r4) f_towpathref01_Reader_Uint_c4) f_towpathref01_Reader_Uint_c7)
def f_towpathref01_Reader_Uint_c9 : AC := (.seq (.dreg f_towpathref01_Reader_Uint_r3) f_towpathref01_Reader_Uint_c8)
def f_towpathref01_Reader_Uint_c10 : AC := (.seq (.seq (.reg f_towpathref01_Reader_Uint_r1) f_towpathref01_Reader_Uint_c1) f_towpathref01_Reader_Uint_c9)
def f_towpathref01_Reader_Uint : AF := ⟨36, [.tmp 2], (.seq (.reg f_towpathref01_Reader_Uint_r0) f_towpathref01_Reader_Uint_c10)⟩
/- offsets_Open -/
def f_offsets_Open_r0 : List AOp := [
  ⟨(some 5), .none, .box (.t 2)⟩,
  ⟨(some 6), .none, .mv (.c .nilp)⟩,
  ⟨(some 7), .none, .mv (.c (.int .i64 0))⟩]
def f_offsets_Open_r1 : List AOp := [
  ⟨(some 12), .none, .mv (.t 0)⟩,
  ⟨(some 13), .none, .mv (.t 1)⟩,
  ⟨(some 14), .none, .loadn 3 (.t 5)⟩,
  ⟨(some 15), .none, .call 10 [(.t 12), (.t 13), (.t 14)]⟩,
  ⟨(some 11), .none, .mv (.t 15)⟩,
  ⟨(some 16), .none, .ext (.t 11) 0⟩,
  ⟨(some 17), .none, .ext (.t 11) 1⟩,
  ⟨(some 8), .none, .mv (.t 16)⟩,
  ⟨(some 9), .none, .mv (.t 17)⟩]
def f_offsets_Open_r2 : List AOp := [
  ⟨(some 18), .none, .mv (.t 9)⟩,
  ⟨(some 19), .none, .bin .neq .num (.t 18) (.c (.int .i64 0))⟩]
def f_offsets_Open_r3 : List AOp := [
  ⟨(some 20), .none, .mv (.t 9)⟩,
  ⟨(some 6), .none, .mv (.c .nilp)⟩,
  ⟨(some 7), .none, .mv (.t 20)⟩]
def f_offsets_Open_c0 : AC := .ret
def f_offsets_Open_c1 : AC := (.cond (.t 19) (.seq (.reg f_offsets_Open_r3) f_offsets_Open_c0) .skip)
def f_offsets_Open_r4 : List AOp := [
  ⟨(some 21), .none, .mv (.t 8)⟩,
  ⟨(some 22), .none, .mv (.t 8)⟩,
  ⟨(some 23), .none, .call 29 [(.t 22)]⟩,
  ⟨(some 24), .none, .call 172 []⟩,
  ⟨(some 25), .none, .build [.nilp, (.int .i64 0), .nilp] [(0, 1, (.t 21)), (1, 1, (.t 23)), (2, 1, (.t 24))]⟩,
  ⟨(some 26), .none, .box (.t 25)⟩,
  ⟨(some 10), .none, .mv (.t 26)⟩]
def f_offsets_Open_r5 : List AOp := [
  ⟨(some 27), .none, .mv (.t 10)⟩,
  ⟨(some 28), .none, .call 132 [(.t 27)]⟩]
def f_offsets_Open_r6 : List AOp := [
  ⟨(some 29), .none, .mv (.t 10)⟩,
  ⟨(some 6), .none, .mv (.t 29)⟩,
  ⟨(some 7), .none, .mv (.c (.int .i64 0))⟩]
def f_offsets_Open_c2 : AC := .ret
def f_offsets_Open_c3 : AC := (.seq (.reg f_offsets_Open_r6) f_offsets_Open_c2)
def f_offsets_Open_c4 : AC := (.seq (.reg f_offsets_Open_r5) f_offsets_Open_c3)
def f_offsets_Open_c5 : AC := (.seq (.reg f_offsets_Open_r4) f_offsets_Open_c4)
def f_offsets_Open_c6 : AC := (.seq (.seq (.reg f_offsets_Open_r2) f_offsets_Open_c1) f_offsets_Open_c5)
def f_offsets_Open_c7 : AC := (.seq (.reg f_offsets_Open_r1) f_offsets_Open_c6)
def f_offsets_Open : AF := ⟨30, [.tmp 6, .tmp 7], (.seq (.reg f_offsets_Open_r0) f_offsets_Open_c7)⟩
/- towpathlaw14_config -/
def f_towpathlaw14_config_r0 : List AOp := [
  ⟨(some 2), .none, .alloc [(.int .i64 0), (.int .i64 0), (.int .i64 0)]⟩]
def f_towpathlaw14_config_r1 : List AOp := [
  ⟨(some 3), .none, .mv (.t 0)⟩,
  ⟨(some 4), .none, .bin .rem .num (.t 3) (.c (.int .i64 200))⟩,
  ⟨(some 0), .none, .mv (.t 4)⟩]
def f_towpathlaw14_config_r2 : List AOp := [
  ⟨(some 5), .none, .mv (.t 0)⟩,
  ⟨(some 6), .none, .bin .lss .num (.t 5) (.c (.int .i64 0))⟩]
def f_towpathlaw14_config_r3 : List AOp := [
  ⟨(some 7), .none, .mv (.t 0)⟩,
  ⟨(some 8), .none, .un .neg (.t 7)⟩,
  ⟨(some 0), .none, .mv (.t 8)⟩]
def f_towpathlaw14_config_c0 : AC := (.cond (.t 6) (.reg f_towpathlaw14_config_r3) .skip)
def f_towpathlaw14_config_r4 : List AOp := [
  ⟨(some 9), .none, .mv (.t 0)⟩,
  ⟨(some 10), .none, .bin .add .num (.c (.int .i64 64)) (.t 9)⟩,
  ⟨(some 11), .none, .build [(.int .i64 0), (.int .i64 0)] [(0, 1, (.t 10)), (1, 1, (.c (.int .i64 30)))]⟩,
  ⟨(some 12), .none, .build [(.int .i64 0), (.int .i64 0), (.int .i64 0)] [(0, 2, (.t 11)), (2, 1, (.c (.int .i64 20)))]⟩,
  ⟨.none, .none, .store 3 (.t 2) (.t 12)⟩]
def f_towpathlaw14_config_c1 : AC := .ret
def f_towpathlaw14_config_c2 : AC := (.keep 4 [0, 2] (.seq (.reg f_towpathlaw14_config_r4) f_towpathlaw14_config_c1))
def f_towpathlaw14_config_c3 : AC := (.seq (.seq (.reg f_towpathlaw14_config_r2) f_towpathlaw14_config_c0) f_towpathlaw14_config_c2)
def f_towpathlaw14_config_c4 : AC := (.seq (.reg f_towpathlaw14_config_r1) f_towpathlaw14_config_c3)
def f_towpathlaw14_config : AF := ⟨13, [.celln 2 3], (.seq (.reg f_towpathlaw14_config_r0) f_towpathlaw14_config_c4)⟩
/- part_mark -/
def f_part_mark_r0 : List AOp := [
  ⟨(some 1), .none, .box (.t 0)⟩,
  ⟨(some 2), .none, .mv (.c (.bool false))⟩]
def f_part_mark_r1 : List AOp := [
  ⟨(some 3), .none, .faddr 4 (.t 1)⟩,
  ⟨(some 4), .none, .load1 (.t 3)⟩,
  ⟨(some 5), .none, .bin .eql .num (.t 4) (.c (.int .i64 2))⟩,
  ⟨(some 6), .none, .mv (.t 5)⟩,
  ⟨(some 7), (some (6, false)), .faddr 4 (.t 1)⟩,
  ⟨(some 8), (some (6, false)), .load1 (.t 7)⟩,
  ⟨(some 9), (some (6, false)), .bin .eql .num (.t 8) (.c (.int .i64 3))⟩,
  ⟨(some 10), .none, .pick (.t 6) (.c (.bool true)) (.t 9)⟩,
  ⟨(some 2), .none, .mv (.t 10)⟩]
def f_part_mark_c0 : AC := .ret
def f_part_mark_c1 : AC := (.seq (.reg f_part_mark_r1) f_part_mark_c0)
def f_part_mark : AF := ⟨11, [.tmp 2], (.seq (.reg f_part_mark_r0) f_part_mark_c1)⟩
/- part_Part_put -/
def f_part_Part_put_r0 : List AOp := [
  ⟨(some 3), .none, .box (.t 1)⟩,
  ⟨(some 4), .none, .mv (.c (.int .i64 0))⟩,
  ⟨(some 5), .none, .mv (.c (.bool false))⟩,
  ⟨(some 6), .none, .mv (.c (.int .i64 0))⟩]
def f_part_Part_put_r1 : List AOp := [
  ⟨(some 10), .none, .mv (.t 0)⟩,
  ⟨(some 11), .none, .call 30 [(.t 10)]⟩,
  ⟨(some 12), .none, .faddr 0 (.t 3)⟩,
  ⟨.none, .none, .store 1 (.t 12) (.t 11)⟩]
def f_part_Part_put_r2 : List AOp := [
  ⟨(some 14), .none, .mv (.t 0)⟩,
  ⟨(some 15), .none, .loadn 7 (.t 3)⟩,
  ⟨(some 16), .none, .call 91 [(.t 14), (.t 15)]⟩,
  ⟨(some 13), .none, .mv (.t 16)⟩,
  ⟨(some 17), .none, .ext (.t 13) 0⟩,
  ⟨(some 18), .none, .ext (.t 13) 1⟩,
  ⟨(some 7), .none, .alloc [(.bool false), (.int .i64 0)]⟩,
  ⟨.none, .none, .store 2 (.t 7) (.t 17)⟩,
  ⟨(some 8), .none, .mv (.t 18)⟩]
def f_part_Part_put_r3 : List AOp := [
  ⟨(some 19), .none, .mv (.t 8)⟩,
  ⟨(some 20), .none, .bin .neq .num (.t 19) (.c (.int .i64 0))⟩,
  ⟨(some 21), .none, .mv (.t 20)⟩,
  ⟨(some 22), (some (21, false)), .faddr 0 (.t 7)⟩,
  ⟨(some 23), (some (21, false)), .load1 (.t 22)⟩,
  ⟨(some 24), .none, .pick (.t 21) (.c (.bool true)) (.t 23)⟩]
def f_part_Part_put_r4 : DR := ⟨[
  ⟨(some 25), .none, .faddr 1 (.t 7)⟩,
  ⟨(some 26), .none, .load1 (.t 25)⟩,
  ⟨(some 27), .none, .faddr 0 (.t 7)⟩,
  ⟨(some 28), .none, .load1 (.t 27)⟩,
  ⟨(some 29), .none, .mv (.t 8)⟩,
  ⟨(some 4), .none, .mv (.t 26)⟩,
  ⟨(some 5), .none, .mv (.t 28)⟩,
  ⟨(some 6), .none, .mv (.t 29)⟩],
  [0, 1, 0, 4, 0, 3, 47, 127], [0, 1, 2, 3, 4, 5, 6, 7], [], .none⟩
def f_part_Part_put_c0 : AC := .ret
def f_part_Part_put_c1 : AC := (.cond (.t 24) (.seq (.dreg f_part_Part_put_r4) f_part_Part_put_c0) .skip)
def f_part_Part_put_r5 : DR := ⟨[
  ⟨(some 31), .none, .mv (.t 0)⟩,
  ⟨(some 32), .none, .nilck (.t 31)⟩,
  ⟨(some 33), .none, .faddr 0 (.t 32)⟩,
  ⟨(some 34), .none, .faddr 0 (.t 33)⟩,
  ⟨(some 35), .none, .load1 (.t 34)⟩,
  ⟨(some 36), .none, .loadn 7 (.t 3)⟩,
  ⟨(some 37), .none, .bsl false 7 1 [(.int .i64 0), (.int .i64 0), (.int .i64 0), (.int .i64 0), (.int .i64 0), (.int .i64 0), .nils] [(0, 7, (.t 36))]⟩,
  ⟨(some 38), .none, .call 173 [(.t 35), (.t 37)]⟩,
  ⟨(some 30), .none, .mv (.t 38)⟩,
  ⟨(some 39), .none, .ext (.t 30) 0⟩,
  ⟨(some 40), .none, .ext (.t 30) 1⟩,
  ⟨(some 9), .none, .mv (.t 39)⟩,
  ⟨(some 8), .none, .mv (.t 40)⟩],
  [0, 1, 3, 7, 15, 0, 32, 127, 255, 511, 511, 1023, 4095], [0, 1, 2, 3, 4, 5, 6, 7, 8, 9, 10, 11, 12], [], .none⟩
def f_part_Part_put_r6 : List AOp := [
  ⟨(some 41), .none, .mv (.t 8)⟩,
  ⟨(some 42), .none, .bin .eql .num (.t 41) (.c (.int .i64 0))⟩]
def f_part_Part_put_r7 : List AOp := [
  ⟨(some 43), .none, .mv (.t 0)⟩,
  ⟨(some 44), .none, .nilck (.t 43)⟩,
  ⟨(some 45), .none, .faddr 0 (.t 44)⟩,
  ⟨(some 46), .none, .faddr 0 (.t 45)⟩,
  ⟨(some 47), .none, .load1 (.t 46)⟩,
  ⟨(some 48), .none, .call 174 [(.t 47)]⟩,
  ⟨(some 8), .none, .mv (.t 48)⟩]
def f_part_Part_put_c2 : AC := (.cond (.t 42) (.reg f_part_Part_put_r7) .skip)
def f_part_Part_put_r8 : List AOp := [
  ⟨(some 49), .none, .mv (.t 8)⟩,
  ⟨(some 50), .none, .bin .neq .num (.t 49) (.c (.int .i64 0))⟩]
def f_part_Part_put_r9 : List AOp := [
  ⟨(some 51), .none, .mv (.t 8)⟩,
  ⟨(some 4), .none, .mv (.c (.int .i64 0))⟩,
  ⟨(some 5), .none, .mv (.c (.bool false))⟩,
  ⟨(some 6), .none, .mv (.t 51)⟩]
def f_part_Part_put_c3 : AC := .ret
def f_part_Part_put_c4 : AC := (.cond (.t 50) (.seq (.reg f_part_Part_put_r9) f_part_Part_put_c3) .skip)
def f_part_Part_put_r10 : List AOp := [
  ⟨(some 52), .none, .mv (.t 9)⟩,
  ⟨(some 53), .none, .faddr 0 (.t 3)⟩,
  ⟨.none, .none, .store 1 (.t 53) (.t 52)⟩]
def f_part_Part_put_r11 : List AOp := [
  ⟨(some 54), .none, .mv (.t 0)⟩,
  ⟨(some 55), .none, .loadn 7 (.t 3)⟩,
  ⟨(some 56), .none, .call 175 [(.t 55)]⟩,
  ⟨(some 57), .none, .call 68 [(.t 54), (.t 56)]⟩]
def f_part_Part_put_r12 : List AOp := [
  ⟨(some 58), .none, .mv (.t 9)⟩,
  ⟨(some 4), .none, .mv (.t 58)⟩,
  ⟨(some 5), .none, .mv (.c (.bool false))⟩,
  ⟨(some 6), .none, .mv (.c (.int .i64 0))⟩]
def f_part_Part_put_c5 : AC := .ret
def f_part_Part_put_c6 : AC := (.seq (.reg f_part_Part_put_r12) f_part_Part_put_c5)
def f_part_Part_put_c7 : AC := (.seq (.reg f_part_Part_put_r11) f_part_Part_put_c6)
def f_part_Part_put_c8 : AC := (.seq (.reg f_part_Part_put_r10) f_part_Part_put_c7)
def f_part_Part_put_c9 : AC := (.keep 6 [0, 3, 8, 9] (.seq (.seq (.reg f_part_Part_put_r8) f_part_Part_put_c4) f_part_Part_put_c8))
def f_part_Part_put_c10 : AC := (.seq (.seq (.reg f_part_Part_put_r6) f_part_Part_put_c2) f_part_Part_put_c9)
def f_part_Part_put_c11 : AC := (.seq (.dreg f_part_Part_put_r5) f_part_Part_put_c10)
def f_part_Part_put_c12 : AC := (.seq (.seq (.reg f_part_Part_put_r3) f_part_Part_put_c1) f_part_Part_put_c11)
def f_part_Part_put_c13 : AC := (.seq (.reg f_part_Part_put_r2) f_part_Part_put_c12)
def f_part_Part_put_c14 : AC := (.seq (.reg f_part_Part_put_r1) f_part_Part_put_c13)
def f_part_Part_put : AF := ⟨59, [.tmp 4, .tmp 5, .tmp 6], (.seq (.reg f_part_Part_put_r0) f_part_Part_put_c14)⟩
/- rec_Mark -/
def f_rec_Mark_r0 : List AOp := [
  ⟨(some 8), .none, .alloc [(.int .i64 0), (.int .i64 0), (.int .i64 0), (.int .i64 0), (.int .i64 0), (.int .i64 0), .nils]⟩]
def f_rec_Mark_r1 : List AOp := [
  ⟨(some 10), .none, .mv (.t 0)⟩,
  ⟨(some 11), .none, .mv (.t 1)⟩,
  ⟨(some 12), .none, .mv (.t 3)⟩,
  ⟨(some 13), .none, .build [(.int .i64 0), (.int .i64 0), (.int .i64 0), (.int .i64 0), (.int .i64 0), (.int .i64 0), .nils] [(1, 1, (.t 10)), (2, 1, (.t 11)), (4, 1, (.c (.int .i64 3))), (5, 1, (.t 12))]⟩,
  ⟨(some 9), .none, .alloc [(.int .i64 0), (.int .i64 0), (.int .i64 0), (.int .i64 0), (.int .i64 0), (.int .i64 0), .nils]⟩,
  ⟨.none, .none, .store 7 (.t 9) (.t 13)⟩]
def f_rec_Mark_r2 : List AOp := [
  ⟨(some 14), .none, .mv (.t 2)⟩]
def f_rec_Mark_r3 : List AOp := [
  ⟨(some 15), .none, .faddr 4 (.t 9)⟩,
  ⟨.none, .none, .store 1 (.t 15) (.c (.int .i64 2))⟩]
def f_rec_Mark_c0 : AC := (.cond (.t 14) (.reg f_rec_Mark_r3) .skip)
def f_rec_Mark_r4 : List AOp := [
  ⟨(some 16), .none, .loadn 7 (.t 9)⟩,
  ⟨.none, .none, .store 7 (.t 8) (.t 16)⟩]
def f_rec_Mark_c1 : AC := .ret
def f_rec_Mark_c2 : AC := (.seq (.reg f_rec_Mark_r4) f_rec_Mark_c1)
def f_rec_Mark_c3 : AC := (.seq (.seq (.reg f_rec_Mark_r2) f_rec_Mark_c0) f_rec_Mark_c2)
def f_rec_Mark_c4 : AC := (.seq (.reg f_rec_Mark_r1) f_rec_Mark_c3)
def f_rec_Mark : AF := ⟨17, [.celln 8 7], (.seq (.reg f_rec_Mark_r0) f_rec_Mark_c4)⟩
/- part_Part_ask -/
def f_part_Part_ask_r0 : List AOp := [
  ⟨(some 3), .none, .box (.t 1)⟩,
  ⟨(some 4), .none, .alloc [(.bool false), (.int .i64 0)]⟩,
  ⟨(some 5), .none, .mv (.c (.int .i64 0))⟩]
def f_part_Part_ask_r1 : DR := ⟨[
  ⟨(some 9), .none, .mv (.t 0)⟩,
  ⟨(some 10), .none, .nilck (.t 9)⟩,
  ⟨(some 11), .none, .faddr 4 (.t 10)⟩,
  ⟨(some 12), .none, .load1 (.t 11)⟩,
  ⟨(some 13), .none, .loadn 7 (.t 3)⟩,
  ⟨(some 14), .none, .call 176 [(.t 12), (.t 13)]⟩,
  ⟨(some 8), .none, .mv (.t 14)⟩,
  ⟨(some 15), .none, .ext (.t 8) 0⟩,
  ⟨(some 16), .none, .ext (.t 8) 1⟩,
  ⟨(some 6), .none, .alloc [(.bool false), (.int .i64 0)]⟩,
  ⟨.none, .none, .store 2 (.t 6) (.t 15)⟩,
  ⟨(some 7), .none, .mv (.t 16)⟩],
  [0, 1, 3, 7, 0, 31, 63, 127, 127, 0, 767, 2047], [0, 1, 2, 3, 4, 5, 6, 7, 8, 9, 10, 11], [(3, 1), (4, 1)], (some 9)⟩
def f_part_Part_ask_r2 : List AOp := [
  ⟨(some 17), .none, .mv (.t 7)⟩,
  ⟨(some 18), .none, .bin .neq .num (.t 17) (.c (.int .i64 0))⟩,
  ⟨(some 19), .none, .mv (.t 18)⟩,
  ⟨(some 20), (some (19, false)), .faddr 0 (.t 6)⟩,
  ⟨(some 21), (some (19, false)), .load1 (.t 20)⟩,
  ⟨(some 22), .none, .pick (.t 19) (.c (.bool true)) (.t 21)⟩]
def f_part_Part_ask_r3 : List AOp := [
  ⟨(some 23), .none, .loadn 2 (.t 6)⟩,
  ⟨(some 24), .none, .mv (.t 7)⟩,
  ⟨.none, .none, .store 2 (.t 4) (.t 23)⟩,
  ⟨(some 5), .none, .mv (.t 24)⟩]
def f_part_Part_ask_c0 : AC := .ret
def f_part_Part_ask_c1 : AC := (.cond (.t 22) (.seq (.reg f_part_Part_ask_r3) f_part_Part_ask_c0) .skip)
def f_part_Part_ask_r4 : DR := ⟨[
  ⟨(some 25), .none, .loadn 2 (.t 6)⟩,
  ⟨(some 26), .none, .mv (.t 0)⟩,
  ⟨(some 27), .none, .nilck (.t 26)⟩,
  ⟨(some 28), .none, .faddr 5 (.t 27)⟩,
  ⟨(some 29), .none, .load1 (.t 28)⟩,
  ⟨(some 30), .none, .loadn 7 (.t 3)⟩,
  ⟨(some 31), .none, .call 177 [(.t 29), (.t 30)]⟩,
  ⟨.none, .none, .store 2 (.t 4) (.t 25)⟩,
  ⟨(some 5), .none, .mv (.t 31)⟩],
  [0, 0, 2, 6, 14, 0, 62, 127, 255], [0, 1, 2, 3, 4, 5, 6, 7, 8], [(0, 1)], .none⟩
def f_part_Part_ask_c2 : AC := .ret
def f_part_Part_ask_c3 : AC := (.seq (.dreg f_part_Part_ask_r4) f_part_Part_ask_c2)
def f_part_Part_ask_c4 : AC := (.seq (.seq (.reg f_part_Part_ask_r2) f_part_Part_ask_c1) f_part_Part_ask_c3)
def f_part_Part_ask_c5 : AC := (.seq (.dreg f_part_Part_ask_r1) f_part_Part_ask_c4)
def f_part_Part_ask : AF := ⟨32, [.celln 4 2, .tmp 5], (.seq (.reg f_part_Part_ask_r0) f_part_Part_ask_c5)⟩
/- seglog_Log_Read -/
def f_seglog_Log_Read_r0 : List AOp := [
  ⟨(some 3), .none, .box (.t 0)⟩,
  ⟨(some 4), .none, .box (.t 1)⟩,
  ⟨(some 5), .none, .box (.t 2)⟩,
  ⟨(some 6), .none, .mv (.c .nils)⟩,
  ⟨(some 7), .none, .mv (.c (.int .i64 0))⟩]
def f_seglog_Log_Read_r1 : List AOp := [
  ⟨(some 13), .none, .load1 (.t 3)⟩,
  ⟨(some 14), .none, .bin .eql .ptr (.t 13) (.c .nilp)⟩,
  ⟨(some 12), .none, .mv (.t 14)⟩]
def f_seglog_Log_Read_r2 : List AOp := [
  ⟨(some 6), .none, .mv (.c .nils)⟩,
  ⟨(some 7), .none, .mv (.c (.int .i64 1))⟩]
def f_seglog_Log_Read_c0 : AC := .ret
def f_seglog_Log_Read_r3 : List AOp := [
  ⟨(some 16), .none, .load1 (.t 5)⟩,
  ⟨(some 17), .none, .bin .lss .num (.t 16) (.c (.int .i64 1))⟩,
  ⟨(some 15), .none, .mv (.t 17)⟩]
def f_seglog_Log_Read_r4 : List AOp := [
  ⟨(some 6), .none, .mv (.c .nils)⟩,
  ⟨(some 7), .none, .mv (.c (.int .i64 2))⟩]
def f_seglog_Log_Read_c1 : AC := .ret
def f_seglog_Log_Read_r5 : DR := ⟨[
  ⟨(some 19), .none, .load1 (.t 4)⟩,
  ⟨(some 20), .none, .load1 (.t 3)⟩,
  ⟨(some 21), .none, .call 104 [(.t 20)]⟩,
  ⟨(some 22), .none, .bin .lss .num (.t 19) (.t 21)⟩,
  ⟨(some 23), .none, .mv (.t 22)⟩,
  ⟨(some 24), (some (23, false)), .load1 (.t 4)⟩,
  ⟨(some 25), (some (23, false)), .load1 (.t 3)⟩,
  ⟨(some 26), (some (23, false)), .call 105 [(.t 25)]⟩,
  ⟨(some 27), (some (23, false)), .bin .gtr .num (.t 24) (.t 26)⟩,
  ⟨(some 28), .none, .pick (.t 23) (.c (.bool true)) (.t 27)⟩,
  ⟨(some 18), .none, .mv (.t 28)⟩],
  [0, 0, 2, 7, 15, 31, 31, 95, 255, 511, 1023], [0, 1, 2, 3, 4, 5, 6, 7, 8, 9, 10], [(0, 1), (5, 2)], .none⟩
def f_seglog_Log_Read_r6 : List AOp := [
  ⟨(some 6), .none, .mv (.c .nils)⟩,
  ⟨(some 7), .none, .mv (.c (.int .i64 8))⟩]
def f_seglog_Log_Read_c2 : AC := .ret
def f_seglog_Log_Read_c3 : AC := (.cond (.t 18) (.seq (.reg f_seglog_Log_Read_r6) f_seglog_Log_Read_c2) .skip)
def f_seglog_Log_Read_c4 : AC := (.cond (.t 15) (.seq (.reg f_seglog_Log_Read_r4) f_seglog_Log_Read_c1) (.seq (.dreg f_seglog_Log_Read_r5) f_seglog_Log_Read_c3))
def f_seglog_Log_Read_c5 : AC := (.cond (.t 12) (.seq (.reg f_seglog_Log_Read_r2) f_seglog_Log_Read_c0) (.seq (.reg f_seglog_Log_Read_r3) f_seglog_Log_Read_c4))
def f_seglog_Log_Read_r7 : List AOp := [
  ⟨(some 8), .none, .alloc [.nils]⟩]
def f_seglog_Log_Read_r8 : List AOp := [
  ⟨(some 29), .none, .load1 (.t 3)⟩,
  ⟨(some 30), .none, .nilck (.t 29)⟩,
  ⟨(some 31), .none, .faddr 4 (.t 30)⟩,
  ⟨(some 32), .none, .load1 (.t 31)⟩,
  ⟨(some 33), .none, .len .slice (.t 32)⟩,
  ⟨(some 34), .none, .mkfn 179 [] [(.t 3), (.t 4)]⟩,
  ⟨(some 35), .none, .call 178 [(.t 33), (.t 34)]⟩,
  ⟨(some 36), .none, .bin .sub .num (.t 35) (.c (.int .i64 1))⟩,
  ⟨(some 9), .none, .mv (.t 36)⟩]
def f_seglog_Log_Read_r9 : List AOp := [
  ⟨(some 37), .none, .mv (.t 9)⟩,
  ⟨(some 38), .none, .mx [(.t 37), (.c (.int .i64 0))]⟩,
  ⟨(some 9), .none, .mv (.t 38)⟩]
def f_seglog_Log_Read_r10 : List AOp := [
  ⟨(some 39), .none, .mv (.t 9)⟩,
  ⟨(some 40), .none, .load1 (.t 3)⟩,
  ⟨(some 41), .none, .nilck (.t 40)⟩,
  ⟨(some 42), .none, .faddr 4 (.t 41)⟩,
  ⟨(some 43), .none, .load1 (.t 42)⟩,
  ⟨(some 44), .none, .len .slice (.t 43)⟩,
  ⟨(some 45), .none, .bin .lss .num (.t 39) (.t 44)⟩]
def f_seglog_Log_Read_c6 : AC := (.cond (.t 45) .skip (.exit 1))
def f_seglog_Log_Read_r12 : List AOp := [
  ⟨(some 48), .none, .load1 (.t 3)⟩,
  ⟨(some 49), .none, .nilck (.t 48)⟩,
  ⟨(some 50), .none, .faddr 4 (.t 49)⟩,
  ⟨(some 51), .none, .load1 (.t 50)⟩,
  ⟨(some 52), .none, .mv (.t 9)⟩,
  ⟨(some 53), .none, .iaddr 1 (.t 51) (.t 52)⟩,
  ⟨(some 54), .none, .load1 (.t 53)⟩,
  ⟨(some 10), .none, .mv (.t 54)⟩]
def f_seglog_Log_Read_r13 : DR := ⟨[
  ⟨(some 55), .none, .load1 (.t 3)⟩,
  ⟨(some 56), .none, .mv (.t 10)⟩,
  ⟨(some 57), .none, .mv (.t 10)⟩,
  ⟨(some 58), .none, .load1 (.t 4)⟩,
  ⟨(some 59), .none, .call 181 [(.t 57), (.t 58)]⟩,
  ⟨(some 60), .none, .mkfn 182 [] [(.t 4), (.t 8), (.t 5)]⟩,
  ⟨(some 61), .none, .call 180 [(.t 55), (.t 56), (.t 59), (.t 60)]⟩,
  ⟨(some 11), .none, .mv (.t 61)⟩],
  [0, 0, 0, 0, 12, 0, 63, 127], [0, 1, 2, 3, 4, 5, 6, 7], [(0, 1)], .none⟩
def f_seglog_Log_Read_r14 : List AOp := [
  ⟨(some 62), .none, .mv (.t 11)⟩,
  ⟨(some 63), .none, .un .not (.t 62)⟩]
def f_seglog_Log_Read_c7 : AC := (.cond (.t 63) (.exit 1) .skip)
def f_seglog_Log_Read_c8 : AC := (.seq (.reg f_seglog_Log_Read_r14) f_seglog_Log_Read_c7)
def f_seglog_Log_Read_c9 : AC := (.seq (.dreg f_seglog_Log_Read_r13) f_seglog_Log_Read_c8)
def f_seglog_Log_Read_r11 : List AOp := [
  ⟨(some 46), .none, .mv (.t 9)⟩,
  ⟨(some 47), .none, .bin .add .num (.t 46) (.c (.int .i64 1))⟩,
  ⟨(some 9), .none, .mv (.t 47)⟩]
def f_seglog_Log_Read_c10 : AC := (.reg f_seglog_Log_Read_r11)
def f_seglog_Log_Read_c11 : AC := (.seq (.block 2 (.seq (.reg f_seglog_Log_Read_r12) f_seglog_Log_Read_c9)) f_seglog_Log_Read_c10)
def f_seglog_Log_Read_c12 : AC := (.seq (.seq (.reg f_seglog_Log_Read_r10) f_seglog_Log_Read_c6) f_seglog_Log_Read_c11)
def f_seglog_Log_Read_c13 : AC := (.block 1 (.keep 7 [3, 4, 5, 8, 9] (.loop (.keep 7 [3, 4, 5, 8, 9] f_seglog_Log_Read_c12))))
def f_seglog_Log_Read_r15 : List AOp := [
  ⟨(some 64), .none, .load1 (.t 8)⟩,
  ⟨(some 6), .none, .mv (.t 64)⟩,
  ⟨(some 7), .none, .mv (.c (.int .i64 0))⟩]
def f_seglog_Log_Read_c14 : AC := .ret
def f_seglog_Log_Read_c15 : AC := (.seq (.reg f_seglog_Log_Read_r15) f_seglog_Log_Read_c14)
def f_seglog_Log_Read_c16 : AC := (.seq (.seq (.reg f_seglog_Log_Read_r9) f_seglog_Log_Read_c13) f_seglog_Log_Read_c15)
def f_seglog_Log_Read_c17 : AC := (.seq .skip f_seglog_Log_Read_c16)
def f_seglog_Log_Read_c18 : AC := (.seq (.reg f_seglog_Log_Read_r8) f_seglog_Log_Read_c17)
def f_seglog_Log_Read_c19 : AC := (.seq (.reg f_seglog_Log_Read_r7) f_seglog_Log_Read_c18)
def f_seglog_Log_Read_c20 : AC := (.scope (.seq (.block 0 (.seq (.reg f_seglog_Log_Read_r1) f_seglog_Log_Read_c5)) f_seglog_Log_Read_c19))
def f_seglog_Log_Read : AF := ⟨65, [.tmp 6, .tmp 7], (.seq (.reg f_seglog_Log_Read_r0) f_seglog_Log_Read_c20)⟩
/- iso_View_Fate -/
def f_iso_View_Fate_r0 : List AOp := [
  ⟨(some 3), .none, .box (.t 1)⟩,
  ⟨(some 4), .none, .mv (.c (.int .i64 0))⟩]
def f_iso_View_Fate_r1 : List AOp := [
  ⟨(some 7), .none, .mv (.t 0)⟩,
  ⟨(some 8), .none, .bin .eql .ptr (.t 7) (.c .nilp)⟩]
def f_iso_View_Fate_r2 : List AOp := [
  ⟨(some 4), .none, .mv (.c (.int .i64 0))⟩]
def f_iso_View_Fate_c0 : AC := .ret
def f_iso_View_Fate_c1 : AC := (.cond (.t 8) (.seq (.reg f_iso_View_Fate_r2) f_iso_View_Fate_c0) .skip)
def f_iso_View_Fate_r3 : DR := ⟨[
  ⟨(some 10), .none, .mv (.t 0)⟩,
  ⟨(some 11), .none, .nilck (.t 10)⟩,
  ⟨(some 12), .none, .faddr 2 (.t 11)⟩,
  ⟨(some 13), .none, .load1 (.t 12)⟩,
  ⟨(some 14), .none, .faddr 1 (.t 3)⟩,
  ⟨(some 15), .none, .load1 (.t 14)⟩,
  ⟨(some 16), .none, .faddr 2 (.t 3)⟩,
  ⟨(some 17), .none, .load1 (.t 16)⟩,
  ⟨(some 18), .none, .build [(.int .i64 0), (.int .i64 0)] [(0, 1, (.t 15)), (1, 1, (.t 17))]⟩,
  ⟨(some 19), .none, .look (.agg [.num, .num]) (.agg [(.int .i64 0), (.int .i64 0), (.int .i64 0), (.int .i64 0)]) true (.t 13) (.t 18)⟩,
  ⟨(some 9), .none, .mv (.t 19)⟩,
  ⟨(some 20), .none, .ext (.t 9) 0⟩,
  ⟨(some 21), .none, .ext (.t 9) 1⟩,
  ⟨(some 5), .none, .alloc [(.int .i64 0), (.int .i64 0), (.int .i64 0), (.int .i64 0)]⟩,
  ⟨.none, .none, .store 4 (.t 5) (.t 20)⟩,
  ⟨(some 6), .none, .mv (.t 21)⟩],
  [0, 1, 3, 7, 0, 16, 0, 64, 240, 511, 1023, 2047, 2047, 0, 12287, 32767], [0, 1, 2, 3, 4, 5, 6, 7, 8, 9, 10, 11, 12, 13, 14, 15], [(3, 1), (5, 1), (7, 1), (9, 1)], .none⟩
def f_iso_View_Fate_r4 : List AOp := [
  ⟨(some 23), .none, .loadn 7 (.t 3)⟩,
  ⟨(some 24), .none, .call 184 [(.t 23)]⟩,
  ⟨(some 22), .none, .mv (.t 24)⟩]
def f_iso_View_Fate_r5 : List AOp := [
  ⟨(some 4), .none, .mv (.c (.int .i64 3))⟩]
def f_iso_View_Fate_c2 : AC := .ret
def f_iso_View_Fate_r6 : DR := ⟨[
  ⟨(some 26), .none, .faddr 0 (.t 3)⟩,
  ⟨(some 27), .none, .load1 (.t 26)⟩,
  ⟨(some 28), .none, .mv (.t 0)⟩,
  ⟨(some 29), .none, .call 107 [(.t 28)]⟩,
  ⟨(some 30), .none, .bin .geq .num (.t 27) (.t 29)⟩,
  ⟨(some 25), .none, .mv (.t 30)⟩],
  [0, 1, 0, 4, 15, 31], [0, 1, 2, 3, 4, 5], [(1, 1)], .none⟩
def f_iso_View_Fate_r7 : List AOp := [
  ⟨(some 4), .none, .mv (.c (.int .i64 0))⟩]
def f_iso_View_Fate_c3 : AC := .ret
def f_iso_View_Fate_r8 : List AOp := [
  ⟨(some 32), .none, .faddr 4 (.t 3)⟩,
  ⟨(some 33), .none, .load1 (.t 32)⟩,
  ⟨(some 34), .none, .bin .eql .num (.t 33) (.c (.int .i64 1))⟩,
  ⟨(some 35), .none, .mv (.t 34)⟩,
  ⟨(some 36), (some (35, true)), .mv (.t 6)⟩,
  ⟨(some 37), .none, .pick (.t 35) (.t 36) (.c (.bool false))⟩,
  ⟨(some 38), .none, .mv (.t 37)⟩,
  ⟨(some 39), (some (38, true)), .faddr 0 (.t 3)⟩,
  ⟨(some 40), (some (38, true)), .load1 (.t 39)⟩,
  ⟨(some 41), (some (38, true)), .faddr 2 (.t 5)⟩,
  ⟨(some 42), (some (38, true)), .load1 (.t 41)⟩,
  ⟨(some 43), (some (38, true)), .bin .geq .num (.t 40) (.t 42)⟩,
  ⟨(some 44), .none, .pick (.t 38) (.t 43) (.c (.bool false))⟩,
  ⟨(some 31), .none, .mv (.t 44)⟩]
def f_iso_View_Fate_r9 : List AOp := [
  ⟨(some 4), .none, .mv (.c (.int .i64 2))⟩]
def f_iso_View_Fate_c4 : AC := .ret
def f_iso_View_Fate_c5 : AC := (.cond (.t 31) (.seq (.reg f_iso_View_Fate_r9) f_iso_View_Fate_c4) .skip)
def f_iso_View_Fate_c6 : AC := (.cond (.t 25) (.seq (.reg f_iso_View_Fate_r7) f_iso_View_Fate_c3) (.seq (.reg f_iso_View_Fate_r8) f_iso_View_Fate_c5))
def f_iso_View_Fate_c7 : AC := (.cond (.t 22) (.seq (.reg f_iso_View_Fate_r5) f_iso_View_Fate_c2) (.seq (.dreg f_iso_View_Fate_r6) f_iso_View_Fate_c6))
def f_iso_View_Fate_r10 : List AOp := [
  ⟨(some 4), .none, .mv (.c (.int .i64 1))⟩]
def f_iso_View_Fate_c8 : AC := .ret
def f_iso_View_Fate_c9 : AC := (.seq (.reg f_iso_View_Fate_r10) f_iso_View_Fate_c8)
def f_iso_View_Fate_c10 : AC := (.seq (.block 0 (.seq (.reg f_iso_View_Fate_r4) f_iso_View_Fate_c7)) f_iso_View_Fate_c9)
def f_iso_View_Fate_c11 : AC := (.seq (.dreg f_iso_View_Fate_r3) f_iso_View_Fate_c10)
def f_iso_View_Fate_c12 : AC := (.seq (.seq (.reg f_iso_View_Fate_r1) f_iso_View_Fate_c1) f_iso_View_Fate_c11)
def f_iso_View_Fate : AF := ⟨45, [.tmp 4], (.seq (.reg f_iso_View_Fate_r0) f_iso_View_Fate_c12)⟩
/- rec_Flat -/
def f_rec_Flat_r0 : List AOp := [
  ⟨(some 2), .none, .mv (.c .nils)⟩]
def f_rec_Flat_r1 : List AOp := [
  ⟨(some 3), .none, .mv (.c .nils)⟩]
def f_rec_Flat_r2 : List AOp := [
  ⟨(some 8), .none, .mv (.t 0)⟩,
  ⟨(some 9), .none, .len .slice (.t 8)⟩,
  ⟨(some 10), .none, .mv (.c (.int .i64 0))⟩]
def f_rec_Flat_r3 : List AOp := [
  ⟨(some 11), .none, .bin .lss .num (.t 10) (.t 9)⟩]
def f_rec_Flat_r4 : List AOp := [
  ⟨(some 12), .none, .iaddr 7 (.t 8) (.t 10)⟩,
  ⟨(some 13), .none, .loadn 7 (.t 12)⟩,
  ⟨(some 5), .none, .alloc [(.int .i64 0), (.int .i64 0), (.int .i64 0), (.int .i64 0), (.int .i64 0), (.int .i64 0), .nils]⟩,
  ⟨.none, .none, .store 7 (.t 5) (.t 13)⟩]
def f_rec_Flat_r5 : List AOp := [
  ⟨(some 14), .none, .loadn 7 (.t 5)⟩,
  ⟨(some 15), .none, .call 185 [(.t 14)]⟩]
def f_rec_Flat_c0 : AC := (.cond (.t 15) (.exit 1) .skip)
def f_rec_Flat_r6 : List AOp := [
  ⟨(some 16), .none, .faddr 6 (.t 5)⟩,
  ⟨(some 17), .none, .load1 (.t 16)⟩,
  ⟨(some 18), .none, .len .slice (.t 17)⟩,
  ⟨(some 19), .none, .mv (.c (.int .i64 0))⟩]
def f_rec_Flat_r7 : List AOp := [
  ⟨(some 20), .none, .bin .lss .num (.t 19) (.t 18)⟩]
def f_rec_Flat_r8 : List AOp := [
  ⟨(some 21), .none, .mv (.t 19)⟩,
  ⟨(some 22), .none, .iaddr 4 (.t 17) (.t 19)⟩,
  ⟨(some 23), .none, .loadn 4 (.t 22)⟩,
  ⟨(some 7), .none, .alloc [(.str []), (.str []), (.bool false), (.int .i64 0)]⟩,
  ⟨(some 6), .none, .mv (.t 21)⟩,
  ⟨.none, .none, .store 4 (.t 7) (.t 23)⟩]
def f_rec_Flat_r9 : List AOp := [
  ⟨(some 24), .none, .mv (.t 3)⟩,
  ⟨(some 25), .none, .faddr 0 (.t 5)⟩,
  ⟨(some 26), .none, .load1 (.t 25)⟩,
  ⟨(some 27), .none, .mv (.t 6)⟩,
  ⟨(some 28), .none, .bin .add .num (.t 26) (.t 27)⟩,
  ⟨(some 29), .none, .loadn 4 (.t 7)⟩,
  ⟨(some 30), .none, .build [(.int .i64 0), (.str []), (.str []), (.bool false), (.int .i64 0)] [(0, 1, (.t 28)), (1, 4, (.t 29))]⟩,
  ⟨(some 31), .none, .bsl false 5 1 [(.int .i64 0), (.str []), (.str []), (.bool false), (.int .i64 0)] [(0, 5, (.t 30))]⟩,
  ⟨(some 32), .none, .app false 5 56 (.t 24) (.t 31)⟩,
  ⟨(some 3), .none, .mv (.t 32)⟩]
def f_rec_Flat_c1 : AC := (.reg f_rec_Flat_r9)
def f_rec_Flat_r10 : List AOp := [
  ⟨(some 33), .none, .bin .add .num (.t 19) (.c (.int .i64 1))⟩,
  ⟨(some 19), .none, .mv (.t 33)⟩]
def f_rec_Flat_c2 : AC := (.reg f_rec_Flat_r10)
def f_rec_Flat_c3 : AC := (.seq (.block 3 (.seq (.reg f_rec_Flat_r8) f_rec_Flat_c1)) f_rec_Flat_c2)
def f_rec_Flat_c4 : AC := (.seq (.cond (.t 20) .skip (.exit 2)) f_rec_Flat_c3)
def f_rec_Flat_c5 : AC := (.seq (.reg f_rec_Flat_r7) f_rec_Flat_c4)
def f_rec_Flat_c6 : AC := (.block 2 (.keep 6 [3, 5, 8, 9, 10, 17, 18, 19] (.loop (.keep 6 [3, 5, 8, 9, 10, 17, 18, 19] f_rec_Flat_c5))))
def f_rec_Flat_c7 : AC := (.seq (.reg f_rec_Flat_r6) f_rec_Flat_c6)
def f_rec_Flat_c8 : AC := (.seq (.seq (.reg f_rec_Flat_r5) f_rec_Flat_c0) f_rec_Flat_c7)
def f_rec_Flat_r11 : List AOp := [
  ⟨(some 34), .none, .bin .add .num (.t 10) (.c (.int .i64 1))⟩,
  ⟨(some 10), .none, .mv (.t 34)⟩]
def f_rec_Flat_c9 : AC := (.keep 6 [3, 8, 9, 10] (.reg f_rec_Flat_r11))
def f_rec_Flat_c10 : AC := (.seq (.block 1 (.seq (.reg f_rec_Flat_r4) f_rec_Flat_c8)) f_rec_Flat_c9)
def f_rec_Flat_c11 : AC := (.seq (.cond (.t 11) .skip (.exit 0)) f_rec_Flat_c10)
def f_rec_Flat_c12 : AC := (.seq (.reg f_rec_Flat_r3) f_rec_Flat_c11)
def f_rec_Flat_c13 : AC := (.block 0 (.keep 6 [3, 8, 9, 10] (.loop (.keep 6 [3, 8, 9, 10] f_rec_Flat_c12))))
def f_rec_Flat_r12 : List AOp := [
  ⟨(some 35), .none, .mv (.t 3)⟩,
  ⟨(some 2), .none, .mv (.t 35)⟩]
def f_rec_Flat_c14 : AC := .ret
def f_rec_Flat_c15 : AC := (.seq (.reg f_rec_Flat_r12) f_rec_Flat_c14)
def f_rec_Flat_c16 : AC := (.seq (.seq (.reg f_rec_Flat_r2) f_rec_Flat_c13) f_rec_Flat_c15)
def f_rec_Flat_c17 : AC := (.seq (.reg f_rec_Flat_r1) f_rec_Flat_c16)
def f_rec_Flat : AF := ⟨36, [.tmp 2], (.seq (.reg f_rec_Flat_r0) f_rec_Flat_c17)⟩
/- rec_Next -/
def f_rec_Next_r0 : List AOp := [
  ⟨(some 1), .none, .box (.t 0)⟩,
  ⟨(some 2), .none, .mv (.c (.int .i64 0))⟩]
def f_rec_Next_r1 : List AOp := [
  ⟨(some 3), .none, .loadn 7 (.t 1)⟩,
  ⟨(some 4), .none, .call 186 [(.t 3)]⟩,
  ⟨(some 5), .none, .bin .neq .num (.t 4) (.c (.int .i64 0))⟩]
def f_rec_Next_r2 : List AOp := [
  ⟨(some 2), .none, .mv (.c (.int .i64 0))⟩]
def f_rec_Next_c0 : AC := .ret
def f_rec_Next_c1 : AC := (.cond (.t 5) (.seq (.reg f_rec_Next_r2) f_rec_Next_c0) .skip)
def f_rec_Next_r3 : DR := ⟨[
  ⟨(some 6), .none, .faddr 0 (.t 1)⟩,
  ⟨(some 7), .none, .load1 (.t 6)⟩,
  ⟨(some 8), .none, .loadn 7 (.t 1)⟩,
  ⟨(some 9), .none, .call 187 [(.t 8)]⟩,
  ⟨(some 10), .none, .bin .add .num (.t 7) (.t 9)⟩,
  ⟨(some 2), .none, .mv (.t 10)⟩],
  [0, 1, 0, 4, 15, 31], [0, 1, 2, 3, 4, 5], [(1, 1)], .none⟩
def f_rec_Next_c2 : AC := .ret
def f_rec_Next_c3 : AC := (.seq (.dreg f_rec_Next_r3) f_rec_Next_c2)
def f_rec_Next_c4 : AC := (.seq (.seq (.reg f_rec_Next_r1) f_rec_Next_c1) f_rec_Next_c3)
def f_rec_Next : AF := ⟨11, [.tmp 2], (.seq (.reg f_rec_Next_r0) f_rec_Next_c4)⟩
/- seglog_Log_First -/
def f_seglog_Log_First_r0 : List AOp := [
  ⟨(some 2), .none, .mv (.c (.int .i64 0))⟩]
def f_seglog_Log_First_r1 : List AOp := [
  ⟨(some 3), .none, .mv (.t 0)⟩,
  ⟨(some 4), .none, .bin .eql .ptr (.t 3) (.c .nilp)⟩,
  ⟨(some 5), .none, .mv (.t 4)⟩,
  ⟨(some 6), (some (5, false)), .mv (.t 0)⟩,
  ⟨(some 7), (some (5, false)), .nilck (.t 6)⟩,
  ⟨(some 8), (some (5, false)), .faddr 4 (.t 7)⟩,
  ⟨(some 9), (some (5, false)), .load1 (.t 8)⟩,
  ⟨(some 10), (some (5, false)), .len .slice (.t 9)⟩,
  ⟨(some 11), (some (5, false)), .bin .eql .num (.t 10) (.c (.int .i64 0))⟩,
  ⟨(some 12), .none, .pick (.t 5) (.c (.bool true)) (.t 11)⟩]
def f_seglog_Log_First_r2 : List AOp := [
  ⟨(some 2), .none, .mv (.c (.int .i64 0))⟩]
def f_seglog_Log_First_c0 : AC := .ret
def f_seglog_Log_First_c1 : AC := (.cond (.t 12) (.seq (.reg f_seglog_Log_First_r2) f_seglog_Log_First_c0) .skip)
def f_seglog_Log_First_r3 : List AOp := [
  ⟨(some 13), .none, .mv (.t 0)⟩,
  ⟨(some 14), .none, .nilck (.t 13)⟩,
  ⟨(some 15), .none, .faddr 4 (.t 14)⟩,
  ⟨(some 16), .none, .load1 (.t 15)⟩,
  ⟨(some 17), .none, .iaddr 1 (.t 16) (.c (.int .i64 0))⟩,
  ⟨(some 18), .none, .load1 (.t 17)⟩,
  ⟨(some 19), .none, .nilck (.t 18)⟩,
  ⟨(some 20), .none, .faddr 1 (.t 19)⟩,
  ⟨(some 21), .none, .load1 (.t 20)⟩,
  ⟨(some 2), .none, .mv (.t 21)⟩]
def f_seglog_Log_First_c2 : AC := .ret
def f_seglog_Log_First_c3 : AC := (.seq (.reg f_seglog_Log_First_r3) f_seglog_Log_First_c2)
def f_seglog_Log_First_c4 : AC := (.seq (.seq (.reg f_seglog_Log_First_r1) f_seglog_Log_First_c1) f_seglog_Log_First_c3)
def f_seglog_Log_First : AF := ⟨22, [.tmp 2], (.seq (.reg f_seglog_Log_First_r0) f_seglog_Log_First_c4)⟩
/- seglog_Log_Next -/
def f_seglog_Log_Next_r0 : List AOp := [
  ⟨(some 2), .none, .mv (.c (.int .i64 0))⟩]
def f_seglog_Log_Next_r1 : List AOp := [
  ⟨(some 3), .none, .mv (.t 0)⟩,
  ⟨(some 4), .none, .bin .eql .ptr (.t 3) (.c .nilp)⟩,
  ⟨(some 5), .none, .mv (.t 4)⟩,
  ⟨(some 6), (some (5, false)), .mv (.t 0)⟩,
  ⟨(some 7), (some (5, false)), .nilck (.t 6)⟩,
  ⟨(some 8), (some (5, false)), .faddr 4 (.t 7)⟩,
  ⟨(some 9), (some (5, false)), .load1 (.t 8)⟩,
  ⟨(some 10), (some (5, false)), .len .slice (.t 9)⟩,
  ⟨(some 11), (some (5, false)), .bin .eql .num (.t 10) (.c (.int .i64 0))⟩,
  ⟨(some 12), .none, .pick (.t 5) (.c (.bool true)) (.t 11)⟩]
def f_seglog_Log_Next_r2 : List AOp := [
  ⟨(some 2), .none, .mv (.c (.int .i64 0))⟩]
def f_seglog_Log_Next_c0 : AC := .ret
def f_seglog_Log_Next_c1 : AC := (.cond (.t 12) (.seq (.reg f_seglog_Log_Next_r2) f_seglog_Log_Next_c0) .skip)
def f_seglog_Log_Next_r3 : List AOp := [
  ⟨(some 13), .none, .mv (.t 0)⟩,
  ⟨(some 14), .none, .call 205 [(.t 13)]⟩,
  ⟨(some 15), .none, .call 206 [(.t 14)]⟩,
  ⟨(some 2), .none, .mv (.t 15)⟩]
def f_seglog_Log_Next_c2 : AC := .ret
def f_seglog_Log_Next_c3 : AC := (.seq (.reg f_seglog_Log_Next_r3) f_seglog_Log_Next_c2)
def f_seglog_Log_Next_c4 : AC := (.seq (.seq (.reg f_seglog_Log_Next_r1) f_seglog_Log_Next_c1) f_seglog_Log_Next_c3)
def f_seglog_Log_Next : AF := ⟨16, [.tmp 2], (.seq (.reg f_seglog_Log_Next_r0) f_seglog_Log_Next_c4)⟩
/- iso_View_Open -/
def f_iso_View_Open_r0 : List AOp := [
  ⟨(some 2), .none, .mv (.c .nils)⟩]
def f_iso_View_Open_r1 : List AOp := [
  ⟨(some 6), .none, .mv (.t 0)⟩,
  ⟨(some 7), .none, .bin .eql .ptr (.t 6) (.c .nilp)⟩]
def f_iso_View_Open_r2 : List AOp := [
  ⟨(some 2), .none, .mv (.c .nils)⟩]
def f_iso_View_Open_c0 : AC := .ret
def f_iso_View_Open_c1 : AC := (.cond (.t 7) (.seq (.reg f_iso_View_Open_r2) f_iso_View_Open_c0) .skip)
def f_iso_View_Open_r3 : List AOp := [
  ⟨(some 3), .none, .mv (.c .nils)⟩]
def f_iso_View_Open_r4 : List AOp := [
  ⟨(some 8), .none, .mv (.t 0)⟩,
  ⟨(some 9), .none, .nilck (.t 8)⟩,
  ⟨(some 10), .none, .faddr 1 (.t 9)⟩,
  ⟨(some 11), .none, .load1 (.t 10)⟩,
  ⟨(some 12), .none, .range (.t 11)⟩]
def f_iso_View_Open_r5 : List AOp := [
  ⟨(some 13), .none, .next (.t 12)⟩,
  ⟨(some 14), .none, .ext (.t 13) 0⟩]
def f_iso_View_Open_r6 : List AOp := [
  ⟨(some 15), .none, .entry (.t 12)⟩,
  ⟨(some 16), .none, .ext (.t 15) 1⟩,
  ⟨(some 5), .none, .alloc [(.int .i64 0), (.int .i64 0), (.int .i64 0), (.int .i64 0)]⟩,
  ⟨.none, .none, .store 4 (.t 5) (.t 16)⟩]
def f_iso_View_Open_r7 : List AOp := [
  ⟨(some 17), .none, .mv (.t 3)⟩,
  ⟨(some 18), .none, .loadn 4 (.t 5)⟩,
  ⟨(some 19), .none, .call 207 [(.t 18)]⟩,
  ⟨(some 20), .none, .bsl true 4 1 [(.int .i64 0), (.int .i64 0), (.int .i64 0), (.int .i64 0)] [(0, 4, (.t 19))]⟩,
  ⟨(some 21), .none, .app true 4 32 (.t 17) (.t 20)⟩,
  ⟨(some 3), .none, .mv (.t 21)⟩]
def f_iso_View_Open_c2 : AC := (.reg f_iso_View_Open_r7)
def f_iso_View_Open_c3 : AC := (.block 1 (.seq (.reg f_iso_View_Open_r6) f_iso_View_Open_c2))
def f_iso_View_Open_c4 : AC := (.seq (.cond (.t 14) .skip (.exit 0)) f_iso_View_Open_c3)
def f_iso_View_Open_c5 : AC := (.seq (.reg f_iso_View_Open_r5) f_iso_View_Open_c4)
def f_iso_View_Open_c6 : AC := (.block 0 (.keep 5 [3, 12] (.loop (.keep 5 [3, 12] f_iso_View_Open_c5))))
def f_iso_View_Open_r8 : List AOp := [
  ⟨(some 22), .none, .mv (.t 3)⟩,
  ⟨(some 23), .none, .call 208 [(.t 22), (.c (.fn 209 [] []))]⟩]
def f_iso_View_Open_r9 : List AOp := [
  ⟨(some 24), .none, .mv (.t 3)⟩,
  ⟨(some 2), .none, .mv (.t 24)⟩]
def f_iso_View_Open_c7 : AC := .ret
def f_iso_View_Open_c8 : AC := (.seq (.reg f_iso_View_Open_r9) f_iso_View_Open_c7)
def f_iso_View_Open_c9 : AC := (.seq (.reg f_iso_View_Open_r8) f_iso_View_Open_c8)
def f_iso_View_Open_c10 : AC := (.seq (.seq (.reg f_iso_View_Open_r4) f_iso_View_Open_c6) f_iso_View_Open_c9)
def f_iso_View_Open_c11 : AC := (.seq (.reg f_iso_View_Open_r3) f_iso_View_Open_c10)
def f_iso_View_Open_c12 : AC := (.seq (.seq (.reg f_iso_View_Open_r1) f_iso_View_Open_c1) f_iso_View_Open_c11)
def f_iso_View_Open : AF := ⟨25, [.tmp 2], (.seq (.reg f_iso_View_Open_r0) f_iso_View_Open_c12)⟩
/- iso_View_Stable -/
def f_iso_View_Stable_r0 : List AOp := [
  ⟨(some 2), .none, .mv (.c (.int .i64 0))⟩]
def f_iso_View_Stable_r1 : List AOp := [
  ⟨(some 6), .none, .mv (.t 0)⟩,
  ⟨(some 7), .none, .bin .eql .ptr (.t 6) (.c .nilp)⟩]
def f_iso_View_Stable_r2 : List AOp := [
  ⟨(some 2), .none, .mv (.c (.int .i64 0))⟩]
def f_iso_View_Stable_c0 : AC := .ret
def f_iso_View_Stable_c1 : AC := (.cond (.t 7) (.seq (.reg f_iso_View_Stable_r2) f_iso_View_Stable_c0) .skip)
def f_iso_View_Stable_r3 : List AOp := [
  ⟨(some 8), .none, .mv (.t 0)⟩,
  ⟨(some 9), .none, .nilck (.t 8)⟩,
  ⟨(some 10), .none, .faddr 0 (.t 9)⟩,
  ⟨(some 11), .none, .load1 (.t 10)⟩,
  ⟨(some 3), .none, .mv (.t 11)⟩]
def f_iso_View_Stable_r4 : List AOp := [
  ⟨(some 12), .none, .mv (.t 0)⟩,
  ⟨(some 13), .none, .nilck (.t 12)⟩,
  ⟨(some 14), .none, .faddr 1 (.t 13)⟩,
  ⟨(some 15), .none, .load1 (.t 14)⟩,
  ⟨(some 16), .none, .range (.t 15)⟩]
def f_iso_View_Stable_r5 : List AOp := [
  ⟨(some 17), .none, .next (.t 16)⟩,
  ⟨(some 18), .none, .ext (.t 17) 0⟩]
def f_iso_View_Stable_r6 : List AOp := [
  ⟨(some 19), .none, .entry (.t 16)⟩,
  ⟨(some 20), .none, .ext (.t 19) 1⟩,
  ⟨(some 5), .none, .alloc [(.int .i64 0), (.int .i64 0), (.int .i64 0), (.int .i64 0)]⟩,
  ⟨.none, .none, .store 4 (.t 5) (.t 20)⟩]
def f_iso_View_Stable_r7 : List AOp := [
  ⟨(some 21), .none, .mv (.t 3)⟩,
  ⟨(some 22), .none, .faddr 2 (.t 5)⟩,
  ⟨(some 23), .none, .load1 (.t 22)⟩,
  ⟨(some 24), .none, .mn [(.t 21), (.t 23)]⟩,
  ⟨(some 3), .none, .mv (.t 24)⟩]
def f_iso_View_Stable_c2 : AC := (.reg f_iso_View_Stable_r7)
def f_iso_View_Stable_c3 : AC := (.block 1 (.seq (.reg f_iso_View_Stable_r6) f_iso_View_Stable_c2))
def f_iso_View_Stable_c4 : AC := (.seq (.cond (.t 18) .skip (.exit 0)) f_iso_View_Stable_c3)
def f_iso_View_Stable_c5 : AC := (.seq (.reg f_iso_View_Stable_r5) f_iso_View_Stable_c4)
def f_iso_View_Stable_c6 : AC := (.block 0 (.keep 5 [3, 16] (.loop (.keep 5 [3, 16] f_iso_View_Stable_c5))))
def f_iso_View_Stable_r8 : List AOp := [
  ⟨(some 25), .none, .mv (.t 3)⟩,
  ⟨(some 2), .none, .mv (.t 25)⟩]
def f_iso_View_Stable_c7 : AC := .ret
def f_iso_View_Stable_c8 : AC := (.seq (.reg f_iso_View_Stable_r8) f_iso_View_Stable_c7)
def f_iso_View_Stable_c9 : AC := (.seq (.seq (.reg f_iso_View_Stable_r4) f_iso_View_Stable_c6) f_iso_View_Stable_c8)
def f_iso_View_Stable_c10 : AC := (.seq (.reg f_iso_View_Stable_r3) f_iso_View_Stable_c9)
def f_iso_View_Stable_c11 : AC := (.seq (.seq (.reg f_iso_View_Stable_r1) f_iso_View_Stable_c1) f_iso_View_Stable_c10)
def f_iso_View_Stable : AF := ⟨26, [.tmp 2], (.seq (.reg f_iso_View_Stable_r0) f_iso_View_Stable_c11)⟩
/- compact_Table_Get -/
def f_compact_Table_Get_r0 : List AOp := [
  ⟨(some 4), .none, .alloc [(.int .i64 0), (.str []), (.str []), (.bool false), (.int .i64 0)]⟩,
  ⟨(some 5), .none, .mv (.c (.bool false))⟩]
def f_compact_Table_Get_r1 : List AOp := [
  ⟨(some 8), .none, .mv (.t 0)⟩,
  ⟨(some 9), .none, .bin .eql .ptr (.t 8) (.c .nilp)⟩]
def f_compact_Table_Get_r2 : List AOp := [
  ⟨(some 10), .none, .build [(.int .i64 0), (.str []), (.str []), (.bool false), (.int .i64 0)] []⟩,
  ⟨.none, .none, .store 5 (.t 4) (.t 10)⟩,
  ⟨(some 5), .none, .mv (.c (.bool false))⟩]
def f_compact_Table_Get_c0 : AC := .ret
def f_compact_Table_Get_c1 : AC := (.cond (.t 9) (.seq (.reg f_compact_Table_Get_r2) f_compact_Table_Get_c0) .skip)
def f_compact_Table_Get_r3 : List AOp := [
  ⟨(some 12), .none, .mv (.t 0)⟩,
  ⟨(some 13), .none, .mv (.t 1)⟩,
  ⟨(some 14), .none, .call 211 [(.t 12), (.t 13)]⟩,
  ⟨(some 11), .none, .mv (.t 14)⟩,
  ⟨(some 15), .none, .ext (.t 11) 0⟩,
  ⟨(some 16), .none, .ext (.t 11) 1⟩,
  ⟨(some 6), .none, .mv (.t 15)⟩,
  ⟨(some 7), .none, .mv (.t 16)⟩]
def f_compact_Table_Get_r4 : List AOp := [
  ⟨(some 17), .none, .mv (.t 7)⟩,
  ⟨(some 18), .none, .un .not (.t 17)⟩]
def f_compact_Table_Get_r5 : List AOp := [
  ⟨(some 19), .none, .build [(.int .i64 0), (.str []), (.str []), (.bool false), (.int .i64 0)] []⟩,
  ⟨.none, .none, .store 5 (.t 4) (.t 19)⟩,
  ⟨(some 5), .none, .mv (.c (.bool false))⟩]
def f_compact_Table_Get_c2 : AC := .ret
def f_compact_Table_Get_c3 : AC := (.cond (.t 18) (.seq (.reg f_compact_Table_Get_r5) f_compact_Table_Get_c2) .skip)
def f_compact_Table_Get_r6 : List AOp := [
  ⟨(some 20), .none, .mv (.t 0)⟩,
  ⟨(some 21), .none, .nilck (.t 20)⟩,
  ⟨(some 22), .none, .faddr 1 (.t 21)⟩,
  ⟨(some 23), .none, .load1 (.t 22)⟩,
  ⟨(some 24), .none, .mv (.t 6)⟩,
  ⟨(some 25), .none, .iaddr 5 (.t 23) (.t 24)⟩,
  ⟨(some 26), .none, .loadn 5 (.t 25)⟩,
  ⟨.none, .none, .store 5 (.t 4) (.t 26)⟩,
  ⟨(some 5), .none, .mv (.c (.bool true))⟩]
def f_compact_Table_Get_c4 : AC := .ret
def f_compact_Table_Get_c5 : AC := (.seq (.reg f_compact_Table_Get_r6) f_compact_Table_Get_c4)
def f_compact_Table_Get_c6 : AC := (.seq (.seq (.reg f_compact_Table_Get_r4) f_compact_Table_Get_c3) f_compact_Table_Get_c5)
def f_compact_Table_Get_c7 : AC := (.seq (.reg f_compact_Table_Get_r3) f_compact_Table_Get_c6)
def f_compact_Table_Get_c8 : AC := (.seq (.seq (.reg f_compact_Table_Get_r1) f_compact_Table_Get_c1) f_compact_Table_Get_c7)
def f_compact_Table_Get : AF := ⟨27, [.celln 4 5, .tmp 5], (.seq (.reg f_compact_Table_Get_r0) f_compact_Table_Get_c8)⟩
/- compact_Table_Apply -/
def f_compact_Table_Apply_r0 : List AOp := [
  ⟨(some 4), .none, .mv (.c (.int .i64 0))⟩]
def f_compact_Table_Apply_r1 : List AOp := [
  ⟨(some 8), .none, .mv (.t 0)⟩,
  ⟨(some 9), .none, .bin .eql .ptr (.t 8) (.c .nilp)⟩,
  ⟨(some 7), .none, .mv (.t 9)⟩]
def f_compact_Table_Apply_r2 : List AOp := [
  ⟨(some 4), .none, .mv (.c (.int .i64 1))⟩]
def f_compact_Table_Apply_c0 : AC := .ret
def f_compact_Table_Apply_r3 : List AOp := [
  ⟨(some 11), .none, .mv (.t 0)⟩,
  ⟨(some 12), .none, .nilck (.t 11)⟩,
  ⟨(some 13), .none, .faddr 0 (.t 12)⟩,
  ⟨(some 14), .none, .load1 (.t 13)⟩,
  ⟨(some 15), .none, .mv (.t 1)⟩,
  ⟨(some 16), .none, .call 200 [(.t 14), (.t 15)]⟩,
  ⟨(some 17), .none, .un .not (.t 16)⟩,
  ⟨(some 18), .none, .mv (.t 17)⟩,
  ⟨(some 19), (some (18, false)), .mv (.t 1)⟩,
  ⟨(some 20), (some (18, false)), .len .slice (.t 19)⟩,
  ⟨(some 21), (some (18, false)), .bin .gtr .num (.t 20) (.c (.int .i64 0))⟩,
  ⟨(some 22), (some (18, false)), .mv (.t 21)⟩,
  ⟨(some 23), (some (22, true)), .mv (.t 1)⟩,
  ⟨(some 24), (some (22, true)), .mv (.t 1)⟩,
  ⟨(some 25), (some (22, true)), .len .slice (.t 24)⟩,
  ⟨(some 26), (some (22, true)), .bin .sub .num (.t 25) (.c (.int .i64 1))⟩,
  ⟨(some 27), (some (22, true)), .iaddr 5 (.t 23) (.t 26)⟩,
  ⟨(some 28), (some (22, true)), .faddr 0 (.t 27)⟩,
  ⟨(some 29), (some (22, true)), .load1 (.t 28)⟩,
  ⟨(some 30), (some (22, true)), .bin .gtr .num (.t 29) (.c (.int .i64 1099511627776))⟩,
  ⟨(some 31), (some (18, false)), .pick (.t 22) (.t 30) (.c (.bool false))⟩,
  ⟨(some 32), .none, .pick (.t 18) (.c (.bool true)) (.t 31)⟩,
  ⟨(some 10), .none, .mv (.t 32)⟩]
def f_compact_Table_Apply_r4 : List AOp := [
  ⟨(some 4), .none, .mv (.c (.int .i64 8))⟩]
def f_compact_Table_Apply_c1 : AC := .ret
def f_compact_Table_Apply_c2 : AC := (.cond (.t 10) (.seq (.reg f_compact_Table_Apply_r4) f_compact_Table_Apply_c1) .skip)
def f_compact_Table_Apply_c3 : AC := (.cond (.t 7) (.seq (.reg f_compact_Table_Apply_r2) f_compact_Table_Apply_c0) (.seq (.reg f_compact_Table_Apply_r3) f_compact_Table_Apply_c2))
def f_compact_Table_Apply_r5 : List AOp := [
  ⟨(some 33), .none, .mv (.t 1)⟩,
  ⟨(some 34), .none, .len .slice (.t 33)⟩,
  ⟨(some 35), .none, .mv (.c (.int .i64 0))⟩]
def f_compact_Table_Apply_r6 : List AOp := [
  ⟨(some 36), .none, .bin .lss .num (.t 35) (.t 34)⟩]
def f_compact_Table_Apply_r7 : List AOp := [
  ⟨(some 37), .none, .iaddr 5 (.t 33) (.t 35)⟩,
  ⟨(some 38), .none, .loadn 5 (.t 37)⟩,
  ⟨(some 6), .none, .alloc [(.int .i64 0), (.str []), (.str []), (.bool false), (.int .i64 0)]⟩,
  ⟨.none, .none, .store 5 (.t 6) (.t 38)⟩]
def f_compact_Table_Apply_r8 : List AOp := [
  ⟨(some 39), .none, .mv (.t 0)⟩,
  ⟨(some 40), .none, .loadn 5 (.t 6)⟩,
  ⟨(some 41), .none, .call 212 [(.t 39), (.t 40)]⟩]
def f_compact_Table_Apply_c4 : AC := (.reg f_compact_Table_Apply_r8)
def f_compact_Table_Apply_r9 : List AOp := [
  ⟨(some 42), .none, .bin .add .num (.t 35) (.c (.int .i64 1))⟩,
  ⟨(some 35), .none, .mv (.t 42)⟩]
def f_compact_Table_Apply_c5 : AC := (.reg f_compact_Table_Apply_r9)
def f_compact_Table_Apply_c6 : AC := (.seq (.block 2 (.seq (.reg f_compact_Table_Apply_r7) f_compact_Table_Apply_c4)) f_compact_Table_Apply_c5)
def f_compact_Table_Apply_c7 : AC := (.seq (.cond (.t 36) .skip (.exit 1)) f_compact_Table_Apply_c6)
def f_compact_Table_Apply_c8 : AC := (.seq (.reg f_compact_Table_Apply_r6) f_compact_Table_Apply_c7)
def f_compact_Table_Apply_c9 : AC := (.block 1 (.keep 6 [0, 33, 34, 35] (.loop (.keep 6 [0, 33, 34, 35] f_compact_Table_Apply_c8))))
def f_compact_Table_Apply_r10 : List AOp := [
  ⟨(some 4), .none, .mv (.c (.int .i64 0))⟩]
def f_compact_Table_Apply_c10 : AC := .ret
def f_compact_Table_Apply_c11 : AC := (.seq (.reg f_compact_Table_Apply_r10) f_compact_Table_Apply_c10)
def f_compact_Table_Apply_c12 : AC := (.seq (.seq (.reg f_compact_Table_Apply_r5) f_compact_Table_Apply_c9) f_compact_Table_Apply_c11)
def f_compact_Table_Apply_c13 : AC := (.seq (.block 0 (.seq (.reg f_compact_Table_Apply_r1) f_compact_Table_Apply_c3)) f_compact_Table_Apply_c12)
def f_compact_Table_Apply : AF := ⟨43, [.tmp 4], (.seq (.reg f_compact_Table_Apply_r0) f_compact_Table_Apply_c13)⟩
/- offsets_Offsets_read -/
def f_offsets_Offsets_read_r0 : DR := ⟨[
  ⟨(some 10), .none, .mv (.t 0)⟩,
  ⟨(some 11), .none, .nilck (.t 10)⟩,
  ⟨(some 12), .none, .faddr 0 (.t 11)⟩,
  ⟨(some 13), .none, .load1 (.t 12)⟩,
  ⟨(some 14), .none, .mv (.t 0)⟩,
  ⟨(some 15), .none, .nilck (.t 14)⟩,
  ⟨(some 16), .none, .faddr 1 (.t 15)⟩,
  ⟨(some 17), .none, .load1 (.t 16)⟩,
  ⟨(some 18), .none, .call 25 [(.t 13), (.t 17), (.c (.int .i64 1099511627776)), (.c (.bool true))]⟩,
  ⟨(some 9), .none, .mv (.t 18)⟩,
  ⟨(some 19), .none, .ext (.t 9) 0⟩,
  ⟨(some 20), .none, .ext (.t 9) 1⟩,
  ⟨(some 21), .none, .ext (.t 9) 2⟩,
  ⟨(some 2), .none, .mv (.t 19)⟩,
  ⟨(some 3), .none, .mv (.t 20)⟩,
  ⟨(some 4), .none, .mv (.t 21)⟩],
  [0, 1, 3, 7, 0, 16, 48, 112, 255, 511, 1023, 1023, 1023, 2047, 12287, 32767], [0, 1, 2, 3, 4, 5, 6, 7, 8, 9, 10, 11, 12, 13, 14, 15], [], .none⟩
def f_offsets_Offsets_read_r1 : List AOp := [
  ⟨(some 22), .none, .mv (.t 4)⟩,
  ⟨(some 23), .none, .bin .neq .num (.t 22) (.c (.int .i64 0))⟩]
def f_offsets_Offsets_read_c0 : AC := (.cond (.t 23) .ret .skip)
def f_offsets_Offsets_read_r2 : List AOp := [
  ⟨(some 24), .none, .mv (.t 2)⟩,
  ⟨(some 25), .none, .len .slice (.t 24)⟩,
  ⟨(some 26), .none, .mv (.c (.int .i64 0))⟩]
def f_offsets_Offsets_read_r3 : List AOp := [
  ⟨(some 27), .none, .bin .lss .num (.t 26) (.t 25)⟩]
def f_offsets_Offsets_read_r4 : List AOp := [
  ⟨(some 28), .none, .iaddr 5 (.t 24) (.t 26)⟩,
  ⟨(some 29), .none, .loadn 5 (.t 28)⟩,
  ⟨(some 6), .none, .alloc [(.int .i64 0), (.str []), (.str []), (.bool false), (.int .i64 0)]⟩,
  ⟨.none, .none, .store 5 (.t 6) (.t 29)⟩]
def f_offsets_Offsets_read_r5 : List AOp := [
  ⟨(some 31), .none, .faddr 1 (.t 6)⟩,
  ⟨(some 32), .none, .loadn 4 (.t 31)⟩,
  ⟨(some 33), .none, .call 18 [(.t 32)]⟩,
  ⟨(some 30), .none, .mv (.t 33)⟩,
  ⟨(some 34), .none, .ext (.t 30) 0⟩,
  ⟨(some 35), .none, .ext (.t 30) 1⟩,
  ⟨(some 7), .none, .alloc [(.int .i64 0), (.int .i64 0), (.int .i64 0), (.int .i64 0)]⟩,
  ⟨.none, .none, .store 4 (.t 7) (.t 34)⟩,
  ⟨(some 8), .none, .mv (.t 35)⟩]
def f_offsets_Offsets_read_r6 : List AOp := [
  ⟨(some 36), .none, .mv (.t 8)⟩,
  ⟨(some 37), .none, .bin .eql .num (.t 36) (.c (.int .i64 0))⟩]
def f_offsets_Offsets_read_r7 : DR := ⟨[
  ⟨(some 38), .none, .mv (.t 0)⟩,
  ⟨(some 39), .none, .nilck (.t 38)⟩,
  ⟨(some 40), .none, .faddr 2 (.t 39)⟩,
  ⟨(some 41), .none, .load1 (.t 40)⟩,
  ⟨(some 42), .none, .loadn 5 (.t 6)⟩,
  ⟨(some 43), .none, .bsl false 5 1 [(.int .i64 0), (.str []), (.str []), (.bool false), (.int .i64 0)] [(0, 5, (.t 42))]⟩,
  ⟨(some 44), .none, .call 109 [(.t 41), (.t 43)]⟩],
  [0, 1, 3, 7, 0, 16, 63], [0, 1, 2, 3, 4, 5, 6], [], .none⟩
def f_offsets_Offsets_read_c1 : AC := (.cond (.t 37) (.dreg f_offsets_Offsets_read_r7) .skip)
def f_offsets_Offsets_read_c2 : AC := (.seq (.reg f_offsets_Offsets_read_r6) f_offsets_Offsets_read_c1)
def f_offsets_Offsets_read_c3 : AC := (.seq (.reg f_offsets_Offsets_read_r5) f_offsets_Offsets_read_c2)
def f_offsets_Offsets_read_r8 : List AOp := [
  ⟨(some 45), .none, .bin .add .num (.t 26) (.c (.int .i64 1))⟩,
  ⟨(some 26), .none, .mv (.t 45)⟩]
def f_offsets_Offsets_read_c4 : AC := (.keep 6 [0, 3, 24, 25, 26] (.reg f_offsets_Offsets_read_r8))
def f_offsets_Offsets_read_c5 : AC := (.seq (.block 1 (.seq (.reg f_offsets_Offsets_read_r4) f_offsets_Offsets_read_c3)) f_offsets_Offsets_read_c4)
def f_offsets_Offsets_read_c6 : AC := (.seq (.cond (.t 27) .skip (.exit 0)) f_offsets_Offsets_read_c5)
def f_offsets_Offsets_read_c7 : AC := (.seq (.reg f_offsets_Offsets_read_r3) f_offsets_Offsets_read_c6)
def f_offsets_Offsets_read_c8 : AC := (.block 0 (.keep 6 [0, 3, 24, 25, 26] (.loop (.keep 6 [0, 3, 24, 25, 26] f_offsets_Offsets_read_c7))))
def f_offsets_Offsets_read_r9 : List AOp := [
  ⟨(some 46), .none, .mv (.t 0)⟩,
  ⟨(some 47), .none, .mv (.t 3)⟩,
  ⟨(some 48), .none, .nilck (.t 46)⟩,
  ⟨(some 49), .none, .faddr 1 (.t 48)⟩,
  ⟨.none, .none, .store 1 (.t 49) (.t 47)⟩]
def f_offsets_Offsets_read_c9 : AC := (.reg f_offsets_Offsets_read_r9)
def f_offsets_Offsets_read_c10 : AC := (.seq (.seq (.reg f_offsets_Offsets_read_r2) f_offsets_Offsets_read_c8) f_offsets_Offsets_read_c9)
def f_offsets_Offsets_read_c11 : AC := (.seq (.seq (.reg f_offsets_Offsets_read_r1) f_offsets_Offsets_read_c0) f_offsets_Offsets_read_c10)
def f_offsets_Offsets_read : AF := ⟨50, [], (.seq (.dreg f_offsets_Offsets_read_r0) f_offsets_Offsets_read_c11)⟩
/- offsets_ended -/
def f_offsets_ended_r0 : List AOp := [
  ⟨(some 2), .none, .box (.t 0)⟩,
  ⟨(some 4), .none, .mv (.c (.bool false))⟩]
def f_offsets_ended_r1 : List AOp := [
  ⟨(some 5), .none, .mv (.t 1)⟩,
  ⟨(some 6), .none, .mkfn 225 [] [(.t 2)]⟩,
  ⟨(some 7), .none, .call 224 [(.t 5), (.t 6)]⟩,
  ⟨(some 4), .none, .mv (.t 7)⟩]
def f_offsets_ended_c0 : AC := .ret
def f_offsets_ended_c1 : AC := (.seq (.reg f_offsets_ended_r1) f_offsets_ended_c0)
def f_offsets_ended : AF := ⟨8, [.tmp 4], (.seq (.reg f_offsets_ended_r0) f_offsets_ended_c1)⟩
/- seglog_Prefix -/
def f_seglog_Prefix_r0 : List AOp := [
  ⟨(some 2), .none, .mv (.c (.bool false))⟩]
def f_seglog_Prefix_r1 : List AOp := [
  ⟨(some 5), .none, .mv (.t 0)⟩,
  ⟨(some 6), .none, .len .str (.t 5)⟩,
  ⟨(some 7), .none, .bin .lss .num (.t 6) (.c (.int .i64 1))⟩,
  ⟨(some 8), .none, .mv (.t 7)⟩,
  ⟨(some 9), (some (8, false)), .mv (.t 0)⟩,
  ⟨(some 10), (some (8, false)), .len .str (.t 9)⟩,
  ⟨(some 11), (some (8, false)), .bin .gtr .num (.t 10) (.c (.int .i64 8))⟩,
  ⟨(some 12), .none, .pick (.t 8) (.c (.bool true)) (.t 11)⟩]
def f_seglog_Prefix_r2 : List AOp := [
  ⟨(some 2), .none, .mv (.c (.bool false))⟩]
def f_seglog_Prefix_c0 : AC := .ret
def f_seglog_Prefix_c1 : AC := (.cond (.t 12) (.seq (.reg f_seglog_Prefix_r2) f_seglog_Prefix_c0) .skip)
def f_seglog_Prefix_r3 : List AOp := [
  ⟨(some 13), .none, .mv (.t 0)⟩,
  ⟨(some 14), .none, .conv .toBytes (.t 13)⟩,
  ⟨(some 15), .none, .len .slice (.t 14)⟩,
  ⟨(some 16), .none, .mv (.c (.int .i64 0))⟩]
def f_seglog_Prefix_r4 : List AOp := [
  ⟨(some 17), .none, .bin .lss .num (.t 16) (.t 15)⟩]
def f_seglog_Prefix_r5 : List AOp := [
  ⟨(some 18), .none, .iaddr 1 (.t 14) (.t 16)⟩,
  ⟨(some 19), .none, .load1 (.t 18)⟩,
  ⟨(some 4), .none, .mv (.t 19)⟩]
def f_seglog_Prefix_r6 : List AOp := [
  ⟨(some 20), .none, .mv (.t 4)⟩,
  ⟨(some 21), .none, .bin .geq .num (.t 20) (.c (.int .u8 97))⟩,
  ⟨(some 22), .none, .mv (.t 21)⟩,
  ⟨(some 23), (some (22, true)), .mv (.t 4)⟩,
  ⟨(some 24), (some (22, true)), .bin .leq .num (.t 23) (.c (.int .u8 122))⟩,
  ⟨(some 25), .none, .pick (.t 22) (.t 24) (.c (.bool false))⟩,
  ⟨(some 26), .none, .mv (.t 25)⟩,
  ⟨(some 27), (some (26, false)), .mv (.t 4)⟩,
  ⟨(some 28), (some (26, false)), .bin .geq .num (.t 27) (.c (.int .u8 48))⟩,
  ⟨(some 29), (some (26, false)), .mv (.t 28)⟩,
  ⟨(some 30), (some (29, true)), .mv (.t 4)⟩,
  ⟨(some 31), (some (29, true)), .bin .leq .num (.t 30) (.c (.int .u8 57))⟩,
  ⟨(some 32), (some (26, false)), .pick (.t 29) (.t 31) (.c (.bool false))⟩,
  ⟨(some 33), .none, .pick (.t 26) (.c (.bool true)) (.t 32)⟩,
  ⟨(some 34), .none, .un .not (.t 33)⟩]
def f_seglog_Prefix_r7 : List AOp := [
  ⟨(some 2), .none, .mv (.c (.bool false))⟩]
def f_seglog_Prefix_c2 : AC := .ret
def f_seglog_Prefix_c3 : AC := (.cond (.t 34) (.seq (.reg f_seglog_Prefix_r7) f_seglog_Prefix_c2) .skip)
def f_seglog_Prefix_c4 : AC := (.seq (.reg f_seglog_Prefix_r6) f_seglog_Prefix_c3)
def f_seglog_Prefix_r8 : List AOp := [
  ⟨(some 35), .none, .bin .add .num (.t 16) (.c (.int .i64 1))⟩,
  ⟨(some 16), .none, .mv (.t 35)⟩]
def f_seglog_Prefix_c5 : AC := (.reg f_seglog_Prefix_r8)
def f_seglog_Prefix_c6 : AC := (.seq (.block 1 (.seq (.reg f_seglog_Prefix_r5) f_seglog_Prefix_c4)) f_seglog_Prefix_c5)
def f_seglog_Prefix_c7 : AC := (.seq (.cond (.t 17) .skip (.exit 0)) f_seglog_Prefix_c6)
def f_seglog_Prefix_c8 : AC := (.seq (.reg f_seglog_Prefix_r4) f_seglog_Prefix_c7)
def f_seglog_Prefix_c9 : AC := (.block 0 (.keep 6 [14, 15, 16] (.loop (.keep 6 [14, 15, 16] f_seglog_Prefix_c8))))
def f_seglog_Prefix_r9 : List AOp := [
  ⟨(some 2), .none, .mv (.c (.bool true))⟩]
def f_seglog_Prefix_c10 : AC := .ret
def f_seglog_Prefix_c11 : AC := (.seq (.reg f_seglog_Prefix_r9) f_seglog_Prefix_c10)
def f_seglog_Prefix_c12 : AC := (.seq (.seq (.reg f_seglog_Prefix_r3) f_seglog_Prefix_c9) f_seglog_Prefix_c11)
def f_seglog_Prefix_c13 : AC := (.seq (.seq (.reg f_seglog_Prefix_r1) f_seglog_Prefix_c1) f_seglog_Prefix_c12)
def f_seglog_Prefix : AF := ⟨36, [.tmp 2], (.seq (.reg f_seglog_Prefix_r0) f_seglog_Prefix_c13)⟩
/- seglog_may -/
def f_seglog_may_r0 : List AOp := [
  ⟨(some 1), .none, .box (.t 0)⟩,
  ⟨(some 2), .none, .mv (.c (.bool false))⟩]
def f_seglog_may_r1 : List AOp := [
  ⟨(some 3), .none, .faddr 0 (.t 1)⟩,
  ⟨(some 4), .none, .load1 (.t 3)⟩,
  ⟨(some 5), .none, .bin .geq .num (.t 4) (.c (.int .i64 64))⟩,
  ⟨(some 6), .none, .mv (.t 5)⟩,
  ⟨(some 7), (some (6, true)), .faddr 0 (.t 1)⟩,
  ⟨(some 8), (some (6, true)), .load1 (.t 7)⟩,
  ⟨(some 9), (some (6, true)), .bin .leq .num (.t 8) (.c (.int .i64 4194304))⟩,
  ⟨(some 10), .none, .pick (.t 6) (.t 9) (.c (.bool false))⟩,
  ⟨(some 11), .none, .mv (.t 10)⟩,
  ⟨(some 12), (some (11, true)), .faddr 1 (.t 1)⟩,
  ⟨(some 13), (some (11, true)), .load1 (.t 12)⟩,
  ⟨(some 14), (some (11, true)), .bin .geq .num (.t 13) (.c (.int .i64 1))⟩,
  ⟨(some 15), .none, .pick (.t 11) (.t 14) (.c (.bool false))⟩,
  ⟨(some 16), .none, .mv (.t 15)⟩,
  ⟨(some 17), (some (16, true)), .faddr 1 (.t 1)⟩,
  ⟨(some 18), (some (16, true)), .load1 (.t 17)⟩,
  ⟨(some 19), (some (16, true)), .bin .leq .num (.t 18) (.c (.int .i64 4194304))⟩,
  ⟨(some 20), .none, .pick (.t 16) (.t 19) (.c (.bool false))⟩,
  ⟨(some 2), .none, .mv (.t 20)⟩]
def f_seglog_may_c0 : AC := .ret
def f_seglog_may_c1 : AC := (.seq (.reg f_seglog_may_r1) f_seglog_may_c0)
def f_seglog_may : AF := ⟨21, [.tmp 2], (.seq (.reg f_seglog_may_r0) f_seglog_may_c1)⟩
/- disk_Disk_Gone -/
def f_disk_Disk_Gone_r0 : List AOp := [
  ⟨(some 2), .none, .mv (.c (.bool false))⟩]
def f_disk_Disk_Gone_r1 : List AOp := [
  ⟨(some 3), .none, .mv (.t 0)⟩,
  ⟨(some 4), .none, .bin .eql .ptr (.t 3) (.c .nilp)⟩,
  ⟨(some 5), .none, .mv (.t 4)⟩,
  ⟨(some 6), (some (5, false)), .mv (.t 0)⟩,
  ⟨(some 7), (some (5, false)), .nilck (.t 6)⟩,
  ⟨(some 8), (some (5, false)), .faddr 0 (.t 7)⟩,
  ⟨(some 9), (some (5, false)), .faddr 1 (.t 8)⟩,
  ⟨(some 10), (some (5, false)), .load1 (.t 9)⟩,
  ⟨(some 11), .none, .pick (.t 5) (.c (.bool true)) (.t 10)⟩,
  ⟨(some 2), .none, .mv (.t 11)⟩]
def f_disk_Disk_Gone_c0 : AC := .ret
def f_disk_Disk_Gone_c1 : AC := (.seq (.reg f_disk_Disk_Gone_r1) f_disk_Disk_Gone_c0)
def f_disk_Disk_Gone : AF := ⟨12, [.tmp 2], (.seq (.reg f_disk_Disk_Gone_r0) f_disk_Disk_Gone_c1)⟩
/- seglog_Log_files -/
def f_seglog_Log_files_r0 : List AOp := [
  ⟨(some 2), .none, .mv (.c .nils)⟩,
  ⟨(some 3), .none, .mv (.c (.int .i64 0))⟩]
def f_seglog_Log_files_r1 : List AOp := [
  ⟨(some 4), .none, .mv (.c .nils)⟩]
def f_seglog_Log_files_r2 : DR := ⟨[
  ⟨(some 12), .none, .mv (.t 0)⟩,
  ⟨(some 13), .none, .nilck (.t 12)⟩,
  ⟨(some 14), .none, .faddr 0 (.t 13)⟩,
  ⟨(some 15), .none, .load1 (.t 14)⟩,
  ⟨(some 16), .none, .mv (.t 0)⟩,
  ⟨(some 17), .none, .nilck (.t 16)⟩,
  ⟨(some 18), .none, .faddr 1 (.t 17)⟩,
  ⟨(some 19), .none, .load1 (.t 18)⟩,
  ⟨(some 20), .none, .bin .add .str (.t 19) (.c (.str [45]))⟩,
  ⟨(some 21), .none, .call 226 [(.t 15), (.t 20)]⟩,
  ⟨(some 22), .none, .len .slice (.t 21)⟩,
  ⟨(some 23), .none, .mv (.c (.int .i64 0))⟩],
  [0, 1, 3, 7, 0, 16, 48, 112, 240, 511, 1023, 0], [0, 1, 2, 3, 4, 5, 6, 7, 8, 9, 10, 11], [], .none⟩
def f_seglog_Log_files_r3 : List AOp := [
  ⟨(some 24), .none, .bin .lss .num (.t 23) (.t 22)⟩]
def f_seglog_Log_files_r4 : List AOp := [
  ⟨(some 25), .none, .iaddr 1 (.t 21) (.t 23)⟩,
  ⟨(some 26), .none, .load1 (.t 25)⟩,
  ⟨(some 6), .none, .mv (.t 26)⟩]
def f_seglog_Log_files_r5 : List AOp := [
  ⟨(some 28), .none, .mv (.t 0)⟩,
  ⟨(some 29), .none, .mv (.t 6)⟩,
  ⟨(some 30), .none, .call 227 [(.t 28), (.t 29), (.c (.str [46, 108, 111, 103]))]⟩,
  ⟨(some 27), .none, .mv (.t 30)⟩,
  ⟨(some 31), .none, .ext (.t 27) 0⟩,
  ⟨(some 32), .none, .ext (.t 27) 1⟩,
  ⟨(some 7), .none, .mv (.t 31)⟩,
  ⟨(some 8), .none, .mv (.t 32)⟩]
def f_seglog_Log_files_r6 : List AOp := [
  ⟨(some 33), .none, .mv (.t 8)⟩]
def f_seglog_Log_files_r7 : List AOp := [
  ⟨(some 34), .none, .mv (.t 4)⟩,
  ⟨(some 35), .none, .mv (.t 7)⟩,
  ⟨(some 36), .none, .bsl false 1 1 [(.int .i64 0)] [(0, 1, (.t 35))]⟩,
  ⟨(some 37), .none, .app false 1 8 (.t 34) (.t 36)⟩,
  ⟨(some 4), .none, .mv (.t 37)⟩]
def f_seglog_Log_files_c0 : AC := (.cond (.t 33) (.reg f_seglog_Log_files_r7) .skip)
def f_seglog_Log_files_c1 : AC := (.seq (.reg f_seglog_Log_files_r6) f_seglog_Log_files_c0)
def f_seglog_Log_files_r8 : List AOp := [
  ⟨(some 39), .none, .mv (.t 0)⟩,
  ⟨(some 40), .none, .mv (.t 6)⟩,
  ⟨(some 41), .none, .call 227 [(.t 39), (.t 40), (.c (.str [46, 110, 101, 119]))]⟩,
  ⟨(some 38), .none, .mv (.t 41)⟩,
  ⟨(some 42), .none, .ext (.t 38) 0⟩,
  ⟨(some 43), .none, .ext (.t 38) 1⟩,
  ⟨(some 9), .none, .mv (.t 42)⟩,
  ⟨(some 10), .none, .mv (.t 43)⟩]
def f_seglog_Log_files_r9 : List AOp := [
  ⟨(some 44), .none, .mv (.t 10)⟩]
def f_seglog_Log_files_r10 : List AOp := [
  ⟨(some 45), .none, .mv (.t 0)⟩,
  ⟨(some 46), .none, .nilck (.t 45)⟩,
  ⟨(some 47), .none, .faddr 0 (.t 46)⟩,
  ⟨(some 48), .none, .load1 (.t 47)⟩,
  ⟨(some 49), .none, .mv (.t 6)⟩,
  ⟨(some 50), .none, .call 65 [(.t 48), (.t 49)]⟩,
  ⟨(some 11), .none, .mv (.t 50)⟩]
def f_seglog_Log_files_r11 : List AOp := [
  ⟨(some 51), .none, .mv (.t 11)⟩,
  ⟨(some 52), .none, .bin .neq .num (.t 51) (.c (.int .i64 0))⟩]
def f_seglog_Log_files_r12 : List AOp := [
  ⟨(some 53), .none, .mv (.t 11)⟩,
  ⟨(some 2), .none, .mv (.c .nils)⟩,
  ⟨(some 3), .none, .mv (.t 53)⟩]
def f_seglog_Log_files_c2 : AC := .ret
def f_seglog_Log_files_c3 : AC := (.cond (.t 52) (.seq (.reg f_seglog_Log_files_r12) f_seglog_Log_files_c2) .skip)
def f_seglog_Log_files_c4 : AC := (.seq (.reg f_seglog_Log_files_r11) f_seglog_Log_files_c3)
def f_seglog_Log_files_c5 : AC := (.cond (.t 44) (.seq (.reg f_seglog_Log_files_r10) f_seglog_Log_files_c4) .skip)
def f_seglog_Log_files_c6 : AC := (.seq (.reg f_seglog_Log_files_r9) f_seglog_Log_files_c5)
def f_seglog_Log_files_c7 : AC := (.keep 6 [0, 4, 6, 21, 22, 23] (.seq (.reg f_seglog_Log_files_r8) f_seglog_Log_files_c6))
def f_seglog_Log_files_c8 : AC := (.seq (.seq (.reg f_seglog_Log_files_r5) f_seglog_Log_files_c1) f_seglog_Log_files_c7)
def f_seglog_Log_files_r13 : List AOp := [
  ⟨(some 54), .none, .bin .add .num (.t 23) (.c (.int .i64 1))⟩,
  ⟨(some 23), .none, .mv (.t 54)⟩]
def f_seglog_Log_files_c9 : AC := (.keep 6 [0, 4, 21, 22, 23] (.reg f_seglog_Log_files_r13))
def f_seglog_Log_files_c10 : AC := (.seq (.block 1 (.seq (.reg f_seglog_Log_files_r4) f_seglog_Log_files_c8)) f_seglog_Log_files_c9)
def f_seglog_Log_files_c11 : AC := (.seq (.cond (.t 24) .skip (.exit 0)) f_seglog_Log_files_c10)
def f_seglog_Log_files_c12 : AC := (.seq (.reg f_seglog_Log_files_r3) f_seglog_Log_files_c11)
def f_seglog_Log_files_c13 : AC := (.block 0 (.keep 6 [0, 4, 21, 22, 23] (.loop (.keep 6 [0, 4, 21, 22, 23] f_seglog_Log_files_c12))))
def f_seglog_Log_files_r14 : List AOp := [
  ⟨(some 55), .none, .mv (.t 4)⟩,
  ⟨(some 2), .none, .mv (.t 55)⟩,
  ⟨(some 3), .none, .mv (.c (.int .i64 0))⟩]
def f_seglog_Log_files_c14 : AC := .ret
def f_seglog_Log_files_c15 : AC := (.seq (.reg f_seglog_Log_files_r14) f_seglog_Log_files_c14)
def f_seglog_Log_files_c16 : AC := (.seq (.seq (.dreg f_seglog_Log_files_r2) f_seglog_Log_files_c13) f_seglog_Log_files_c15)
def f_seglog_Log_files_c17 : AC := (.seq (.reg f_seglog_Log_files_r1) f_seglog_Log_files_c16)
def f_seglog_Log_files : AF := ⟨56, [.tmp 2, .tmp 3], (.seq (.reg f_seglog_Log_files_r0) f_seglog_Log_files_c17)⟩
/- seglog_Log_name -/
def f_seglog_Log_name_r0 : List AOp := [
  ⟨(some 6), .none, .mv (.c (.str []))⟩]
def f_seglog_Log_name_r1 : List AOp := [
  ⟨(some 9), .none, .mksl 1 1 [(.int .u8 0)] (.c (.int .i64 11)) (.c (.int .i64 11))⟩,
  ⟨(some 7), .none, .mv (.t 9)⟩]
def f_seglog_Log_name_r2 : List AOp := [
  ⟨(some 8), .none, .mv (.c (.int .i64 10))⟩]
def f_seglog_Log_name_r3 : List AOp := [
  ⟨(some 10), .none, .mv (.t 8)⟩,
  ⟨(some 11), .none, .bin .geq .num (.t 10) (.c (.int .i64 0))⟩]
def f_seglog_Log_name_c0 : AC := (.cond (.t 11) .skip (.exit 0))
def f_seglog_Log_name_r5 : List AOp := [
  ⟨(some 14), .none, .mv (.t 7)⟩,
  ⟨(some 15), .none, .mv (.t 8)⟩,
  ⟨(some 16), .none, .mv (.t 1)⟩,
  ⟨(some 17), .none, .bin .and .num (.t 16) (.c (.int .i64 15))⟩,
  ⟨(some 18), .none, .sidx (.c (.str [48, 49, 50, 51, 52, 53, 54, 55, 56, 57, 97, 98, 99, 100, 101, 102])) (.t 17)⟩,
  ⟨(some 19), .none, .iaddr 1 (.t 14) (.t 15)⟩,
  ⟨.none, .none, .store 1 (.t 19) (.t 18)⟩]
def f_seglog_Log_name_r6 : List AOp := [
  ⟨(some 20), .none, .mv (.t 1)⟩,
  ⟨(some 21), .none, .bin .shr .num (.t 20) (.c (.int .u64 4))⟩,
  ⟨(some 1), .none, .mv (.t 21)⟩]
def f_seglog_Log_name_c1 : AC := (.reg f_seglog_Log_name_r6)
def f_seglog_Log_name_r4 : List AOp := [
  ⟨(some 12), .none, .mv (.t 8)⟩,
  ⟨(some 13), .none, .bin .sub .num (.t 12) (.c (.int .i64 1))⟩,
  ⟨(some 8), .none, .mv (.t 13)⟩]
def f_seglog_Log_name_c2 : AC := (.reg f_seglog_Log_name_r4)
def f_seglog_Log_name_c3 : AC := (.seq (.block 1 (.seq (.reg f_seglog_Log_name_r5) f_seglog_Log_name_c1)) f_seglog_Log_name_c2)
def f_seglog_Log_name_c4 : AC := (.seq (.seq (.reg f_seglog_Log_name_r3) f_seglog_Log_name_c0) f_seglog_Log_name_c3)
def f_seglog_Log_name_c5 : AC := (.block 0 (.keep 6 [0, 1, 2, 7, 8] (.loop (.keep 6 [0, 1, 2, 7, 8] f_seglog_Log_name_c4))))
def f_seglog_Log_name_r7 : DR := ⟨[
  ⟨(some 22), .none, .mv (.t 0)⟩,
  ⟨(some 23), .none, .nilck (.t 22)⟩,
  ⟨(some 24), .none, .faddr 1 (.t 23)⟩,
  ⟨(some 25), .none, .load1 (.t 24)⟩,
  ⟨(some 26), .none, .bin .add .str (.t 25) (.c (.str [45]))⟩,
  ⟨(some 27), .none, .mv (.t 7)⟩,
  ⟨(some 28), .none, .conv .toStr (.t 27)⟩,
  ⟨(some 29), .none, .bin .add .str (.t 26) (.t 28)⟩,
  ⟨(some 30), .none, .mv (.t 2)⟩,
  ⟨(some 31), .none, .bin .add .str (.t 29) (.t 30)⟩,
  ⟨(some 6), .none, .mv (.t 31)⟩],
  [0, 1, 3, 7, 15, 0, 32, 127, 0, 511, 1023], [0, 1, 2, 3, 4, 5, 6, 7, 8, 9, 10], [], .none⟩
def f_seglog_Log_name_c6 : AC := .ret
def f_seglog_Log_name_c7 : AC := (.seq (.dreg f_seglog_Log_name_r7) f_seglog_Log_name_c6)
def f_seglog_Log_name_c8 : AC := (.seq (.seq (.reg f_seglog_Log_name_r2) f_seglog_Log_name_c5) f_seglog_Log_name_c7)
def f_seglog_Log_name_c9 : AC := (.seq (.reg f_seglog_Log_name_r1) f_seglog_Log_name_c8)
def f_seglog_Log_name : AF := ⟨32, [.tmp 6], (.seq (.reg f_seglog_Log_name_r0) f_seglog_Log_name_c9)⟩
/- disk_Disk_at -/
def f_disk_Disk_at_r0 : List AOp := [
  ⟨(some 4), .none, .alloc [.nils, (.int .i64 0)]⟩]
def f_disk_Disk_at_r1 : List AOp := [
  ⟨(some 5), .none, .mv (.t 0)⟩,
  ⟨(some 6), .none, .bin .eql .ptr (.t 5) (.c .nilp)⟩,
  ⟨(some 7), .none, .mv (.t 6)⟩,
  ⟨(some 8), (some (7, false)), .mv (.t 0)⟩,
  ⟨(some 9), (some (7, false)), .nilck (.t 8)⟩,
  ⟨(some 10), (some (7, false)), .faddr 4 (.t 9)⟩,
  ⟨(some 11), (some (7, false)), .load1 (.t 10)⟩,
  ⟨(some 12), (some (7, false)), .mv (.t 1)⟩,
  ⟨(some 13), (some (7, false)), .look .str .nilp false (.t 11) (.t 12)⟩,
  ⟨(some 14), (some (7, false)), .bin .eql .ptr (.t 13) (.c .nilp)⟩,
  ⟨(some 15), .none, .pick (.t 7) (.c (.bool true)) (.t 14)⟩]
def f_disk_Disk_at_r2 : List AOp := [
  ⟨(some 16), .none, .build [.nils, (.int .i64 0)] []⟩,
  ⟨.none, .none, .store 2 (.t 4) (.t 16)⟩]
def f_disk_Disk_at_c0 : AC := .ret
def f_disk_Disk_at_c1 : AC := (.cond (.t 15) (.seq (.reg f_disk_Disk_at_r2) f_disk_Disk_at_c0) .skip)
def f_disk_Disk_at_r3 : List AOp := [
  ⟨(some 17), .none, .mv (.t 0)⟩,
  ⟨(some 18), .none, .nilck (.t 17)⟩,
  ⟨(some 19), .none, .faddr 4 (.t 18)⟩,
  ⟨(some 20), .none, .load1 (.t 19)⟩,
  ⟨(some 21), .none, .mv (.t 1)⟩,
  ⟨(some 22), .none, .look .str .nilp false (.t 20) (.t 21)⟩,
  ⟨(some 23), .none, .nilck (.t 22)⟩,
  ⟨(some 24), .none, .loadn 2 (.t 23)⟩,
  ⟨.none, .none, .store 2 (.t 4) (.t 24)⟩]
def f_disk_Disk_at_c2 : AC := .ret
def f_disk_Disk_at_c3 : AC := (.seq (.reg f_disk_Disk_at_r3) f_disk_Disk_at_c2)
def f_disk_Disk_at_c4 : AC := (.seq (.seq (.reg f_disk_Disk_at_r1) f_disk_Disk_at_c1) f_disk_Disk_at_c3)
def f_disk_Disk_at : AF := ⟨25, [.celln 4 2], (.seq (.reg f_disk_Disk_at_r0) f_disk_Disk_at_c4)⟩
/- disk_Disk_Read -/
def f_disk_Disk_Read_r0 : List AOp := [
  ⟨(some 4), .none, .mv (.c .nils)⟩,
  ⟨(some 5), .none, .mv (.c (.int .i64 0))⟩]
def f_disk_Disk_Read_r1 : List AOp := [
  ⟨(some 7), .none, .mv (.t 0)⟩,
  ⟨(some 8), .none, .bin .eql .ptr (.t 7) (.c .nilp)⟩]
def f_disk_Disk_Read_r2 : List AOp := [
  ⟨(some 4), .none, .mv (.c .nils)⟩,
  ⟨(some 5), .none, .mv (.c (.int .i64 1))⟩]
def f_disk_Disk_Read_c0 : AC := .ret
def f_disk_Disk_Read_c1 : AC := (.cond (.t 8) (.seq (.reg f_disk_Disk_Read_r2) f_disk_Disk_Read_c0) .skip)
def f_disk_Disk_Read_r3 : List AOp := [
  ⟨(some 9), .none, .mv (.t 0)⟩,
  ⟨(some 10), .none, .nilck (.t 9)⟩,
  ⟨(some 11), .none, .faddr 4 (.t 10)⟩,
  ⟨(some 12), .none, .load1 (.t 11)⟩,
  ⟨(some 13), .none, .mv (.t 1)⟩,
  ⟨(some 14), .none, .look .str .nilp false (.t 12) (.t 13)⟩,
  ⟨(some 6), .none, .mv (.t 14)⟩]
def f_disk_Disk_Read_r4 : List AOp := [
  ⟨(some 15), .none, .mv (.t 6)⟩,
  ⟨(some 16), .none, .bin .eql .ptr (.t 15) (.c .nilp)⟩]
def f_disk_Disk_Read_r5 : List AOp := [
  ⟨(some 4), .none, .mv (.c .nils)⟩,
  ⟨(some 5), .none, .mv (.c (.int .i64 3))⟩]
def f_disk_Disk_Read_c2 : AC := .ret
def f_disk_Disk_Read_c3 : AC := (.cond (.t 16) (.seq (.reg f_disk_Disk_Read_r5) f_disk_Disk_Read_c2) .skip)
def f_disk_Disk_Read_r6 : List AOp := [
  ⟨(some 17), .none, .mv (.t 6)⟩,
  ⟨(some 18), .none, .nilck (.t 17)⟩,
  ⟨(some 19), .none, .faddr 0 (.t 18)⟩,
  ⟨(some 20), .none, .load1 (.t 19)⟩,
  ⟨(some 21), .none, .call 165 [(.t 20)]⟩,
  ⟨(some 4), .none, .mv (.t 21)⟩,
  ⟨(some 5), .none, .mv (.c (.int .i64 0))⟩]
def f_disk_Disk_Read_c4 : AC := .ret
def f_disk_Disk_Read_c5 : AC := (.seq (.reg f_disk_Disk_Read_r6) f_disk_Disk_Read_c4)
def f_disk_Disk_Read_c6 : AC := (.seq (.seq (.reg f_disk_Disk_Read_r4) f_disk_Disk_Read_c3) f_disk_Disk_Read_c5)
def f_disk_Disk_Read_c7 : AC := (.seq (.reg f_disk_Disk_Read_r3) f_disk_Disk_Read_c6)
def f_disk_Disk_Read_c8 : AC := (.seq (.seq (.reg f_disk_Disk_Read_r1) f_disk_Disk_Read_c1) f_disk_Disk_Read_c7)
def f_disk_Disk_Read : AF := ⟨22, [.tmp 4, .tmp 5], (.seq (.reg f_disk_Disk_Read_r0) f_disk_Disk_Read_c8)⟩
/- disk_Disk_may -/
def f_disk_Disk_may_r0 : List AOp := [
  ⟨(some 2), .none, .mv (.c (.int .i64 0))⟩]
def f_disk_Disk_may_r1 : List AOp := [
  ⟨(some 4), .none, .mv (.t 0)⟩,
  ⟨(some 5), .none, .bin .eql .ptr (.t 4) (.c .nilp)⟩,
  ⟨(some 3), .none, .mv (.t 5)⟩]
def f_disk_Disk_may_r2 : List AOp := [
  ⟨(some 2), .none, .mv (.c (.int .i64 1))⟩]
def f_disk_Disk_may_c0 : AC := .ret
def f_disk_Disk_may_r3 : List AOp := [
  ⟨(some 7), .none, .mv (.t 0)⟩,
  ⟨(some 8), .none, .nilck (.t 7)⟩,
  ⟨(some 9), .none, .faddr 0 (.t 8)⟩,
  ⟨(some 10), .none, .faddr 1 (.t 9)⟩,
  ⟨(some 11), .none, .load1 (.t 10)⟩,
  ⟨(some 6), .none, .mv (.t 11)⟩]
def f_disk_Disk_may_r4 : List AOp := [
  ⟨(some 2), .none, .mv (.c (.int .i64 9))⟩]
def f_disk_Disk_may_c1 : AC := .ret
def f_disk_Disk_may_c2 : AC := (.cond (.t 6) (.seq (.reg f_disk_Disk_may_r4) f_disk_Disk_may_c1) .skip)
def f_disk_Disk_may_c3 : AC := (.cond (.t 3) (.seq (.reg f_disk_Disk_may_r2) f_disk_Disk_may_c0) (.seq (.reg f_disk_Disk_may_r3) f_disk_Disk_may_c2))
def f_disk_Disk_may_r5 : List AOp := [
  ⟨(some 2), .none, .mv (.c (.int .i64 0))⟩]
def f_disk_Disk_may_c4 : AC := .ret
def f_disk_Disk_may_c5 : AC := (.seq (.reg f_disk_Disk_may_r5) f_disk_Disk_may_c4)
def f_disk_Disk_may_c6 : AC := (.seq (.block 0 (.seq (.reg f_disk_Disk_may_r1) f_disk_Disk_may_c3)) f_disk_Disk_may_c5)
def f_disk_Disk_may : AF := ⟨12, [.tmp 2], (.seq (.reg f_disk_Disk_may_r0) f_disk_Disk_may_c6)⟩
/- disk_power_spend -/
def f_disk_power_spend_r0 : List AOp := [
  ⟨(some 2), .none, .mv (.t 0)⟩,
  ⟨(some 3), .none, .nilck (.t 2)⟩,
  ⟨(some 4), .none, .faddr 0 (.t 3)⟩,
  ⟨(some 5), .none, .load1 (.t 4)⟩,
  ⟨(some 6), .none, .bin .gtr .num (.t 5) (.c (.int .i64 0))⟩]
def f_disk_power_spend_r1 : List AOp := [
  ⟨(some 7), .none, .mv (.t 0)⟩,
  ⟨(some 8), .none, .nilck (.t 7)⟩,
  ⟨(some 9), .none, .faddr 0 (.t 8)⟩,
  ⟨(some 10), .none, .load1 (.t 9)⟩,
  ⟨(some 11), .none, .bin .sub .num (.t 10) (.c (.int .i64 1))⟩,
  ⟨(some 12), .none, .nilck (.t 7)⟩,
  ⟨(some 13), .none, .faddr 0 (.t 12)⟩,
  ⟨.none, .none, .store 1 (.t 13) (.t 11)⟩]
def f_disk_power_spend_r2 : List AOp := [
  ⟨(some 14), .none, .mv (.t 0)⟩,
  ⟨(some 15), .none, .mv (.t 0)⟩,
  ⟨(some 16), .none, .nilck (.t 15)⟩,
  ⟨(some 17), .none, .faddr 0 (.t 16)⟩,
  ⟨(some 18), .none, .load1 (.t 17)⟩,
  ⟨(some 19), .none, .bin .eql .num (.t 18) (.c (.int .i64 0))⟩,
  ⟨(some 20), .none, .nilck (.t 14)⟩,
  ⟨(some 21), .none, .faddr 1 (.t 20)⟩,
  ⟨.none, .none, .store 1 (.t 21) (.t 19)⟩]
def f_disk_power_spend_c0 : AC := (.reg f_disk_power_spend_r2)
def f_disk_power_spend_c1 : AC := (.cond (.t 6) (.seq (.reg f_disk_power_spend_r1) f_disk_power_spend_c0) .skip)
def f_disk_power_spend : AF := ⟨22, [], (.seq (.reg f_disk_power_spend_r0) f_disk_power_spend_c1)⟩
/- dedup_New -/
def f_dedup_New_r0 : List AOp := [
  ⟨(some 2), .none, .mv (.c .nilp)⟩,
  ⟨(some 3), .none, .mv (.c (.int .i64 0))⟩]
def f_dedup_New_r1 : List AOp := [
  ⟨(some 4), .none, .mv (.t 0)⟩,
  ⟨(some 5), .none, .bin .lss .num (.t 4) (.c (.int .i64 1))⟩,
  ⟨(some 6), .none, .mv (.t 5)⟩,
  ⟨(some 7), (some (6, false)), .mv (.t 0)⟩,
  ⟨(some 8), (some (6, false)), .bin .gtr .num (.t 7) (.c (.int .i64 4096))⟩,
  ⟨(some 9), .none, .pick (.t 6) (.c (.bool true)) (.t 8)⟩]
def f_dedup_New_r2 : List AOp := [
  ⟨(some 2), .none, .mv (.c .nilp)⟩,
  ⟨(some 3), .none, .mv (.c (.int .i64 2))⟩]
def f_dedup_New_c0 : AC := .ret
def f_dedup_New_c1 : AC := (.cond (.t 9) (.seq (.reg f_dedup_New_r2) f_dedup_New_c0) .skip)
def f_dedup_New_r3 : List AOp := [
  ⟨(some 10), .none, .mv (.t 0)⟩,
  ⟨(some 11), .none, .mkmap⟩,
  ⟨(some 12), .none, .build [(.int .i64 0), (.int .i64 0), .nilm] [(0, 1, (.t 10)), (2, 1, (.t 11))]⟩,
  ⟨(some 13), .none, .box (.t 12)⟩,
  ⟨(some 2), .none, .mv (.t 13)⟩,
  ⟨(some 3), .none, .mv (.c (.int .i64 0))⟩]
def f_dedup_New_c2 : AC := .ret
def f_dedup_New_c3 : AC := (.seq (.reg f_dedup_New_r3) f_dedup_New_c2)
def f_dedup_New_c4 : AC := (.seq (.seq (.reg f_dedup_New_r1) f_dedup_New_c1) f_dedup_New_c3)
def f_dedup_New : AF := ⟨14, [.tmp 2, .tmp 3], (.seq (.reg f_dedup_New_r0) f_dedup_New_c4)⟩
/- iso_New -/
def f_iso_New_r0 : List AOp := [
  ⟨(some 0), .none, .mv (.c .nilp)⟩]
def f_iso_New_r1 : List AOp := [
  ⟨(some 1), .none, .mkmap⟩,
  ⟨(some 2), .none, .mkmap⟩,
  ⟨(some 3), .none, .build [(.int .i64 0), .nilm, .nilm] [(1, 1, (.t 1)), (2, 1, (.t 2))]⟩,
  ⟨(some 4), .none, .box (.t 3)⟩,
  ⟨(some 0), .none, .mv (.t 4)⟩]
def f_iso_New_c0 : AC := .ret
def f_iso_New_c1 : AC := (.seq (.reg f_iso_New_r1) f_iso_New_c0)
def f_iso_New : AF := ⟨5, [.tmp 0], (.seq (.reg f_iso_New_r0) f_iso_New_c1)⟩
/- part_Part_snap -/
def f_part_Part_snap_r0 : List AOp := [
  ⟨(some 2), .none, .mv (.c (.str []))⟩]
def f_part_Part_snap_r1 : List AOp := [
  ⟨(some 3), .none, .mv (.t 0)⟩,
  ⟨(some 4), .none, .nilck (.t 3)⟩,
  ⟨(some 5), .none, .faddr 0 (.t 4)⟩,
  ⟨(some 6), .none, .faddr 2 (.t 5)⟩,
  ⟨(some 7), .none, .load1 (.t 6)⟩,
  ⟨(some 8), .none, .bin .add .str (.t 7) (.c (.str [46, 115, 110, 97, 112]))⟩,
  ⟨(some 2), .none, .mv (.t 8)⟩]
def f_part_Part_snap_c0 : AC := .ret
def f_part_Part_snap_c1 : AC := (.seq (.reg f_part_Part_snap_r1) f_part_Part_snap_c0)
def f_part_Part_snap : AF := ⟨9, [.tmp 2], (.seq (.reg f_part_Part_snap_r0) f_part_Part_snap_c1)⟩
/- frame_Open -/
def f_frame_Open_r0 : List AOp := [
  ⟨(some 2), .none, .mv (.c .nils)⟩,
  ⟨(some 3), .none, .mv (.c (.bool false))⟩]
def f_frame_Open_r1 : List AOp := [
  ⟨(some 8), .none, .mv (.t 0)⟩,
  ⟨(some 9), .none, .call 228 [(.t 8)]⟩,
  ⟨(some 7), .none, .mv (.t 9)⟩,
  ⟨(some 10), .none, .ext (.t 7) 0⟩,
  ⟨(some 11), .none, .ext (.t 7) 1⟩,
  ⟨(some 12), .none, .ext (.t 7) 2⟩,
  ⟨(some 4), .none, .mv (.t 10)⟩,
  ⟨(some 5), .none, .mv (.t 11)⟩,
  ⟨(some 6), .none, .mv (.t 12)⟩]
def f_frame_Open_r2 : List AOp := [
  ⟨(some 13), .none, .mv (.t 6)⟩,
  ⟨(some 14), .none, .un .not (.t 13)⟩,
  ⟨(some 15), .none, .mv (.t 14)⟩,
  ⟨(some 16), (some (15, false)), .mv (.t 5)⟩,
  ⟨(some 17), (some (15, false)), .mv (.t 0)⟩,
  ⟨(some 18), (some (15, false)), .len .slice (.t 17)⟩,
  ⟨(some 19), (some (15, false)), .bin .neq .num (.t 16) (.t 18)⟩,
  ⟨(some 20), .none, .pick (.t 15) (.c (.bool true)) (.t 19)⟩]
def f_frame_Open_r3 : List AOp := [
  ⟨(some 2), .none, .mv (.c .nils)⟩,
  ⟨(some 3), .none, .mv (.c (.bool false))⟩]
def f_frame_Open_c0 : AC := .ret
def f_frame_Open_c1 : AC := (.cond (.t 20) (.seq (.reg f_frame_Open_r3) f_frame_Open_c0) .skip)
def f_frame_Open_r4 : List AOp := [
  ⟨(some 21), .none, .mv (.t 4)⟩,
  ⟨(some 2), .none, .mv (.t 21)⟩,
  ⟨(some 3), .none, .mv (.c (.bool true))⟩]
def f_frame_Open_c2 : AC := .ret
def f_frame_Open_c3 : AC := (.seq (.reg f_frame_Open_r4) f_frame_Open_c2)
def f_frame_Open_c4 : AC := (.seq (.seq (.reg f_frame_Open_r2) f_frame_Open_c1) f_frame_Open_c3)
def f_frame_Open_c5 : AC := (.seq (.reg f_frame_Open_r1) f_frame_Open_c4)
def f_frame_Open : AF := ⟨22, [.tmp 2, .tmp 3], (.seq (.reg f_frame_Open_r0) f_frame_Open_c5)⟩
/- wire_Reader_Text -/
def f_wire_Reader_Text_r0 : List AOp := [
  ⟨(some 4), .none, .mv (.c (.str []))⟩]
def f_wire_Reader_Text_r1 : List AOp := [
  ⟨(some 7), .none, .mv (.t 0)⟩,
  ⟨(some 8), .none, .call 166 [(.t 7)]⟩,
  ⟨(some 9), .none, .un .not (.t 8)⟩]
def f_wire_Reader_Text_r2 : List AOp := [
  ⟨(some 4), .none, .mv (.c (.str []))⟩]
def f_wire_Reader_Text_c0 : AC := .ret
def f_wire_Reader_Text_c1 : AC := (.cond (.t 9) (.seq (.reg f_wire_Reader_Text_r2) f_wire_Reader_Text_c0) .skip)
def f_wire_Reader_Text_r3 : List AOp := [
  ⟨(some 10), .none, .mv (.t 0)⟩,
  ⟨(some 11), .none, .nilck (.t 10)⟩,
  ⟨(some 12), .none, .faddr 0 (.t 11)⟩,
  ⟨(some 13), .none, .faddr 1 (.t 12)⟩,
  ⟨(some 14), .none, .load1 (.t 13)⟩,
  ⟨(some 5), .none, .mv (.t 14)⟩]
def f_wire_Reader_Text_r4 : List AOp := [
  ⟨(some 15), .none, .mv (.t 0)⟩,
  ⟨(some 16), .none, .nilck (.t 15)⟩,
  ⟨(some 17), .none, .faddr 0 (.t 16)⟩,
  ⟨(some 18), .none, .call 167 [(.t 17)]⟩,
  ⟨(some 6), .none, .mv (.t 18)⟩]
def f_wire_Reader_Text_r6 : List AOp := [
  ⟨(some 27), .none, .mv (.t 0)⟩,
  ⟨(some 28), .none, .nilck (.t 27)⟩,
  ⟨(some 29), .none, .faddr 0 (.t 28)⟩,
  ⟨(some 30), .none, .faddr 2 (.t 29)⟩,
  ⟨(some 31), .none, .load1 (.t 30)⟩,
  ⟨(some 32), .none, .bin .neq .num (.t 31) (.c (.int .i64 0))⟩,
  ⟨(some 26), .none, .mv (.t 32)⟩]
def f_wire_Reader_Text_r7 : List AOp := [
  ⟨(some 34), .none, .mv (.t 6)⟩,
  ⟨(some 35), .none, .mv (.t 1)⟩,
  ⟨(some 36), .none, .mx [(.t 35), (.c (.int .i64 0))]⟩,
  ⟨(some 37), .none, .conv (.int .u64) (.t 36)⟩,
  ⟨(some 38), .none, .bin .gtr .num (.t 34) (.t 37)⟩,
  ⟨(some 33), .none, .mv (.t 38)⟩]
def f_wire_Reader_Text_r8 : List AOp := [
  ⟨(some 39), .none, .mv (.t 0)⟩,
  ⟨(some 40), .none, .nilck (.t 39)⟩,
  ⟨(some 41), .none, .faddr 0 (.t 40)⟩,
  ⟨(some 42), .none, .call 169 [(.t 41), (.c (.int .i64 7))]⟩]
def f_wire_Reader_Text_r9 : List AOp := [
  ⟨(some 44), .none, .mv (.t 6)⟩,
  ⟨(some 45), .none, .mv (.t 0)⟩,
  ⟨(some 46), .none, .nilck (.t 45)⟩,
  ⟨(some 47), .none, .faddr 0 (.t 46)⟩,
  ⟨(some 48), .none, .call 168 [(.t 47)]⟩,
  ⟨(some 49), .none, .conv (.int .u64) (.t 48)⟩,
  ⟨(some 50), .none, .bin .gtr .num (.t 44) (.t 49)⟩,
  ⟨(some 43), .none, .mv (.t 50)⟩]
def f_wire_Reader_Text_r10 : List AOp := [
  ⟨(some 51), .none, .mv (.t 0)⟩,
  ⟨(some 52), .none, .nilck (.t 51)⟩,
  ⟨(some 53), .none, .faddr 0 (.t 52)⟩,
  ⟨(some 54), .none, .call 169 [(.t 53), (.c (.int .i64 6))]⟩]
def f_wire_Reader_Text_r5 : List AOp := [
  ⟨(some 19), .none, .mv (.t 0)⟩,
  ⟨(some 20), .none, .nilck (.t 19)⟩,
  ⟨(some 21), .none, .faddr 0 (.t 20)⟩,
  ⟨(some 22), .none, .mv (.t 6)⟩,
  ⟨(some 23), .none, .conv (.int .i64) (.t 22)⟩,
  ⟨(some 24), .none, .call 235 [(.t 21), (.t 23)]⟩,
  ⟨(some 25), .none, .conv .toStr (.t 24)⟩,
  ⟨(some 4), .none, .mv (.t 25)⟩]
def f_wire_Reader_Text_c2 : AC := .ret
def f_wire_Reader_Text_c3 : AC := (.cond (.t 43) (.reg f_wire_Reader_Text_r10) (.seq (.reg f_wire_Reader_Text_r5) f_wire_Reader_Text_c2))
def f_wire_Reader_Text_c4 : AC := (.cond (.t 33) (.reg f_wire_Reader_Text_r8) (.seq (.reg f_wire_Reader_Text_r9) f_wire_Reader_Text_c3))
def f_wire_Reader_Text_c5 : AC := (.cond (.t 26) .skip (.seq (.reg f_wire_Reader_Text_r7) f_wire_Reader_Text_c4))
def f_wire_Reader_Text_r11 : List AOp := [
  ⟨(some 55), .none, .mv (.t 0)⟩,
  ⟨(some 56), .none, .mv (.t 5)⟩,
  ⟨(some 57), .none, .nilck (.t 55)⟩,
  ⟨(some 58), .none, .faddr 0 (.t 57)⟩,
  ⟨(some 59), .none, .faddr 1 (.t 58)⟩,
  ⟨.none, .none, .store 1 (.t 59) (.t 56)⟩]
def f_wire_Reader_Text_r12 : List AOp := [
  ⟨(some 4), .none, .mv (.c (.str []))⟩]
def f_wire_Reader_Text_c6 : AC := .ret
def f_wire_Reader_Text_c7 : AC := (.seq (.reg f_wire_Reader_Text_r12) f_wire_Reader_Text_c6)
def f_wire_Reader_Text_c8 : AC := (.keep 6 [0, 5] (.seq (.reg f_wire_Reader_Text_r11) f_wire_Reader_Text_c7))
def f_wire_Reader_Text_c9 : AC := (.seq (.block 0 (.seq (.reg f_wire_Reader_Text_r6) f_wire_Reader_Text_c5)) f_wire_Reader_Text_c8)
def f_wire_Reader_Text_c10 : AC := (.seq (.reg f_wire_Reader_Text_r4) f_wire_Reader_Text_c9)
def f_wire_Reader_Text_c11 : AC := (.seq (.reg f_wire_Reader_Text_r3) f_wire_Reader_Text_c10)
def f_wire_Reader_Text_c12 : AC := (.seq (.seq (.reg f_wire_Reader_Text_r1) f_wire_Reader_Text_c1) f_wire_Reader_Text_c11)
def f_wire_Reader_Text : AF := ⟨60, [.tmp 4], (.seq (.reg f_wire_Reader_Text_r0) f_wire_Reader_Text_c12)⟩
/- dedup_Table_Take -/
def f_dedup_Table_Take_r0 : List AOp := [
  ⟨(some 3), .none, .box (.t 1)⟩,
  ⟨(some 4), .none, .mv (.c (.int .i64 0))⟩]
def f_dedup_Table_Take_r1 : List AOp := [
  ⟨(some 11), .none, .mv (.t 0)⟩,
  ⟨(some 12), .none, .loadn 7 (.t 3)⟩,
  ⟨(some 13), .none, .call 176 [(.t 11), (.t 12)]⟩,
  ⟨(some 10), .none, .mv (.t 13)⟩,
  ⟨(some 14), .none, .ext (.t 10) 0⟩,
  ⟨(some 15), .none, .ext (.t 10) 1⟩,
  ⟨(some 5), .none, .alloc [(.bool false), (.int .i64 0)]⟩,
  ⟨.none, .none, .store 2 (.t 5) (.t 14)⟩,
  ⟨(some 6), .none, .mv (.t 15)⟩]
def f_dedup_Table_Take_r2 : List AOp := [
  ⟨(some 17), .none, .mv (.t 6)⟩,
  ⟨(some 18), .none, .bin .neq .num (.t 17) (.c (.int .i64 0))⟩,
  ⟨(some 16), .none, .mv (.t 18)⟩]
def f_dedup_Table_Take_r3 : List AOp := [
  ⟨(some 19), .none, .mv (.t 6)⟩,
  ⟨(some 4), .none, .mv (.t 19)⟩]
def f_dedup_Table_Take_c0 : AC := .ret
def f_dedup_Table_Take_r4 : List AOp := [
  ⟨(some 21), .none, .faddr 0 (.t 5)⟩,
  ⟨(some 22), .none, .load1 (.t 21)⟩,
  ⟨(some 20), .none, .mv (.t 22)⟩]
def f_dedup_Table_Take_r5 : List AOp := [
  ⟨(some 4), .none, .mv (.c (.int .i64 4))⟩]
def f_dedup_Table_Take_c1 : AC := .ret
def f_dedup_Table_Take_r6 : DR := ⟨[
  ⟨(some 24), .none, .faddr 0 (.t 3)⟩,
  ⟨(some 25), .none, .load1 (.t 24)⟩,
  ⟨(some 26), .none, .mv (.t 0)⟩,
  ⟨(some 27), .none, .nilck (.t 26)⟩,
  ⟨(some 28), .none, .faddr 1 (.t 27)⟩,
  ⟨(some 29), .none, .load1 (.t 28)⟩,
  ⟨(some 30), .none, .bin .lss .num (.t 25) (.t 29)⟩,
  ⟨(some 23), .none, .mv (.t 30)⟩],
  [0, 1, 0, 4, 12, 28, 63, 127], [0, 1, 2, 3, 4, 5, 6, 7], [], .none⟩
def f_dedup_Table_Take_r7 : List AOp := [
  ⟨(some 4), .none, .mv (.c (.int .i64 8))⟩]
def f_dedup_Table_Take_c2 : AC := .ret
def f_dedup_Table_Take_c3 : AC := (.cond (.t 23) (.seq (.reg f_dedup_Table_Take_r7) f_dedup_Table_Take_c2) .skip)
def f_dedup_Table_Take_c4 : AC := (.cond (.t 20) (.seq (.reg f_dedup_Table_Take_r5) f_dedup_Table_Take_c1) (.seq (.dreg f_dedup_Table_Take_r6) f_dedup_Table_Take_c3))
def f_dedup_Table_Take_c5 : AC := (.cond (.t 16) (.seq (.reg f_dedup_Table_Take_r3) f_dedup_Table_Take_c0) (.seq (.reg f_dedup_Table_Take_r4) f_dedup_Table_Take_c4))
def f_dedup_Table_Take_r8 : List AOp := [
  ⟨(some 31), .none, .mv (.t 0)⟩,
  ⟨(some 32), .none, .loadn 7 (.t 3)⟩,
  ⟨(some 33), .none, .call 95 [(.t 32)]⟩,
  ⟨(some 34), .none, .nilck (.t 31)⟩,
  ⟨(some 35), .none, .faddr 1 (.t 34)⟩,
  ⟨.none, .none, .store 1 (.t 35) (.t 33)⟩]
def f_dedup_Table_Take_r9 : List AOp := [
  ⟨(some 36), .none, .faddr 1 (.t 3)⟩,
  ⟨(some 37), .none, .load1 (.t 36)⟩,
  ⟨(some 38), .none, .bin .eql .num (.t 37) (.c (.int .i64 0))⟩]
def f_dedup_Table_Take_r10 : List AOp := [
  ⟨(some 4), .none, .mv (.c (.int .i64 0))⟩]
def f_dedup_Table_Take_c6 : AC := .ret
def f_dedup_Table_Take_c7 : AC := (.cond (.t 38) (.seq (.reg f_dedup_Table_Take_r10) f_dedup_Table_Take_c6) .skip)
def f_dedup_Table_Take_r11 : List AOp := [
  ⟨(some 40), .none, .mv (.t 0)⟩,
  ⟨(some 41), .none, .faddr 1 (.t 3)⟩,
  ⟨(some 42), .none, .load1 (.t 41)⟩,
  ⟨(some 43), .none, .call 243 [(.t 40), (.t 42)]⟩,
  ⟨(some 39), .none, .mv (.t 43)⟩,
  ⟨(some 44), .none, .ext (.t 39) 0⟩,
  ⟨(some 45), .none, .ext (.t 39) 1⟩,
  ⟨(some 7), .none, .alloc [(.int .i64 0), (.int .i64 0), (.int .i64 0), (.int .i64 0), (.int .i64 0), (.int .i64 0), (.int .i64 0)]⟩,
  ⟨.none, .none, .store 7 (.t 7) (.t 44)⟩,
  ⟨(some 8), .none, .mv (.t 45)⟩]
def f_dedup_Table_Take_r12 : List AOp := [
  ⟨(some 46), .none, .faddr 5 (.t 3)⟩,
  ⟨(some 47), .none, .load1 (.t 46)⟩,
  ⟨(some 9), .none, .mv (.t 47)⟩]
def f_dedup_Table_Take_r13 : List AOp := [
  ⟨(some 48), .none, .mv (.t 8)⟩]
def f_dedup_Table_Take_r14 : List AOp := [
  ⟨(some 49), .none, .mv (.t 9)⟩,
  ⟨(some 50), .none, .faddr 6 (.t 7)⟩,
  ⟨(some 51), .none, .load1 (.t 50)⟩,
  ⟨(some 52), .none, .mx [(.t 49), (.t 51)]⟩,
  ⟨(some 9), .none, .mv (.t 52)⟩]
def f_dedup_Table_Take_c8 : AC := (.cond (.t 48) (.reg f_dedup_Table_Take_r14) .skip)
def f_dedup_Table_Take_r15 : List AOp := [
  ⟨(some 53), .none, .faddr 4 (.t 3)⟩,
  ⟨(some 54), .none, .load1 (.t 53)⟩]
def f_dedup_Table_Take_r16 : List AOp := [
  ⟨(some 56), .none, .bin .eql .num (.t 54) (.c (.int .i64 2))⟩,
  ⟨(some 55), .none, .mv (.t 56)⟩]
def f_dedup_Table_Take_r17 : List AOp := [
  ⟨(some 57), .none, .bin .eql .num (.t 54) (.c (.int .i64 3))⟩,
  ⟨(some 55), .none, .mv (.t 57)⟩]
def f_dedup_Table_Take_c9 : AC := (.cond (.t 55) .skip (.reg f_dedup_Table_Take_r17))
def f_dedup_Table_Take_c10 : AC := (.keep 7 [0, 3, 7, 9, 54, 55] (.cond (.t 55) (.exit 2) .skip))
def f_dedup_Table_Take_r18 : List AOp := [
  ⟨(some 59), .none, .bin .eql .num (.t 54) (.c (.int .i64 1))⟩,
  ⟨(some 58), .none, .mv (.t 59)⟩]
def f_dedup_Table_Take_c11 : AC := (.cond (.t 58) (.exit 3) .skip)
def f_dedup_Table_Take_c12 : AC := (.seq (.reg f_dedup_Table_Take_r18) f_dedup_Table_Take_c11)
def f_dedup_Table_Take_c13 : AC := (.exit 4)
def f_dedup_Table_Take_r19 : DR := ⟨[
  ⟨(some 60), .none, .mv (.t 0)⟩,
  ⟨(some 61), .none, .nilck (.t 60)⟩,
  ⟨(some 62), .none, .faddr 2 (.t 61)⟩,
  ⟨(some 63), .none, .load1 (.t 62)⟩,
  ⟨(some 64), .none, .faddr 1 (.t 3)⟩,
  ⟨(some 65), .none, .load1 (.t 64)⟩,
  ⟨(some 66), .none, .faddr 1 (.t 3)⟩,
  ⟨(some 67), .none, .load1 (.t 66)⟩,
  ⟨(some 68), .none, .faddr 2 (.t 3)⟩,
  ⟨(some 69), .none, .load1 (.t 68)⟩,
  ⟨(some 70), .none, .bin .add .num (.t 69) (.c (.int .i64 1))⟩,
  ⟨(some 71), .none, .mv (.t 9)⟩,
  ⟨(some 72), .none, .build [(.int .i64 0), (.int .i64 0), (.int .i64 0), (.int .i64 0), (.int .i64 0), (.int .i64 0), (.int .i64 0)] [(0, 1, (.t 67)), (1, 1, (.t 70)), (5, 1, (.c (.int .i64 (-1)))), (6, 1, (.t 71))]⟩,
  ⟨.none, .none, .mapup .num (.t 63) (.t 65) (.t 72)⟩],
  [0, 1, 3, 7, 0, 16, 0, 64, 0, 256, 768, 0, 4032, 8191], [0, 1, 2, 3, 4, 5, 6, 7, 8, 9, 10, 11, 12, 13], [], .none⟩
def f_dedup_Table_Take_r20 : List AOp := [
  ⟨(some 4), .none, .mv (.c (.int .i64 0))⟩]
def f_dedup_Table_Take_c14 : AC := .ret
def f_dedup_Table_Take_c15 : AC := (.seq (.reg f_dedup_Table_Take_r20) f_dedup_Table_Take_c14)
def f_dedup_Table_Take_c16 : AC := (.exit 1)
def f_dedup_Table_Take_c17 : AC := (.seq (.seq (.dreg f_dedup_Table_Take_r19) f_dedup_Table_Take_c15) f_dedup_Table_Take_c16)
def f_dedup_Table_Take_r21 : List AOp := [
  ⟨(some 73), .none, .loadn 7 (.t 7)⟩,
  ⟨(some 74), .none, .call 189 [(.t 73)]⟩,
  ⟨(some 75), .none, .un .not (.t 74)⟩]
def f_dedup_Table_Take_r22 : List AOp := [
  ⟨(some 76), .none, .faddr 0 (.t 3)⟩,
  ⟨(some 77), .none, .load1 (.t 76)⟩,
  ⟨(some 78), .none, .faddr 5 (.t 7)⟩,
  ⟨.none, .none, .store 1 (.t 78) (.t 77)⟩]
def f_dedup_Table_Take_c18 : AC := (.cond (.t 75) (.reg f_dedup_Table_Take_r22) .skip)
def f_dedup_Table_Take_c19 : AC := (.seq (.reg f_dedup_Table_Take_r21) f_dedup_Table_Take_c18)
def f_dedup_Table_Take_r23 : DR := ⟨[
  ⟨(some 79), .none, .mv (.t 0)⟩,
  ⟨(some 80), .none, .nilck (.t 79)⟩,
  ⟨(some 81), .none, .faddr 2 (.t 80)⟩,
  ⟨(some 82), .none, .load1 (.t 81)⟩,
  ⟨(some 83), .none, .faddr 1 (.t 3)⟩,
  ⟨(some 84), .none, .load1 (.t 83)⟩,
  ⟨(some 85), .none, .faddr 1 (.t 3)⟩,
  ⟨(some 86), .none, .load1 (.t 85)⟩,
  ⟨(some 87), .none, .faddr 2 (.t 3)⟩,
  ⟨(some 88), .none, .load1 (.t 87)⟩,
  ⟨(some 89), .none, .faddr 3 (.t 3)⟩,
  ⟨(some 90), .none, .load1 (.t 89)⟩,
  ⟨(some 91), .none, .faddr 6 (.t 3)⟩,
  ⟨(some 92), .none, .load1 (.t 91)⟩,
  ⟨(some 93), .none, .len .slice (.t 92)⟩,
  ⟨(some 94), .none, .faddr 0 (.t 3)⟩,
  ⟨(some 95), .none, .load1 (.t 94)⟩,
  ⟨(some 96), .none, .faddr 5 (.t 7)⟩,
  ⟨(some 97), .none, .load1 (.t 96)⟩,
  ⟨(some 98), .none, .mv (.t 9)⟩,
  ⟨(some 99), .none, .build [(.int .i64 0), (.int .i64 0), (.int .i64 0), (.int .i64 0), (.int .i64 0), (.int .i64 0), (.int .i64 0)] [(0, 1, (.t 86)), (1, 1, (.t 88)), (2, 1, (.t 90)), (3, 1, (.t 93)), (4, 1, (.t 95)), (5, 1, (.t 97)), (6, 1, (.t 98))]⟩,
  ⟨.none, .none, .mapup .num (.t 82) (.t 84) (.t 99)⟩],
  [0, 1, 3, 7, 0, 16, 0, 64, 0, 256, 0, 1024, 0, 4096, 12288, 0, 32768, 0, 131072, 0, 1048512, 2097151], [0, 1, 2, 3, 4, 5, 6, 7, 8, 9, 10, 11, 12, 13, 14, 15, 16, 17, 18, 19, 20, 21], [], .none⟩
def f_dedup_Table_Take_c20 : AC := (.exit 1)
def f_dedup_Table_Take_c21 : AC := (.keep 7 [0, 3, 7, 9] (.seq (.dreg f_dedup_Table_Take_r23) f_dedup_Table_Take_c20))
def f_dedup_Table_Take_c22 : AC := (.block 1 (.seq (.block 4 (.seq (.block 3 (.seq (.block 2 (.seq (.seq (.seq (.seq (.reg f_dedup_Table_Take_r16) f_dedup_Table_Take_c9) f_dedup_Table_Take_c10) f_dedup_Table_Take_c12) f_dedup_Table_Take_c13)) f_dedup_Table_Take_c17)) f_dedup_Table_Take_c19)) f_dedup_Table_Take_c21))
def f_dedup_Table_Take_r24 : List AOp := [
  ⟨(some 4), .none, .mv (.c (.int .i64 0))⟩]
def f_dedup_Table_Take_c23 : AC := .ret
def f_dedup_Table_Take_c24 : AC := (.seq (.reg f_dedup_Table_Take_r24) f_dedup_Table_Take_c23)
def f_dedup_Table_Take_c25 : AC := (.keep 7 [0, 3, 7, 9] (.seq (.seq (.reg f_dedup_Table_Take_r15) f_dedup_Table_Take_c22) f_dedup_Table_Take_c24))
def f_dedup_Table_Take_c26 : AC := (.seq (.seq (.reg f_dedup_Table_Take_r13) f_dedup_Table_Take_c8) f_dedup_Table_Take_c25)
def f_dedup_Table_Take_c27 : AC := (.seq (.reg f_dedup_Table_Take_r12) f_dedup_Table_Take_c26)
def f_dedup_Table_Take_c28 : AC := (.seq (.reg f_dedup_Table_Take_r11) f_dedup_Table_Take_c27)
def f_dedup_Table_Take_c29 : AC := (.seq (.seq (.reg f_dedup_Table_Take_r9) f_dedup_Table_Take_c7) f_dedup_Table_Take_c28)
def f_dedup_Table_Take_c30 : AC := (.seq (.reg f_dedup_Table_Take_r8) f_dedup_Table_Take_c29)
def f_dedup_Table_Take_c31 : AC := (.seq (.block 0 (.seq (.reg f_dedup_Table_Take_r2) f_dedup_Table_Take_c5)) f_dedup_Table_Take_c30)
def f_dedup_Table_Take_c32 : AC := (.seq (.reg f_dedup_Table_Take_r1) f_dedup_Table_Take_c31)
def f_dedup_Table_Take : AF := ⟨100, [.tmp 4], (.seq (.reg f_dedup_Table_Take_r0) f_dedup_Table_Take_c32)⟩
end Go.AM.P
