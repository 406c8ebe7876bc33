import Derived.Test.YthbkgikjaiaigaaGreatAmGg
namespace Go.AM.P
set_option linter.all false
/- rec_upto -/
def f_rec_upto_r0 : List AOp := [
  ⟨(some 4), .none, .mv (.c (.int .i64 0))⟩]
def f_rec_upto_r1 : List AOp := [
  ⟨(some 6), .none, .mv (.t 0)⟩,
  ⟨(some 7), .none, .call 83 [(.t 6)]⟩,
  ⟨(some 5), .none, .mv (.t 7)⟩]
def f_rec_upto_r2 : List AOp := [
  ⟨(some 8), .none, .mv (.t 5)⟩,
  ⟨(some 9), .none, .mv (.t 1)⟩,
  ⟨(some 10), .none, .conv (.int .u64) (.t 9)⟩,
  ⟨(some 11), .none, .bin .gtr .num (.t 8) (.t 10)⟩]
def f_rec_upto_r3 : List AOp := [
  ⟨(some 12), .none, .mv (.t 1)⟩,
  ⟨(some 13), .none, .bin .add .num (.t 12) (.c (.int .i64 1))⟩,
  ⟨(some 4), .none, .mv (.t 13)⟩]
def f_rec_upto_c0 : AC := .ret
def f_rec_upto_c1 : AC := (.cond (.t 11) (.seq (.reg f_rec_upto_r3) f_rec_upto_c0) .skip)
def f_rec_upto_r4 : List AOp := [
  ⟨(some 14), .none, .mv (.t 5)⟩,
  ⟨(some 15), .none, .conv (.int .i64) (.t 14)⟩,
  ⟨(some 4), .none, .mv (.t 15)⟩]
def f_rec_upto_c2 : AC := .ret
def f_rec_upto_c3 : AC := (.seq (.reg f_rec_upto_r4) f_rec_upto_c2)
def f_rec_upto_c4 : AC := (.seq (.seq (.reg f_rec_upto_r2) f_rec_upto_c1) f_rec_upto_c3)
def f_rec_upto_c5 : AC := (.seq (.reg f_rec_upto_r1) f_rec_upto_c4)
def f_rec_upto : AF := ⟨16, [.tmp 4], (.seq (.reg f_rec_upto_r0) f_rec_upto_c5)⟩
/- rec_read -/
def f_rec_read_r0 : List AOp := [
  ⟨(some 6), .none, .alloc [(.str []), (.str []), (.bool false), (.int .i64 0)]⟩,
  ⟨(some 7), .none, .mv (.c (.bool false))⟩]
def f_rec_read_r1 : List AOp := [
  ⟨(some 12), .none, .mv (.t 0)⟩,
  ⟨(some 13), .none, .call 237 [(.t 12), (.c (.int .i64 (-1099511627776))), (.c (.int .i64 1099511627776))]⟩,
  ⟨(some 8), .none, .mv (.t 13)⟩]
def f_rec_read_r2 : List AOp := [
  ⟨(some 14), .none, .mv (.t 1)⟩,
  ⟨(some 15), .none, .mv (.t 8)⟩,
  ⟨(some 16), .none, .bin .add .num (.t 14) (.t 15)⟩,
  ⟨(some 17), .none, .mv (.t 0)⟩,
  ⟨(some 18), .none, .call 344 [(.t 17)]⟩,
  ⟨(some 19), .none, .build [(.str []), (.str []), (.bool false), (.int .i64 0)] [(3, 1, (.t 16)), (2, 1, (.t 18))]⟩,
  ⟨(some 9), .none, .alloc [(.str []), (.str []), (.bool false), (.int .i64 0)]⟩,
  ⟨.none, .none, .store 4 (.t 9) (.t 19)⟩]
def f_rec_read_r3 : List AOp := [
  ⟨(some 20), .none, .mv (.t 0)⟩,
  ⟨(some 21), .none, .call 297 [(.t 20), (.c (.int .i64 1024))]⟩,
  ⟨(some 10), .none, .mv (.t 21)⟩]
def f_rec_read_r4 : List AOp := [
  ⟨(some 22), .none, .mv (.t 0)⟩,
  ⟨(some 23), .none, .call 151 [(.t 22), (.c (.int .i64 1024))]⟩,
  ⟨(some 11), .none, .mv (.t 23)⟩]
def f_rec_read_r5 : List AOp := [
  ⟨(some 24), .none, .mv (.t 10)⟩,
  ⟨(some 25), .none, .mv (.t 2)⟩,
  ⟨(some 26), .none, .len .str (.t 25)⟩,
  ⟨(some 27), .none, .bin .gtr .num (.t 24) (.t 26)⟩]
def f_rec_read_r6 : List AOp := [
  ⟨(some 28), .none, .loadn 4 (.t 9)⟩,
  ⟨.none, .none, .store 4 (.t 6) (.t 28)⟩,
  ⟨(some 7), .none, .mv (.c (.bool false))⟩]
def f_rec_read_c0 : AC := .ret
def f_rec_read_c1 : AC := (.cond (.t 27) (.seq (.reg f_rec_read_r6) f_rec_read_c0) .skip)
def f_rec_read_r7 : List AOp := [
  ⟨(some 29), .none, .mv (.t 2)⟩,
  ⟨(some 30), .none, .mv (.t 10)⟩,
  ⟨(some 31), .none, .sslc (.t 29) .none (some (.t 30))⟩,
  ⟨(some 32), .none, .mv (.t 11)⟩,
  ⟨(some 33), .none, .bin .add .str (.t 31) (.t 32)⟩,
  ⟨(some 34), .none, .faddr 0 (.t 9)⟩,
  ⟨.none, .none, .store 1 (.t 34) (.t 33)⟩]
def f_rec_read_r8 : List AOp := [
  ⟨(some 35), .none, .faddr 2 (.t 9)⟩,
  ⟨(some 36), .none, .load1 (.t 35)⟩,
  ⟨(some 37), .none, .un .not (.t 36)⟩]
def f_rec_read_r9 : List AOp := [
  ⟨(some 38), .none, .mv (.t 0)⟩,
  ⟨(some 39), .none, .call 151 [(.t 38), (.c (.int .i64 1024))]⟩,
  ⟨(some 40), .none, .faddr 1 (.t 9)⟩,
  ⟨.none, .none, .store 1 (.t 40) (.t 39)⟩]
def f_rec_read_c2 : AC := (.cond (.t 37) (.reg f_rec_read_r9) .skip)
def f_rec_read_r10 : DR := ⟨[
  ⟨(some 41), .none, .loadn 4 (.t 9)⟩,
  ⟨(some 42), .none, .mv (.t 0)⟩,
  ⟨(some 43), .none, .call 238 [(.t 42)]⟩,
  ⟨(some 44), .none, .bin .eql .num (.t 43) (.c (.int .i64 0))⟩,
  ⟨(some 45), .none, .mv (.t 44)⟩,
  ⟨(some 46), (some (45, true)), .mv (.t 2)⟩,
  ⟨(some 47), (some (45, true)), .faddr 0 (.t 9)⟩,
  ⟨(some 48), (some (45, true)), .load1 (.t 47)⟩,
  ⟨(some 49), (some (45, true)), .call 324 [(.t 46), (.t 48)]⟩,
  ⟨(some 50), (some (45, true)), .mv (.t 10)⟩,
  ⟨(some 51), (some (45, true)), .bin .eql .num (.t 49) (.t 50)⟩,
  ⟨(some 52), .none, .pick (.t 45) (.t 51) (.c (.bool false))⟩,
  ⟨.none, .none, .store 4 (.t 6) (.t 41)⟩,
  ⟨(some 7), .none, .mv (.t 52)⟩],
  [0, 0, 2, 6, 14, 30, 30, 94, 254, 30, 1022, 2046, 511, 8191], [0, 1, 2, 3, 4, 5, 6, 7, 8, 9, 10, 11, 12, 13], [(0, 1), (0, 2)], .none⟩
def f_rec_read_c3 : AC := .ret
def f_rec_read_c4 : AC := (.keep 6 [0, 2, 6, 9, 10] (.seq (.dreg f_rec_read_r10) f_rec_read_c3))
def f_rec_read_c5 : AC := (.seq (.seq (.reg f_rec_read_r8) f_rec_read_c2) f_rec_read_c4)
def f_rec_read_c6 : AC := (.seq (.reg f_rec_read_r7) f_rec_read_c5)
def f_rec_read_c7 : AC := (.seq (.seq (.reg f_rec_read_r5) f_rec_read_c1) f_rec_read_c6)
def f_rec_read_c8 : AC := (.seq (.reg f_rec_read_r4) f_rec_read_c7)
def f_rec_read_c9 : AC := (.seq (.reg f_rec_read_r3) f_rec_read_c8)
def f_rec_read_c10 : AC := (.seq (.reg f_rec_read_r2) f_rec_read_c9)
def f_rec_read_c11 : AC := (.seq (.reg f_rec_read_r1) f_rec_read_c10)
def f_rec_read : AF := ⟨53, [.celln 6 4, .tmp 7], (.seq (.reg f_rec_read_r0) f_rec_read_c11)⟩
/- seglog_latest -/
def f_seglog_latest_r0 : List AOp := [
  ⟨(some 1), .none, .box (.t 0)⟩,
  ⟨(some 2), .none, .mv (.c (.int .i64 0))⟩]
def f_seglog_latest_r1 : List AOp := [
  ⟨(some 3), .none, .mv (.c (.int .i64 (-1)))⟩]
def f_seglog_latest_r2 : List AOp := [
  ⟨(some 6), .none, .faddr 6 (.t 1)⟩,
  ⟨(some 7), .none, .load1 (.t 6)⟩,
  ⟨(some 8), .none, .len .slice (.t 7)⟩,
  ⟨(some 9), .none, .mv (.c (.int .i64 0))⟩]
def f_seglog_latest_r3 : List AOp := [
  ⟨(some 10), .none, .bin .lss .num (.t 9) (.t 8)⟩]
def f_seglog_latest_r4 : List AOp := [
  ⟨(some 11), .none, .iaddr 4 (.t 7) (.t 9)⟩,
  ⟨(some 12), .none, .loadn 4 (.t 11)⟩,
  ⟨(some 5), .none, .alloc [(.str []), (.str []), (.bool false), (.int .i64 0)]⟩,
  ⟨.none, .none, .store 4 (.t 5) (.t 12)⟩]
def f_seglog_latest_r5 : List AOp := [
  ⟨(some 13), .none, .mv (.t 3)⟩,
  ⟨(some 14), .none, .faddr 3 (.t 5)⟩,
  ⟨(some 15), .none, .load1 (.t 14)⟩,
  ⟨(some 16), .none, .mx [(.t 13), (.t 15)]⟩,
  ⟨(some 3), .none, .mv (.t 16)⟩]
def f_seglog_latest_c0 : AC := (.reg f_seglog_latest_r5)
def f_seglog_latest_r6 : List AOp := [
  ⟨(some 17), .none, .bin .add .num (.t 9) (.c (.int .i64 1))⟩,
  ⟨(some 9), .none, .mv (.t 17)⟩]
def f_seglog_latest_c1 : AC := (.reg f_seglog_latest_r6)
def f_seglog_latest_c2 : AC := (.seq (.block 1 (.seq (.reg f_seglog_latest_r4) f_seglog_latest_c0)) f_seglog_latest_c1)
def f_seglog_latest_c3 : AC := (.seq (.cond (.t 10) .skip (.exit 0)) f_seglog_latest_c2)
def f_seglog_latest_c4 : AC := (.seq (.reg f_seglog_latest_r3) f_seglog_latest_c3)
def f_seglog_latest_c5 : AC := (.block 0 (.keep 5 [1, 3, 7, 8, 9] (.loop (.keep 5 [1, 3, 7, 8, 9] f_seglog_latest_c4))))
def f_seglog_latest_r7 : List AOp := [
  ⟨(some 18), .none, .faddr 6 (.t 1)⟩,
  ⟨(some 19), .none, .load1 (.t 18)⟩,
  ⟨(some 20), .none, .len .slice (.t 19)⟩,
  ⟨(some 21), .none, .bin .eql .num (.t 20) (.c (.int .i64 0))⟩]
def f_seglog_latest_r8 : List AOp := [
  ⟨(some 22), .none, .faddr 5 (.t 1)⟩,
  ⟨(some 23), .none, .load1 (.t 22)⟩,
  ⟨(some 3), .none, .mv (.t 23)⟩]
def f_seglog_latest_c6 : AC := (.cond (.t 21) (.reg f_seglog_latest_r8) .skip)
def f_seglog_latest_r9 : List AOp := [
  ⟨(some 24), .none, .mv (.t 3)⟩,
  ⟨(some 2), .none, .mv (.t 24)⟩]
def f_seglog_latest_c7 : AC := .ret
def f_seglog_latest_c8 : AC := (.seq (.reg f_seglog_latest_r9) f_seglog_latest_c7)
def f_seglog_latest_c9 : AC := (.seq (.seq (.reg f_seglog_latest_r7) f_seglog_latest_c6) f_seglog_latest_c8)
def f_seglog_latest_c10 : AC := (.seq (.seq (.reg f_seglog_latest_r2) f_seglog_latest_c5) f_seglog_latest_c9)
def f_seglog_latest_c11 : AC := (.seq (.reg f_seglog_latest_r1) f_seglog_latest_c10)
def f_seglog_latest : AF := ⟨25, [.tmp 2], (.seq (.reg f_seglog_latest_r0) f_seglog_latest_c11)⟩
/- index_Index_Note -/
def f_index_Index_Note_r0 : List AOp := [
  ⟨(some 8), .none, .mv (.c (.int .i64 0))⟩]
def f_index_Index_Note_r1 : List AOp := [
  ⟨(some 12), .none, .mv (.t 0)⟩,
  ⟨(some 13), .none, .bin .eql .ptr (.t 12) (.c .nilp)⟩,
  ⟨(some 11), .none, .mv (.t 13)⟩]
def f_index_Index_Note_r2 : List AOp := [
  ⟨(some 8), .none, .mv (.c (.int .i64 1))⟩]
def f_index_Index_Note_c0 : AC := .ret
def f_index_Index_Note_r3 : List AOp := [
  ⟨(some 15), .none, .mv (.t 1)⟩,
  ⟨(some 16), .none, .mv (.t 2)⟩,
  ⟨(some 17), .none, .mv (.t 3)⟩,
  ⟨(some 18), .none, .call 349 [(.t 15), (.t 16), (.t 17)]⟩,
  ⟨(some 19), .none, .un .not (.t 18)⟩,
  ⟨(some 14), .none, .mv (.t 19)⟩]
def f_index_Index_Note_r4 : List AOp := [
  ⟨(some 8), .none, .mv (.c (.int .i64 2))⟩]
def f_index_Index_Note_c1 : AC := .ret
def f_index_Index_Note_r5 : List AOp := [
  ⟨(some 21), .none, .mv (.t 1)⟩,
  ⟨(some 22), .none, .mv (.t 0)⟩,
  ⟨(some 23), .none, .nilck (.t 22)⟩,
  ⟨(some 24), .none, .faddr 0 (.t 23)⟩,
  ⟨(some 25), .none, .faddr 0 (.t 24)⟩,
  ⟨(some 26), .none, .load1 (.t 25)⟩,
  ⟨(some 27), .none, .bin .leq .num (.t 21) (.t 26)⟩,
  ⟨(some 28), .none, .mv (.t 27)⟩,
  ⟨(some 29), (some (28, false)), .mv (.t 2)⟩,
  ⟨(some 30), (some (28, false)), .mv (.t 0)⟩,
  ⟨(some 31), (some (28, false)), .nilck (.t 30)⟩,
  ⟨(some 32), (some (28, false)), .faddr 0 (.t 31)⟩,
  ⟨(some 33), (some (28, false)), .faddr 1 (.t 32)⟩,
  ⟨(some 34), (some (28, false)), .load1 (.t 33)⟩,
  ⟨(some 35), (some (28, false)), .bin .leq .num (.t 29) (.t 34)⟩,
  ⟨(some 36), .none, .pick (.t 28) (.c (.bool true)) (.t 35)⟩,
  ⟨(some 20), .none, .mv (.t 36)⟩]
def f_index_Index_Note_r6 : List AOp := [
  ⟨(some 8), .none, .mv (.c (.int .i64 21))⟩]
def f_index_Index_Note_c2 : AC := .ret
def f_index_Index_Note_c3 : AC := (.cond (.t 20) (.seq (.reg f_index_Index_Note_r6) f_index_Index_Note_c2) .skip)
def f_index_Index_Note_c4 : AC := (.cond (.t 14) (.seq (.reg f_index_Index_Note_r4) f_index_Index_Note_c1) (.seq (.reg f_index_Index_Note_r5) f_index_Index_Note_c3))
def f_index_Index_Note_c5 : AC := (.cond (.t 11) (.seq (.reg f_index_Index_Note_r2) f_index_Index_Note_c0) (.seq (.reg f_index_Index_Note_r3) f_index_Index_Note_c4))
def f_index_Index_Note_r7 : List AOp := [
  ⟨(some 37), .none, .mv (.t 0)⟩,
  ⟨(some 38), .none, .nilck (.t 37)⟩,
  ⟨(some 39), .none, .faddr 4 (.t 38)⟩,
  ⟨(some 40), .none, .load1 (.t 39)⟩,
  ⟨(some 41), .none, .len .slice (.t 40)⟩,
  ⟨(some 9), .none, .mv (.t 41)⟩]
def f_index_Index_Note_r8 : DR := ⟨[
  ⟨(some 42), .none, .mv (.t 9)⟩,
  ⟨(some 43), .none, .bin .eql .num (.t 42) (.c (.int .i64 0))⟩,
  ⟨(some 44), .none, .mv (.t 43)⟩,
  ⟨(some 45), (some (44, false)), .mv (.t 2)⟩,
  ⟨(some 46), (some (44, false)), .mv (.t 0)⟩,
  ⟨(some 47), (some (44, false)), .nilck (.t 46)⟩,
  ⟨(some 48), (some (44, false)), .faddr 4 (.t 47)⟩,
  ⟨(some 49), (some (44, false)), .load1 (.t 48)⟩,
  ⟨(some 50), (some (44, false)), .mv (.t 9)⟩,
  ⟨(some 51), (some (44, false)), .bin .sub .num (.t 50) (.c (.int .i64 1))⟩,
  ⟨(some 52), (some (44, false)), .iaddr 3 (.t 49) (.t 51)⟩,
  ⟨(some 53), (some (44, false)), .faddr 1 (.t 52)⟩,
  ⟨(some 54), (some (44, false)), .load1 (.t 53)⟩,
  ⟨(some 55), (some (44, false)), .bin .sub .num (.t 45) (.t 54)⟩,
  ⟨(some 56), (some (44, false)), .mv (.t 0)⟩,
  ⟨(some 57), (some (44, false)), .nilck (.t 56)⟩,
  ⟨(some 58), (some (44, false)), .faddr 3 (.t 57)⟩,
  ⟨(some 59), (some (44, false)), .load1 (.t 58)⟩,
  ⟨(some 60), (some (44, false)), .bin .geq .num (.t 55) (.t 59)⟩,
  ⟨(some 61), .none, .pick (.t 44) (.c (.bool true)) (.t 60)⟩],
  [0, 1, 3, 7, 7, 23, 55, 119, 7, 263, 1015, 2039, 4087, 8191, 7, 16391, 49159, 114695, 262143, 524287], [0, 1, 2, 3, 4, 5, 6, 7, 8, 9, 10, 11, 12, 13, 14, 15, 16, 17, 18, 19], [], .none⟩
def f_index_Index_Note_r9 : DR := ⟨[
  ⟨(some 62), .none, .mv (.t 0)⟩,
  ⟨(some 63), .none, .nilck (.t 62)⟩,
  ⟨(some 64), .none, .faddr 4 (.t 63)⟩,
  ⟨(some 65), .none, .load1 (.t 64)⟩,
  ⟨(some 66), .none, .mv (.t 1)⟩,
  ⟨(some 67), .none, .mv (.t 2)⟩,
  ⟨(some 68), .none, .mv (.t 0)⟩,
  ⟨(some 69), .none, .nilck (.t 68)⟩,
  ⟨(some 70), .none, .faddr 0 (.t 69)⟩,
  ⟨(some 71), .none, .faddr 2 (.t 70)⟩,
  ⟨(some 72), .none, .load1 (.t 71)⟩,
  ⟨(some 73), .none, .build [(.int .i64 0), (.int .i64 0), (.int .i64 0)] [(0, 1, (.t 66)), (1, 1, (.t 67)), (2, 1, (.t 72))]⟩,
  ⟨(some 74), .none, .bsl false 3 1 [(.int .i64 0), (.int .i64 0), (.int .i64 0)] [(0, 3, (.t 73))]⟩,
  ⟨(some 75), .none, .app false 3 24 (.t 65) (.t 74)⟩,
  ⟨(some 10), .none, .mv (.t 75)⟩],
  [0, 1, 3, 7, 0, 0, 0, 64, 192, 448, 960, 2032, 4080, 8191, 16383], [0, 1, 2, 3, 4, 5, 6, 7, 8, 9, 10, 11, 12, 13, 14], [], .none⟩
def f_index_Index_Note_r10 : List AOp := [
  ⟨(some 76), .none, .mv (.t 0)⟩,
  ⟨(some 77), .none, .mv (.t 10)⟩,
  ⟨(some 78), .none, .nilck (.t 76)⟩,
  ⟨(some 79), .none, .faddr 4 (.t 78)⟩,
  ⟨.none, .none, .store 1 (.t 79) (.t 77)⟩]
def f_index_Index_Note_c6 : AC := (.reg f_index_Index_Note_r10)
def f_index_Index_Note_c7 : AC := (.cond (.t 61) (.seq (.dreg f_index_Index_Note_r9) f_index_Index_Note_c6) .skip)
def f_index_Index_Note_r11 : List AOp := [
  ⟨(some 80), .none, .mv (.t 0)⟩,
  ⟨(some 81), .none, .mv (.t 1)⟩,
  ⟨(some 82), .none, .mv (.t 2)⟩,
  ⟨(some 83), .none, .mv (.t 0)⟩,
  ⟨(some 84), .none, .nilck (.t 83)⟩,
  ⟨(some 85), .none, .faddr 0 (.t 84)⟩,
  ⟨(some 86), .none, .faddr 2 (.t 85)⟩,
  ⟨(some 87), .none, .load1 (.t 86)⟩,
  ⟨(some 88), .none, .mv (.t 3)⟩,
  ⟨(some 89), .none, .mx [(.t 87), (.t 88)]⟩,
  ⟨(some 90), .none, .build [(.int .i64 0), (.int .i64 0), (.int .i64 0)] [(0, 1, (.t 81)), (1, 1, (.t 82)), (2, 1, (.t 89))]⟩,
  ⟨(some 91), .none, .nilck (.t 80)⟩,
  ⟨(some 92), .none, .faddr 0 (.t 91)⟩,
  ⟨.none, .none, .store 3 (.t 92) (.t 90)⟩]
def f_index_Index_Note_r12 : List AOp := [
  ⟨(some 8), .none, .mv (.c (.int .i64 0))⟩]
def f_index_Index_Note_c8 : AC := .ret
def f_index_Index_Note_c9 : AC := (.seq (.reg f_index_Index_Note_r12) f_index_Index_Note_c8)
def f_index_Index_Note_c10 : AC := (.keep 7 [0, 1, 2, 3] (.seq (.reg f_index_Index_Note_r11) f_index_Index_Note_c9))
def f_index_Index_Note_c11 : AC := (.seq (.seq (.dreg f_index_Index_Note_r8) f_index_Index_Note_c7) f_index_Index_Note_c10)
def f_index_Index_Note_c12 : AC := (.seq (.reg f_index_Index_Note_r7) f_index_Index_Note_c11)
def f_index_Index_Note_c13 : AC := (.seq (.block 0 (.seq (.reg f_index_Index_Note_r1) f_index_Index_Note_c5)) f_index_Index_Note_c12)
def f_index_Index_Note : AF := ⟨93, [.tmp 8], (.seq (.reg f_index_Index_Note_r0) f_index_Index_Note_c13)⟩
/- wire_Reader_Int -/
def f_wire_Reader_Int_r0 : List AOp := [
  ⟨(some 2), .none, .mv (.c (.int .i64 0))⟩]
def f_wire_Reader_Int_r1 : List AOp := [
  ⟨(some 4), .none, .mv (.t 0)⟩,
  ⟨(some 5), .none, .call 83 [(.t 4)]⟩,
  ⟨(some 3), .none, .mv (.t 5)⟩]
def f_wire_Reader_Int_r2 : List AOp := [
  ⟨(some 6), .none, .mv (.t 3)⟩,
  ⟨(some 7), .none, .bin .shr .num (.t 6) (.c (.int .u64 1))⟩,
  ⟨(some 8), .none, .conv (.int .i64) (.t 7)⟩,
  ⟨(some 9), .none, .mv (.t 3)⟩,
  ⟨(some 10), .none, .bin .and .num (.t 9) (.c (.int .u64 1))⟩,
  ⟨(some 11), .none, .conv (.int .i64) (.t 10)⟩,
  ⟨(some 12), .none, .un .neg (.t 11)⟩,
  ⟨(some 13), .none, .bin .xor .num (.t 8) (.t 12)⟩,
  ⟨(some 2), .none, .mv (.t 13)⟩]
def f_wire_Reader_Int_c0 : AC := .ret
def f_wire_Reader_Int_c1 : AC := (.seq (.reg f_wire_Reader_Int_r2) f_wire_Reader_Int_c0)
def f_wire_Reader_Int_c2 : AC := (.seq (.reg f_wire_Reader_Int_r1) f_wire_Reader_Int_c1)
def f_wire_Reader_Int : AF := ⟨14, [.tmp 2], (.seq (.reg f_wire_Reader_Int_r0) f_wire_Reader_Int_c2)⟩
/- dedup_Row_next -/
def f_dedup_Row_next_r0 : List AOp := [
  ⟨(some 1), .none, .box (.t 0)⟩,
  ⟨(some 2), .none, .mv (.c (.int .i64 0))⟩]
def f_dedup_Row_next_r1 : List AOp := [
  ⟨(some 3), .none, .faddr 2 (.t 1)⟩,
  ⟨(some 4), .none, .load1 (.t 3)⟩,
  ⟨(some 5), .none, .faddr 3 (.t 1)⟩,
  ⟨(some 6), .none, .load1 (.t 5)⟩,
  ⟨(some 7), .none, .bin .add .num (.t 4) (.t 6)⟩,
  ⟨(some 2), .none, .mv (.t 7)⟩]
def f_dedup_Row_next_c0 : AC := .ret
def f_dedup_Row_next_c1 : AC := (.seq (.reg f_dedup_Row_next_r1) f_dedup_Row_next_c0)
def f_dedup_Row_next : AF := ⟨8, [.tmp 2], (.seq (.reg f_dedup_Row_next_r0) f_dedup_Row_next_c1)⟩
/- index_Index_entry -/
def f_index_Index_entry_r0 : List AOp := [
  ⟨(some 4), .none, .alloc [(.int .i64 0), (.int .i64 0), (.int .i64 0)]⟩,
  ⟨(some 5), .none, .mv (.c (.bool false))⟩]
def f_index_Index_entry_r1 : List AOp := [
  ⟨(some 6), .none, .mv (.t 1)⟩,
  ⟨(some 7), .none, .bin .lss .num (.t 6) (.c (.int .i64 0))⟩]
def f_index_Index_entry_r2 : List AOp := [
  ⟨(some 8), .none, .build [(.int .i64 0), (.int .i64 0), (.int .i64 0)] []⟩,
  ⟨.none, .none, .store 3 (.t 4) (.t 8)⟩,
  ⟨(some 5), .none, .mv (.c (.bool false))⟩]
def f_index_Index_entry_c0 : AC := .ret
def f_index_Index_entry_c1 : AC := (.cond (.t 7) (.seq (.reg f_index_Index_entry_r2) f_index_Index_entry_c0) .skip)
def f_index_Index_entry_r3 : List AOp := [
  ⟨(some 9), .none, .mv (.t 0)⟩,
  ⟨(some 10), .none, .nilck (.t 9)⟩,
  ⟨(some 11), .none, .faddr 4 (.t 10)⟩,
  ⟨(some 12), .none, .load1 (.t 11)⟩,
  ⟨(some 13), .none, .mv (.t 1)⟩,
  ⟨(some 14), .none, .iaddr 3 (.t 12) (.t 13)⟩,
  ⟨(some 15), .none, .loadn 3 (.t 14)⟩,
  ⟨.none, .none, .store 3 (.t 4) (.t 15)⟩,
  ⟨(some 5), .none, .mv (.c (.bool true))⟩]
def f_index_Index_entry_c2 : AC := .ret
def f_index_Index_entry_c3 : AC := (.seq (.reg f_index_Index_entry_r3) f_index_Index_entry_c2)
def f_index_Index_entry_c4 : AC := (.seq (.seq (.reg f_index_Index_entry_r1) f_index_Index_entry_c1) f_index_Index_entry_c3)
def f_index_Index_entry : AF := ⟨16, [.celln 4 3, .tmp 5], (.seq (.reg f_index_Index_entry_r0) f_index_Index_entry_c4)⟩
/- index_Index_Find_1 -/
def f_index_Index_Find_1_r0 : List AOp := [
  ⟨(some 4), .none, .mv (.c (.bool false))⟩]
def f_index_Index_Find_1_r1 : DR := ⟨[
  ⟨(some 5), .none, .load1 (.t 1)⟩,
  ⟨(some 6), .none, .nilck (.t 5)⟩,
  ⟨(some 7), .none, .faddr 4 (.t 6)⟩,
  ⟨(some 8), .none, .load1 (.t 7)⟩,
  ⟨(some 9), .none, .mv (.t 0)⟩,
  ⟨(some 10), .none, .iaddr 3 (.t 8) (.t 9)⟩,
  ⟨(some 11), .none, .faddr 0 (.t 10)⟩,
  ⟨(some 12), .none, .load1 (.t 11)⟩,
  ⟨(some 13), .none, .load1 (.t 2)⟩,
  ⟨(some 14), .none, .bin .gtr .num (.t 12) (.t 13)⟩,
  ⟨(some 4), .none, .mv (.t 14)⟩],
  [0, 1, 3, 7, 0, 31, 63, 127, 0, 511, 1023], [0, 1, 2, 3, 4, 5, 6, 7, 8, 9, 10], [], .none⟩
def f_index_Index_Find_1_c0 : AC := .ret
def f_index_Index_Find_1_c1 : AC := (.seq (.dreg f_index_Index_Find_1_r1) f_index_Index_Find_1_c0)
def f_index_Index_Find_1 : AF := ⟨15, [.tmp 4], (.seq (.reg f_index_Index_Find_1_r0) f_index_Index_Find_1_c1)⟩
/- rec_within -/
def f_rec_within_r0 : List AOp := [
  ⟨(some 6), .none, .mv (.c (.bool false))⟩]
def f_rec_within_r1 : List AOp := [
  ⟨(some 7), .none, .mv (.t 0)⟩,
  ⟨(some 8), .none, .mv (.t 1)⟩,
  ⟨(some 9), .none, .bin .geq .num (.t 7) (.t 8)⟩,
  ⟨(some 10), .none, .mv (.t 9)⟩,
  ⟨(some 11), (some (10, true)), .mv (.t 0)⟩,
  ⟨(some 12), (some (10, true)), .mv (.t 2)⟩,
  ⟨(some 13), (some (10, true)), .bin .leq .num (.t 11) (.t 12)⟩,
  ⟨(some 14), .none, .pick (.t 10) (.t 13) (.c (.bool false))⟩,
  ⟨(some 6), .none, .mv (.t 14)⟩]
def f_rec_within_c0 : AC := .ret
def f_rec_within_c1 : AC := (.seq (.reg f_rec_within_r1) f_rec_within_c0)
def f_rec_within : AF := ⟨15, [.tmp 6], (.seq (.reg f_rec_within_r0) f_rec_within_c1)⟩
/- frame_More -/
def f_frame_More_r0 : List AOp := [
  ⟨(some 4), .none, .mv (.c (.int .u32 0))⟩]
def f_frame_More_r1 : List AOp := [
  ⟨(some 10), .none, .mv (.t 0)⟩,
  ⟨(some 11), .none, .un .xor (.t 10)⟩,
  ⟨(some 5), .none, .mv (.t 11)⟩]
def f_frame_More_r2 : List AOp := [
  ⟨(some 12), .none, .mv (.t 1)⟩,
  ⟨(some 13), .none, .len .slice (.t 12)⟩,
  ⟨(some 14), .none, .mv (.c (.int .i64 0))⟩]
def f_frame_More_r3 : List AOp := [
  ⟨(some 15), .none, .bin .lss .num (.t 14) (.t 13)⟩]
def f_frame_More_r4 : List AOp := [
  ⟨(some 16), .none, .iaddr 1 (.t 12) (.t 14)⟩,
  ⟨(some 17), .none, .load1 (.t 16)⟩,
  ⟨(some 7), .none, .mv (.t 17)⟩]
def f_frame_More_r5 : List AOp := [
  ⟨(some 18), .none, .mv (.t 7)⟩,
  ⟨(some 19), .none, .len .slice (.t 18)⟩,
  ⟨(some 20), .none, .mv (.c (.int .i64 0))⟩]
def f_frame_More_r6 : List AOp := [
  ⟨(some 21), .none, .bin .lss .num (.t 20) (.t 19)⟩]
def f_frame_More_r7 : List AOp := [
  ⟨(some 22), .none, .iaddr 1 (.t 18) (.t 20)⟩,
  ⟨(some 23), .none, .load1 (.t 22)⟩,
  ⟨(some 9), .none, .mv (.t 23)⟩]
def f_frame_More_r8 : List AOp := [
  ⟨(some 24), .none, .mv (.t 5)⟩,
  ⟨(some 25), .none, .mv (.t 9)⟩,
  ⟨(some 26), .none, .conv (.int .u32) (.t 25)⟩,
  ⟨(some 27), .none, .bin .xor .num (.t 24) (.t 26)⟩,
  ⟨(some 5), .none, .mv (.t 27)⟩]
def f_frame_More_r9 : List AOp := [
  ⟨(some 28), .none, .mv (.c (.int .i64 0))⟩]
def f_frame_More_r10 : List AOp := [
  ⟨(some 29), .none, .bin .lss .num (.t 28) (.c (.int .i64 8))⟩]
def f_frame_More_r11 : List AOp := [
  ⟨(some 30), .none, .mv (.t 5)⟩,
  ⟨(some 31), .none, .bin .shr .num (.t 30) (.c (.int .u64 1))⟩,
  ⟨(some 32), .none, .mv (.t 5)⟩,
  ⟨(some 33), .none, .bin .and .num (.t 32) (.c (.int .u32 1))⟩,
  ⟨(some 34), .none, .un .neg (.t 33)⟩,
  ⟨(some 35), .none, .bin .and .num (.c (.int .u32 3988292384)) (.t 34)⟩,
  ⟨(some 36), .none, .bin .xor .num (.t 31) (.t 35)⟩,
  ⟨(some 5), .none, .mv (.t 36)⟩]
def f_frame_More_r12 : List AOp := [
  ⟨(some 37), .none, .bin .add .num (.t 28) (.c (.int .i64 1))⟩,
  ⟨(some 28), .none, .mv (.t 37)⟩]
def f_frame_More_c0 : AC := (.reg f_frame_More_r12)
def f_frame_More_c1 : AC := (.seq (.block 5 (.reg f_frame_More_r11)) f_frame_More_c0)
def f_frame_More_c2 : AC := (.seq (.cond (.t 29) .skip (.exit 4)) f_frame_More_c1)
def f_frame_More_c3 : AC := (.seq (.reg f_frame_More_r10) f_frame_More_c2)
def f_frame_More_c4 : AC := (.block 4 (.keep 6 [5, 12, 13, 14, 18, 19, 20, 28] (.loop (.keep 6 [5, 12, 13, 14, 18, 19, 20, 28] f_frame_More_c3))))
def f_frame_More_c5 : AC := (.seq (.reg f_frame_More_r9) f_frame_More_c4)
def f_frame_More_c6 : AC := (.seq (.reg f_frame_More_r8) f_frame_More_c5)
def f_frame_More_r13 : List AOp := [
  ⟨(some 38), .none, .bin .add .num (.t 20) (.c (.int .i64 1))⟩,
  ⟨(some 20), .none, .mv (.t 38)⟩]
def f_frame_More_c7 : AC := (.reg f_frame_More_r13)
def f_frame_More_c8 : AC := (.seq (.block 3 (.seq (.reg f_frame_More_r7) f_frame_More_c6)) f_frame_More_c7)
def f_frame_More_c9 : AC := (.seq (.cond (.t 21) .skip (.exit 2)) f_frame_More_c8)
def f_frame_More_c10 : AC := (.seq (.reg f_frame_More_r6) f_frame_More_c9)
def f_frame_More_c11 : AC := (.block 2 (.keep 6 [5, 12, 13, 14, 18, 19, 20] (.loop (.keep 6 [5, 12, 13, 14, 18, 19, 20] f_frame_More_c10))))
def f_frame_More_c12 : AC := (.seq (.reg f_frame_More_r5) f_frame_More_c11)
def f_frame_More_r14 : List AOp := [
  ⟨(some 39), .none, .bin .add .num (.t 14) (.c (.int .i64 1))⟩,
  ⟨(some 14), .none, .mv (.t 39)⟩]
def f_frame_More_c13 : AC := (.reg f_frame_More_r14)
def f_frame_More_c14 : AC := (.seq (.block 1 (.seq (.reg f_frame_More_r4) f_frame_More_c12)) f_frame_More_c13)
def f_frame_More_c15 : AC := (.seq (.cond (.t 15) .skip (.exit 0)) f_frame_More_c14)
def f_frame_More_c16 : AC := (.seq (.reg f_frame_More_r3) f_frame_More_c15)
def f_frame_More_c17 : AC := (.block 0 (.keep 6 [5, 12, 13, 14] (.loop (.keep 6 [5, 12, 13, 14] f_frame_More_c16))))
def f_frame_More_r15 : List AOp := [
  ⟨(some 40), .none, .mv (.t 5)⟩,
  ⟨(some 41), .none, .un .xor (.t 40)⟩,
  ⟨(some 4), .none, .mv (.t 41)⟩]
def f_frame_More_c18 : AC := .ret
def f_frame_More_c19 : AC := (.seq (.reg f_frame_More_r15) f_frame_More_c18)
def f_frame_More_c20 : AC := (.seq (.seq (.reg f_frame_More_r2) f_frame_More_c17) f_frame_More_c19)
def f_frame_More_c21 : AC := (.seq (.reg f_frame_More_r1) f_frame_More_c20)
def f_frame_More : AF := ⟨42, [.tmp 4], (.seq (.reg f_frame_More_r0) f_frame_More_c21)⟩
/- rec_alike -/
def f_rec_alike_r0 : List AOp := [
  ⟨(some 4), .none, .mv (.c (.int .i64 0))⟩]
def f_rec_alike_r1 : List AOp := [
  ⟨(some 7), .none, .mv (.t 0)⟩,
  ⟨(some 8), .none, .len .str (.t 7)⟩,
  ⟨(some 9), .none, .mv (.t 1)⟩,
  ⟨(some 10), .none, .len .str (.t 9)⟩,
  ⟨(some 11), .none, .mn [(.t 8), (.t 10)]⟩,
  ⟨(some 5), .none, .mv (.t 11)⟩]
def f_rec_alike_r2 : List AOp := [
  ⟨(some 12), .none, .mv (.t 5)⟩,
  ⟨(some 13), .none, .mv (.c (.int .i64 0))⟩]
def f_rec_alike_r3 : List AOp := [
  ⟨(some 14), .none, .bin .lss .num (.t 13) (.t 12)⟩]
def f_rec_alike_r4 : List AOp := [
  ⟨(some 15), .none, .mv (.t 13)⟩,
  ⟨(some 6), .none, .mv (.t 15)⟩]
def f_rec_alike_r5 : DR := ⟨[
  ⟨(some 16), .none, .mv (.t 0)⟩,
  ⟨(some 17), .none, .mv (.t 6)⟩,
  ⟨(some 18), .none, .sidx (.t 16) (.t 17)⟩,
  ⟨(some 19), .none, .mv (.t 1)⟩,
  ⟨(some 20), .none, .mv (.t 6)⟩,
  ⟨(some 21), .none, .sidx (.t 19) (.t 20)⟩,
  ⟨(some 22), .none, .bin .neq .num (.t 18) (.t 21)⟩],
  [0, 0, 3, 0, 0, 24, 63], [0, 1, 2, 3, 4, 5, 6], [], .none⟩
def f_rec_alike_r6 : List AOp := [
  ⟨(some 23), .none, .mv (.t 6)⟩,
  ⟨(some 4), .none, .mv (.t 23)⟩]
def f_rec_alike_c0 : AC := .ret
def f_rec_alike_c1 : AC := (.cond (.t 22) (.seq (.reg f_rec_alike_r6) f_rec_alike_c0) .skip)
def f_rec_alike_c2 : AC := (.seq (.dreg f_rec_alike_r5) f_rec_alike_c1)
def f_rec_alike_r7 : List AOp := [
  ⟨(some 24), .none, .bin .add .num (.t 13) (.c (.int .i64 1))⟩,
  ⟨(some 13), .none, .mv (.t 24)⟩]
def f_rec_alike_c3 : AC := (.reg f_rec_alike_r7)
def f_rec_alike_c4 : AC := (.seq (.block 1 (.seq (.reg f_rec_alike_r4) f_rec_alike_c2)) f_rec_alike_c3)
def f_rec_alike_c5 : AC := (.seq (.cond (.t 14) .skip (.exit 0)) f_rec_alike_c4)
def f_rec_alike_c6 : AC := (.seq (.reg f_rec_alike_r3) f_rec_alike_c5)
def f_rec_alike_c7 : AC := (.block 0 (.keep 5 [0, 1, 5, 12, 13] (.loop (.keep 5 [0, 1, 5, 12, 13] f_rec_alike_c6))))
def f_rec_alike_r8 : List AOp := [
  ⟨(some 25), .none, .mv (.t 5)⟩,
  ⟨(some 4), .none, .mv (.t 25)⟩]
def f_rec_alike_c8 : AC := .ret
def f_rec_alike_c9 : AC := (.seq (.reg f_rec_alike_r8) f_rec_alike_c8)
def f_rec_alike_c10 : AC := (.seq (.seq (.reg f_rec_alike_r2) f_rec_alike_c7) f_rec_alike_c9)
def f_rec_alike_c11 : AC := (.seq (.reg f_rec_alike_r1) f_rec_alike_c10)
def f_rec_alike : AF := ⟨26, [.tmp 4], (.seq (.reg f_rec_alike_r0) f_rec_alike_c11)⟩
/- slices_insertionSortCmpFunc_iso_Txn -/
def f_slices_insertionSortCmpFunc_iso_Txn_r0 : List AOp := [
  ⟨(some 10), .none, .mv (.t 1)⟩,
  ⟨(some 11), .none, .bin .add .num (.t 10) (.c (.int .i64 1))⟩,
  ⟨(some 8), .none, .mv (.t 11)⟩]
def f_slices_insertionSortCmpFunc_iso_Txn_r1 : List AOp := [
  ⟨(some 12), .none, .mv (.t 8)⟩,
  ⟨(some 13), .none, .mv (.t 2)⟩,
  ⟨(some 14), .none, .bin .lss .num (.t 12) (.t 13)⟩]
def f_slices_insertionSortCmpFunc_iso_Txn_c0 : AC := (.cond (.t 14) .skip (.exit 0))
def f_slices_insertionSortCmpFunc_iso_Txn_r3 : List AOp := [
  ⟨(some 17), .none, .mv (.t 8)⟩,
  ⟨(some 9), .none, .mv (.t 17)⟩]
def f_slices_insertionSortCmpFunc_iso_Txn_r4 : DR := ⟨[
  ⟨(some 18), .none, .mv (.t 9)⟩,
  ⟨(some 19), .none, .mv (.t 1)⟩,
  ⟨(some 20), .none, .bin .gtr .num (.t 18) (.t 19)⟩,
  ⟨(some 21), .none, .mv (.t 20)⟩,
  ⟨(some 22), (some (21, true)), .mv (.t 3)⟩,
  ⟨(some 23), (some (21, true)), .mv (.t 0)⟩,
  ⟨(some 24), (some (21, true)), .mv (.t 9)⟩,
  ⟨(some 25), (some (21, true)), .iaddr 4 (.t 23) (.t 24)⟩,
  ⟨(some 26), (some (21, true)), .loadn 4 (.t 25)⟩,
  ⟨(some 27), (some (21, true)), .mv (.t 0)⟩,
  ⟨(some 28), (some (21, true)), .mv (.t 9)⟩,
  ⟨(some 29), (some (21, true)), .bin .sub .num (.t 28) (.c (.int .i64 1))⟩,
  ⟨(some 30), (some (21, true)), .iaddr 4 (.t 27) (.t 29)⟩,
  ⟨(some 31), (some (21, true)), .loadn 4 (.t 30)⟩,
  ⟨(some 32), (some (21, true)), .callv (.t 22) [(.t 26), (.t 31)]⟩,
  ⟨(some 33), (some (21, true)), .bin .lss .num (.t 32) (.c (.int .i64 0))⟩,
  ⟨(some 34), .none, .pick (.t 21) (.t 33) (.c (.bool false))⟩],
  [0, 0, 3, 7, 15, 15, 15, 111, 239, 15, 15, 1039, 3599, 7695, 16383, 32767, 65535], [0, 1, 2, 3, 4, 5, 6, 7, 8, 9, 10, 11, 12, 13, 14, 15, 16], [], .none⟩
def f_slices_insertionSortCmpFunc_iso_Txn_c1 : AC := (.cond (.t 34) .skip (.exit 2))
def f_slices_insertionSortCmpFunc_iso_Txn_r6 : DR := ⟨[
  ⟨(some 37), .none, .mv (.t 0)⟩,
  ⟨(some 38), .none, .mv (.t 9)⟩,
  ⟨(some 39), .none, .mv (.t 0)⟩,
  ⟨(some 40), .none, .mv (.t 9)⟩,
  ⟨(some 41), .none, .bin .sub .num (.t 40) (.c (.int .i64 1))⟩,
  ⟨(some 42), .none, .mv (.t 0)⟩,
  ⟨(some 43), .none, .mv (.t 9)⟩,
  ⟨(some 44), .none, .bin .sub .num (.t 43) (.c (.int .i64 1))⟩,
  ⟨(some 45), .none, .iaddr 4 (.t 42) (.t 44)⟩,
  ⟨(some 46), .none, .loadn 4 (.t 45)⟩,
  ⟨(some 47), .none, .mv (.t 0)⟩,
  ⟨(some 48), .none, .mv (.t 9)⟩,
  ⟨(some 49), .none, .iaddr 4 (.t 47) (.t 48)⟩,
  ⟨(some 50), .none, .loadn 4 (.t 49)⟩,
  ⟨(some 51), .none, .iaddr 4 (.t 37) (.t 38)⟩,
  ⟨.none, .none, .store 4 (.t 51) (.t 46)⟩,
  ⟨(some 52), .none, .iaddr 4 (.t 39) (.t 41)⟩,
  ⟨.none, .none, .store 4 (.t 52) (.t 50)⟩],
  [0, 0, 0, 0, 8, 0, 0, 64, 224, 480, 0, 0, 3072, 7168, 16355, 32739, 65535, 131071], [0, 1, 2, 3, 4, 5, 6, 7, 8, 9, 10, 11, 12, 13, 14, 15, 16, 17], [], .none⟩
def f_slices_insertionSortCmpFunc_iso_Txn_r5 : List AOp := [
  ⟨(some 35), .none, .mv (.t 9)⟩,
  ⟨(some 36), .none, .bin .sub .num (.t 35) (.c (.int .i64 1))⟩,
  ⟨(some 9), .none, .mv (.t 36)⟩]
def f_slices_insertionSortCmpFunc_iso_Txn_c2 : AC := (.reg f_slices_insertionSortCmpFunc_iso_Txn_r5)
def f_slices_insertionSortCmpFunc_iso_Txn_c3 : AC := (.seq (.block 3 (.dreg f_slices_insertionSortCmpFunc_iso_Txn_r6)) f_slices_insertionSortCmpFunc_iso_Txn_c2)
def f_slices_insertionSortCmpFunc_iso_Txn_c4 : AC := (.seq (.seq (.dreg f_slices_insertionSortCmpFunc_iso_Txn_r4) f_slices_insertionSortCmpFunc_iso_Txn_c1) f_slices_insertionSortCmpFunc_iso_Txn_c3)
def f_slices_insertionSortCmpFunc_iso_Txn_c5 : AC := (.block 2 (.keep 6 [0, 1, 2, 3, 8, 9] (.loop (.keep 6 [0, 1, 2, 3, 8, 9] f_slices_insertionSortCmpFunc_iso_Txn_c4))))
def f_slices_insertionSortCmpFunc_iso_Txn_r2 : List AOp := [
  ⟨(some 15), .none, .mv (.t 8)⟩,
  ⟨(some 16), .none, .bin .add .num (.t 15) (.c (.int .i64 1))⟩,
  ⟨(some 8), .none, .mv (.t 16)⟩]
def f_slices_insertionSortCmpFunc_iso_Txn_c6 : AC := (.reg f_slices_insertionSortCmpFunc_iso_Txn_r2)
def f_slices_insertionSortCmpFunc_iso_Txn_c7 : AC := (.seq (.block 1 (.seq (.reg f_slices_insertionSortCmpFunc_iso_Txn_r3) f_slices_insertionSortCmpFunc_iso_Txn_c5)) f_slices_insertionSortCmpFunc_iso_Txn_c6)
def f_slices_insertionSortCmpFunc_iso_Txn_c8 : AC := (.seq (.seq (.reg f_slices_insertionSortCmpFunc_iso_Txn_r1) f_slices_insertionSortCmpFunc_iso_Txn_c0) f_slices_insertionSortCmpFunc_iso_Txn_c7)
def f_slices_insertionSortCmpFunc_iso_Txn_c9 : AC := (.block 0 (.keep 6 [0, 1, 2, 3, 8] (.loop (.keep 6 [0, 1, 2, 3, 8] f_slices_insertionSortCmpFunc_iso_Txn_c8))))
def f_slices_insertionSortCmpFunc_iso_Txn : AF := ⟨53, [], (.seq (.reg f_slices_insertionSortCmpFunc_iso_Txn_r0) f_slices_insertionSortCmpFunc_iso_Txn_c9)⟩
/- wire_Reader_Flag -/
def f_wire_Reader_Flag_r0 : List AOp := [
  ⟨(some 2), .none, .mv (.c (.bool false))⟩]
def f_wire_Reader_Flag_r1 : List AOp := [
  ⟨(some 3), .none, .mv (.t 0)⟩,
  ⟨(some 4), .none, .call 166 [(.t 3)]⟩,
  ⟨(some 5), .none, .un .not (.t 4)⟩]
def f_wire_Reader_Flag_r2 : List AOp := [
  ⟨(some 2), .none, .mv (.c (.bool false))⟩]
def f_wire_Reader_Flag_c0 : AC := .ret
def f_wire_Reader_Flag_c1 : AC := (.cond (.t 5) (.seq (.reg f_wire_Reader_Flag_r2) f_wire_Reader_Flag_c0) .skip)
def f_wire_Reader_Flag_r3 : DR := ⟨[
  ⟨(some 6), .none, .mv (.t 0)⟩,
  ⟨(some 7), .none, .nilck (.t 6)⟩,
  ⟨(some 8), .none, .faddr 0 (.t 7)⟩,
  ⟨(some 9), .none, .call 168 [(.t 8)]⟩,
  ⟨(some 10), .none, .bin .eql .num (.t 9) (.c (.int .i64 0))⟩,
  ⟨(some 11), .none, .mv (.t 10)⟩,
  ⟨(some 12), (some (11, false)), .mv (.t 0)⟩,
  ⟨(some 13), (some (11, false)), .nilck (.t 12)⟩,
  ⟨(some 14), (some (11, false)), .faddr 0 (.t 13)⟩,
  ⟨(some 15), (some (11, false)), .faddr 0 (.t 14)⟩,
  ⟨(some 16), (some (11, false)), .load1 (.t 15)⟩,
  ⟨(some 17), (some (11, false)), .mv (.t 0)⟩,
  ⟨(some 18), (some (11, false)), .nilck (.t 17)⟩,
  ⟨(some 19), (some (11, false)), .faddr 0 (.t 18)⟩,
  ⟨(some 20), (some (11, false)), .faddr 1 (.t 19)⟩,
  ⟨(some 21), (some (11, false)), .load1 (.t 20)⟩,
  ⟨(some 22), (some (11, false)), .iaddr 1 (.t 16) (.t 21)⟩,
  ⟨(some 23), (some (11, false)), .load1 (.t 22)⟩,
  ⟨(some 24), (some (11, false)), .bin .gtr .num (.t 23) (.c (.int .u8 1))⟩,
  ⟨(some 25), .none, .pick (.t 11) (.c (.bool true)) (.t 24)⟩],
  [0, 1, 3, 7, 15, 31, 63, 127, 255, 511, 1023, 63, 2111, 6207, 14399, 30783, 65535, 131071, 262143, 524287], [0, 1, 2, 3, 4, 5, 6, 7, 8, 9, 10, 11, 12, 13, 14, 15, 16, 17, 18, 19], [], .none⟩
def f_wire_Reader_Flag_r4 : List AOp := [
  ⟨(some 26), .none, .mv (.t 0)⟩,
  ⟨(some 27), .none, .nilck (.t 26)⟩,
  ⟨(some 28), .none, .faddr 0 (.t 27)⟩,
  ⟨(some 29), .none, .call 169 [(.t 28), (.c (.int .i64 6))]⟩]
def f_wire_Reader_Flag_r5 : List AOp := [
  ⟨(some 2), .none, .mv (.c (.bool false))⟩]
def f_wire_Reader_Flag_c2 : AC := .ret
def f_wire_Reader_Flag_c3 : AC := (.seq (.reg f_wire_Reader_Flag_r5) f_wire_Reader_Flag_c2)
def f_wire_Reader_Flag_c4 : AC := (.cond (.t 25) (.seq (.reg f_wire_Reader_Flag_r4) f_wire_Reader_Flag_c3) .skip)
def f_wire_Reader_Flag_r6 : List AOp := [
  ⟨(some 30), .none, .mv (.t 0)⟩,
  ⟨(some 31), .none, .nilck (.t 30)⟩,
  ⟨(some 32), .none, .faddr 0 (.t 31)⟩,
  ⟨(some 33), .none, .call 235 [(.t 32), (.c (.int .i64 1))]⟩,
  ⟨(some 34), .none, .iaddr 1 (.t 33) (.c (.int .i64 0))⟩,
  ⟨(some 35), .none, .load1 (.t 34)⟩,
  ⟨(some 36), .none, .bin .eql .num (.t 35) (.c (.int .u8 1))⟩,
  ⟨(some 2), .none, .mv (.t 36)⟩]
def f_wire_Reader_Flag_c5 : AC := .ret
def f_wire_Reader_Flag_c6 : AC := (.seq (.reg f_wire_Reader_Flag_r6) f_wire_Reader_Flag_c5)
def f_wire_Reader_Flag_c7 : AC := (.seq (.seq (.dreg f_wire_Reader_Flag_r3) f_wire_Reader_Flag_c4) f_wire_Reader_Flag_c6)
def f_wire_Reader_Flag_c8 : AC := (.seq (.seq (.reg f_wire_Reader_Flag_r1) f_wire_Reader_Flag_c1) f_wire_Reader_Flag_c7)
def f_wire_Reader_Flag : AF := ⟨37, [.tmp 2], (.seq (.reg f_wire_Reader_Flag_r0) f_wire_Reader_Flag_c8)⟩
/- maps_Keys_map_string_disk_file_string_disk_file_1 -/
def f_maps_Keys_map_string_disk_file_string_disk_file_1_r0 : List AOp := [
  ⟨(some 4), .none, .load1 (.t 1)⟩,
  ⟨(some 5), .none, .range (.t 4)⟩]
def f_maps_Keys_map_string_disk_file_string_disk_file_1_r1 : List AOp := [
  ⟨(some 6), .none, .next (.t 5)⟩,
  ⟨(some 7), .none, .ext (.t 6) 0⟩]
def f_maps_Keys_map_string_disk_file_string_disk_file_1_r2 : List AOp := [
  ⟨(some 8), .none, .entry (.t 5)⟩,
  ⟨(some 9), .none, .ext (.t 8) 0⟩,
  ⟨(some 3), .none, .mv (.t 9)⟩]
def f_maps_Keys_map_string_disk_file_string_disk_file_1_r3 : List AOp := [
  ⟨(some 10), .none, .mv (.t 0)⟩,
  ⟨(some 11), .none, .mv (.t 3)⟩,
  ⟨(some 12), .none, .callv (.t 10) [(.t 11)]⟩,
  ⟨(some 13), .none, .un .not (.t 12)⟩]
def f_maps_Keys_map_string_disk_file_string_disk_file_1_c0 : AC := (.cond (.t 13) .ret .skip)
def f_maps_Keys_map_string_disk_file_string_disk_file_1_c1 : AC := (.seq (.reg f_maps_Keys_map_string_disk_file_string_disk_file_1_r3) f_maps_Keys_map_string_disk_file_string_disk_file_1_c0)
def f_maps_Keys_map_string_disk_file_string_disk_file_1_c2 : AC := (.block 1 (.seq (.reg f_maps_Keys_map_string_disk_file_string_disk_file_1_r2) f_maps_Keys_map_string_disk_file_string_disk_file_1_c1))
def f_maps_Keys_map_string_disk_file_string_disk_file_1_c3 : AC := (.seq (.cond (.t 7) .skip (.exit 0)) f_maps_Keys_map_string_disk_file_string_disk_file_1_c2)
def f_maps_Keys_map_string_disk_file_string_disk_file_1_c4 : AC := (.seq (.reg f_maps_Keys_map_string_disk_file_string_disk_file_1_r1) f_maps_Keys_map_string_disk_file_string_disk_file_1_c3)
def f_maps_Keys_map_string_disk_file_string_disk_file_1_c5 : AC := (.block 0 (.keep 4 [0, 5] (.loop (.keep 4 [0, 5] f_maps_Keys_map_string_disk_file_string_disk_file_1_c4))))
def f_maps_Keys_map_string_disk_file_string_disk_file_1 : AF := ⟨14, [], (.seq (.reg f_maps_Keys_map_string_disk_file_string_disk_file_1_r0) f_maps_Keys_map_string_disk_file_string_disk_file_1_c5)⟩
/- slices_pdqsortOrdered_string -/
def f_slices_pdqsortOrdered_string_r0 : List AOp := [
  ⟨(some 8), .none, .mv (.c (.bool true))⟩]
def f_slices_pdqsortOrdered_string_r1 : List AOp := [
  ⟨(some 9), .none, .mv (.c (.bool true))⟩]
def f_slices_pdqsortOrdered_string_r2 : List AOp := [
  ⟨(some 19), .none, .mv (.t 2)⟩,
  ⟨(some 20), .none, .mv (.t 1)⟩,
  ⟨(some 21), .none, .bin .sub .num (.t 19) (.t 20)⟩,
  ⟨(some 10), .none, .mv (.t 21)⟩]
def f_slices_pdqsortOrdered_string_r3 : List AOp := [
  ⟨(some 22), .none, .mv (.t 10)⟩,
  ⟨(some 23), .none, .bin .leq .num (.t 22) (.c (.int .i64 12))⟩]
def f_slices_pdqsortOrdered_string_r4 : List AOp := [
  ⟨(some 24), .none, .mv (.t 0)⟩,
  ⟨(some 25), .none, .mv (.t 1)⟩,
  ⟨(some 26), .none, .mv (.t 2)⟩,
  ⟨(some 27), .none, .call 363 [(.t 24), (.t 25), (.t 26)]⟩]
def f_slices_pdqsortOrdered_string_c0 : AC := .ret
def f_slices_pdqsortOrdered_string_c1 : AC := (.cond (.t 23) (.seq (.reg f_slices_pdqsortOrdered_string_r4) f_slices_pdqsortOrdered_string_c0) .skip)
def f_slices_pdqsortOrdered_string_r5 : List AOp := [
  ⟨(some 28), .none, .mv (.t 3)⟩,
  ⟨(some 29), .none, .bin .eql .num (.t 28) (.c (.int .i64 0))⟩]
def f_slices_pdqsortOrdered_string_r6 : List AOp := [
  ⟨(some 30), .none, .mv (.t 0)⟩,
  ⟨(some 31), .none, .mv (.t 1)⟩,
  ⟨(some 32), .none, .mv (.t 2)⟩,
  ⟨(some 33), .none, .call 364 [(.t 30), (.t 31), (.t 32)]⟩]
def f_slices_pdqsortOrdered_string_c2 : AC := .ret
def f_slices_pdqsortOrdered_string_c3 : AC := (.cond (.t 29) (.seq (.reg f_slices_pdqsortOrdered_string_r6) f_slices_pdqsortOrdered_string_c2) .skip)
def f_slices_pdqsortOrdered_string_r7 : List AOp := [
  ⟨(some 34), .none, .mv (.t 8)⟩,
  ⟨(some 35), .none, .un .not (.t 34)⟩]
def f_slices_pdqsortOrdered_string_r8 : List AOp := [
  ⟨(some 36), .none, .mv (.t 0)⟩,
  ⟨(some 37), .none, .mv (.t 1)⟩,
  ⟨(some 38), .none, .mv (.t 2)⟩,
  ⟨(some 39), .none, .call 365 [(.t 36), (.t 37), (.t 38)]⟩]
def f_slices_pdqsortOrdered_string_r9 : List AOp := [
  ⟨(some 40), .none, .mv (.t 3)⟩,
  ⟨(some 41), .none, .bin .sub .num (.t 40) (.c (.int .i64 1))⟩,
  ⟨(some 3), .none, .mv (.t 41)⟩]
def f_slices_pdqsortOrdered_string_c4 : AC := (.reg f_slices_pdqsortOrdered_string_r9)
def f_slices_pdqsortOrdered_string_c5 : AC := (.cond (.t 35) (.seq (.reg f_slices_pdqsortOrdered_string_r8) f_slices_pdqsortOrdered_string_c4) .skip)
def f_slices_pdqsortOrdered_string_r10 : List AOp := [
  ⟨(some 43), .none, .mv (.t 0)⟩,
  ⟨(some 44), .none, .mv (.t 1)⟩,
  ⟨(some 45), .none, .mv (.t 2)⟩,
  ⟨(some 46), .none, .call 366 [(.t 43), (.t 44), (.t 45)]⟩,
  ⟨(some 42), .none, .mv (.t 46)⟩,
  ⟨(some 47), .none, .ext (.t 42) 0⟩,
  ⟨(some 48), .none, .ext (.t 42) 1⟩,
  ⟨(some 11), .none, .mv (.t 47)⟩,
  ⟨(some 12), .none, .mv (.t 48)⟩]
def f_slices_pdqsortOrdered_string_r11 : List AOp := [
  ⟨(some 49), .none, .mv (.t 12)⟩,
  ⟨(some 50), .none, .bin .eql .num (.t 49) (.c (.int .i64 2))⟩]
def f_slices_pdqsortOrdered_string_r12 : List AOp := [
  ⟨(some 51), .none, .mv (.t 0)⟩,
  ⟨(some 52), .none, .mv (.t 1)⟩,
  ⟨(some 53), .none, .mv (.t 2)⟩,
  ⟨(some 54), .none, .call 367 [(.t 51), (.t 52), (.t 53)]⟩]
def f_slices_pdqsortOrdered_string_r13 : List AOp := [
  ⟨(some 55), .none, .mv (.t 2)⟩,
  ⟨(some 56), .none, .bin .sub .num (.t 55) (.c (.int .i64 1))⟩,
  ⟨(some 57), .none, .mv (.t 11)⟩,
  ⟨(some 58), .none, .mv (.t 1)⟩,
  ⟨(some 59), .none, .bin .sub .num (.t 57) (.t 58)⟩,
  ⟨(some 60), .none, .bin .sub .num (.t 56) (.t 59)⟩,
  ⟨(some 11), .none, .mv (.t 60)⟩]
def f_slices_pdqsortOrdered_string_r14 : List AOp := [
  ⟨(some 12), .none, .mv (.c (.int .i64 1))⟩]
def f_slices_pdqsortOrdered_string_c6 : AC := (.reg f_slices_pdqsortOrdered_string_r14)
def f_slices_pdqsortOrdered_string_c7 : AC := (.seq (.reg f_slices_pdqsortOrdered_string_r13) f_slices_pdqsortOrdered_string_c6)
def f_slices_pdqsortOrdered_string_c8 : AC := (.cond (.t 50) (.seq (.reg f_slices_pdqsortOrdered_string_r12) f_slices_pdqsortOrdered_string_c7) .skip)
def f_slices_pdqsortOrdered_string_r15 : List AOp := [
  ⟨(some 61), .none, .mv (.t 8)⟩,
  ⟨(some 62), .none, .mv (.t 61)⟩,
  ⟨(some 63), (some (62, true)), .mv (.t 9)⟩,
  ⟨(some 64), .none, .pick (.t 62) (.t 63) (.c (.bool false))⟩,
  ⟨(some 65), .none, .mv (.t 64)⟩,
  ⟨(some 66), (some (65, true)), .mv (.t 12)⟩,
  ⟨(some 67), (some (65, true)), .bin .eql .num (.t 66) (.c (.int .i64 1))⟩,
  ⟨(some 68), .none, .pick (.t 65) (.t 67) (.c (.bool false))⟩]
def f_slices_pdqsortOrdered_string_r16 : List AOp := [
  ⟨(some 69), .none, .mv (.t 0)⟩,
  ⟨(some 70), .none, .mv (.t 1)⟩,
  ⟨(some 71), .none, .mv (.t 2)⟩,
  ⟨(some 72), .none, .call 368 [(.t 69), (.t 70), (.t 71)]⟩]
def f_slices_pdqsortOrdered_string_c9 : AC := (.cond (.t 72) .ret .skip)
def f_slices_pdqsortOrdered_string_c10 : AC := (.cond (.t 68) (.seq (.reg f_slices_pdqsortOrdered_string_r16) f_slices_pdqsortOrdered_string_c9) .skip)
def f_slices_pdqsortOrdered_string_r17 : DR := ⟨[
  ⟨(some 73), .none, .mv (.t 1)⟩,
  ⟨(some 74), .none, .bin .gtr .num (.t 73) (.c (.int .i64 0))⟩,
  ⟨(some 75), .none, .mv (.t 74)⟩,
  ⟨(some 76), (some (75, true)), .mv (.t 0)⟩,
  ⟨(some 77), (some (75, true)), .mv (.t 1)⟩,
  ⟨(some 78), (some (75, true)), .bin .sub .num (.t 77) (.c (.int .i64 1))⟩,
  ⟨(some 79), (some (75, true)), .iaddr 1 (.t 76) (.t 78)⟩,
  ⟨(some 80), (some (75, true)), .load1 (.t 79)⟩,
  ⟨(some 81), (some (75, true)), .mv (.t 0)⟩,
  ⟨(some 82), (some (75, true)), .mv (.t 11)⟩,
  ⟨(some 83), (some (75, true)), .iaddr 1 (.t 81) (.t 82)⟩,
  ⟨(some 84), (some (75, true)), .load1 (.t 83)⟩,
  ⟨(some 85), (some (75, true)), .call 369 [(.t 80), (.t 84)]⟩,
  ⟨(some 86), (some (75, true)), .un .not (.t 85)⟩,
  ⟨(some 87), .none, .pick (.t 75) (.t 86) (.c (.bool false))⟩],
  [0, 1, 3, 7, 7, 23, 63, 127, 7, 7, 775, 1799, 4095, 8191, 16383], [0, 1, 2, 3, 4, 5, 6, 7, 8, 9, 10, 11, 12, 13, 14], [], .none⟩
def f_slices_pdqsortOrdered_string_r18 : List AOp := [
  ⟨(some 88), .none, .mv (.t 0)⟩,
  ⟨(some 89), .none, .mv (.t 1)⟩,
  ⟨(some 90), .none, .mv (.t 2)⟩,
  ⟨(some 91), .none, .mv (.t 11)⟩,
  ⟨(some 92), .none, .call 370 [(.t 88), (.t 89), (.t 90), (.t 91)]⟩,
  ⟨(some 13), .none, .mv (.t 92)⟩]
def f_slices_pdqsortOrdered_string_r19 : List AOp := [
  ⟨(some 93), .none, .mv (.t 13)⟩,
  ⟨(some 1), .none, .mv (.t 93)⟩]
def f_slices_pdqsortOrdered_string_c11 : AC := (.exit 1)
def f_slices_pdqsortOrdered_string_c12 : AC := (.seq (.reg f_slices_pdqsortOrdered_string_r19) f_slices_pdqsortOrdered_string_c11)
def f_slices_pdqsortOrdered_string_c13 : AC := (.cond (.t 87) (.seq (.reg f_slices_pdqsortOrdered_string_r18) f_slices_pdqsortOrdered_string_c12) .skip)
def f_slices_pdqsortOrdered_string_r20 : List AOp := [
  ⟨(some 95), .none, .mv (.t 0)⟩,
  ⟨(some 96), .none, .mv (.t 1)⟩,
  ⟨(some 97), .none, .mv (.t 2)⟩,
  ⟨(some 98), .none, .mv (.t 11)⟩,
  ⟨(some 99), .none, .call 371 [(.t 95), (.t 96), (.t 97), (.t 98)]⟩,
  ⟨(some 94), .none, .mv (.t 99)⟩,
  ⟨(some 100), .none, .ext (.t 94) 0⟩,
  ⟨(some 101), .none, .ext (.t 94) 1⟩,
  ⟨(some 14), .none, .mv (.t 100)⟩,
  ⟨(some 15), .none, .mv (.t 101)⟩]
def f_slices_pdqsortOrdered_string_r21 : List AOp := [
  ⟨(some 102), .none, .mv (.t 15)⟩,
  ⟨(some 9), .none, .mv (.t 102)⟩]
def f_slices_pdqsortOrdered_string_r22 : List AOp := [
  ⟨(some 103), .none, .mv (.t 14)⟩,
  ⟨(some 104), .none, .mv (.t 1)⟩,
  ⟨(some 105), .none, .bin .sub .num (.t 103) (.t 104)⟩,
  ⟨(some 106), .none, .mv (.t 2)⟩,
  ⟨(some 107), .none, .mv (.t 14)⟩,
  ⟨(some 108), .none, .bin .sub .num (.t 106) (.t 107)⟩,
  ⟨(some 16), .none, .mv (.t 105)⟩,
  ⟨(some 17), .none, .mv (.t 108)⟩]
def f_slices_pdqsortOrdered_string_r23 : List AOp := [
  ⟨(some 109), .none, .mv (.t 10)⟩,
  ⟨(some 110), .none, .bin .quo .num (.t 109) (.c (.int .i64 8))⟩,
  ⟨(some 18), .none, .mv (.t 110)⟩]
def f_slices_pdqsortOrdered_string_r24 : List AOp := [
  ⟨(some 111), .none, .mv (.t 16)⟩,
  ⟨(some 112), .none, .mv (.t 17)⟩,
  ⟨(some 113), .none, .bin .lss .num (.t 111) (.t 112)⟩]
def f_slices_pdqsortOrdered_string_r25 : List AOp := [
  ⟨(some 114), .none, .mv (.t 16)⟩,
  ⟨(some 115), .none, .mv (.t 18)⟩,
  ⟨(some 116), .none, .bin .geq .num (.t 114) (.t 115)⟩,
  ⟨(some 8), .none, .mv (.t 116)⟩]
def f_slices_pdqsortOrdered_string_r26 : List AOp := [
  ⟨(some 117), .none, .mv (.t 0)⟩,
  ⟨(some 118), .none, .mv (.t 1)⟩,
  ⟨(some 119), .none, .mv (.t 14)⟩,
  ⟨(some 120), .none, .mv (.t 3)⟩,
  ⟨(some 121), .none, .call 348 [(.t 117), (.t 118), (.t 119), (.t 120)]⟩]
def f_slices_pdqsortOrdered_string_r27 : List AOp := [
  ⟨(some 122), .none, .mv (.t 14)⟩,
  ⟨(some 123), .none, .bin .add .num (.t 122) (.c (.int .i64 1))⟩,
  ⟨(some 1), .none, .mv (.t 123)⟩]
def f_slices_pdqsortOrdered_string_c14 : AC := (.reg f_slices_pdqsortOrdered_string_r27)
def f_slices_pdqsortOrdered_string_c15 : AC := (.seq (.reg f_slices_pdqsortOrdered_string_r26) f_slices_pdqsortOrdered_string_c14)
def f_slices_pdqsortOrdered_string_r28 : List AOp := [
  ⟨(some 124), .none, .mv (.t 17)⟩,
  ⟨(some 125), .none, .mv (.t 18)⟩,
  ⟨(some 126), .none, .bin .geq .num (.t 124) (.t 125)⟩,
  ⟨(some 8), .none, .mv (.t 126)⟩]
def f_slices_pdqsortOrdered_string_r29 : List AOp := [
  ⟨(some 127), .none, .mv (.t 0)⟩,
  ⟨(some 128), .none, .mv (.t 14)⟩,
  ⟨(some 129), .none, .bin .add .num (.t 128) (.c (.int .i64 1))⟩,
  ⟨(some 130), .none, .mv (.t 2)⟩,
  ⟨(some 131), .none, .mv (.t 3)⟩,
  ⟨(some 132), .none, .call 348 [(.t 127), (.t 129), (.t 130), (.t 131)]⟩]
def f_slices_pdqsortOrdered_string_r30 : List AOp := [
  ⟨(some 133), .none, .mv (.t 14)⟩,
  ⟨(some 2), .none, .mv (.t 133)⟩]
def f_slices_pdqsortOrdered_string_c16 : AC := (.reg f_slices_pdqsortOrdered_string_r30)
def f_slices_pdqsortOrdered_string_c17 : AC := (.seq (.reg f_slices_pdqsortOrdered_string_r29) f_slices_pdqsortOrdered_string_c16)
def f_slices_pdqsortOrdered_string_c18 : AC := (.cond (.t 113) (.seq (.reg f_slices_pdqsortOrdered_string_r25) f_slices_pdqsortOrdered_string_c15) (.seq (.reg f_slices_pdqsortOrdered_string_r28) f_slices_pdqsortOrdered_string_c17))
def f_slices_pdqsortOrdered_string_c19 : AC := (.seq (.reg f_slices_pdqsortOrdered_string_r24) f_slices_pdqsortOrdered_string_c18)
def f_slices_pdqsortOrdered_string_c20 : AC := (.seq (.reg f_slices_pdqsortOrdered_string_r23) f_slices_pdqsortOrdered_string_c19)
def f_slices_pdqsortOrdered_string_c21 : AC := (.seq (.reg f_slices_pdqsortOrdered_string_r22) f_slices_pdqsortOrdered_string_c20)
def f_slices_pdqsortOrdered_string_c22 : AC := (.seq (.reg f_slices_pdqsortOrdered_string_r21) f_slices_pdqsortOrdered_string_c21)
def f_slices_pdqsortOrdered_string_c23 : AC := (.seq (.reg f_slices_pdqsortOrdered_string_r20) f_slices_pdqsortOrdered_string_c22)
def f_slices_pdqsortOrdered_string_c24 : AC := (.keep 8 [0, 1, 2, 3, 8, 9, 10, 11] (.seq (.seq (.dreg f_slices_pdqsortOrdered_string_r17) f_slices_pdqsortOrdered_string_c13) f_slices_pdqsortOrdered_string_c23))
def f_slices_pdqsortOrdered_string_c25 : AC := (.keep 8 [0, 1, 2, 3, 8, 9, 10, 11, 12] (.seq (.seq (.reg f_slices_pdqsortOrdered_string_r15) f_slices_pdqsortOrdered_string_c10) f_slices_pdqsortOrdered_string_c24))
def f_slices_pdqsortOrdered_string_c26 : AC := (.seq (.seq (.reg f_slices_pdqsortOrdered_string_r11) f_slices_pdqsortOrdered_string_c8) f_slices_pdqsortOrdered_string_c25)
def f_slices_pdqsortOrdered_string_c27 : AC := (.keep 8 [0, 1, 2, 3, 8, 9, 10] (.seq (.reg f_slices_pdqsortOrdered_string_r10) f_slices_pdqsortOrdered_string_c26))
def f_slices_pdqsortOrdered_string_c28 : AC := (.seq (.seq (.reg f_slices_pdqsortOrdered_string_r7) f_slices_pdqsortOrdered_string_c5) f_slices_pdqsortOrdered_string_c27)
def f_slices_pdqsortOrdered_string_c29 : AC := (.seq (.seq (.reg f_slices_pdqsortOrdered_string_r5) f_slices_pdqsortOrdered_string_c3) f_slices_pdqsortOrdered_string_c28)
def f_slices_pdqsortOrdered_string_c30 : AC := (.seq (.seq (.reg f_slices_pdqsortOrdered_string_r3) f_slices_pdqsortOrdered_string_c1) f_slices_pdqsortOrdered_string_c29)
def f_slices_pdqsortOrdered_string_c31 : AC := (.block 1 (.seq (.reg f_slices_pdqsortOrdered_string_r2) f_slices_pdqsortOrdered_string_c30))
def f_slices_pdqsortOrdered_string_c32 : AC := (.block 0 (.keep 8 [0, 1, 2, 3, 8, 9] (.loop (.keep 8 [0, 1, 2, 3, 8, 9] f_slices_pdqsortOrdered_string_c31))))
def f_slices_pdqsortOrdered_string_c33 : AC := (.seq (.reg f_slices_pdqsortOrdered_string_r1) f_slices_pdqsortOrdered_string_c32)
def f_slices_pdqsortOrdered_string : AF := ⟨134, [], (.seq (.reg f_slices_pdqsortOrdered_string_r0) f_slices_pdqsortOrdered_string_c33)⟩
/- index_may -/
def f_index_may_r0 : List AOp := [
  ⟨(some 6), .none, .mv (.c (.bool false))⟩]
def f_index_may_r1 : List AOp := [
  ⟨(some 7), .none, .mv (.t 0)⟩,
  ⟨(some 8), .none, .bin .geq .num (.t 7) (.c (.int .i64 0))⟩,
  ⟨(some 9), .none, .mv (.t 8)⟩,
  ⟨(some 10), (some (9, true)), .mv (.t 0)⟩,
  ⟨(some 11), (some (9, true)), .bin .leq .num (.t 10) (.c (.int .i64 1099511627776))⟩,
  ⟨(some 12), .none, .pick (.t 9) (.t 11) (.c (.bool false))⟩,
  ⟨(some 13), .none, .mv (.t 12)⟩,
  ⟨(some 14), (some (13, true)), .mv (.t 1)⟩,
  ⟨(some 15), (some (13, true)), .bin .geq .num (.t 14) (.c (.int .i64 0))⟩,
  ⟨(some 16), .none, .pick (.t 13) (.t 15) (.c (.bool false))⟩,
  ⟨(some 17), .none, .mv (.t 16)⟩,
  ⟨(some 18), (some (17, true)), .mv (.t 1)⟩,
  ⟨(some 19), (some (17, true)), .bin .leq .num (.t 18) (.c (.int .i64 4194304))⟩,
  ⟨(some 20), .none, .pick (.t 17) (.t 19) (.c (.bool false))⟩,
  ⟨(some 21), .none, .mv (.t 20)⟩,
  ⟨(some 22), (some (21, true)), .mv (.t 2)⟩,
  ⟨(some 23), (some (21, true)), .bin .geq .num (.t 22) (.c (.int .i64 0))⟩,
  ⟨(some 24), .none, .pick (.t 21) (.t 23) (.c (.bool false))⟩,
  ⟨(some 25), .none, .mv (.t 24)⟩,
  ⟨(some 26), (some (25, true)), .mv (.t 2)⟩,
  ⟨(some 27), (some (25, true)), .bin .leq .num (.t 26) (.c (.int .i64 1099511627776))⟩,
  ⟨(some 28), .none, .pick (.t 25) (.t 27) (.c (.bool false))⟩,
  ⟨(some 6), .none, .mv (.t 28)⟩]
def f_index_may_c0 : AC := .ret
def f_index_may_c1 : AC := (.seq (.reg f_index_may_r1) f_index_may_c0)
def f_index_may : AF := ⟨29, [.tmp 6], (.seq (.reg f_index_may_r0) f_index_may_c1)⟩
/- slices_insertionSortOrdered_string -/
def f_slices_insertionSortOrdered_string_r0 : List AOp := [
  ⟨(some 8), .none, .mv (.t 1)⟩,
  ⟨(some 9), .none, .bin .add .num (.t 8) (.c (.int .i64 1))⟩,
  ⟨(some 6), .none, .mv (.t 9)⟩]
def f_slices_insertionSortOrdered_string_r1 : List AOp := [
  ⟨(some 10), .none, .mv (.t 6)⟩,
  ⟨(some 11), .none, .mv (.t 2)⟩,
  ⟨(some 12), .none, .bin .lss .num (.t 10) (.t 11)⟩]
def f_slices_insertionSortOrdered_string_c0 : AC := (.cond (.t 12) .skip (.exit 0))
def f_slices_insertionSortOrdered_string_r3 : List AOp := [
  ⟨(some 15), .none, .mv (.t 6)⟩,
  ⟨(some 7), .none, .mv (.t 15)⟩]
def f_slices_insertionSortOrdered_string_r4 : DR := ⟨[
  ⟨(some 16), .none, .mv (.t 7)⟩,
  ⟨(some 17), .none, .mv (.t 1)⟩,
  ⟨(some 18), .none, .bin .gtr .num (.t 16) (.t 17)⟩,
  ⟨(some 19), .none, .mv (.t 18)⟩,
  ⟨(some 20), (some (19, true)), .mv (.t 0)⟩,
  ⟨(some 21), (some (19, true)), .mv (.t 7)⟩,
  ⟨(some 22), (some (19, true)), .iaddr 1 (.t 20) (.t 21)⟩,
  ⟨(some 23), (some (19, true)), .load1 (.t 22)⟩,
  ⟨(some 24), (some (19, true)), .mv (.t 0)⟩,
  ⟨(some 25), (some (19, true)), .mv (.t 7)⟩,
  ⟨(some 26), (some (19, true)), .bin .sub .num (.t 25) (.c (.int .i64 1))⟩,
  ⟨(some 27), (some (19, true)), .iaddr 1 (.t 24) (.t 26)⟩,
  ⟨(some 28), (some (19, true)), .load1 (.t 27)⟩,
  ⟨(some 29), (some (19, true)), .call 369 [(.t 23), (.t 28)]⟩,
  ⟨(some 30), .none, .pick (.t 19) (.t 29) (.c (.bool false))⟩],
  [0, 0, 3, 7, 15, 15, 63, 127, 15, 15, 527, 1807, 3855, 8191, 16383], [0, 1, 2, 3, 4, 5, 6, 7, 8, 9, 10, 11, 12, 13, 14], [], .none⟩
def f_slices_insertionSortOrdered_string_c1 : AC := (.cond (.t 30) .skip (.exit 2))
def f_slices_insertionSortOrdered_string_r6 : DR := ⟨[
  ⟨(some 33), .none, .mv (.t 0)⟩,
  ⟨(some 34), .none, .mv (.t 7)⟩,
  ⟨(some 35), .none, .mv (.t 0)⟩,
  ⟨(some 36), .none, .mv (.t 7)⟩,
  ⟨(some 37), .none, .bin .sub .num (.t 36) (.c (.int .i64 1))⟩,
  ⟨(some 38), .none, .mv (.t 0)⟩,
  ⟨(some 39), .none, .mv (.t 7)⟩,
  ⟨(some 40), .none, .bin .sub .num (.t 39) (.c (.int .i64 1))⟩,
  ⟨(some 41), .none, .iaddr 1 (.t 38) (.t 40)⟩,
  ⟨(some 42), .none, .load1 (.t 41)⟩,
  ⟨(some 43), .none, .mv (.t 0)⟩,
  ⟨(some 44), .none, .mv (.t 7)⟩,
  ⟨(some 45), .none, .iaddr 1 (.t 43) (.t 44)⟩,
  ⟨(some 46), .none, .load1 (.t 45)⟩,
  ⟨(some 47), .none, .iaddr 1 (.t 33) (.t 34)⟩,
  ⟨.none, .none, .store 1 (.t 47) (.t 42)⟩,
  ⟨(some 48), .none, .iaddr 1 (.t 35) (.t 37)⟩,
  ⟨.none, .none, .store 1 (.t 48) (.t 46)⟩],
  [0, 0, 0, 0, 8, 0, 0, 64, 224, 480, 0, 0, 3072, 7168, 16355, 32739, 65535, 131071], [0, 1, 2, 3, 4, 5, 6, 7, 8, 9, 10, 11, 12, 13, 14, 15, 16, 17], [], .none⟩
def f_slices_insertionSortOrdered_string_r5 : List AOp := [
  ⟨(some 31), .none, .mv (.t 7)⟩,
  ⟨(some 32), .none, .bin .sub .num (.t 31) (.c (.int .i64 1))⟩,
  ⟨(some 7), .none, .mv (.t 32)⟩]
def f_slices_insertionSortOrdered_string_c2 : AC := (.reg f_slices_insertionSortOrdered_string_r5)
def f_slices_insertionSortOrdered_string_c3 : AC := (.seq (.block 3 (.dreg f_slices_insertionSortOrdered_string_r6)) f_slices_insertionSortOrdered_string_c2)
def f_slices_insertionSortOrdered_string_c4 : AC := (.seq (.seq (.dreg f_slices_insertionSortOrdered_string_r4) f_slices_insertionSortOrdered_string_c1) f_slices_insertionSortOrdered_string_c3)
def f_slices_insertionSortOrdered_string_c5 : AC := (.block 2 (.keep 6 [0, 1, 2, 6, 7] (.loop (.keep 6 [0, 1, 2, 6, 7] f_slices_insertionSortOrdered_string_c4))))
def f_slices_insertionSortOrdered_string_r2 : List AOp := [
  ⟨(some 13), .none, .mv (.t 6)⟩,
  ⟨(some 14), .none, .bin .add .num (.t 13) (.c (.int .i64 1))⟩,
  ⟨(some 6), .none, .mv (.t 14)⟩]
def f_slices_insertionSortOrdered_string_c6 : AC := (.reg f_slices_insertionSortOrdered_string_r2)
def f_slices_insertionSortOrdered_string_c7 : AC := (.seq (.block 1 (.seq (.reg f_slices_insertionSortOrdered_string_r3) f_slices_insertionSortOrdered_string_c5)) f_slices_insertionSortOrdered_string_c6)
def f_slices_insertionSortOrdered_string_c8 : AC := (.seq (.seq (.reg f_slices_insertionSortOrdered_string_r1) f_slices_insertionSortOrdered_string_c0) f_slices_insertionSortOrdered_string_c7)
def f_slices_insertionSortOrdered_string_c9 : AC := (.block 0 (.keep 6 [0, 1, 2, 6] (.loop (.keep 6 [0, 1, 2, 6] f_slices_insertionSortOrdered_string_c8))))
def f_slices_insertionSortOrdered_string : AF := ⟨49, [], (.seq (.reg f_slices_insertionSortOrdered_string_r0) f_slices_insertionSortOrdered_string_c9)⟩
end Go.AM.P
