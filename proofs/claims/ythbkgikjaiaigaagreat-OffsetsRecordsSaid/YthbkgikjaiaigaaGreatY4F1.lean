import Derived.Test.YthbkgikjaiaigaaGreatAmGg
namespace Go.AM.P
set_option linter.all false
/- iso_View_Take -/
def f_iso_View_Take_r0 : List AOp := [
  ⟨(some 3), .none, .box (.t 1)⟩,
  ⟨(some 4), .none, .mv (.c (.int .i64 0))⟩]
def f_iso_View_Take_r1 : List AOp := [
  ⟨(some 8), .none, .mv (.t 0)⟩,
  ⟨(some 9), .none, .loadn 7 (.t 3)⟩,
  ⟨(some 10), .none, .call 177 [(.t 8), (.t 9)]⟩,
  ⟨(some 5), .none, .mv (.t 10)⟩]
def f_iso_View_Take_r2 : List AOp := [
  ⟨(some 11), .none, .mv (.t 5)⟩,
  ⟨(some 12), .none, .bin .neq .num (.t 11) (.c (.int .i64 0))⟩]
def f_iso_View_Take_r3 : List AOp := [
  ⟨(some 13), .none, .mv (.t 5)⟩,
  ⟨(some 4), .none, .mv (.t 13)⟩]
def f_iso_View_Take_c0 : AC := .ret
def f_iso_View_Take_c1 : AC := (.cond (.t 12) (.seq (.reg f_iso_View_Take_r3) f_iso_View_Take_c0) .skip)
def f_iso_View_Take_c2 : AC := (.seq (.reg f_iso_View_Take_r2) f_iso_View_Take_c1)
def f_iso_View_Take_r4 : List AOp := [
  ⟨(some 14), .none, .mv (.t 0)⟩,
  ⟨(some 15), .none, .loadn 7 (.t 3)⟩,
  ⟨(some 16), .none, .call 95 [(.t 15)]⟩,
  ⟨(some 17), .none, .nilck (.t 14)⟩,
  ⟨(some 18), .none, .faddr 0 (.t 17)⟩,
  ⟨.none, .none, .store 1 (.t 18) (.t 16)⟩]
def f_iso_View_Take_r5 : DR := ⟨[
  ⟨(some 20), .none, .mv (.t 0)⟩,
  ⟨(some 21), .none, .nilck (.t 20)⟩,
  ⟨(some 22), .none, .faddr 1 (.t 21)⟩,
  ⟨(some 23), .none, .load1 (.t 22)⟩,
  ⟨(some 24), .none, .faddr 1 (.t 3)⟩,
  ⟨(some 25), .none, .load1 (.t 24)⟩,
  ⟨(some 26), .none, .look .num (.agg [(.int .i64 0), (.int .i64 0), (.int .i64 0), (.int .i64 0)]) true (.t 23) (.t 25)⟩,
  ⟨(some 19), .none, .mv (.t 26)⟩,
  ⟨(some 27), .none, .ext (.t 19) 0⟩,
  ⟨(some 28), .none, .ext (.t 19) 1⟩,
  ⟨(some 6), .none, .alloc [(.int .i64 0), (.int .i64 0), (.int .i64 0), (.int .i64 0)]⟩,
  ⟨.none, .none, .store 4 (.t 6) (.t 27)⟩,
  ⟨(some 7), .none, .mv (.t 28)⟩],
  [0, 1, 3, 7, 0, 16, 63, 127, 255, 255, 0, 1535, 4095], [0, 1, 2, 3, 4, 5, 6, 7, 8, 9, 10, 11, 12], [(3, 1), (5, 1), (6, 1)], .none⟩
def f_iso_View_Take_r6 : List AOp := [
  ⟨(some 30), .none, .faddr 4 (.t 3)⟩,
  ⟨(some 31), .none, .load1 (.t 30)⟩,
  ⟨(some 32), .none, .bin .eql .num (.t 31) (.c (.int .i64 1))⟩,
  ⟨(some 33), .none, .mv (.t 32)⟩,
  ⟨(some 34), (some (33, true)), .mv (.t 7)⟩,
  ⟨(some 35), (some (33, true)), .un .not (.t 34)⟩,
  ⟨(some 36), .none, .pick (.t 33) (.t 35) (.c (.bool false))⟩,
  ⟨(some 29), .none, .mv (.t 36)⟩]
def f_iso_View_Take_r7 : DR := ⟨[
  ⟨(some 37), .none, .mv (.t 0)⟩,
  ⟨(some 38), .none, .nilck (.t 37)⟩,
  ⟨(some 39), .none, .faddr 1 (.t 38)⟩,
  ⟨(some 40), .none, .load1 (.t 39)⟩,
  ⟨(some 41), .none, .faddr 1 (.t 3)⟩,
  ⟨(some 42), .none, .load1 (.t 41)⟩,
  ⟨(some 43), .none, .faddr 1 (.t 3)⟩,
  ⟨(some 44), .none, .load1 (.t 43)⟩,
  ⟨(some 45), .none, .faddr 2 (.t 3)⟩,
  ⟨(some 46), .none, .load1 (.t 45)⟩,
  ⟨(some 47), .none, .build [(.int .i64 0), (.int .i64 0)] [(0, 1, (.t 44)), (1, 1, (.t 46))]⟩,
  ⟨(some 48), .none, .faddr 0 (.t 3)⟩,
  ⟨(some 49), .none, .load1 (.t 48)⟩,
  ⟨(some 50), .none, .build [(.int .i64 0), (.int .i64 0), (.int .i64 0), (.int .i64 0)] [(0, 2, (.t 47)), (2, 1, (.t 49)), (3, 1, (.c (.int .i64 (-1))))]⟩,
  ⟨.none, .none, .mapup .num (.t 40) (.t 42) (.t 50)⟩],
  [0, 1, 3, 7, 0, 16, 0, 64, 0, 256, 960, 0, 2048, 8128, 16383], [0, 1, 2, 3, 4, 5, 6, 7, 8, 9, 10, 11, 12, 13, 14], [], .none⟩
def f_iso_View_Take_r8 : List AOp := [
  ⟨(some 52), .none, .loadn 7 (.t 3)⟩,
  ⟨(some 53), .none, .call 184 [(.t 52)]⟩,
  ⟨(some 54), .none, .mv (.t 53)⟩,
  ⟨(some 55), (some (54, true)), .mv (.t 7)⟩,
  ⟨(some 56), .none, .pick (.t 54) (.t 55) (.c (.bool false))⟩,
  ⟨(some 51), .none, .mv (.t 56)⟩]
def f_iso_View_Take_r9 : DR := ⟨[
  ⟨(some 57), .none, .mv (.t 0)⟩,
  ⟨(some 58), .none, .nilck (.t 57)⟩,
  ⟨(some 59), .none, .faddr 1 (.t 58)⟩,
  ⟨(some 60), .none, .load1 (.t 59)⟩,
  ⟨(some 61), .none, .faddr 1 (.t 3)⟩,
  ⟨(some 62), .none, .load1 (.t 61)⟩,
  ⟨.none, .none, .mapdel .num (.t 60) (.t 62)⟩],
  [0, 1, 3, 7, 0, 16, 63], [0, 1, 2, 3, 4, 5, 6], [], .none⟩
def f_iso_View_Take_r10 : List AOp := [
  ⟨(some 63), .none, .faddr 4 (.t 3)⟩,
  ⟨(some 64), .none, .load1 (.t 63)⟩,
  ⟨(some 65), .none, .bin .eql .num (.t 64) (.c (.int .i64 3))⟩]
def f_iso_View_Take_r11 : List AOp := [
  ⟨(some 66), .none, .faddr 0 (.t 3)⟩,
  ⟨(some 67), .none, .load1 (.t 66)⟩,
  ⟨(some 68), .none, .faddr 3 (.t 6)⟩,
  ⟨.none, .none, .store 1 (.t 68) (.t 67)⟩]
def f_iso_View_Take_r12 : DR := ⟨[
  ⟨(some 69), .none, .mv (.t 0)⟩,
  ⟨(some 70), .none, .nilck (.t 69)⟩,
  ⟨(some 71), .none, .faddr 2 (.t 70)⟩,
  ⟨(some 72), .none, .load1 (.t 71)⟩,
  ⟨(some 73), .none, .faddr 0 (.t 6)⟩,
  ⟨(some 74), .none, .loadn 2 (.t 73)⟩,
  ⟨(some 75), .none, .loadn 4 (.t 6)⟩,
  ⟨.none, .none, .mapup (.agg [.num, .num]) (.t 72) (.t 74) (.t 75)⟩],
  [0, 1, 3, 7, 0, 16, 0, 127], [0, 1, 2, 3, 4, 5, 6, 7], [], .none⟩
def f_iso_View_Take_c3 : AC := (.dreg f_iso_View_Take_r12)
def f_iso_View_Take_c4 : AC := (.cond (.t 65) (.seq (.reg f_iso_View_Take_r11) f_iso_View_Take_c3) .skip)
def f_iso_View_Take_c5 : AC := (.seq (.reg f_iso_View_Take_r10) f_iso_View_Take_c4)
def f_iso_View_Take_c6 : AC := (.cond (.t 51) (.seq (.dreg f_iso_View_Take_r9) f_iso_View_Take_c5) .skip)
def f_iso_View_Take_c7 : AC := (.cond (.t 29) (.dreg f_iso_View_Take_r7) (.seq (.reg f_iso_View_Take_r8) f_iso_View_Take_c6))
def f_iso_View_Take_r13 : List AOp := [
  ⟨(some 4), .none, .mv (.c (.int .i64 0))⟩]
def f_iso_View_Take_c8 : AC := .ret
def f_iso_View_Take_c9 : AC := (.seq (.reg f_iso_View_Take_r13) f_iso_View_Take_c8)
def f_iso_View_Take_c10 : AC := (.seq (.block 0 (.seq (.reg f_iso_View_Take_r6) f_iso_View_Take_c7)) f_iso_View_Take_c9)
def f_iso_View_Take_c11 : AC := (.seq (.dreg f_iso_View_Take_r5) f_iso_View_Take_c10)
def f_iso_View_Take_c12 : AC := (.seq (.reg f_iso_View_Take_r4) f_iso_View_Take_c11)
def f_iso_View_Take_c13 : AC := (.seq (.seq (.reg f_iso_View_Take_r1) f_iso_View_Take_c2) f_iso_View_Take_c12)
def f_iso_View_Take : AF := ⟨76, [.tmp 4], (.seq (.reg f_iso_View_Take_r0) f_iso_View_Take_c13)⟩
/- bytes_Clone -/
def f_bytes_Clone_r0 : List AOp := [
  ⟨(some 2), .none, .mv (.c .nils)⟩]
def f_bytes_Clone_r1 : List AOp := [
  ⟨(some 3), .none, .mv (.t 0)⟩,
  ⟨(some 4), .none, .bin .eql .slice (.t 3) (.c .nils)⟩]
def f_bytes_Clone_r2 : List AOp := [
  ⟨(some 2), .none, .mv (.c .nils)⟩]
def f_bytes_Clone_c0 : AC := .ret
def f_bytes_Clone_c1 : AC := (.cond (.t 4) (.seq (.reg f_bytes_Clone_r2) f_bytes_Clone_c0) .skip)
def f_bytes_Clone_r3 : List AOp := [
  ⟨(some 5), .none, .bsl false 1 0 [(.int .u8 0)] []⟩,
  ⟨(some 6), .none, .mv (.t 0)⟩,
  ⟨(some 7), .none, .app false 1 1 (.t 5) (.t 6)⟩,
  ⟨(some 2), .none, .mv (.t 7)⟩]
def f_bytes_Clone_c2 : AC := .ret
def f_bytes_Clone_c3 : AC := (.seq (.reg f_bytes_Clone_r3) f_bytes_Clone_c2)
def f_bytes_Clone_c4 : AC := (.seq (.seq (.reg f_bytes_Clone_r1) f_bytes_Clone_c1) f_bytes_Clone_c3)
def f_bytes_Clone : AF := ⟨8, [.tmp 2], (.seq (.reg f_bytes_Clone_r0) f_bytes_Clone_c4)⟩
/- wire_Reader_good -/
def f_wire_Reader_good_r0 : List AOp := [
  ⟨(some 2), .none, .mv (.c (.bool false))⟩]
def f_wire_Reader_good_r1 : List AOp := [
  ⟨(some 3), .none, .mv (.t 0)⟩,
  ⟨(some 4), .none, .bin .neq .ptr (.t 3) (.c .nilp)⟩,
  ⟨(some 5), .none, .mv (.t 4)⟩,
  ⟨(some 6), (some (5, true)), .mv (.t 0)⟩,
  ⟨(some 7), (some (5, true)), .nilck (.t 6)⟩,
  ⟨(some 8), (some (5, true)), .faddr 0 (.t 7)⟩,
  ⟨(some 9), (some (5, true)), .faddr 2 (.t 8)⟩,
  ⟨(some 10), (some (5, true)), .load1 (.t 9)⟩,
  ⟨(some 11), (some (5, true)), .bin .eql .num (.t 10) (.c (.int .i64 0))⟩,
  ⟨(some 12), .none, .pick (.t 5) (.t 11) (.c (.bool false))⟩,
  ⟨(some 2), .none, .mv (.t 12)⟩]
def f_wire_Reader_good_c0 : AC := .ret
def f_wire_Reader_good_c1 : AC := (.seq (.reg f_wire_Reader_good_r1) f_wire_Reader_good_c0)
def f_wire_Reader_good : AF := ⟨13, [.tmp 2], (.seq (.reg f_wire_Reader_good_r0) f_wire_Reader_good_c1)⟩
/- wire_place_uint -/
def f_wire_place_uint_r0 : List AOp := [
  ⟨(some 2), .none, .mv (.c (.int .u64 0))⟩]
def f_wire_place_uint_r1 : List AOp := [
  ⟨(some 3), .none, .mv (.c (.int .u64 0))⟩]
def f_wire_place_uint_r2 : List AOp := [
  ⟨(some 4), .none, .mv (.c (.int .i64 0))⟩]
def f_wire_place_uint_r3 : List AOp := [
  ⟨(some 6), .none, .mv (.t 4)⟩,
  ⟨(some 7), .none, .bin .lss .num (.t 6) (.c (.int .i64 10))⟩]
def f_wire_place_uint_c0 : AC := (.cond (.t 7) .skip (.exit 0))
def f_wire_place_uint_r5 : List AOp := [
  ⟨(some 10), .none, .mv (.t 4)⟩,
  ⟨(some 11), .none, .mv (.t 0)⟩,
  ⟨(some 12), .none, .call 168 [(.t 11)]⟩,
  ⟨(some 13), .none, .bin .geq .num (.t 10) (.t 12)⟩]
def f_wire_place_uint_c1 : AC := (.cond (.t 13) (.exit 0) .skip)
def f_wire_place_uint_r6 : DR := ⟨[
  ⟨(some 14), .none, .mv (.t 0)⟩,
  ⟨(some 15), .none, .nilck (.t 14)⟩,
  ⟨(some 16), .none, .faddr 0 (.t 15)⟩,
  ⟨(some 17), .none, .load1 (.t 16)⟩,
  ⟨(some 18), .none, .mv (.t 0)⟩,
  ⟨(some 19), .none, .nilck (.t 18)⟩,
  ⟨(some 20), .none, .faddr 1 (.t 19)⟩,
  ⟨(some 21), .none, .load1 (.t 20)⟩,
  ⟨(some 22), .none, .mv (.t 4)⟩,
  ⟨(some 23), .none, .bin .add .num (.t 21) (.t 22)⟩,
  ⟨(some 24), .none, .iaddr 1 (.t 17) (.t 23)⟩,
  ⟨(some 25), .none, .load1 (.t 24)⟩,
  ⟨(some 5), .none, .mv (.t 25)⟩],
  [0, 1, 3, 7, 0, 16, 48, 112, 0, 496, 1023, 2047, 4095], [0, 1, 2, 3, 4, 5, 6, 7, 8, 9, 10, 11, 12], [], .none⟩
def f_wire_place_uint_r7 : List AOp := [
  ⟨(some 26), .none, .mv (.t 4)⟩,
  ⟨(some 27), .none, .bin .eql .num (.t 26) (.c (.int .i64 9))⟩,
  ⟨(some 28), .none, .mv (.t 27)⟩,
  ⟨(some 29), (some (28, true)), .mv (.t 5)⟩,
  ⟨(some 30), (some (28, true)), .bin .gtr .num (.t 29) (.c (.int .u8 1))⟩,
  ⟨(some 31), .none, .pick (.t 28) (.t 30) (.c (.bool false))⟩]
def f_wire_place_uint_c2 : AC := (.cond (.t 31) (.exit 0) .skip)
def f_wire_place_uint_r8 : List AOp := [
  ⟨(some 32), .none, .mv (.t 3)⟩,
  ⟨(some 33), .none, .mv (.t 5)⟩,
  ⟨(some 34), .none, .bin .and .num (.t 33) (.c (.int .u8 127))⟩,
  ⟨(some 35), .none, .conv (.int .u64) (.t 34)⟩,
  ⟨(some 36), .none, .mv (.t 4)⟩,
  ⟨(some 37), .none, .bin .mul .num (.c (.int .i64 7)) (.t 36)⟩,
  ⟨(some 38), .none, .bin .shl .num (.t 35) (.t 37)⟩,
  ⟨(some 39), .none, .bin .or .num (.t 32) (.t 38)⟩,
  ⟨(some 3), .none, .mv (.t 39)⟩]
def f_wire_place_uint_r9 : List AOp := [
  ⟨(some 40), .none, .mv (.t 5)⟩,
  ⟨(some 41), .none, .bin .geq .num (.t 40) (.c (.int .u8 128))⟩]
def f_wire_place_uint_c3 : AC := (.cond (.t 41) (.exit 1) .skip)
def f_wire_place_uint_r10 : List AOp := [
  ⟨(some 42), .none, .mv (.t 5)⟩,
  ⟨(some 43), .none, .bin .eql .num (.t 42) (.c (.int .u8 0))⟩,
  ⟨(some 44), .none, .mv (.t 43)⟩,
  ⟨(some 45), (some (44, true)), .mv (.t 4)⟩,
  ⟨(some 46), (some (44, true)), .bin .gtr .num (.t 45) (.c (.int .i64 0))⟩,
  ⟨(some 47), .none, .pick (.t 44) (.t 46) (.c (.bool false))⟩]
def f_wire_place_uint_c4 : AC := (.cond (.t 47) (.exit 0) .skip)
def f_wire_place_uint_r11 : List AOp := [
  ⟨(some 48), .none, .mv (.t 0)⟩,
  ⟨(some 49), .none, .nilck (.t 48)⟩,
  ⟨(some 50), .none, .faddr 1 (.t 49)⟩,
  ⟨(some 51), .none, .load1 (.t 50)⟩,
  ⟨(some 52), .none, .mv (.t 4)⟩,
  ⟨(some 53), .none, .bin .add .num (.t 52) (.c (.int .i64 1))⟩,
  ⟨(some 54), .none, .bin .add .num (.t 51) (.t 53)⟩,
  ⟨(some 55), .none, .nilck (.t 48)⟩,
  ⟨(some 56), .none, .faddr 1 (.t 55)⟩,
  ⟨.none, .none, .store 1 (.t 56) (.t 54)⟩]
def f_wire_place_uint_r12 : List AOp := [
  ⟨(some 57), .none, .mv (.t 3)⟩,
  ⟨(some 2), .none, .mv (.t 57)⟩]
def f_wire_place_uint_c5 : AC := .ret
def f_wire_place_uint_c6 : AC := (.seq (.reg f_wire_place_uint_r12) f_wire_place_uint_c5)
def f_wire_place_uint_c7 : AC := (.seq (.reg f_wire_place_uint_r11) f_wire_place_uint_c6)
def f_wire_place_uint_c8 : AC := (.seq (.seq (.reg f_wire_place_uint_r10) f_wire_place_uint_c4) f_wire_place_uint_c7)
def f_wire_place_uint_c9 : AC := (.seq (.seq (.reg f_wire_place_uint_r9) f_wire_place_uint_c3) f_wire_place_uint_c8)
def f_wire_place_uint_c10 : AC := (.seq (.reg f_wire_place_uint_r8) f_wire_place_uint_c9)
def f_wire_place_uint_c11 : AC := (.seq (.seq (.reg f_wire_place_uint_r7) f_wire_place_uint_c2) f_wire_place_uint_c10)
def f_wire_place_uint_c12 : AC := (.seq (.dreg f_wire_place_uint_r6) f_wire_place_uint_c11)
def f_wire_place_uint_r4 : List AOp := [
  ⟨(some 8), .none, .mv (.t 4)⟩,
  ⟨(some 9), .none, .bin .add .num (.t 8) (.c (.int .i64 1))⟩,
  ⟨(some 4), .none, .mv (.t 9)⟩]
def f_wire_place_uint_c13 : AC := (.reg f_wire_place_uint_r4)
def f_wire_place_uint_c14 : AC := (.seq (.block 1 (.seq (.seq (.reg f_wire_place_uint_r5) f_wire_place_uint_c1) f_wire_place_uint_c12)) f_wire_place_uint_c13)
def f_wire_place_uint_c15 : AC := (.seq (.seq (.reg f_wire_place_uint_r3) f_wire_place_uint_c0) f_wire_place_uint_c14)
def f_wire_place_uint_c16 : AC := (.block 0 (.keep 6 [0, 3, 4] (.loop (.keep 6 [0, 3, 4] f_wire_place_uint_c15))))
def f_wire_place_uint_r13 : List AOp := [
  ⟨(some 58), .none, .mv (.t 0)⟩,
  ⟨(some 59), .none, .call 169 [(.t 58), (.c (.int .i64 6))]⟩]
def f_wire_place_uint_r14 : List AOp := [
  ⟨(some 2), .none, .mv (.c (.int .u64 0))⟩]
def f_wire_place_uint_c17 : AC := .ret
def f_wire_place_uint_c18 : AC := (.seq (.reg f_wire_place_uint_r14) f_wire_place_uint_c17)
def f_wire_place_uint_c19 : AC := (.seq (.reg f_wire_place_uint_r13) f_wire_place_uint_c18)
def f_wire_place_uint_c20 : AC := (.seq (.seq (.reg f_wire_place_uint_r2) f_wire_place_uint_c16) f_wire_place_uint_c19)
def f_wire_place_uint_c21 : AC := (.seq (.reg f_wire_place_uint_r1) f_wire_place_uint_c20)
def f_wire_place_uint : AF := ⟨60, [.tmp 2], (.seq (.reg f_wire_place_uint_r0) f_wire_place_uint_c21)⟩
/- wire_place_left -/
def f_wire_place_left_r0 : List AOp := [
  ⟨(some 2), .none, .mv (.c (.int .i64 0))⟩]
def f_wire_place_left_r1 : DR := ⟨[
  ⟨(some 3), .none, .mv (.t 0)⟩,
  ⟨(some 4), .none, .nilck (.t 3)⟩,
  ⟨(some 5), .none, .faddr 0 (.t 4)⟩,
  ⟨(some 6), .none, .load1 (.t 5)⟩,
  ⟨(some 7), .none, .len .slice (.t 6)⟩,
  ⟨(some 8), .none, .mv (.t 0)⟩,
  ⟨(some 9), .none, .nilck (.t 8)⟩,
  ⟨(some 10), .none, .faddr 1 (.t 9)⟩,
  ⟨(some 11), .none, .load1 (.t 10)⟩,
  ⟨(some 12), .none, .bin .sub .num (.t 7) (.t 11)⟩,
  ⟨(some 2), .none, .mv (.t 12)⟩],
  [0, 1, 3, 7, 15, 0, 32, 96, 224, 511, 1023], [0, 1, 2, 3, 4, 5, 6, 7, 8, 9, 10], [], .none⟩
def f_wire_place_left_c0 : AC := .ret
def f_wire_place_left_c1 : AC := (.seq (.dreg f_wire_place_left_r1) f_wire_place_left_c0)
def f_wire_place_left : AF := ⟨13, [.tmp 2], (.seq (.reg f_wire_place_left_r0) f_wire_place_left_c1)⟩
/- wire_place_fail -/
def f_wire_place_fail_r0 : List AOp := [
  ⟨(some 4), .none, .mv (.t 0)⟩,
  ⟨(some 5), .none, .nilck (.t 4)⟩,
  ⟨(some 6), .none, .faddr 2 (.t 5)⟩,
  ⟨(some 7), .none, .load1 (.t 6)⟩,
  ⟨(some 8), .none, .bin .eql .num (.t 7) (.c (.int .i64 0))⟩]
def f_wire_place_fail_r1 : List AOp := [
  ⟨(some 9), .none, .mv (.t 0)⟩,
  ⟨(some 10), .none, .mv (.t 1)⟩,
  ⟨(some 11), .none, .nilck (.t 9)⟩,
  ⟨(some 12), .none, .faddr 2 (.t 11)⟩,
  ⟨.none, .none, .store 1 (.t 12) (.t 10)⟩]
def f_wire_place_fail_c0 : AC := (.cond (.t 8) (.reg f_wire_place_fail_r1) .skip)
def f_wire_place_fail : AF := ⟨13, [], (.seq (.reg f_wire_place_fail_r0) f_wire_place_fail_c0)⟩
/- towpathref01_number -/
def f_towpathref01_number_r0 : List AOp := [
  ⟨(some 2), .none, .mv (.c (.int .u64 0))⟩,
  ⟨(some 3), .none, .mv (.c (.int .i64 0))⟩]
def f_towpathref01_number_r1 : List AOp := [
  ⟨(some 4), .none, .mv (.c (.int .i64 0))⟩]
def f_towpathref01_number_r2 : List AOp := [
  ⟨(some 7), .none, .mv (.t 4)⟩,
  ⟨(some 8), .none, .mv (.t 0)⟩,
  ⟨(some 9), .none, .len .slice (.t 8)⟩,
  ⟨(some 10), .none, .bin .lss .num (.t 7) (.t 9)⟩,
  ⟨(some 11), .none, .mv (.t 10)⟩,
  ⟨(some 12), (some (11, true)), .mv (.t 4)⟩,
  ⟨(some 13), (some (11, true)), .bin .lss .num (.t 12) (.c (.int .i64 10))⟩,
  ⟨(some 14), .none, .pick (.t 11) (.t 13) (.c (.bool false))⟩,
  ⟨(some 15), .none, .mv (.t 14)⟩,
  ⟨(some 16), (some (15, true)), .mv (.t 0)⟩,
  ⟨(some 17), (some (15, true)), .mv (.t 4)⟩,
  ⟨(some 18), (some (15, true)), .iaddr 1 (.t 16) (.t 17)⟩,
  ⟨(some 19), (some (15, true)), .load1 (.t 18)⟩,
  ⟨(some 20), (some (15, true)), .bin .geq .num (.t 19) (.c (.int .u8 128))⟩,
  ⟨(some 21), .none, .pick (.t 15) (.t 20) (.c (.bool false))⟩]
def f_towpathref01_number_c0 : AC := (.cond (.t 21) .skip (.exit 0))
def f_towpathref01_number_r3 : List AOp := [
  ⟨(some 22), .none, .mv (.t 4)⟩,
  ⟨(some 23), .none, .bin .add .num (.t 22) (.c (.int .i64 1))⟩,
  ⟨(some 4), .none, .mv (.t 23)⟩]
def f_towpathref01_number_c1 : AC := (.block 1 (.reg f_towpathref01_number_r3))
def f_towpathref01_number_c2 : AC := (.seq (.seq (.reg f_towpathref01_number_r2) f_towpathref01_number_c0) f_towpathref01_number_c1)
def f_towpathref01_number_r4 : List AOp := [
  ⟨(some 24), .none, .mv (.t 4)⟩,
  ⟨(some 25), .none, .mv (.t 0)⟩,
  ⟨(some 26), .none, .len .slice (.t 25)⟩,
  ⟨(some 27), .none, .bin .geq .num (.t 24) (.t 26)⟩,
  ⟨(some 28), .none, .mv (.t 27)⟩,
  ⟨(some 29), (some (28, false)), .mv (.t 4)⟩,
  ⟨(some 30), (some (28, false)), .bin .geq .num (.t 29) (.c (.int .i64 10))⟩,
  ⟨(some 31), .none, .pick (.t 28) (.c (.bool true)) (.t 30)⟩]
def f_towpathref01_number_r5 : List AOp := [
  ⟨(some 2), .none, .mv (.c (.int .u64 0))⟩,
  ⟨(some 3), .none, .mv (.c (.int .i64 0))⟩]
def f_towpathref01_number_c3 : AC := .ret
def f_towpathref01_number_c4 : AC := (.cond (.t 31) (.seq (.reg f_towpathref01_number_r5) f_towpathref01_number_c3) .skip)
def f_towpathref01_number_r6 : List AOp := [
  ⟨(some 32), .none, .mv (.t 4)⟩,
  ⟨(some 33), .none, .bin .gtr .num (.t 32) (.c (.int .i64 0))⟩,
  ⟨(some 34), .none, .mv (.t 33)⟩,
  ⟨(some 35), (some (34, true)), .mv (.t 0)⟩,
  ⟨(some 36), (some (34, true)), .mv (.t 4)⟩,
  ⟨(some 37), (some (34, true)), .iaddr 1 (.t 35) (.t 36)⟩,
  ⟨(some 38), (some (34, true)), .load1 (.t 37)⟩,
  ⟨(some 39), (some (34, true)), .bin .eql .num (.t 38) (.c (.int .u8 0))⟩,
  ⟨(some 40), .none, .pick (.t 34) (.t 39) (.c (.bool false))⟩,
  ⟨(some 41), .none, .mv (.t 40)⟩,
  ⟨(some 42), (some (41, false)), .mv (.t 4)⟩,
  ⟨(some 43), (some (41, false)), .bin .eql .num (.t 42) (.c (.int .i64 9))⟩,
  ⟨(some 44), (some (41, false)), .mv (.t 43)⟩,
  ⟨(some 45), (some (44, true)), .mv (.t 0)⟩,
  ⟨(some 46), (some (44, true)), .mv (.t 4)⟩,
  ⟨(some 47), (some (44, true)), .iaddr 1 (.t 45) (.t 46)⟩,
  ⟨(some 48), (some (44, true)), .load1 (.t 47)⟩,
  ⟨(some 49), (some (44, true)), .bin .gtr .num (.t 48) (.c (.int .u8 1))⟩,
  ⟨(some 50), (some (41, false)), .pick (.t 44) (.t 49) (.c (.bool false))⟩,
  ⟨(some 51), .none, .pick (.t 41) (.c (.bool true)) (.t 50)⟩]
def f_towpathref01_number_r7 : List AOp := [
  ⟨(some 2), .none, .mv (.c (.int .u64 0))⟩,
  ⟨(some 3), .none, .mv (.c (.int .i64 0))⟩]
def f_towpathref01_number_c5 : AC := .ret
def f_towpathref01_number_c6 : AC := (.cond (.t 51) (.seq (.reg f_towpathref01_number_r7) f_towpathref01_number_c5) .skip)
def f_towpathref01_number_r8 : List AOp := [
  ⟨(some 5), .none, .mv (.c (.int .u64 0))⟩]
def f_towpathref01_number_r9 : List AOp := [
  ⟨(some 52), .none, .mv (.t 4)⟩,
  ⟨(some 6), .none, .mv (.t 52)⟩]
def f_towpathref01_number_r10 : List AOp := [
  ⟨(some 53), .none, .mv (.t 6)⟩,
  ⟨(some 54), .none, .bin .geq .num (.t 53) (.c (.int .i64 0))⟩]
def f_towpathref01_number_c7 : AC := (.cond (.t 54) .skip (.exit 2))
def f_towpathref01_number_r12 : List AOp := [
  ⟨(some 57), .none, .mv (.t 5)⟩,
  ⟨(some 58), .none, .bin .mul .num (.t 57) (.c (.int .u64 128))⟩,
  ⟨(some 59), .none, .mv (.t 0)⟩,
  ⟨(some 60), .none, .mv (.t 6)⟩,
  ⟨(some 61), .none, .iaddr 1 (.t 59) (.t 60)⟩,
  ⟨(some 62), .none, .load1 (.t 61)⟩,
  ⟨(some 63), .none, .bin .rem .num (.t 62) (.c (.int .u8 128))⟩,
  ⟨(some 64), .none, .conv (.int .u64) (.t 63)⟩,
  ⟨(some 65), .none, .bin .add .num (.t 58) (.t 64)⟩,
  ⟨(some 5), .none, .mv (.t 65)⟩]
def f_towpathref01_number_r11 : List AOp := [
  ⟨(some 55), .none, .mv (.t 6)⟩,
  ⟨(some 56), .none, .bin .sub .num (.t 55) (.c (.int .i64 1))⟩,
  ⟨(some 6), .none, .mv (.t 56)⟩]
def f_towpathref01_number_c8 : AC := (.reg f_towpathref01_number_r11)
def f_towpathref01_number_c9 : AC := (.seq (.block 3 (.reg f_towpathref01_number_r12)) f_towpathref01_number_c8)
def f_towpathref01_number_c10 : AC := (.seq (.seq (.reg f_towpathref01_number_r10) f_towpathref01_number_c7) f_towpathref01_number_c9)
def f_towpathref01_number_c11 : AC := (.block 2 (.keep 7 [0, 4, 5, 6] (.loop (.keep 7 [0, 4, 5, 6] f_towpathref01_number_c10))))
def f_towpathref01_number_r13 : List AOp := [
  ⟨(some 66), .none, .mv (.t 5)⟩,
  ⟨(some 67), .none, .mv (.t 4)⟩,
  ⟨(some 68), .none, .bin .add .num (.t 67) (.c (.int .i64 1))⟩,
  ⟨(some 2), .none, .mv (.t 66)⟩,
  ⟨(some 3), .none, .mv (.t 68)⟩]
def f_towpathref01_number_c12 : AC := .ret
def f_towpathref01_number_c13 : AC := (.seq (.reg f_towpathref01_number_r13) f_towpathref01_number_c12)
def f_towpathref01_number_c14 : AC := (.seq (.seq (.reg f_towpathref01_number_r9) f_towpathref01_number_c11) f_towpathref01_number_c13)
def f_towpathref01_number_c15 : AC := (.seq (.reg f_towpathref01_number_r8) f_towpathref01_number_c14)
def f_towpathref01_number_c16 : AC := (.seq (.seq (.reg f_towpathref01_number_r6) f_towpathref01_number_c6) f_towpathref01_number_c15)
def f_towpathref01_number_c17 : AC := (.seq (.seq (.reg f_towpathref01_number_r4) f_towpathref01_number_c4) f_towpathref01_number_c16)
def f_towpathref01_number_c18 : AC := (.seq (.block 0 (.keep 7 [0, 4] (.loop (.keep 7 [0, 4] f_towpathref01_number_c2)))) f_towpathref01_number_c17)
def f_towpathref01_number_c19 : AC := (.seq (.reg f_towpathref01_number_r1) f_towpathref01_number_c18)
def f_towpathref01_number : AF := ⟨69, [.tmp 2, .tmp 3], (.seq (.reg f_towpathref01_number_r0) f_towpathref01_number_c19)⟩
/- towpathref01_Reader_fail -/
def f_towpathref01_Reader_fail_r0 : List AOp := [
  ⟨(some 4), .none, .mv (.t 0)⟩,
  ⟨(some 5), .none, .nilck (.t 4)⟩,
  ⟨(some 6), .none, .faddr 2 (.t 5)⟩,
  ⟨(some 7), .none, .load1 (.t 6)⟩,
  ⟨(some 8), .none, .bin .eql .num (.t 7) (.c (.int .i64 0))⟩]
def f_towpathref01_Reader_fail_r1 : List AOp := [
  ⟨(some 9), .none, .mv (.t 0)⟩,
  ⟨(some 10), .none, .mv (.t 1)⟩,
  ⟨(some 11), .none, .nilck (.t 9)⟩,
  ⟨(some 12), .none, .faddr 2 (.t 11)⟩,
  ⟨.none, .none, .store 1 (.t 12) (.t 10)⟩]
def f_towpathref01_Reader_fail_c0 : AC := (.cond (.t 8) (.reg f_towpathref01_Reader_fail_r1) .skip)
def f_towpathref01_Reader_fail : AF := ⟨13, [], (.seq (.reg f_towpathref01_Reader_fail_r0) f_towpathref01_Reader_fail_c0)⟩
/- compact_New -/
def f_compact_New_r0 : List AOp := [
  ⟨(some 0), .none, .mv (.c .nilp)⟩]
def f_compact_New_r1 : List AOp := [
  ⟨(some 1), .none, .build [(.int .i64 0), .nils] []⟩,
  ⟨(some 2), .none, .box (.t 1)⟩,
  ⟨(some 0), .none, .mv (.t 2)⟩]
def f_compact_New_c0 : AC := .ret
def f_compact_New_c1 : AC := (.seq (.reg f_compact_New_r1) f_compact_New_c0)
def f_compact_New : AF := ⟨3, [.tmp 0], (.seq (.reg f_compact_New_r0) f_compact_New_c1)⟩
/- seglog_Log_Append -/
def f_seglog_Log_Append_r0 : List AOp := [
  ⟨(some 4), .none, .mv (.c (.int .i64 0))⟩,
  ⟨(some 5), .none, .mv (.c (.int .i64 0))⟩]
def f_seglog_Log_Append_r1 : List AOp := [
  ⟨(some 18), .none, .mv (.t 0)⟩,
  ⟨(some 19), .none, .bin .eql .ptr (.t 18) (.c .nilp)⟩]
def f_seglog_Log_Append_r2 : List AOp := [
  ⟨(some 4), .none, .mv (.c (.int .i64 0))⟩,
  ⟨(some 5), .none, .mv (.c (.int .i64 1))⟩]
def f_seglog_Log_Append_c0 : AC := .ret
def f_seglog_Log_Append_c1 : AC := (.cond (.t 19) (.seq (.reg f_seglog_Log_Append_r2) f_seglog_Log_Append_c0) .skip)
def f_seglog_Log_Append_r3 : List AOp := [
  ⟨(some 20), .none, .mv (.t 1)⟩,
  ⟨(some 21), .none, .len .slice (.t 20)⟩,
  ⟨(some 22), .none, .bin .eql .num (.t 21) (.c (.int .i64 0))⟩]
def f_seglog_Log_Append_r4 : List AOp := [
  ⟨(some 4), .none, .mv (.c (.int .i64 0))⟩,
  ⟨(some 5), .none, .mv (.c (.int .i64 3))⟩]
def f_seglog_Log_Append_c2 : AC := .ret
def f_seglog_Log_Append_c3 : AC := (.cond (.t 22) (.seq (.reg f_seglog_Log_Append_r4) f_seglog_Log_Append_c2) .skip)
def f_seglog_Log_Append_r5 : List AOp := [
  ⟨(some 24), .none, .mv (.t 0)⟩,
  ⟨(some 25), .none, .mv (.t 1)⟩,
  ⟨(some 26), .none, .call 247 [(.t 24), (.t 25)]⟩,
  ⟨(some 23), .none, .mv (.t 26)⟩,
  ⟨(some 27), .none, .ext (.t 23) 0⟩,
  ⟨(some 28), .none, .ext (.t 23) 1⟩,
  ⟨(some 29), .none, .ext (.t 23) 2⟩,
  ⟨(some 6), .none, .mv (.t 27)⟩,
  ⟨(some 7), .none, .mv (.t 28)⟩,
  ⟨(some 8), .none, .mv (.t 29)⟩]
def f_seglog_Log_Append_r6 : List AOp := [
  ⟨(some 30), .none, .mv (.t 8)⟩,
  ⟨(some 31), .none, .bin .neq .num (.t 30) (.c (.int .i64 0))⟩]
def f_seglog_Log_Append_r7 : List AOp := [
  ⟨(some 32), .none, .mv (.t 8)⟩,
  ⟨(some 4), .none, .mv (.c (.int .i64 0))⟩,
  ⟨(some 5), .none, .mv (.t 32)⟩]
def f_seglog_Log_Append_c4 : AC := .ret
def f_seglog_Log_Append_c5 : AC := (.cond (.t 31) (.seq (.reg f_seglog_Log_Append_r7) f_seglog_Log_Append_c4) .skip)
def f_seglog_Log_Append_r8 : List AOp := [
  ⟨(some 9), .none, .mv (.c (.int .i64 0))⟩]
def f_seglog_Log_Append_r9 : List AOp := [
  ⟨(some 33), .none, .mv (.t 7)⟩,
  ⟨(some 34), .none, .len .slice (.t 33)⟩,
  ⟨(some 35), .none, .mv (.c (.int .i64 0))⟩]
def f_seglog_Log_Append_r10 : List AOp := [
  ⟨(some 36), .none, .bin .lss .num (.t 35) (.t 34)⟩]
def f_seglog_Log_Append_r11 : List AOp := [
  ⟨(some 37), .none, .iaddr 1 (.t 33) (.t 35)⟩,
  ⟨(some 38), .none, .load1 (.t 37)⟩,
  ⟨(some 11), .none, .mv (.t 38)⟩]
def f_seglog_Log_Append_r12 : List AOp := [
  ⟨(some 39), .none, .mv (.t 9)⟩,
  ⟨(some 40), .none, .mv (.t 11)⟩,
  ⟨(some 41), .none, .len .slice (.t 40)⟩,
  ⟨(some 42), .none, .bin .add .num (.t 39) (.t 41)⟩,
  ⟨(some 9), .none, .mv (.t 42)⟩]
def f_seglog_Log_Append_c6 : AC := (.reg f_seglog_Log_Append_r12)
def f_seglog_Log_Append_r13 : List AOp := [
  ⟨(some 43), .none, .bin .add .num (.t 35) (.c (.int .i64 1))⟩,
  ⟨(some 35), .none, .mv (.t 43)⟩]
def f_seglog_Log_Append_c7 : AC := (.reg f_seglog_Log_Append_r13)
def f_seglog_Log_Append_c8 : AC := (.seq (.block 1 (.seq (.reg f_seglog_Log_Append_r11) f_seglog_Log_Append_c6)) f_seglog_Log_Append_c7)
def f_seglog_Log_Append_c9 : AC := (.seq (.cond (.t 36) .skip (.exit 0)) f_seglog_Log_Append_c8)
def f_seglog_Log_Append_c10 : AC := (.seq (.reg f_seglog_Log_Append_r10) f_seglog_Log_Append_c9)
def f_seglog_Log_Append_c11 : AC := (.block 0 (.keep 7 [0, 6, 7, 9, 33, 34, 35] (.loop (.keep 7 [0, 6, 7, 9, 33, 34, 35] f_seglog_Log_Append_c10))))
def f_seglog_Log_Append_r14 : List AOp := [
  ⟨(some 44), .none, .mv (.t 0)⟩,
  ⟨(some 45), .none, .call 205 [(.t 44)]⟩,
  ⟨(some 12), .none, .mv (.t 45)⟩]
def f_seglog_Log_Append_r15 : List AOp := [
  ⟨(some 46), .none, .mv (.t 0)⟩,
  ⟨(some 47), .none, .mv (.t 9)⟩,
  ⟨(some 48), .none, .call 248 [(.t 46), (.t 47)]⟩,
  ⟨(some 49), .none, .un .not (.t 48)⟩]
def f_seglog_Log_Append_r16 : List AOp := [
  ⟨(some 50), .none, .mv (.t 0)⟩,
  ⟨(some 51), .none, .call 174 [(.t 50)]⟩,
  ⟨(some 13), .none, .mv (.t 51)⟩]
def f_seglog_Log_Append_r17 : List AOp := [
  ⟨(some 52), .none, .mv (.t 13)⟩,
  ⟨(some 53), .none, .bin .neq .num (.t 52) (.c (.int .i64 0))⟩]
def f_seglog_Log_Append_r18 : List AOp := [
  ⟨(some 54), .none, .mv (.t 13)⟩,
  ⟨(some 4), .none, .mv (.c (.int .i64 0))⟩,
  ⟨(some 5), .none, .mv (.t 54)⟩]
def f_seglog_Log_Append_c12 : AC := .ret
def f_seglog_Log_Append_c13 : AC := (.cond (.t 53) (.seq (.reg f_seglog_Log_Append_r18) f_seglog_Log_Append_c12) .skip)
def f_seglog_Log_Append_c14 : AC := (.seq (.reg f_seglog_Log_Append_r17) f_seglog_Log_Append_c13)
def f_seglog_Log_Append_r19 : List AOp := [
  ⟨(some 55), .none, .mv (.t 0)⟩,
  ⟨(some 56), .none, .mv (.t 0)⟩,
  ⟨(some 57), .none, .call 105 [(.t 56)]⟩,
  ⟨(some 58), .none, .call 230 [(.t 55), (.t 57), (.c (.int .i64 0))]⟩,
  ⟨(some 12), .none, .mv (.t 58)⟩]
def f_seglog_Log_Append_r20 : DR := ⟨[
  ⟨(some 59), .none, .mv (.t 0)⟩,
  ⟨(some 60), .none, .nilck (.t 59)⟩,
  ⟨(some 61), .none, .faddr 0 (.t 60)⟩,
  ⟨(some 62), .none, .load1 (.t 61)⟩,
  ⟨(some 63), .none, .mv (.t 0)⟩,
  ⟨(some 64), .none, .mv (.t 12)⟩,
  ⟨(some 65), .none, .nilck (.t 64)⟩,
  ⟨(some 66), .none, .faddr 1 (.t 65)⟩,
  ⟨(some 67), .none, .load1 (.t 66)⟩,
  ⟨(some 68), .none, .call 139 [(.t 63), (.t 67), (.c (.str [46, 108, 111, 103]))]⟩,
  ⟨(some 69), .none, .mv (.t 12)⟩,
  ⟨(some 70), .none, .nilck (.t 69)⟩,
  ⟨(some 71), .none, .faddr 1 (.t 70)⟩,
  ⟨(some 72), .none, .load1 (.t 71)⟩,
  ⟨(some 73), .none, .call 249 [(.t 72), (.c (.int .i64 0))]⟩,
  ⟨(some 74), .none, .bsl false 1 1 [.nils] [(0, 1, (.t 73))]⟩,
  ⟨(some 75), .none, .mv (.t 7)⟩,
  ⟨(some 76), .none, .app false 1 24 (.t 74) (.t 75)⟩,
  ⟨(some 77), .none, .call 195 [(.t 62), (.t 68), (.t 76)]⟩,
  ⟨(some 14), .none, .mv (.t 77)⟩],
  [0, 1, 3, 7, 0, 0, 32, 96, 224, 496, 0, 1024, 3072, 7168, 16368, 32752, 0, 131056, 262143, 524287], [0, 1, 2, 3, 4, 5, 6, 7, 8, 9, 10, 11, 12, 13, 14, 15, 16, 17, 18, 19], [(3, 1), (3, 2), (3, 3), (13, 0)], .none⟩
def f_seglog_Log_Append_r21 : List AOp := [
  ⟨(some 78), .none, .mv (.t 14)⟩,
  ⟨(some 79), .none, .bin .neq .num (.t 78) (.c (.int .i64 0))⟩]
def f_seglog_Log_Append_r22 : List AOp := [
  ⟨(some 80), .none, .mv (.t 14)⟩,
  ⟨(some 4), .none, .mv (.c (.int .i64 0))⟩,
  ⟨(some 5), .none, .mv (.t 80)⟩]
def f_seglog_Log_Append_c15 : AC := .ret
def f_seglog_Log_Append_c16 : AC := (.cond (.t 79) (.seq (.reg f_seglog_Log_Append_r22) f_seglog_Log_Append_c15) .skip)
def f_seglog_Log_Append_c17 : AC := (.seq (.reg f_seglog_Log_Append_r21) f_seglog_Log_Append_c16)
def f_seglog_Log_Append_r23 : List AOp := [
  ⟨(some 81), .none, .mv (.t 0)⟩,
  ⟨(some 82), .none, .mv (.t 12)⟩,
  ⟨(some 83), .none, .call 233 [(.t 81), (.t 82)]⟩]
def f_seglog_Log_Append_c18 : AC := (.reg f_seglog_Log_Append_r23)
def f_seglog_Log_Append_c19 : AC := (.seq (.seq (.dreg f_seglog_Log_Append_r20) f_seglog_Log_Append_c17) f_seglog_Log_Append_c18)
def f_seglog_Log_Append_c20 : AC := (.seq (.reg f_seglog_Log_Append_r19) f_seglog_Log_Append_c19)
def f_seglog_Log_Append_r24 : DR := ⟨[
  ⟨(some 84), .none, .mv (.t 0)⟩,
  ⟨(some 85), .none, .nilck (.t 84)⟩,
  ⟨(some 86), .none, .faddr 0 (.t 85)⟩,
  ⟨(some 87), .none, .load1 (.t 86)⟩,
  ⟨(some 88), .none, .mv (.t 0)⟩,
  ⟨(some 89), .none, .mv (.t 12)⟩,
  ⟨(some 90), .none, .nilck (.t 89)⟩,
  ⟨(some 91), .none, .faddr 1 (.t 90)⟩,
  ⟨(some 92), .none, .load1 (.t 91)⟩,
  ⟨(some 93), .none, .call 139 [(.t 88), (.t 92), (.c (.str [46, 108, 111, 103]))]⟩,
  ⟨(some 94), .none, .mv (.t 7)⟩,
  ⟨(some 95), .none, .call 195 [(.t 87), (.t 93), (.t 94)]⟩,
  ⟨(some 15), .none, .mv (.t 95)⟩],
  [0, 1, 3, 7, 0, 0, 32, 96, 224, 496, 0, 2047, 4095], [0, 1, 2, 3, 4, 5, 6, 7, 8, 9, 10, 11, 12], [(3, 1)], .none⟩
def f_seglog_Log_Append_r25 : List AOp := [
  ⟨(some 96), .none, .mv (.t 15)⟩,
  ⟨(some 97), .none, .bin .neq .num (.t 96) (.c (.int .i64 0))⟩]
def f_seglog_Log_Append_r26 : List AOp := [
  ⟨(some 98), .none, .mv (.t 15)⟩,
  ⟨(some 4), .none, .mv (.c (.int .i64 0))⟩,
  ⟨(some 5), .none, .mv (.t 98)⟩]
def f_seglog_Log_Append_c21 : AC := .ret
def f_seglog_Log_Append_c22 : AC := (.cond (.t 97) (.seq (.reg f_seglog_Log_Append_r26) f_seglog_Log_Append_c21) .skip)
def f_seglog_Log_Append_c23 : AC := (.seq (.reg f_seglog_Log_Append_r25) f_seglog_Log_Append_c22)
def f_seglog_Log_Append_c24 : AC := (.cond (.t 49) (.seq (.seq (.reg f_seglog_Log_Append_r16) f_seglog_Log_Append_c14) f_seglog_Log_Append_c20) (.seq (.dreg f_seglog_Log_Append_r24) f_seglog_Log_Append_c23))
def f_seglog_Log_Append_r27 : List AOp := [
  ⟨(some 99), .none, .mv (.t 6)⟩,
  ⟨(some 100), .none, .len .slice (.t 99)⟩,
  ⟨(some 101), .none, .mv (.c (.int .i64 0))⟩]
def f_seglog_Log_Append_r28 : List AOp := [
  ⟨(some 102), .none, .bin .lss .num (.t 101) (.t 100)⟩]
def f_seglog_Log_Append_r29 : List AOp := [
  ⟨(some 103), .none, .mv (.t 101)⟩,
  ⟨(some 104), .none, .iaddr 7 (.t 99) (.t 101)⟩,
  ⟨(some 105), .none, .loadn 7 (.t 104)⟩,
  ⟨(some 17), .none, .alloc [(.int .i64 0), (.int .i64 0), (.int .i64 0), (.int .i64 0), (.int .i64 0), (.int .i64 0), .nils]⟩,
  ⟨(some 16), .none, .mv (.t 103)⟩,
  ⟨.none, .none, .store 7 (.t 17) (.t 105)⟩]
def f_seglog_Log_Append_r30 : DR := ⟨[
  ⟨(some 106), .none, .mv (.t 12)⟩,
  ⟨(some 107), .none, .loadn 7 (.t 17)⟩,
  ⟨(some 108), .none, .mv (.t 7)⟩,
  ⟨(some 109), .none, .mv (.t 16)⟩,
  ⟨(some 110), .none, .iaddr 1 (.t 108) (.t 109)⟩,
  ⟨(some 111), .none, .load1 (.t 110)⟩,
  ⟨(some 112), .none, .len .slice (.t 111)⟩,
  ⟨(some 113), .none, .call 232 [(.t 106), (.t 107), (.t 112)]⟩],
  [0, 0, 0, 0, 12, 28, 60, 127], [0, 1, 2, 3, 4, 5, 6, 7], [], .none⟩
def f_seglog_Log_Append_c25 : AC := (.dreg f_seglog_Log_Append_r30)
def f_seglog_Log_Append_r31 : List AOp := [
  ⟨(some 114), .none, .bin .add .num (.t 101) (.c (.int .i64 1))⟩,
  ⟨(some 101), .none, .mv (.t 114)⟩]
def f_seglog_Log_Append_c26 : AC := (.reg f_seglog_Log_Append_r31)
def f_seglog_Log_Append_c27 : AC := (.seq (.block 3 (.seq (.reg f_seglog_Log_Append_r29) f_seglog_Log_Append_c25)) f_seglog_Log_Append_c26)
def f_seglog_Log_Append_c28 : AC := (.seq (.cond (.t 102) .skip (.exit 2)) f_seglog_Log_Append_c27)
def f_seglog_Log_Append_c29 : AC := (.seq (.reg f_seglog_Log_Append_r28) f_seglog_Log_Append_c28)
def f_seglog_Log_Append_c30 : AC := (.block 2 (.keep 7 [6, 7, 12, 99, 100, 101] (.loop (.keep 7 [6, 7, 12, 99, 100, 101] f_seglog_Log_Append_c29))))
def f_seglog_Log_Append_r32 : List AOp := [
  ⟨(some 115), .none, .mv (.t 6)⟩,
  ⟨(some 116), .none, .iaddr 7 (.t 115) (.c (.int .i64 0))⟩,
  ⟨(some 117), .none, .faddr 0 (.t 116)⟩,
  ⟨(some 118), .none, .load1 (.t 117)⟩,
  ⟨(some 4), .none, .mv (.t 118)⟩,
  ⟨(some 5), .none, .mv (.c (.int .i64 0))⟩]
def f_seglog_Log_Append_c31 : AC := .ret
def f_seglog_Log_Append_c32 : AC := (.seq (.reg f_seglog_Log_Append_r32) f_seglog_Log_Append_c31)
def f_seglog_Log_Append_c33 : AC := (.keep 7 [6, 7, 12] (.seq (.seq (.reg f_seglog_Log_Append_r27) f_seglog_Log_Append_c30) f_seglog_Log_Append_c32))
def f_seglog_Log_Append_c34 : AC := (.seq (.seq (.reg f_seglog_Log_Append_r15) f_seglog_Log_Append_c24) f_seglog_Log_Append_c33)
def f_seglog_Log_Append_c35 : AC := (.seq (.reg f_seglog_Log_Append_r14) f_seglog_Log_Append_c34)
def f_seglog_Log_Append_c36 : AC := (.seq (.seq (.reg f_seglog_Log_Append_r9) f_seglog_Log_Append_c11) f_seglog_Log_Append_c35)
def f_seglog_Log_Append_c37 : AC := (.seq (.reg f_seglog_Log_Append_r8) f_seglog_Log_Append_c36)
def f_seglog_Log_Append_c38 : AC := (.seq (.seq (.reg f_seglog_Log_Append_r6) f_seglog_Log_Append_c5) f_seglog_Log_Append_c37)
def f_seglog_Log_Append_c39 : AC := (.seq (.reg f_seglog_Log_Append_r5) f_seglog_Log_Append_c38)
def f_seglog_Log_Append_c40 : AC := (.seq (.seq (.reg f_seglog_Log_Append_r3) f_seglog_Log_Append_c3) f_seglog_Log_Append_c39)
def f_seglog_Log_Append_c41 : AC := (.seq (.seq (.reg f_seglog_Log_Append_r1) f_seglog_Log_Append_c1) f_seglog_Log_Append_c40)
def f_seglog_Log_Append : AF := ⟨119, [.tmp 4, .tmp 5], (.seq (.reg f_seglog_Log_Append_r0) f_seglog_Log_Append_c41)⟩
/- seglog_Log_Sync -/
def f_seglog_Log_Sync_r0 : List AOp := [
  ⟨(some 2), .none, .mv (.c (.int .i64 0))⟩]
def f_seglog_Log_Sync_r1 : List AOp := [
  ⟨(some 4), .none, .mv (.t 0)⟩,
  ⟨(some 5), .none, .bin .eql .ptr (.t 4) (.c .nilp)⟩]
def f_seglog_Log_Sync_r2 : List AOp := [
  ⟨(some 2), .none, .mv (.c (.int .i64 1))⟩]
def f_seglog_Log_Sync_c0 : AC := .ret
def f_seglog_Log_Sync_c1 : AC := (.cond (.t 5) (.seq (.reg f_seglog_Log_Sync_r2) f_seglog_Log_Sync_c0) .skip)
def f_seglog_Log_Sync_r3 : List AOp := [
  ⟨(some 6), .none, .mv (.t 0)⟩,
  ⟨(some 7), .none, .call 205 [(.t 6)]⟩,
  ⟨(some 3), .none, .mv (.t 7)⟩]
def f_seglog_Log_Sync_r4 : List AOp := [
  ⟨(some 8), .none, .mv (.t 3)⟩,
  ⟨(some 9), .none, .bin .neq .ptr (.t 8) (.c .nilp)⟩]
def f_seglog_Log_Sync_r5 : DR := ⟨[
  ⟨(some 10), .none, .mv (.t 0)⟩,
  ⟨(some 11), .none, .nilck (.t 10)⟩,
  ⟨(some 12), .none, .faddr 0 (.t 11)⟩,
  ⟨(some 13), .none, .load1 (.t 12)⟩,
  ⟨(some 14), .none, .mv (.t 0)⟩,
  ⟨(some 15), .none, .mv (.t 3)⟩,
  ⟨(some 16), .none, .nilck (.t 15)⟩,
  ⟨(some 17), .none, .faddr 1 (.t 16)⟩,
  ⟨(some 18), .none, .load1 (.t 17)⟩,
  ⟨(some 19), .none, .call 139 [(.t 14), (.t 18), (.c (.str [46, 108, 111, 103]))]⟩,
  ⟨(some 20), .none, .bsl false 1 1 [(.str [])] [(0, 1, (.t 19))]⟩,
  ⟨(some 21), .none, .call 196 [(.t 13), (.t 20)]⟩,
  ⟨(some 2), .none, .mv (.t 21)⟩],
  [0, 1, 3, 7, 0, 0, 32, 96, 224, 496, 1008, 2047, 4095], [0, 1, 2, 3, 4, 5, 6, 7, 8, 9, 10, 11, 12], [(3, 1)], .none⟩
def f_seglog_Log_Sync_c2 : AC := .ret
def f_seglog_Log_Sync_c3 : AC := (.cond (.t 9) (.seq (.dreg f_seglog_Log_Sync_r5) f_seglog_Log_Sync_c2) .skip)
def f_seglog_Log_Sync_c4 : AC := (.seq (.reg f_seglog_Log_Sync_r4) f_seglog_Log_Sync_c3)
def f_seglog_Log_Sync_r6 : List AOp := [
  ⟨(some 2), .none, .mv (.c (.int .i64 0))⟩]
def f_seglog_Log_Sync_c5 : AC := .ret
def f_seglog_Log_Sync_c6 : AC := (.seq (.reg f_seglog_Log_Sync_r6) f_seglog_Log_Sync_c5)
def f_seglog_Log_Sync_c7 : AC := (.seq (.seq (.reg f_seglog_Log_Sync_r3) f_seglog_Log_Sync_c4) f_seglog_Log_Sync_c6)
def f_seglog_Log_Sync_c8 : AC := (.seq (.seq (.reg f_seglog_Log_Sync_r1) f_seglog_Log_Sync_c1) f_seglog_Log_Sync_c7)
def f_seglog_Log_Sync : AF := ⟨22, [.tmp 2], (.seq (.reg f_seglog_Log_Sync_r0) f_seglog_Log_Sync_c8)⟩
/- rec_Copy -/
def f_rec_Copy_r0 : List AOp := [
  ⟨(some 1), .none, .box (.t 0)⟩,
  ⟨(some 2), .none, .alloc [(.int .i64 0), (.int .i64 0), (.int .i64 0), (.int .i64 0), (.int .i64 0), (.int .i64 0), .nils]⟩]
def f_rec_Copy_r1 : List AOp := [
  ⟨(some 3), .none, .faddr 6 (.t 1)⟩,
  ⟨(some 4), .none, .load1 (.t 3)⟩,
  ⟨(some 5), .none, .app false 4 48 (.c .nils) (.t 4)⟩,
  ⟨(some 6), .none, .faddr 6 (.t 1)⟩,
  ⟨.none, .none, .store 1 (.t 6) (.t 5)⟩]
def f_rec_Copy_r2 : List AOp := [
  ⟨(some 7), .none, .loadn 7 (.t 1)⟩,
  ⟨.none, .none, .store 7 (.t 2) (.t 7)⟩]
def f_rec_Copy_c0 : AC := .ret
def f_rec_Copy_c1 : AC := (.seq (.reg f_rec_Copy_r2) f_rec_Copy_c0)
def f_rec_Copy_c2 : AC := (.seq (.reg f_rec_Copy_r1) f_rec_Copy_c1)
def f_rec_Copy : AF := ⟨8, [.celln 2 7], (.seq (.reg f_rec_Copy_r0) f_rec_Copy_c2)⟩
/- dedup_Table_Judge -/
def f_dedup_Table_Judge_r0 : List AOp := [
  ⟨(some 3), .none, .box (.t 1)⟩,
  ⟨(some 4), .none, .alloc [(.bool false), (.int .i64 0)]⟩,
  ⟨(some 5), .none, .mv (.c (.int .i64 0))⟩]
def f_dedup_Table_Judge_r1 : List AOp := [
  ⟨(some 11), .none, .mv (.t 0)⟩,
  ⟨(some 12), .none, .bin .eql .ptr (.t 11) (.c .nilp)⟩]
def f_dedup_Table_Judge_r2 : List AOp := [
  ⟨(some 13), .none, .build [(.bool false), (.int .i64 0)] []⟩,
  ⟨.none, .none, .store 2 (.t 4) (.t 13)⟩,
  ⟨(some 5), .none, .mv (.c (.int .i64 1))⟩]
def f_dedup_Table_Judge_c0 : AC := .ret
def f_dedup_Table_Judge_c1 : AC := (.cond (.t 12) (.seq (.reg f_dedup_Table_Judge_r2) f_dedup_Table_Judge_c0) .skip)
def f_dedup_Table_Judge_r3 : List AOp := [
  ⟨(some 14), .none, .loadn 7 (.t 3)⟩,
  ⟨(some 15), .none, .call 186 [(.t 14)]⟩,
  ⟨(some 6), .none, .mv (.t 15)⟩]
def f_dedup_Table_Judge_r4 : List AOp := [
  ⟨(some 16), .none, .mv (.t 6)⟩,
  ⟨(some 17), .none, .bin .neq .num (.t 16) (.c (.int .i64 0))⟩,
  ⟨(some 18), .none, .mv (.t 17)⟩,
  ⟨(some 19), (some (18, false)), .faddr 1 (.t 3)⟩,
  ⟨(some 20), (some (18, false)), .load1 (.t 19)⟩,
  ⟨(some 21), (some (18, false)), .bin .eql .num (.t 20) (.c (.int .i64 0))⟩,
  ⟨(some 22), .none, .pick (.t 18) (.c (.bool true)) (.t 21)⟩]
def f_dedup_Table_Judge_r5 : List AOp := [
  ⟨(some 23), .none, .build [(.bool false), (.int .i64 0)] []⟩,
  ⟨(some 24), .none, .mv (.t 6)⟩,
  ⟨.none, .none, .store 2 (.t 4) (.t 23)⟩,
  ⟨(some 5), .none, .mv (.t 24)⟩]
def f_dedup_Table_Judge_c2 : AC := .ret
def f_dedup_Table_Judge_c3 : AC := (.cond (.t 22) (.seq (.reg f_dedup_Table_Judge_r5) f_dedup_Table_Judge_c2) .skip)
def f_dedup_Table_Judge_c4 : AC := (.seq (.reg f_dedup_Table_Judge_r4) f_dedup_Table_Judge_c3)
def f_dedup_Table_Judge_r6 : List AOp := [
  ⟨(some 26), .none, .mv (.t 0)⟩,
  ⟨(some 27), .none, .faddr 1 (.t 3)⟩,
  ⟨(some 28), .none, .load1 (.t 27)⟩,
  ⟨(some 29), .none, .call 243 [(.t 26), (.t 28)]⟩,
  ⟨(some 25), .none, .mv (.t 29)⟩,
  ⟨(some 30), .none, .ext (.t 25) 0⟩,
  ⟨(some 31), .none, .ext (.t 25) 1⟩,
  ⟨(some 7), .none, .alloc [(.int .i64 0), (.int .i64 0), (.int .i64 0), (.int .i64 0), (.int .i64 0), (.int .i64 0), (.int .i64 0)]⟩,
  ⟨.none, .none, .store 7 (.t 7) (.t 30)⟩,
  ⟨(some 8), .none, .mv (.t 31)⟩]
def f_dedup_Table_Judge_r7 : List AOp := [
  ⟨(some 32), .none, .faddr 2 (.t 3)⟩,
  ⟨(some 33), .none, .load1 (.t 32)⟩,
  ⟨(some 34), .none, .faddr 1 (.t 7)⟩,
  ⟨(some 35), .none, .load1 (.t 34)⟩,
  ⟨(some 36), .none, .bin .lss .num (.t 33) (.t 35)⟩]
def f_dedup_Table_Judge_r8 : List AOp := [
  ⟨(some 37), .none, .loadn 7 (.t 3)⟩,
  ⟨(some 38), .none, .call 250 [(.t 37)]⟩]
def f_dedup_Table_Judge_r9 : List AOp := [
  ⟨(some 39), .none, .build [(.bool false), (.int .i64 0)] [(0, 1, (.c (.bool true))), (1, 1, (.c (.int .i64 (-1))))]⟩,
  ⟨.none, .none, .store 2 (.t 4) (.t 39)⟩,
  ⟨(some 5), .none, .mv (.c (.int .i64 0))⟩]
def f_dedup_Table_Judge_c5 : AC := .ret
def f_dedup_Table_Judge_c6 : AC := (.cond (.t 38) (.seq (.reg f_dedup_Table_Judge_r9) f_dedup_Table_Judge_c5) .skip)
def f_dedup_Table_Judge_r10 : List AOp := [
  ⟨(some 40), .none, .build [(.bool false), (.int .i64 0)] []⟩,
  ⟨.none, .none, .store 2 (.t 4) (.t 40)⟩,
  ⟨(some 5), .none, .mv (.c (.int .i64 20))⟩]
def f_dedup_Table_Judge_c7 : AC := .ret
def f_dedup_Table_Judge_c8 : AC := (.seq (.reg f_dedup_Table_Judge_r10) f_dedup_Table_Judge_c7)
def f_dedup_Table_Judge_c9 : AC := (.cond (.t 36) (.seq (.seq (.reg f_dedup_Table_Judge_r8) f_dedup_Table_Judge_c6) f_dedup_Table_Judge_c8) .skip)
def f_dedup_Table_Judge_r11 : List AOp := [
  ⟨(some 41), .none, .loadn 7 (.t 3)⟩,
  ⟨(some 42), .none, .call 250 [(.t 41)]⟩,
  ⟨(some 43), .none, .un .not (.t 42)⟩]
def f_dedup_Table_Judge_r12 : List AOp := [
  ⟨(some 45), .none, .loadn 7 (.t 7)⟩,
  ⟨(some 46), .none, .loadn 7 (.t 3)⟩,
  ⟨(some 47), .none, .call 251 [(.t 45), (.t 46)]⟩,
  ⟨(some 44), .none, .mv (.t 47)⟩,
  ⟨(some 48), .none, .ext (.t 44) 0⟩,
  ⟨(some 49), .none, .ext (.t 44) 1⟩,
  ⟨(some 9), .none, .alloc [(.bool false), (.int .i64 0)]⟩,
  ⟨.none, .none, .store 2 (.t 9) (.t 48)⟩,
  ⟨(some 10), .none, .mv (.t 49)⟩]
def f_dedup_Table_Judge_r13 : List AOp := [
  ⟨(some 50), .none, .mv (.t 10)⟩]
def f_dedup_Table_Judge_r14 : List AOp := [
  ⟨(some 51), .none, .loadn 2 (.t 9)⟩,
  ⟨.none, .none, .store 2 (.t 4) (.t 51)⟩,
  ⟨(some 5), .none, .mv (.c (.int .i64 0))⟩]
def f_dedup_Table_Judge_c10 : AC := .ret
def f_dedup_Table_Judge_c11 : AC := (.cond (.t 50) (.seq (.reg f_dedup_Table_Judge_r14) f_dedup_Table_Judge_c10) .skip)
def f_dedup_Table_Judge_c12 : AC := (.seq (.reg f_dedup_Table_Judge_r13) f_dedup_Table_Judge_c11)
def f_dedup_Table_Judge_c13 : AC := (.cond (.t 43) (.seq (.reg f_dedup_Table_Judge_r12) f_dedup_Table_Judge_c12) .skip)
def f_dedup_Table_Judge_r15 : List AOp := [
  ⟨(some 52), .none, .build [(.bool false), (.int .i64 0)] []⟩,
  ⟨(some 53), .none, .mv (.t 0)⟩,
  ⟨(some 54), .none, .loadn 7 (.t 7)⟩,
  ⟨(some 55), .none, .mv (.t 8)⟩,
  ⟨(some 56), .none, .loadn 7 (.t 3)⟩,
  ⟨(some 57), .none, .call 252 [(.t 53), (.t 54), (.t 55), (.t 56)]⟩,
  ⟨.none, .none, .store 2 (.t 4) (.t 52)⟩,
  ⟨(some 5), .none, .mv (.t 57)⟩]
def f_dedup_Table_Judge_c14 : AC := .ret
def f_dedup_Table_Judge_c15 : AC := (.keep 6 [0, 3, 4, 7, 8] (.seq (.reg f_dedup_Table_Judge_r15) f_dedup_Table_Judge_c14))
def f_dedup_Table_Judge_c16 : AC := (.seq (.seq (.reg f_dedup_Table_Judge_r11) f_dedup_Table_Judge_c13) f_dedup_Table_Judge_c15)
def f_dedup_Table_Judge_c17 : AC := (.seq (.seq (.reg f_dedup_Table_Judge_r7) f_dedup_Table_Judge_c9) f_dedup_Table_Judge_c16)
def f_dedup_Table_Judge_c18 : AC := (.seq (.reg f_dedup_Table_Judge_r6) f_dedup_Table_Judge_c17)
def f_dedup_Table_Judge_c19 : AC := (.seq (.seq (.reg f_dedup_Table_Judge_r3) f_dedup_Table_Judge_c4) f_dedup_Table_Judge_c18)
def f_dedup_Table_Judge_c20 : AC := (.seq (.seq (.reg f_dedup_Table_Judge_r1) f_dedup_Table_Judge_c1) f_dedup_Table_Judge_c19)
def f_dedup_Table_Judge : AF := ⟨58, [.celln 4 2, .tmp 5], (.seq (.reg f_dedup_Table_Judge_r0) f_dedup_Table_Judge_c20)⟩
/- iso_View_May -/
def f_iso_View_May_r0 : List AOp := [
  ⟨(some 3), .none, .box (.t 1)⟩,
  ⟨(some 4), .none, .mv (.c (.int .i64 0))⟩]
def f_iso_View_May_r1 : List AOp := [
  ⟨(some 6), .none, .mv (.t 0)⟩,
  ⟨(some 7), .none, .bin .eql .ptr (.t 6) (.c .nilp)⟩]
def f_iso_View_May_r2 : List AOp := [
  ⟨(some 4), .none, .mv (.c (.int .i64 1))⟩]
def f_iso_View_May_c0 : AC := .ret
def f_iso_View_May_c1 : AC := (.cond (.t 7) (.seq (.reg f_iso_View_May_r2) f_iso_View_May_c0) .skip)
def f_iso_View_May_r3 : List AOp := [
  ⟨(some 8), .none, .loadn 7 (.t 3)⟩,
  ⟨(some 9), .none, .call 186 [(.t 8)]⟩,
  ⟨(some 5), .none, .mv (.t 9)⟩]
def f_iso_View_May_r4 : List AOp := [
  ⟨(some 10), .none, .mv (.t 5)⟩,
  ⟨(some 11), .none, .bin .neq .num (.t 10) (.c (.int .i64 0))⟩]
def f_iso_View_May_r5 : List AOp := [
  ⟨(some 12), .none, .mv (.t 5)⟩,
  ⟨(some 4), .none, .mv (.t 12)⟩]
def f_iso_View_May_c2 : AC := .ret
def f_iso_View_May_c3 : AC := (.cond (.t 11) (.seq (.reg f_iso_View_May_r5) f_iso_View_May_c2) .skip)
def f_iso_View_May_c4 : AC := (.seq (.reg f_iso_View_May_r4) f_iso_View_May_c3)
def f_iso_View_May_r6 : DR := ⟨[
  ⟨(some 14), .none, .faddr 0 (.t 3)⟩,
  ⟨(some 15), .none, .load1 (.t 14)⟩,
  ⟨(some 16), .none, .mv (.t 0)⟩,
  ⟨(some 17), .none, .nilck (.t 16)⟩,
  ⟨(some 18), .none, .faddr 0 (.t 17)⟩,
  ⟨(some 19), .none, .load1 (.t 18)⟩,
  ⟨(some 20), .none, .bin .lss .num (.t 15) (.t 19)⟩,
  ⟨(some 13), .none, .mv (.t 20)⟩],
  [0, 1, 0, 4, 12, 28, 63, 127], [0, 1, 2, 3, 4, 5, 6, 7], [], .none⟩
def f_iso_View_May_r7 : List AOp := [
  ⟨(some 4), .none, .mv (.c (.int .i64 8))⟩]
def f_iso_View_May_c5 : AC := .ret
def f_iso_View_May_r8 : List AOp := [
  ⟨(some 22), .none, .faddr 4 (.t 3)⟩,
  ⟨(some 23), .none, .load1 (.t 22)⟩,
  ⟨(some 24), .none, .bin .neq .num (.t 23) (.c (.int .i64 0))⟩,
  ⟨(some 21), .none, .mv (.t 24)⟩]
def f_iso_View_May_r9 : List AOp := [
  ⟨(some 25), .none, .mv (.t 0)⟩,
  ⟨(some 26), .none, .loadn 7 (.t 3)⟩,
  ⟨(some 27), .none, .call 253 [(.t 25), (.t 26)]⟩,
  ⟨(some 4), .none, .mv (.t 27)⟩]
def f_iso_View_May_c6 : AC := .ret
def f_iso_View_May_c7 : AC := (.cond (.t 21) (.seq (.reg f_iso_View_May_r9) f_iso_View_May_c6) .skip)
def f_iso_View_May_c8 : AC := (.cond (.t 13) (.seq (.reg f_iso_View_May_r7) f_iso_View_May_c5) (.seq (.reg f_iso_View_May_r8) f_iso_View_May_c7))
def f_iso_View_May_r10 : List AOp := [
  ⟨(some 4), .none, .mv (.c (.int .i64 0))⟩]
def f_iso_View_May_c9 : AC := .ret
def f_iso_View_May_c10 : AC := (.seq (.reg f_iso_View_May_r10) f_iso_View_May_c9)
def f_iso_View_May_c11 : AC := (.seq (.block 0 (.seq (.dreg f_iso_View_May_r6) f_iso_View_May_c8)) f_iso_View_May_c10)
def f_iso_View_May_c12 : AC := (.seq (.seq (.reg f_iso_View_May_r3) f_iso_View_May_c4) f_iso_View_May_c11)
def f_iso_View_May_c13 : AC := (.seq (.seq (.reg f_iso_View_May_r1) f_iso_View_May_c1) f_iso_View_May_c12)
def f_iso_View_May : AF := ⟨28, [.tmp 4], (.seq (.reg f_iso_View_May_r0) f_iso_View_May_c13)⟩
/- sort_Search -/
def f_sort_Search_r0 : List AOp := [
  ⟨(some 4), .none, .mv (.c (.int .i64 0))⟩]
def f_sort_Search_r1 : List AOp := [
  ⟨(some 8), .none, .mv (.t 0)⟩,
  ⟨(some 5), .none, .mv (.c (.int .i64 0))⟩,
  ⟨(some 6), .none, .mv (.t 8)⟩]
def f_sort_Search_r2 : List AOp := [
  ⟨(some 9), .none, .mv (.t 5)⟩,
  ⟨(some 10), .none, .mv (.t 6)⟩,
  ⟨(some 11), .none, .bin .lss .num (.t 9) (.t 10)⟩]
def f_sort_Search_c0 : AC := (.cond (.t 11) .skip (.exit 0))
def f_sort_Search_r3 : List AOp := [
  ⟨(some 12), .none, .mv (.t 5)⟩,
  ⟨(some 13), .none, .mv (.t 6)⟩,
  ⟨(some 14), .none, .bin .add .num (.t 12) (.t 13)⟩,
  ⟨(some 15), .none, .conv (.int .u64) (.t 14)⟩,
  ⟨(some 16), .none, .bin .shr .num (.t 15) (.c (.int .u64 1))⟩,
  ⟨(some 17), .none, .conv (.int .i64) (.t 16)⟩,
  ⟨(some 7), .none, .mv (.t 17)⟩]
def f_sort_Search_r4 : List AOp := [
  ⟨(some 18), .none, .mv (.t 1)⟩,
  ⟨(some 19), .none, .mv (.t 7)⟩,
  ⟨(some 20), .none, .callv (.t 18) [(.t 19)]⟩,
  ⟨(some 21), .none, .un .not (.t 20)⟩]
def f_sort_Search_r5 : List AOp := [
  ⟨(some 22), .none, .mv (.t 7)⟩,
  ⟨(some 23), .none, .bin .add .num (.t 22) (.c (.int .i64 1))⟩,
  ⟨(some 5), .none, .mv (.t 23)⟩]
def f_sort_Search_r6 : List AOp := [
  ⟨(some 24), .none, .mv (.t 7)⟩,
  ⟨(some 6), .none, .mv (.t 24)⟩]
def f_sort_Search_c1 : AC := (.cond (.t 21) (.reg f_sort_Search_r5) (.reg f_sort_Search_r6))
def f_sort_Search_c2 : AC := (.seq (.reg f_sort_Search_r4) f_sort_Search_c1)
def f_sort_Search_c3 : AC := (.block 1 (.seq (.reg f_sort_Search_r3) f_sort_Search_c2))
def f_sort_Search_c4 : AC := (.seq (.seq (.reg f_sort_Search_r2) f_sort_Search_c0) f_sort_Search_c3)
def f_sort_Search_r7 : List AOp := [
  ⟨(some 25), .none, .mv (.t 5)⟩,
  ⟨(some 4), .none, .mv (.t 25)⟩]
def f_sort_Search_c5 : AC := .ret
def f_sort_Search_c6 : AC := (.seq (.reg f_sort_Search_r7) f_sort_Search_c5)
def f_sort_Search_c7 : AC := (.seq (.block 0 (.keep 5 [1, 5, 6] (.loop (.keep 5 [1, 5, 6] f_sort_Search_c4)))) f_sort_Search_c6)
def f_sort_Search_c8 : AC := (.seq (.reg f_sort_Search_r1) f_sort_Search_c7)
def f_sort_Search : AF := ⟨26, [.tmp 4], (.seq (.reg f_sort_Search_r0) f_sort_Search_c8)⟩
/- seglog_Log_Read_1 -/
def f_seglog_Log_Read_1_r0 : List AOp := [
  ⟨(some 4), .none, .mv (.c (.bool false))⟩]
def f_seglog_Log_Read_1_r1 : DR := ⟨[
  ⟨(some 5), .none, .load1 (.t 1)⟩,
  ⟨(some 6), .none, .nilck (.t 5)⟩,
  ⟨(some 7), .none, .faddr 4 (.t 6)⟩,
  ⟨(some 8), .none, .load1 (.t 7)⟩,
  ⟨(some 9), .none, .mv (.t 0)⟩,
  ⟨(some 10), .none, .iaddr 1 (.t 8) (.t 9)⟩,
  ⟨(some 11), .none, .load1 (.t 10)⟩,
  ⟨(some 12), .none, .nilck (.t 11)⟩,
  ⟨(some 13), .none, .faddr 1 (.t 12)⟩,
  ⟨(some 14), .none, .load1 (.t 13)⟩,
  ⟨(some 15), .none, .load1 (.t 2)⟩,
  ⟨(some 16), .none, .bin .gtr .num (.t 14) (.t 15)⟩,
  ⟨(some 4), .none, .mv (.t 16)⟩],
  [0, 1, 3, 7, 0, 31, 63, 127, 255, 511, 0, 2047, 4095], [0, 1, 2, 3, 4, 5, 6, 7, 8, 9, 10, 11, 12], [], .none⟩
def f_seglog_Log_Read_1_c0 : AC := .ret
def f_seglog_Log_Read_1_c1 : AC := (.seq (.dreg f_seglog_Log_Read_1_r1) f_seglog_Log_Read_1_c0)
def f_seglog_Log_Read_1 : AF := ⟨17, [.tmp 4], (.seq (.reg f_seglog_Log_Read_1_r0) f_seglog_Log_Read_1_c1)⟩
/- seglog_Log_walk -/
def f_seglog_Log_walk_r0 : List AOp := [
  ⟨(some 8), .none, .mv (.c (.bool false))⟩]
def f_seglog_Log_walk_r1 : DR := ⟨[
  ⟨(some 18), .none, .mv (.t 0)⟩,
  ⟨(some 19), .none, .nilck (.t 18)⟩,
  ⟨(some 20), .none, .faddr 0 (.t 19)⟩,
  ⟨(some 21), .none, .load1 (.t 20)⟩,
  ⟨(some 22), .none, .mv (.t 0)⟩,
  ⟨(some 23), .none, .mv (.t 1)⟩,
  ⟨(some 24), .none, .nilck (.t 23)⟩,
  ⟨(some 25), .none, .faddr 1 (.t 24)⟩,
  ⟨(some 26), .none, .load1 (.t 25)⟩,
  ⟨(some 27), .none, .call 139 [(.t 22), (.t 26), (.c (.str [46, 108, 111, 103]))]⟩,
  ⟨(some 28), .none, .call 143 [(.t 21), (.t 27)]⟩,
  ⟨(some 17), .none, .mv (.t 28)⟩,
  ⟨(some 29), .none, .ext (.t 17) 0⟩,
  ⟨(some 30), .none, .ext (.t 17) 1⟩,
  ⟨(some 9), .none, .mv (.t 29)⟩,
  ⟨(some 10), .none, .mv (.t 30)⟩],
  [0, 1, 3, 7, 0, 0, 32, 96, 224, 496, 1023, 2047, 4095, 4095, 8191, 32767], [0, 1, 2, 3, 4, 5, 6, 7, 8, 9, 10, 11, 12, 13, 14, 15], [(3, 1)], .none⟩
def f_seglog_Log_walk_r2 : List AOp := [
  ⟨(some 31), .none, .mv (.t 2)⟩,
  ⟨(some 11), .none, .mv (.t 31)⟩]
def f_seglog_Log_walk_r3 : List AOp := [
  ⟨(some 32), .none, .mv (.t 11)⟩,
  ⟨(some 33), .none, .mv (.t 9)⟩,
  ⟨(some 34), .none, .len .slice (.t 33)⟩,
  ⟨(some 35), .none, .bin .lss .num (.t 32) (.t 34)⟩,
  ⟨(some 36), .none, .mv (.t 35)⟩,
  ⟨(some 37), (some (36, true)), .mv (.t 11)⟩,
  ⟨(some 38), (some (36, true)), .mv (.t 1)⟩,
  ⟨(some 39), (some (36, true)), .nilck (.t 38)⟩,
  ⟨(some 40), (some (36, true)), .faddr 5 (.t 39)⟩,
  ⟨(some 41), (some (36, true)), .load1 (.t 40)⟩,
  ⟨(some 42), (some (36, true)), .bin .lss .num (.t 37) (.t 41)⟩,
  ⟨(some 43), .none, .pick (.t 36) (.t 42) (.c (.bool false))⟩]
def f_seglog_Log_walk_c0 : AC := (.cond (.t 43) .skip (.exit 0))
def f_seglog_Log_walk_r4 : List AOp := [
  ⟨(some 45), .none, .mv (.t 9)⟩,
  ⟨(some 46), .none, .mv (.t 11)⟩,
  ⟨(some 47), .none, .slc 1 (.t 45) (some (.t 46)) .none .none⟩,
  ⟨(some 48), .none, .call 228 [(.t 47)]⟩,
  ⟨(some 44), .none, .mv (.t 48)⟩,
  ⟨(some 49), .none, .ext (.t 44) 0⟩,
  ⟨(some 50), .none, .ext (.t 44) 1⟩,
  ⟨(some 51), .none, .ext (.t 44) 2⟩,
  ⟨(some 12), .none, .mv (.t 49)⟩,
  ⟨(some 13), .none, .mv (.t 50)⟩,
  ⟨(some 14), .none, .mv (.t 51)⟩]
def f_seglog_Log_walk_r5 : List AOp := [
  ⟨(some 52), .none, .mv (.t 14)⟩,
  ⟨(some 53), .none, .un .not (.t 52)⟩]
def f_seglog_Log_walk_r6 : List AOp := [
  ⟨(some 8), .none, .mv (.c (.bool true))⟩]
def f_seglog_Log_walk_c1 : AC := .ret
def f_seglog_Log_walk_c2 : AC := (.cond (.t 53) (.seq (.reg f_seglog_Log_walk_r6) f_seglog_Log_walk_c1) .skip)
def f_seglog_Log_walk_r7 : List AOp := [
  ⟨(some 55), .none, .mv (.t 12)⟩,
  ⟨(some 56), .none, .call 231 [(.t 55)]⟩,
  ⟨(some 54), .none, .mv (.t 56)⟩,
  ⟨(some 57), .none, .ext (.t 54) 0⟩,
  ⟨(some 58), .none, .ext (.t 54) 1⟩,
  ⟨(some 15), .none, .alloc [(.int .i64 0), (.int .i64 0), (.int .i64 0), (.int .i64 0), (.int .i64 0), (.int .i64 0), .nils]⟩,
  ⟨.none, .none, .store 7 (.t 15) (.t 57)⟩,
  ⟨(some 16), .none, .mv (.t 58)⟩]
def f_seglog_Log_walk_r8 : List AOp := [
  ⟨(some 59), .none, .mv (.t 16)⟩,
  ⟨(some 60), .none, .bin .neq .num (.t 59) (.c (.int .i64 0))⟩,
  ⟨(some 61), .none, .mv (.t 60)⟩,
  ⟨(some 62), (some (61, false)), .mv (.t 3)⟩,
  ⟨(some 63), (some (61, false)), .loadn 7 (.t 15)⟩,
  ⟨(some 64), (some (61, false)), .callv (.t 62) [(.t 63)]⟩,
  ⟨(some 65), (some (61, false)), .un .not (.t 64)⟩,
  ⟨(some 66), .none, .pick (.t 61) (.c (.bool true)) (.t 65)⟩]
def f_seglog_Log_walk_r9 : List AOp := [
  ⟨(some 8), .none, .mv (.c (.bool false))⟩]
def f_seglog_Log_walk_c3 : AC := .ret
def f_seglog_Log_walk_c4 : AC := (.cond (.t 66) (.seq (.reg f_seglog_Log_walk_r9) f_seglog_Log_walk_c3) .skip)
def f_seglog_Log_walk_r10 : List AOp := [
  ⟨(some 67), .none, .mv (.t 11)⟩,
  ⟨(some 68), .none, .mv (.t 13)⟩,
  ⟨(some 69), .none, .bin .add .num (.t 67) (.t 68)⟩,
  ⟨(some 11), .none, .mv (.t 69)⟩]
def f_seglog_Log_walk_c5 : AC := (.reg f_seglog_Log_walk_r10)
def f_seglog_Log_walk_c6 : AC := (.seq (.seq (.reg f_seglog_Log_walk_r8) f_seglog_Log_walk_c4) f_seglog_Log_walk_c5)
def f_seglog_Log_walk_c7 : AC := (.seq (.reg f_seglog_Log_walk_r7) f_seglog_Log_walk_c6)
def f_seglog_Log_walk_c8 : AC := (.seq (.seq (.reg f_seglog_Log_walk_r5) f_seglog_Log_walk_c2) f_seglog_Log_walk_c7)
def f_seglog_Log_walk_c9 : AC := (.block 1 (.seq (.reg f_seglog_Log_walk_r4) f_seglog_Log_walk_c8))
def f_seglog_Log_walk_c10 : AC := (.seq (.seq (.reg f_seglog_Log_walk_r3) f_seglog_Log_walk_c0) f_seglog_Log_walk_c9)
def f_seglog_Log_walk_c11 : AC := (.block 0 (.keep 7 [1, 3, 9, 11] (.loop (.keep 7 [1, 3, 9, 11] f_seglog_Log_walk_c10))))
def f_seglog_Log_walk_r11 : List AOp := [
  ⟨(some 8), .none, .mv (.c (.bool true))⟩]
def f_seglog_Log_walk_c12 : AC := .ret
def f_seglog_Log_walk_c13 : AC := (.seq (.reg f_seglog_Log_walk_r11) f_seglog_Log_walk_c12)
def f_seglog_Log_walk_c14 : AC := (.seq (.seq (.reg f_seglog_Log_walk_r2) f_seglog_Log_walk_c11) f_seglog_Log_walk_c13)
def f_seglog_Log_walk_c15 : AC := (.seq (.dreg f_seglog_Log_walk_r1) f_seglog_Log_walk_c14)
def f_seglog_Log_walk : AF := ⟨70, [.tmp 8], (.seq (.reg f_seglog_Log_walk_r0) f_seglog_Log_walk_c15)⟩
/- seglog_segment_from -/
def f_seglog_segment_from_r0 : List AOp := [
  ⟨(some 4), .none, .mv (.c (.int .i64 0))⟩]
def f_seglog_segment_from_r1 : List AOp := [
  ⟨(some 8), .none, .mv (.t 0)⟩,
  ⟨(some 9), .none, .nilck (.t 8)⟩,
  ⟨(some 10), .none, .faddr 0 (.t 9)⟩,
  ⟨(some 11), .none, .load1 (.t 10)⟩,
  ⟨(some 12), .none, .mv (.t 1)⟩,
  ⟨(some 13), .none, .call 254 [(.t 11), (.t 12)]⟩,
  ⟨(some 7), .none, .mv (.t 13)⟩,
  ⟨(some 14), .none, .ext (.t 7) 0⟩,
  ⟨(some 15), .none, .ext (.t 7) 1⟩,
  ⟨(some 5), .none, .alloc [(.int .i64 0), (.int .i64 0), (.int .i64 0)]⟩,
  ⟨.none, .none, .store 3 (.t 5) (.t 14)⟩,
  ⟨(some 6), .none, .mv (.t 15)⟩]
def f_seglog_segment_from_r2 : List AOp := [
  ⟨(some 16), .none, .mv (.t 6)⟩]
def f_seglog_segment_from_r3 : List AOp := [
  ⟨(some 17), .none, .faddr 1 (.t 5)⟩,
  ⟨(some 18), .none, .load1 (.t 17)⟩,
  ⟨(some 4), .none, .mv (.t 18)⟩]
def f_seglog_segment_from_c0 : AC := .ret
def f_seglog_segment_from_c1 : AC := (.cond (.t 16) (.seq (.reg f_seglog_segment_from_r3) f_seglog_segment_from_c0) .skip)
def f_seglog_segment_from_c2 : AC := (.seq (.reg f_seglog_segment_from_r2) f_seglog_segment_from_c1)
def f_seglog_segment_from_r4 : DR := ⟨[
  ⟨(some 19), .none, .mv (.t 0)⟩,
  ⟨(some 20), .none, .nilck (.t 19)⟩,
  ⟨(some 21), .none, .faddr 1 (.t 20)⟩,
  ⟨(some 22), .none, .load1 (.t 21)⟩,
  ⟨(some 23), .none, .mv (.t 0)⟩,
  ⟨(some 24), .none, .nilck (.t 23)⟩,
  ⟨(some 25), .none, .faddr 2 (.t 24)⟩,
  ⟨(some 26), .none, .load1 (.t 25)⟩,
  ⟨(some 27), .none, .call 249 [(.t 22), (.t 26)]⟩,
  ⟨(some 28), .none, .len .slice (.t 27)⟩,
  ⟨(some 4), .none, .mv (.t 28)⟩],
  [0, 1, 3, 7, 0, 16, 48, 112, 255, 511, 1023], [0, 1, 2, 3, 4, 5, 6, 7, 8, 9, 10], [], .none⟩
def f_seglog_segment_from_c3 : AC := .ret
def f_seglog_segment_from_c4 : AC := (.seq (.dreg f_seglog_segment_from_r4) f_seglog_segment_from_c3)
def f_seglog_segment_from_c5 : AC := (.seq (.seq (.reg f_seglog_segment_from_r1) f_seglog_segment_from_c2) f_seglog_segment_from_c4)
def f_seglog_segment_from : AF := ⟨29, [.tmp 4], (.seq (.reg f_seglog_segment_from_r0) f_seglog_segment_from_c5)⟩
/- seglog_Log_Read_2 -/
def f_seglog_Log_Read_2_r0 : List AOp := [
  ⟨(some 4), .none, .box (.t 0)⟩,
  ⟨(some 5), .none, .mv (.c (.bool false))⟩]
def f_seglog_Log_Read_2_r1 : List AOp := [
  ⟨(some 9), .none, .loadn 7 (.t 4)⟩,
  ⟨(some 10), .none, .load1 (.t 1)⟩,
  ⟨(some 11), .none, .call 183 [(.t 9), (.t 10)]⟩,
  ⟨(some 8), .none, .mv (.t 11)⟩,
  ⟨(some 12), .none, .ext (.t 8) 0⟩,
  ⟨(some 13), .none, .ext (.t 8) 1⟩,
  ⟨(some 6), .none, .alloc [(.int .i64 0), (.int .i64 0), (.int .i64 0), (.int .i64 0), (.int .i64 0), (.int .i64 0), .nils]⟩,
  ⟨.none, .none, .store 7 (.t 6) (.t 12)⟩,
  ⟨(some 7), .none, .mv (.t 13)⟩]
def f_seglog_Log_Read_2_r2 : List AOp := [
  ⟨(some 14), .none, .mv (.t 7)⟩]
def f_seglog_Log_Read_2_r3 : List AOp := [
  ⟨(some 15), .none, .load1 (.t 2)⟩,
  ⟨(some 16), .none, .loadn 7 (.t 6)⟩,
  ⟨(some 17), .none, .bsl false 7 1 [(.int .i64 0), (.int .i64 0), (.int .i64 0), (.int .i64 0), (.int .i64 0), (.int .i64 0), .nils] [(0, 7, (.t 16))]⟩,
  ⟨(some 18), .none, .app false 7 72 (.t 15) (.t 17)⟩,
  ⟨.none, .none, .store 1 (.t 2) (.t 18)⟩]
def f_seglog_Log_Read_2_c0 : AC := (.cond (.t 14) (.reg f_seglog_Log_Read_2_r3) .skip)
def f_seglog_Log_Read_2_c1 : AC := (.seq (.reg f_seglog_Log_Read_2_r2) f_seglog_Log_Read_2_c0)
def f_seglog_Log_Read_2_r4 : List AOp := [
  ⟨(some 19), .none, .load1 (.t 2)⟩,
  ⟨(some 20), .none, .len .slice (.t 19)⟩,
  ⟨(some 21), .none, .load1 (.t 3)⟩,
  ⟨(some 22), .none, .bin .lss .num (.t 20) (.t 21)⟩,
  ⟨(some 5), .none, .mv (.t 22)⟩]
def f_seglog_Log_Read_2_c2 : AC := .ret
def f_seglog_Log_Read_2_c3 : AC := (.keep 5 [2, 3] (.seq (.reg f_seglog_Log_Read_2_r4) f_seglog_Log_Read_2_c2))
def f_seglog_Log_Read_2_c4 : AC := (.seq (.seq (.reg f_seglog_Log_Read_2_r1) f_seglog_Log_Read_2_c1) f_seglog_Log_Read_2_c3)
def f_seglog_Log_Read_2 : AF := ⟨23, [.tmp 5], (.seq (.reg f_seglog_Log_Read_2_r0) f_seglog_Log_Read_2_c4)⟩
/- rec_From -/
def f_rec_From_r0 : List AOp := [
  ⟨(some 2), .none, .box (.t 0)⟩,
  ⟨(some 4), .none, .alloc [(.int .i64 0), (.int .i64 0), (.int .i64 0), (.int .i64 0), (.int .i64 0), (.int .i64 0), .nils]⟩,
  ⟨(some 5), .none, .mv (.c (.bool false))⟩]
def f_rec_From_r1 : List AOp := [
  ⟨(some 7), .none, .loadn 7 (.t 2)⟩,
  ⟨(some 8), .none, .call 186 [(.t 7)]⟩,
  ⟨(some 9), .none, .bin .neq .num (.t 8) (.c (.int .i64 0))⟩,
  ⟨(some 10), .none, .mv (.t 9)⟩,
  ⟨(some 11), (some (10, false)), .mv (.t 1)⟩,
  ⟨(some 12), (some (10, false)), .loadn 7 (.t 2)⟩,
  ⟨(some 13), (some (10, false)), .call 95 [(.t 12)]⟩,
  ⟨(some 14), (some (10, false)), .bin .geq .num (.t 11) (.t 13)⟩,
  ⟨(some 15), .none, .pick (.t 10) (.c (.bool true)) (.t 14)⟩,
  ⟨(some 6), .none, .mv (.t 15)⟩]
def f_rec_From_r2 : List AOp := [
  ⟨(some 16), .none, .build [(.int .i64 0), (.int .i64 0), (.int .i64 0), (.int .i64 0), (.int .i64 0), (.int .i64 0), .nils] []⟩,
  ⟨.none, .none, .store 7 (.t 4) (.t 16)⟩,
  ⟨(some 5), .none, .mv (.c (.bool false))⟩]
def f_rec_From_c0 : AC := .ret
def f_rec_From_r3 : List AOp := [
  ⟨(some 18), .none, .loadn 7 (.t 2)⟩,
  ⟨(some 19), .none, .call 185 [(.t 18)]⟩,
  ⟨(some 20), .none, .mv (.t 19)⟩,
  ⟨(some 21), (some (20, false)), .mv (.t 1)⟩,
  ⟨(some 22), (some (20, false)), .faddr 0 (.t 2)⟩,
  ⟨(some 23), (some (20, false)), .load1 (.t 22)⟩,
  ⟨(some 24), (some (20, false)), .bin .leq .num (.t 21) (.t 23)⟩,
  ⟨(some 25), .none, .pick (.t 20) (.c (.bool true)) (.t 24)⟩,
  ⟨(some 17), .none, .mv (.t 25)⟩]
def f_rec_From_r4 : List AOp := [
  ⟨(some 26), .none, .loadn 7 (.t 2)⟩,
  ⟨(some 27), .none, .call 175 [(.t 26)]⟩,
  ⟨.none, .none, .store 7 (.t 4) (.t 27)⟩,
  ⟨(some 5), .none, .mv (.c (.bool true))⟩]
def f_rec_From_c1 : AC := .ret
def f_rec_From_c2 : AC := (.cond (.t 17) (.seq (.reg f_rec_From_r4) f_rec_From_c1) .skip)
def f_rec_From_c3 : AC := (.cond (.t 6) (.seq (.reg f_rec_From_r2) f_rec_From_c0) (.seq (.reg f_rec_From_r3) f_rec_From_c2))
def f_rec_From_r5 : List AOp := [
  ⟨(some 28), .none, .loadn 7 (.t 2)⟩,
  ⟨(some 29), .none, .mv (.t 1)⟩,
  ⟨(some 30), .none, .faddr 0 (.t 2)⟩,
  ⟨(some 31), .none, .load1 (.t 30)⟩,
  ⟨(some 32), .none, .bin .sub .num (.t 29) (.t 31)⟩,
  ⟨(some 33), .none, .faddr 6 (.t 2)⟩,
  ⟨(some 34), .none, .load1 (.t 33)⟩,
  ⟨(some 35), .none, .len .slice (.t 34)⟩,
  ⟨(some 36), .none, .call 255 [(.t 28), (.t 32), (.t 35)]⟩,
  ⟨.none, .none, .store 7 (.t 4) (.t 36)⟩,
  ⟨(some 5), .none, .mv (.c (.bool true))⟩]
def f_rec_From_c4 : AC := .ret
def f_rec_From_c5 : AC := (.seq (.reg f_rec_From_r5) f_rec_From_c4)
def f_rec_From_c6 : AC := (.seq (.block 0 (.seq (.reg f_rec_From_r1) f_rec_From_c3)) f_rec_From_c5)
def f_rec_From : AF := ⟨37, [.celln 4 7, .tmp 5], (.seq (.reg f_rec_From_r0) f_rec_From_c6)⟩
/- iso_mark -/
def f_iso_mark_r0 : List AOp := [
  ⟨(some 1), .none, .box (.t 0)⟩,
  ⟨(some 2), .none, .mv (.c (.bool false))⟩]
def f_iso_mark_r1 : List AOp := [
  ⟨(some 3), .none, .faddr 4 (.t 1)⟩,
  ⟨(some 4), .none, .load1 (.t 3)⟩,
  ⟨(some 5), .none, .bin .eql .num (.t 4) (.c (.int .i64 2))⟩,
  ⟨(some 6), .none, .mv (.t 5)⟩,
  ⟨(some 7), (some (6, false)), .faddr 4 (.t 1)⟩,
  ⟨(some 8), (some (6, false)), .load1 (.t 7)⟩,
  ⟨(some 9), (some (6, false)), .bin .eql .num (.t 8) (.c (.int .i64 3))⟩,
  ⟨(some 10), .none, .pick (.t 6) (.c (.bool true)) (.t 9)⟩,
  ⟨(some 2), .none, .mv (.t 10)⟩]
def f_iso_mark_c0 : AC := .ret
def f_iso_mark_c1 : AC := (.seq (.reg f_iso_mark_r1) f_iso_mark_c0)
def f_iso_mark : AF := ⟨11, [.tmp 2], (.seq (.reg f_iso_mark_r0) f_iso_mark_c1)⟩
/- rec_mark -/
def f_rec_mark_r0 : List AOp := [
  ⟨(some 1), .none, .box (.t 0)⟩,
  ⟨(some 2), .none, .mv (.c (.bool false))⟩]
def f_rec_mark_r1 : List AOp := [
  ⟨(some 3), .none, .faddr 4 (.t 1)⟩,
  ⟨(some 4), .none, .load1 (.t 3)⟩,
  ⟨(some 5), .none, .bin .eql .num (.t 4) (.c (.int .i64 2))⟩,
  ⟨(some 6), .none, .mv (.t 5)⟩,
  ⟨(some 7), (some (6, false)), .faddr 4 (.t 1)⟩,
  ⟨(some 8), (some (6, false)), .load1 (.t 7)⟩,
  ⟨(some 9), (some (6, false)), .bin .eql .num (.t 8) (.c (.int .i64 3))⟩,
  ⟨(some 10), .none, .pick (.t 6) (.c (.bool true)) (.t 9)⟩,
  ⟨(some 2), .none, .mv (.t 10)⟩]
def f_rec_mark_c0 : AC := .ret
def f_rec_mark_c1 : AC := (.seq (.reg f_rec_mark_r1) f_rec_mark_c0)
def f_rec_mark : AF := ⟨11, [.tmp 2], (.seq (.reg f_rec_mark_r0) f_rec_mark_c1)⟩
/- rec_Valid -/
def f_rec_Valid_r0 : List AOp := [
  ⟨(some 1), .none, .box (.t 0)⟩,
  ⟨(some 2), .none, .mv (.c (.int .i64 0))⟩]
def f_rec_Valid_r1 : List AOp := [
  ⟨(some 8), .none, .loadn 7 (.t 1)⟩,
  ⟨(some 9), .none, .call 256 [(.t 8)]⟩,
  ⟨(some 10), .none, .un .not (.t 9)⟩,
  ⟨(some 11), .none, .mv (.t 10)⟩,
  ⟨(some 12), (some (11, false)), .loadn 7 (.t 1)⟩,
  ⟨(some 13), (some (11, false)), .call 257 [(.t 12)]⟩,
  ⟨(some 14), (some (11, false)), .un .not (.t 13)⟩,
  ⟨(some 15), .none, .pick (.t 11) (.c (.bool true)) (.t 14)⟩,
  ⟨(some 7), .none, .mv (.t 15)⟩]
def f_rec_Valid_r2 : List AOp := [
  ⟨(some 2), .none, .mv (.c (.int .i64 2))⟩]
def f_rec_Valid_c0 : AC := .ret
def f_rec_Valid_r3 : List AOp := [
  ⟨(some 17), .none, .faddr 6 (.t 1)⟩,
  ⟨(some 18), .none, .load1 (.t 17)⟩,
  ⟨(some 19), .none, .len .slice (.t 18)⟩,
  ⟨(some 20), .none, .bin .gtr .num (.t 19) (.c (.int .i64 64))⟩,
  ⟨(some 16), .none, .mv (.t 20)⟩]
def f_rec_Valid_r4 : List AOp := [
  ⟨(some 2), .none, .mv (.c (.int .i64 7))⟩]
def f_rec_Valid_c1 : AC := .ret
def f_rec_Valid_c2 : AC := (.cond (.t 16) (.seq (.reg f_rec_Valid_r4) f_rec_Valid_c1) .skip)
def f_rec_Valid_c3 : AC := (.cond (.t 7) (.seq (.reg f_rec_Valid_r2) f_rec_Valid_c0) (.seq (.reg f_rec_Valid_r3) f_rec_Valid_c2))
def f_rec_Valid_r5 : List AOp := [
  ⟨(some 21), .none, .faddr 6 (.t 1)⟩,
  ⟨(some 22), .none, .load1 (.t 21)⟩,
  ⟨(some 23), .none, .len .slice (.t 22)⟩,
  ⟨(some 24), .none, .mv (.c (.int .i64 0))⟩]
def f_rec_Valid_r6 : List AOp := [
  ⟨(some 25), .none, .bin .lss .num (.t 24) (.t 23)⟩]
def f_rec_Valid_r7 : List AOp := [
  ⟨(some 26), .none, .iaddr 4 (.t 22) (.t 24)⟩,
  ⟨(some 27), .none, .loadn 4 (.t 26)⟩,
  ⟨(some 4), .none, .alloc [(.str []), (.str []), (.bool false), (.int .i64 0)]⟩,
  ⟨.none, .none, .store 4 (.t 4) (.t 27)⟩]
def f_rec_Valid_r8 : List AOp := [
  ⟨(some 28), .none, .loadn 4 (.t 4)⟩,
  ⟨(some 29), .none, .call 258 [(.t 28)]⟩,
  ⟨(some 5), .none, .mv (.t 29)⟩]
def f_rec_Valid_r9 : List AOp := [
  ⟨(some 30), .none, .mv (.t 5)⟩,
  ⟨(some 31), .none, .bin .neq .num (.t 30) (.c (.int .i64 0))⟩]
def f_rec_Valid_r10 : List AOp := [
  ⟨(some 32), .none, .mv (.t 5)⟩,
  ⟨(some 2), .none, .mv (.t 32)⟩]
def f_rec_Valid_c4 : AC := .ret
def f_rec_Valid_c5 : AC := (.cond (.t 31) (.seq (.reg f_rec_Valid_r10) f_rec_Valid_c4) .skip)
def f_rec_Valid_c6 : AC := (.seq (.reg f_rec_Valid_r9) f_rec_Valid_c5)
def f_rec_Valid_c7 : AC := (.seq (.reg f_rec_Valid_r8) f_rec_Valid_c6)
def f_rec_Valid_r11 : List AOp := [
  ⟨(some 33), .none, .bin .add .num (.t 24) (.c (.int .i64 1))⟩,
  ⟨(some 24), .none, .mv (.t 33)⟩]
def f_rec_Valid_c8 : AC := (.reg f_rec_Valid_r11)
def f_rec_Valid_c9 : AC := (.seq (.block 2 (.seq (.reg f_rec_Valid_r7) f_rec_Valid_c7)) f_rec_Valid_c8)
def f_rec_Valid_c10 : AC := (.seq (.cond (.t 25) .skip (.exit 1)) f_rec_Valid_c9)
def f_rec_Valid_c11 : AC := (.seq (.reg f_rec_Valid_r6) f_rec_Valid_c10)
def f_rec_Valid_c12 : AC := (.block 1 (.keep 6 [1, 22, 23, 24] (.loop (.keep 6 [1, 22, 23, 24] f_rec_Valid_c11))))
def f_rec_Valid_r12 : List AOp := [
  ⟨(some 34), .none, .loadn 7 (.t 1)⟩,
  ⟨(some 35), .none, .call 187 [(.t 34)]⟩,
  ⟨(some 36), .none, .bin .sub .num (.t 35) (.c (.int .i64 1))⟩,
  ⟨(some 6), .none, .mv (.t 36)⟩]
def f_rec_Valid_r13 : List AOp := [
  ⟨(some 37), .none, .faddr 0 (.t 1)⟩,
  ⟨(some 38), .none, .load1 (.t 37)⟩,
  ⟨(some 39), .none, .mv (.t 6)⟩,
  ⟨(some 40), .none, .bin .sub .num (.c (.int .i64 1099511627776)) (.t 39)⟩,
  ⟨(some 41), .none, .bin .gtr .num (.t 38) (.t 40)⟩,
  ⟨(some 42), .none, .mv (.t 41)⟩,
  ⟨(some 43), (some (42, false)), .faddr 1 (.t 1)⟩,
  ⟨(some 44), (some (42, false)), .load1 (.t 43)⟩,
  ⟨(some 45), (some (42, false)), .bin .gtr .num (.t 44) (.c (.int .i64 0))⟩,
  ⟨(some 46), (some (42, false)), .mv (.t 45)⟩,
  ⟨(some 47), (some (46, true)), .loadn 7 (.t 1)⟩,
  ⟨(some 48), (some (46, true)), .call 185 [(.t 47)]⟩,
  ⟨(some 49), (some (46, true)), .un .not (.t 48)⟩,
  ⟨(some 50), (some (42, false)), .pick (.t 46) (.t 49) (.c (.bool false))⟩,
  ⟨(some 51), (some (42, false)), .mv (.t 50)⟩,
  ⟨(some 52), (some (51, true)), .faddr 3 (.t 1)⟩,
  ⟨(some 53), (some (51, true)), .load1 (.t 52)⟩,
  ⟨(some 54), (some (51, true)), .mv (.t 6)⟩,
  ⟨(some 55), (some (51, true)), .bin .sub .num (.c (.int .i64 2147483647)) (.t 54)⟩,
  ⟨(some 56), (some (51, true)), .bin .gtr .num (.t 53) (.t 55)⟩,
  ⟨(some 57), (some (42, false)), .pick (.t 51) (.t 56) (.c (.bool false))⟩,
  ⟨(some 58), .none, .pick (.t 42) (.c (.bool true)) (.t 57)⟩]
def f_rec_Valid_r14 : List AOp := [
  ⟨(some 2), .none, .mv (.c (.int .i64 24))⟩]
def f_rec_Valid_c13 : AC := .ret
def f_rec_Valid_c14 : AC := (.cond (.t 58) (.seq (.reg f_rec_Valid_r14) f_rec_Valid_c13) .skip)
def f_rec_Valid_r15 : List AOp := [
  ⟨(some 2), .none, .mv (.c (.int .i64 0))⟩]
def f_rec_Valid_c15 : AC := .ret
def f_rec_Valid_c16 : AC := (.seq (.reg f_rec_Valid_r15) f_rec_Valid_c15)
def f_rec_Valid_c17 : AC := (.seq (.seq (.reg f_rec_Valid_r13) f_rec_Valid_c14) f_rec_Valid_c16)
def f_rec_Valid_c18 : AC := (.seq (.reg f_rec_Valid_r12) f_rec_Valid_c17)
def f_rec_Valid_c19 : AC := (.seq (.seq (.reg f_rec_Valid_r5) f_rec_Valid_c12) f_rec_Valid_c18)
def f_rec_Valid_c20 : AC := (.seq (.block 0 (.seq (.reg f_rec_Valid_r1) f_rec_Valid_c3)) f_rec_Valid_c19)
def f_rec_Valid : AF := ⟨59, [.tmp 2], (.seq (.reg f_rec_Valid_r0) f_rec_Valid_c20)⟩
/- rec_Span -/
def f_rec_Span_r0 : List AOp := [
  ⟨(some 1), .none, .box (.t 0)⟩,
  ⟨(some 2), .none, .mv (.c (.int .i64 0))⟩]
def f_rec_Span_r1 : List AOp := [
  ⟨(some 3), .none, .loadn 7 (.t 1)⟩,
  ⟨(some 4), .none, .call 185 [(.t 3)]⟩]
def f_rec_Span_r2 : List AOp := [
  ⟨(some 2), .none, .mv (.c (.int .i64 1))⟩]
def f_rec_Span_c0 : AC := .ret
def f_rec_Span_c1 : AC := (.cond (.t 4) (.seq (.reg f_rec_Span_r2) f_rec_Span_c0) .skip)
def f_rec_Span_r3 : List AOp := [
  ⟨(some 5), .none, .faddr 6 (.t 1)⟩,
  ⟨(some 6), .none, .load1 (.t 5)⟩,
  ⟨(some 7), .none, .len .slice (.t 6)⟩,
  ⟨(some 2), .none, .mv (.t 7)⟩]
def f_rec_Span_c2 : AC := .ret
def f_rec_Span_c3 : AC := (.seq (.reg f_rec_Span_r3) f_rec_Span_c2)
def f_rec_Span_c4 : AC := (.seq (.seq (.reg f_rec_Span_r1) f_rec_Span_c1) f_rec_Span_c3)
def f_rec_Span : AF := ⟨8, [.tmp 2], (.seq (.reg f_rec_Span_r0) f_rec_Span_c4)⟩
/- dedup_Row_open -/
def f_dedup_Row_open_r0 : List AOp := [
  ⟨(some 1), .none, .box (.t 0)⟩,
  ⟨(some 2), .none, .mv (.c (.bool false))⟩]
def f_dedup_Row_open_r1 : List AOp := [
  ⟨(some 3), .none, .faddr 5 (.t 1)⟩,
  ⟨(some 4), .none, .load1 (.t 3)⟩,
  ⟨(some 5), .none, .bin .geq .num (.t 4) (.c (.int .i64 0))⟩,
  ⟨(some 2), .none, .mv (.t 5)⟩]
def f_dedup_Row_open_c0 : AC := .ret
def f_dedup_Row_open_c1 : AC := (.seq (.reg f_dedup_Row_open_r1) f_dedup_Row_open_c0)
def f_dedup_Row_open : AF := ⟨6, [.tmp 2], (.seq (.reg f_dedup_Row_open_r0) f_dedup_Row_open_c1)⟩
/- frame_Seal -/
def f_frame_Seal_r0 : List AOp := [
  ⟨(some 2), .none, .mv (.c .nils)⟩]
def f_frame_Seal_r1 : List AOp := [
  ⟨(some 3), .none, .mv (.c (.int .i64 0))⟩]
def f_frame_Seal_r2 : List AOp := [
  ⟨(some 9), .none, .mv (.t 0)⟩,
  ⟨(some 10), .none, .len .slice (.t 9)⟩,
  ⟨(some 11), .none, .mv (.c (.int .i64 0))⟩]
def f_frame_Seal_r3 : List AOp := [
  ⟨(some 12), .none, .bin .lss .num (.t 11) (.t 10)⟩]
def f_frame_Seal_r4 : List AOp := [
  ⟨(some 13), .none, .iaddr 1 (.t 9) (.t 11)⟩,
  ⟨(some 14), .none, .load1 (.t 13)⟩,
  ⟨(some 5), .none, .mv (.t 14)⟩]
def f_frame_Seal_r5 : List AOp := [
  ⟨(some 15), .none, .mv (.t 3)⟩,
  ⟨(some 16), .none, .mv (.t 5)⟩,
  ⟨(some 17), .none, .len .slice (.t 16)⟩,
  ⟨(some 18), .none, .bin .add .num (.t 15) (.t 17)⟩,
  ⟨(some 3), .none, .mv (.t 18)⟩]
def f_frame_Seal_r6 : List AOp := [
  ⟨(some 19), .none, .mv (.t 3)⟩,
  ⟨(some 20), .none, .bin .gtr .num (.t 19) (.c (.int .i64 262144))⟩]
def f_frame_Seal_r7 : List AOp := [
  ⟨(some 2), .none, .mv (.c .nils)⟩]
def f_frame_Seal_c0 : AC := .ret
def f_frame_Seal_c1 : AC := (.cond (.t 20) (.seq (.reg f_frame_Seal_r7) f_frame_Seal_c0) .skip)
def f_frame_Seal_c2 : AC := (.seq (.reg f_frame_Seal_r6) f_frame_Seal_c1)
def f_frame_Seal_c3 : AC := (.seq (.reg f_frame_Seal_r5) f_frame_Seal_c2)
def f_frame_Seal_r8 : List AOp := [
  ⟨(some 21), .none, .bin .add .num (.t 11) (.c (.int .i64 1))⟩,
  ⟨(some 11), .none, .mv (.t 21)⟩]
def f_frame_Seal_c4 : AC := (.reg f_frame_Seal_r8)
def f_frame_Seal_c5 : AC := (.seq (.block 1 (.seq (.reg f_frame_Seal_r4) f_frame_Seal_c3)) f_frame_Seal_c4)
def f_frame_Seal_c6 : AC := (.seq (.cond (.t 12) .skip (.exit 0)) f_frame_Seal_c5)
def f_frame_Seal_c7 : AC := (.seq (.reg f_frame_Seal_r3) f_frame_Seal_c6)
def f_frame_Seal_c8 : AC := (.block 0 (.keep 6 [0, 3, 9, 10, 11] (.loop (.keep 6 [0, 3, 9, 10, 11] f_frame_Seal_c7))))
def f_frame_Seal_r9 : List AOp := [
  ⟨(some 22), .none, .mv (.t 3)⟩,
  ⟨(some 23), .none, .bin .add .num (.t 22) (.c (.int .i64 8))⟩,
  ⟨(some 24), .none, .mksl 1 1 [(.int .u8 0)] (.c (.int .i64 0)) (.t 23)⟩,
  ⟨(some 6), .none, .mv (.t 24)⟩]
def f_frame_Seal_r10 : List AOp := [
  ⟨(some 25), .none, .mv (.t 6)⟩,
  ⟨(some 26), .none, .mv (.t 3)⟩,
  ⟨(some 27), .none, .conv (.int .u32) (.t 26)⟩,
  ⟨(some 28), .none, .call 264 [(.t 27)]⟩,
  ⟨(some 29), .none, .app false 1 1 (.t 25) (.t 28)⟩,
  ⟨(some 6), .none, .mv (.t 29)⟩]
def f_frame_Seal_r11 : List AOp := [
  ⟨(some 30), .none, .mv (.t 0)⟩,
  ⟨(some 31), .none, .len .slice (.t 30)⟩,
  ⟨(some 32), .none, .mv (.c (.int .i64 0))⟩]
def f_frame_Seal_r12 : List AOp := [
  ⟨(some 33), .none, .bin .lss .num (.t 32) (.t 31)⟩]
def f_frame_Seal_r13 : List AOp := [
  ⟨(some 34), .none, .iaddr 1 (.t 30) (.t 32)⟩,
  ⟨(some 35), .none, .load1 (.t 34)⟩,
  ⟨(some 8), .none, .mv (.t 35)⟩]
def f_frame_Seal_r14 : List AOp := [
  ⟨(some 36), .none, .mv (.t 6)⟩,
  ⟨(some 37), .none, .mv (.t 8)⟩,
  ⟨(some 38), .none, .app false 1 1 (.t 36) (.t 37)⟩,
  ⟨(some 6), .none, .mv (.t 38)⟩]
def f_frame_Seal_c9 : AC := (.reg f_frame_Seal_r14)
def f_frame_Seal_r15 : List AOp := [
  ⟨(some 39), .none, .bin .add .num (.t 32) (.c (.int .i64 1))⟩,
  ⟨(some 32), .none, .mv (.t 39)⟩]
def f_frame_Seal_c10 : AC := (.reg f_frame_Seal_r15)
def f_frame_Seal_c11 : AC := (.seq (.block 3 (.seq (.reg f_frame_Seal_r13) f_frame_Seal_c9)) f_frame_Seal_c10)
def f_frame_Seal_c12 : AC := (.seq (.cond (.t 33) .skip (.exit 2)) f_frame_Seal_c11)
def f_frame_Seal_c13 : AC := (.seq (.reg f_frame_Seal_r12) f_frame_Seal_c12)
def f_frame_Seal_c14 : AC := (.block 2 (.keep 6 [6, 30, 31, 32] (.loop (.keep 6 [6, 30, 31, 32] f_frame_Seal_c13))))
def f_frame_Seal_r16 : List AOp := [
  ⟨(some 40), .none, .mv (.t 6)⟩,
  ⟨(some 41), .none, .mv (.t 6)⟩,
  ⟨(some 42), .none, .bsl false 1 1 [.nils] [(0, 1, (.t 41))]⟩,
  ⟨(some 43), .none, .call 265 [(.t 42)]⟩,
  ⟨(some 44), .none, .call 264 [(.t 43)]⟩,
  ⟨(some 45), .none, .app false 1 1 (.t 40) (.t 44)⟩,
  ⟨(some 2), .none, .mv (.t 45)⟩]
def f_frame_Seal_c15 : AC := .ret
def f_frame_Seal_c16 : AC := (.seq (.reg f_frame_Seal_r16) f_frame_Seal_c15)
def f_frame_Seal_c17 : AC := (.seq (.seq (.reg f_frame_Seal_r11) f_frame_Seal_c14) f_frame_Seal_c16)
def f_frame_Seal_c18 : AC := (.seq (.reg f_frame_Seal_r10) f_frame_Seal_c17)
def f_frame_Seal_c19 : AC := (.seq (.reg f_frame_Seal_r9) f_frame_Seal_c18)
def f_frame_Seal_c20 : AC := (.seq (.seq (.reg f_frame_Seal_r2) f_frame_Seal_c8) f_frame_Seal_c19)
def f_frame_Seal_c21 : AC := (.seq (.reg f_frame_Seal_r1) f_frame_Seal_c20)
def f_frame_Seal : AF := ⟨46, [.tmp 2], (.seq (.reg f_frame_Seal_r0) f_frame_Seal_c21)⟩
/- wire_Text -/
def f_wire_Text_r0 : List AOp := [
  ⟨(some 2), .none, .mv (.c .nils)⟩]
def f_wire_Text_r1 : List AOp := [
  ⟨(some 3), .none, .mv (.t 0)⟩,
  ⟨(some 4), .none, .len .str (.t 3)⟩,
  ⟨(some 5), .none, .conv (.int .u64) (.t 4)⟩,
  ⟨(some 6), .none, .call 78 [(.t 5)]⟩,
  ⟨(some 7), .none, .mv (.t 0)⟩,
  ⟨(some 8), .none, .app false 1 1 (.t 6) (.t 7)⟩,
  ⟨(some 2), .none, .mv (.t 8)⟩]
def f_wire_Text_c0 : AC := .ret
def f_wire_Text_c1 : AC := (.seq (.reg f_wire_Text_r1) f_wire_Text_c0)
def f_wire_Text : AF := ⟨9, [.tmp 2], (.seq (.reg f_wire_Text_r0) f_wire_Text_c1)⟩
/- disk_Disk_Append -/
def f_disk_Disk_Append_r0 : List AOp := [
  ⟨(some 6), .none, .mv (.c (.int .i64 0))⟩]
def f_disk_Disk_Append_r1 : List AOp := [
  ⟨(some 16), .none, .mv (.t 0)⟩,
  ⟨(some 17), .none, .call 144 [(.t 16)]⟩,
  ⟨(some 7), .none, .mv (.t 17)⟩]
def f_disk_Disk_Append_r2 : List AOp := [
  ⟨(some 18), .none, .mv (.t 7)⟩,
  ⟨(some 19), .none, .bin .neq .num (.t 18) (.c (.int .i64 0))⟩]
def f_disk_Disk_Append_r3 : List AOp := [
  ⟨(some 20), .none, .mv (.t 7)⟩,
  ⟨(some 6), .none, .mv (.t 20)⟩]
def f_disk_Disk_Append_c0 : AC := .ret
def f_disk_Disk_Append_c1 : AC := (.cond (.t 19) (.seq (.reg f_disk_Disk_Append_r3) f_disk_Disk_Append_c0) .skip)
def f_disk_Disk_Append_c2 : AC := (.seq (.reg f_disk_Disk_Append_r2) f_disk_Disk_Append_c1)
def f_disk_Disk_Append_r4 : List AOp := [
  ⟨(some 21), .none, .mv (.t 1)⟩,
  ⟨(some 22), .none, .call 266 [(.t 21)]⟩,
  ⟨(some 23), .none, .un .not (.t 22)⟩]
def f_disk_Disk_Append_r5 : List AOp := [
  ⟨(some 6), .none, .mv (.c (.int .i64 2))⟩]
def f_disk_Disk_Append_c3 : AC := .ret
def f_disk_Disk_Append_c4 : AC := (.cond (.t 23) (.seq (.reg f_disk_Disk_Append_r5) f_disk_Disk_Append_c3) .skip)
def f_disk_Disk_Append_r6 : List AOp := [
  ⟨(some 8), .none, .mv (.c (.int .i64 0))⟩]
def f_disk_Disk_Append_r7 : List AOp := [
  ⟨(some 24), .none, .mv (.t 2)⟩,
  ⟨(some 25), .none, .len .slice (.t 24)⟩,
  ⟨(some 26), .none, .mv (.c (.int .i64 0))⟩]
def f_disk_Disk_Append_r8 : List AOp := [
  ⟨(some 27), .none, .bin .lss .num (.t 26) (.t 25)⟩]
def f_disk_Disk_Append_r9 : List AOp := [
  ⟨(some 28), .none, .iaddr 1 (.t 24) (.t 26)⟩,
  ⟨(some 29), .none, .load1 (.t 28)⟩,
  ⟨(some 10), .none, .mv (.t 29)⟩]
def f_disk_Disk_Append_r10 : List AOp := [
  ⟨(some 30), .none, .mv (.t 10)⟩,
  ⟨(some 31), .none, .len .slice (.t 30)⟩,
  ⟨(some 32), .none, .mv (.t 0)⟩,
  ⟨(some 33), .none, .call 267 [(.t 32)]⟩,
  ⟨(some 34), .none, .mv (.t 8)⟩,
  ⟨(some 35), .none, .bin .sub .num (.t 33) (.t 34)⟩,
  ⟨(some 36), .none, .bin .gtr .num (.t 31) (.t 35)⟩]
def f_disk_Disk_Append_r11 : List AOp := [
  ⟨(some 6), .none, .mv (.c (.int .i64 5))⟩]
def f_disk_Disk_Append_c5 : AC := .ret
def f_disk_Disk_Append_c6 : AC := (.cond (.t 36) (.seq (.reg f_disk_Disk_Append_r11) f_disk_Disk_Append_c5) .skip)
def f_disk_Disk_Append_r12 : List AOp := [
  ⟨(some 37), .none, .mv (.t 8)⟩,
  ⟨(some 38), .none, .mv (.t 10)⟩,
  ⟨(some 39), .none, .len .slice (.t 38)⟩,
  ⟨(some 40), .none, .bin .add .num (.t 37) (.t 39)⟩,
  ⟨(some 8), .none, .mv (.t 40)⟩]
def f_disk_Disk_Append_c7 : AC := (.reg f_disk_Disk_Append_r12)
def f_disk_Disk_Append_c8 : AC := (.seq (.seq (.reg f_disk_Disk_Append_r10) f_disk_Disk_Append_c6) f_disk_Disk_Append_c7)
def f_disk_Disk_Append_r13 : List AOp := [
  ⟨(some 41), .none, .bin .add .num (.t 26) (.c (.int .i64 1))⟩,
  ⟨(some 26), .none, .mv (.t 41)⟩]
def f_disk_Disk_Append_c9 : AC := (.reg f_disk_Disk_Append_r13)
def f_disk_Disk_Append_c10 : AC := (.seq (.block 1 (.seq (.reg f_disk_Disk_Append_r9) f_disk_Disk_Append_c8)) f_disk_Disk_Append_c9)
def f_disk_Disk_Append_c11 : AC := (.seq (.cond (.t 27) .skip (.exit 0)) f_disk_Disk_Append_c10)
def f_disk_Disk_Append_c12 : AC := (.seq (.reg f_disk_Disk_Append_r8) f_disk_Disk_Append_c11)
def f_disk_Disk_Append_c13 : AC := (.block 0 (.keep 7 [0, 1, 2, 8, 24, 25, 26] (.loop (.keep 7 [0, 1, 2, 8, 24, 25, 26] f_disk_Disk_Append_c12))))
def f_disk_Disk_Append_r14 : List AOp := [
  ⟨(some 43), .none, .mv (.t 0)⟩,
  ⟨(some 44), .none, .nilck (.t 43)⟩,
  ⟨(some 45), .none, .faddr 4 (.t 44)⟩,
  ⟨(some 46), .none, .load1 (.t 45)⟩,
  ⟨(some 47), .none, .mv (.t 1)⟩,
  ⟨(some 48), .none, .look .str .nilp true (.t 46) (.t 47)⟩,
  ⟨(some 42), .none, .mv (.t 48)⟩,
  ⟨(some 49), .none, .ext (.t 42) 0⟩,
  ⟨(some 50), .none, .ext (.t 42) 1⟩,
  ⟨(some 11), .none, .mv (.t 49)⟩,
  ⟨(some 12), .none, .mv (.t 50)⟩]
def f_disk_Disk_Append_r15 : List AOp := [
  ⟨(some 51), .none, .mv (.t 12)⟩,
  ⟨(some 52), .none, .un .not (.t 51)⟩]
def f_disk_Disk_Append_r16 : List AOp := [
  ⟨(some 53), .none, .mv (.t 0)⟩,
  ⟨(some 54), .none, .nilck (.t 53)⟩,
  ⟨(some 55), .none, .faddr 4 (.t 54)⟩,
  ⟨(some 56), .none, .load1 (.t 55)⟩,
  ⟨(some 57), .none, .len .map (.t 56)⟩,
  ⟨(some 58), .none, .bin .geq .num (.t 57) (.c (.int .i64 128))⟩]
def f_disk_Disk_Append_r17 : List AOp := [
  ⟨(some 6), .none, .mv (.c (.int .i64 5))⟩]
def f_disk_Disk_Append_c14 : AC := .ret
def f_disk_Disk_Append_c15 : AC := (.cond (.t 58) (.seq (.reg f_disk_Disk_Append_r17) f_disk_Disk_Append_c14) .skip)
def f_disk_Disk_Append_r18 : List AOp := [
  ⟨(some 59), .none, .build [.nils, (.int .i64 0)] []⟩,
  ⟨(some 60), .none, .box (.t 59)⟩,
  ⟨(some 11), .none, .mv (.t 60)⟩]
def f_disk_Disk_Append_r19 : List AOp := [
  ⟨(some 61), .none, .mv (.t 0)⟩,
  ⟨(some 62), .none, .nilck (.t 61)⟩,
  ⟨(some 63), .none, .faddr 4 (.t 62)⟩,
  ⟨(some 64), .none, .load1 (.t 63)⟩,
  ⟨(some 65), .none, .mv (.t 1)⟩,
  ⟨(some 66), .none, .mv (.t 11)⟩,
  ⟨.none, .none, .mapup .str (.t 64) (.t 65) (.t 66)⟩]
def f_disk_Disk_Append_c16 : AC := (.reg f_disk_Disk_Append_r19)
def f_disk_Disk_Append_c17 : AC := (.seq (.reg f_disk_Disk_Append_r18) f_disk_Disk_Append_c16)
def f_disk_Disk_Append_c18 : AC := (.cond (.t 52) (.seq (.seq (.reg f_disk_Disk_Append_r16) f_disk_Disk_Append_c15) f_disk_Disk_Append_c17) .skip)
def f_disk_Disk_Append_r20 : List AOp := [
  ⟨(some 67), .none, .mv (.t 2)⟩,
  ⟨(some 68), .none, .len .slice (.t 67)⟩,
  ⟨(some 69), .none, .mv (.c (.int .i64 0))⟩]
def f_disk_Disk_Append_r21 : List AOp := [
  ⟨(some 70), .none, .bin .lss .num (.t 69) (.t 68)⟩]
def f_disk_Disk_Append_r22 : List AOp := [
  ⟨(some 71), .none, .iaddr 1 (.t 67) (.t 69)⟩,
  ⟨(some 72), .none, .load1 (.t 71)⟩,
  ⟨(some 14), .none, .mv (.t 72)⟩]
def f_disk_Disk_Append_r23 : List AOp := [
  ⟨(some 73), .none, .mv (.t 11)⟩,
  ⟨(some 74), .none, .nilck (.t 73)⟩,
  ⟨(some 75), .none, .faddr 0 (.t 74)⟩,
  ⟨(some 76), .none, .load1 (.t 75)⟩,
  ⟨(some 77), .none, .mv (.t 14)⟩,
  ⟨(some 78), .none, .app false 1 1 (.t 76) (.t 77)⟩,
  ⟨(some 15), .none, .mv (.t 78)⟩]
def f_disk_Disk_Append_r24 : List AOp := [
  ⟨(some 79), .none, .mv (.t 11)⟩,
  ⟨(some 80), .none, .mv (.t 15)⟩,
  ⟨(some 81), .none, .nilck (.t 79)⟩,
  ⟨(some 82), .none, .faddr 0 (.t 81)⟩,
  ⟨.none, .none, .store 1 (.t 82) (.t 80)⟩]
def f_disk_Disk_Append_c19 : AC := (.reg f_disk_Disk_Append_r24)
def f_disk_Disk_Append_c20 : AC := (.seq (.reg f_disk_Disk_Append_r23) f_disk_Disk_Append_c19)
def f_disk_Disk_Append_r25 : List AOp := [
  ⟨(some 83), .none, .bin .add .num (.t 69) (.c (.int .i64 1))⟩,
  ⟨(some 69), .none, .mv (.t 83)⟩]
def f_disk_Disk_Append_c21 : AC := (.reg f_disk_Disk_Append_r25)
def f_disk_Disk_Append_c22 : AC := (.seq (.block 3 (.seq (.reg f_disk_Disk_Append_r22) f_disk_Disk_Append_c20)) f_disk_Disk_Append_c21)
def f_disk_Disk_Append_c23 : AC := (.seq (.cond (.t 70) .skip (.exit 2)) f_disk_Disk_Append_c22)
def f_disk_Disk_Append_c24 : AC := (.seq (.reg f_disk_Disk_Append_r21) f_disk_Disk_Append_c23)
def f_disk_Disk_Append_c25 : AC := (.block 2 (.keep 7 [0, 8, 11, 67, 68, 69] (.loop (.keep 7 [0, 8, 11, 67, 68, 69] f_disk_Disk_Append_c24))))
def f_disk_Disk_Append_r26 : List AOp := [
  ⟨(some 84), .none, .mv (.t 0)⟩,
  ⟨(some 85), .none, .nilck (.t 84)⟩,
  ⟨(some 86), .none, .faddr 3 (.t 85)⟩,
  ⟨(some 87), .none, .load1 (.t 86)⟩,
  ⟨(some 88), .none, .mv (.t 8)⟩,
  ⟨(some 89), .none, .bin .add .num (.t 87) (.t 88)⟩,
  ⟨(some 90), .none, .nilck (.t 84)⟩,
  ⟨(some 91), .none, .faddr 3 (.t 90)⟩,
  ⟨.none, .none, .store 1 (.t 91) (.t 89)⟩]
def f_disk_Disk_Append_r27 : List AOp := [
  ⟨(some 92), .none, .mv (.t 0)⟩,
  ⟨(some 93), .none, .nilck (.t 92)⟩,
  ⟨(some 94), .none, .faddr 0 (.t 93)⟩,
  ⟨(some 95), .none, .call 146 [(.t 94)]⟩]
def f_disk_Disk_Append_r28 : List AOp := [
  ⟨(some 6), .none, .mv (.c (.int .i64 0))⟩]
def f_disk_Disk_Append_c26 : AC := .ret
def f_disk_Disk_Append_c27 : AC := (.seq (.reg f_disk_Disk_Append_r28) f_disk_Disk_Append_c26)
def f_disk_Disk_Append_c28 : AC := (.seq (.reg f_disk_Disk_Append_r27) f_disk_Disk_Append_c27)
def f_disk_Disk_Append_c29 : AC := (.seq (.reg f_disk_Disk_Append_r26) f_disk_Disk_Append_c28)
def f_disk_Disk_Append_c30 : AC := (.keep 7 [0, 2, 8, 11] (.seq (.seq (.reg f_disk_Disk_Append_r20) f_disk_Disk_Append_c25) f_disk_Disk_Append_c29))
def f_disk_Disk_Append_c31 : AC := (.seq (.seq (.reg f_disk_Disk_Append_r15) f_disk_Disk_Append_c18) f_disk_Disk_Append_c30)
def f_disk_Disk_Append_c32 : AC := (.seq (.reg f_disk_Disk_Append_r14) f_disk_Disk_Append_c31)
def f_disk_Disk_Append_c33 : AC := (.seq (.seq (.reg f_disk_Disk_Append_r7) f_disk_Disk_Append_c13) f_disk_Disk_Append_c32)
def f_disk_Disk_Append_c34 : AC := (.seq (.reg f_disk_Disk_Append_r6) f_disk_Disk_Append_c33)
def f_disk_Disk_Append_c35 : AC := (.seq (.seq (.reg f_disk_Disk_Append_r4) f_disk_Disk_Append_c4) f_disk_Disk_Append_c34)
def f_disk_Disk_Append_c36 : AC := (.seq (.seq (.reg f_disk_Disk_Append_r1) f_disk_Disk_Append_c2) f_disk_Disk_Append_c35)
def f_disk_Disk_Append : AF := ⟨96, [.tmp 6], (.seq (.reg f_disk_Disk_Append_r0) f_disk_Disk_Append_c36)⟩
/- disk_Disk_Sync -/
def f_disk_Disk_Sync_r0 : List AOp := [
  ⟨(some 4), .none, .mv (.c (.int .i64 0))⟩]
def f_disk_Disk_Sync_r1 : List AOp := [
  ⟨(some 11), .none, .mv (.t 0)⟩,
  ⟨(some 12), .none, .call 144 [(.t 11)]⟩,
  ⟨(some 5), .none, .mv (.t 12)⟩]
def f_disk_Disk_Sync_r2 : List AOp := [
  ⟨(some 13), .none, .mv (.t 5)⟩,
  ⟨(some 14), .none, .bin .neq .num (.t 13) (.c (.int .i64 0))⟩]
def f_disk_Disk_Sync_r3 : List AOp := [
  ⟨(some 15), .none, .mv (.t 5)⟩,
  ⟨(some 4), .none, .mv (.t 15)⟩]
def f_disk_Disk_Sync_c0 : AC := .ret
def f_disk_Disk_Sync_c1 : AC := (.cond (.t 14) (.seq (.reg f_disk_Disk_Sync_r3) f_disk_Disk_Sync_c0) .skip)
def f_disk_Disk_Sync_c2 : AC := (.seq (.reg f_disk_Disk_Sync_r2) f_disk_Disk_Sync_c1)
def f_disk_Disk_Sync_r4 : List AOp := [
  ⟨(some 16), .none, .mv (.t 1)⟩,
  ⟨(some 17), .none, .len .slice (.t 16)⟩,
  ⟨(some 18), .none, .mv (.c (.int .i64 0))⟩]
def f_disk_Disk_Sync_r5 : List AOp := [
  ⟨(some 19), .none, .bin .lss .num (.t 18) (.t 17)⟩]
def f_disk_Disk_Sync_r6 : List AOp := [
  ⟨(some 20), .none, .iaddr 1 (.t 16) (.t 18)⟩,
  ⟨(some 21), .none, .load1 (.t 20)⟩,
  ⟨(some 7), .none, .mv (.t 21)⟩]
def f_disk_Disk_Sync_r7 : List AOp := [
  ⟨(some 22), .none, .mv (.t 0)⟩,
  ⟨(some 23), .none, .nilck (.t 22)⟩,
  ⟨(some 24), .none, .faddr 4 (.t 23)⟩,
  ⟨(some 25), .none, .load1 (.t 24)⟩,
  ⟨(some 26), .none, .mv (.t 7)⟩,
  ⟨(some 27), .none, .look .str .nilp false (.t 25) (.t 26)⟩,
  ⟨(some 28), .none, .bin .eql .ptr (.t 27) (.c .nilp)⟩]
def f_disk_Disk_Sync_r8 : List AOp := [
  ⟨(some 4), .none, .mv (.c (.int .i64 3))⟩]
def f_disk_Disk_Sync_c3 : AC := .ret
def f_disk_Disk_Sync_c4 : AC := (.cond (.t 28) (.seq (.reg f_disk_Disk_Sync_r8) f_disk_Disk_Sync_c3) .skip)
def f_disk_Disk_Sync_c5 : AC := (.seq (.reg f_disk_Disk_Sync_r7) f_disk_Disk_Sync_c4)
def f_disk_Disk_Sync_r9 : List AOp := [
  ⟨(some 29), .none, .bin .add .num (.t 18) (.c (.int .i64 1))⟩,
  ⟨(some 18), .none, .mv (.t 29)⟩]
def f_disk_Disk_Sync_c6 : AC := (.reg f_disk_Disk_Sync_r9)
def f_disk_Disk_Sync_c7 : AC := (.seq (.block 1 (.seq (.reg f_disk_Disk_Sync_r6) f_disk_Disk_Sync_c5)) f_disk_Disk_Sync_c6)
def f_disk_Disk_Sync_c8 : AC := (.seq (.cond (.t 19) .skip (.exit 0)) f_disk_Disk_Sync_c7)
def f_disk_Disk_Sync_c9 : AC := (.seq (.reg f_disk_Disk_Sync_r5) f_disk_Disk_Sync_c8)
def f_disk_Disk_Sync_c10 : AC := (.block 0 (.keep 6 [0, 1, 16, 17, 18] (.loop (.keep 6 [0, 1, 16, 17, 18] f_disk_Disk_Sync_c9))))
def f_disk_Disk_Sync_r10 : List AOp := [
  ⟨(some 30), .none, .mv (.t 1)⟩,
  ⟨(some 31), .none, .len .slice (.t 30)⟩,
  ⟨(some 32), .none, .bin .eql .num (.t 31) (.c (.int .i64 0))⟩]
def f_disk_Disk_Sync_r11 : List AOp := [
  ⟨(some 33), .none, .mv (.t 0)⟩,
  ⟨(some 34), .none, .call 226 [(.t 33), (.c (.str []))]⟩,
  ⟨(some 1), .none, .mv (.t 34)⟩]
def f_disk_Disk_Sync_c11 : AC := (.cond (.t 32) (.reg f_disk_Disk_Sync_r11) .skip)
def f_disk_Disk_Sync_r12 : List AOp := [
  ⟨(some 35), .none, .mv (.t 1)⟩,
  ⟨(some 36), .none, .len .slice (.t 35)⟩,
  ⟨(some 37), .none, .mv (.c (.int .i64 0))⟩]
def f_disk_Disk_Sync_r13 : List AOp := [
  ⟨(some 38), .none, .bin .lss .num (.t 37) (.t 36)⟩]
def f_disk_Disk_Sync_r14 : List AOp := [
  ⟨(some 39), .none, .iaddr 1 (.t 35) (.t 37)⟩,
  ⟨(some 40), .none, .load1 (.t 39)⟩,
  ⟨(some 9), .none, .mv (.t 40)⟩]
def f_disk_Disk_Sync_r15 : List AOp := [
  ⟨(some 41), .none, .mv (.t 0)⟩,
  ⟨(some 42), .none, .nilck (.t 41)⟩,
  ⟨(some 43), .none, .faddr 4 (.t 42)⟩,
  ⟨(some 44), .none, .load1 (.t 43)⟩,
  ⟨(some 45), .none, .mv (.t 9)⟩,
  ⟨(some 46), .none, .look .str .nilp false (.t 44) (.t 45)⟩,
  ⟨(some 10), .none, .mv (.t 46)⟩]
def f_disk_Disk_Sync_r16 : List AOp := [
  ⟨(some 47), .none, .mv (.t 10)⟩,
  ⟨(some 48), .none, .mv (.t 10)⟩,
  ⟨(some 49), .none, .nilck (.t 48)⟩,
  ⟨(some 50), .none, .faddr 0 (.t 49)⟩,
  ⟨(some 51), .none, .load1 (.t 50)⟩,
  ⟨(some 52), .none, .len .slice (.t 51)⟩,
  ⟨(some 53), .none, .nilck (.t 47)⟩,
  ⟨(some 54), .none, .faddr 1 (.t 53)⟩,
  ⟨.none, .none, .store 1 (.t 54) (.t 52)⟩]
def f_disk_Disk_Sync_c12 : AC := (.reg f_disk_Disk_Sync_r16)
def f_disk_Disk_Sync_c13 : AC := (.seq (.reg f_disk_Disk_Sync_r15) f_disk_Disk_Sync_c12)
def f_disk_Disk_Sync_r17 : List AOp := [
  ⟨(some 55), .none, .bin .add .num (.t 37) (.c (.int .i64 1))⟩,
  ⟨(some 37), .none, .mv (.t 55)⟩]
def f_disk_Disk_Sync_c14 : AC := (.reg f_disk_Disk_Sync_r17)
def f_disk_Disk_Sync_c15 : AC := (.seq (.block 3 (.seq (.reg f_disk_Disk_Sync_r14) f_disk_Disk_Sync_c13)) f_disk_Disk_Sync_c14)
def f_disk_Disk_Sync_c16 : AC := (.seq (.cond (.t 38) .skip (.exit 2)) f_disk_Disk_Sync_c15)
def f_disk_Disk_Sync_c17 : AC := (.seq (.reg f_disk_Disk_Sync_r13) f_disk_Disk_Sync_c16)
def f_disk_Disk_Sync_c18 : AC := (.block 2 (.keep 6 [0, 35, 36, 37] (.loop (.keep 6 [0, 35, 36, 37] f_disk_Disk_Sync_c17))))
def f_disk_Disk_Sync_r18 : List AOp := [
  ⟨(some 56), .none, .mv (.t 0)⟩,
  ⟨(some 57), .none, .nilck (.t 56)⟩,
  ⟨(some 58), .none, .faddr 0 (.t 57)⟩,
  ⟨(some 59), .none, .call 146 [(.t 58)]⟩]
def f_disk_Disk_Sync_r19 : List AOp := [
  ⟨(some 4), .none, .mv (.c (.int .i64 0))⟩]
def f_disk_Disk_Sync_c19 : AC := .ret
def f_disk_Disk_Sync_c20 : AC := (.seq (.reg f_disk_Disk_Sync_r19) f_disk_Disk_Sync_c19)
def f_disk_Disk_Sync_c21 : AC := (.seq (.reg f_disk_Disk_Sync_r18) f_disk_Disk_Sync_c20)
def f_disk_Disk_Sync_c22 : AC := (.keep 6 [0, 1] (.seq (.seq (.reg f_disk_Disk_Sync_r12) f_disk_Disk_Sync_c18) f_disk_Disk_Sync_c21))
def f_disk_Disk_Sync_c23 : AC := (.seq (.seq (.reg f_disk_Disk_Sync_r10) f_disk_Disk_Sync_c11) f_disk_Disk_Sync_c22)
def f_disk_Disk_Sync_c24 : AC := (.seq (.seq (.reg f_disk_Disk_Sync_r4) f_disk_Disk_Sync_c10) f_disk_Disk_Sync_c23)
def f_disk_Disk_Sync_c25 : AC := (.seq (.seq (.reg f_disk_Disk_Sync_r1) f_disk_Disk_Sync_c2) f_disk_Disk_Sync_c24)
def f_disk_Disk_Sync : AF := ⟨60, [.tmp 4], (.seq (.reg f_disk_Disk_Sync_r0) f_disk_Disk_Sync_c25)⟩
/- compact_rise -/
def f_compact_rise_r0 : List AOp := [
  ⟨(some 4), .none, .mv (.c (.bool false))⟩]
def f_compact_rise_r1 : List AOp := [
  ⟨(some 7), .none, .mv (.t 1)⟩,
  ⟨(some 8), .none, .len .slice (.t 7)⟩,
  ⟨(some 9), .none, .mv (.c (.int .i64 0))⟩]
def f_compact_rise_r2 : List AOp := [
  ⟨(some 10), .none, .bin .lss .num (.t 9) (.t 8)⟩]
def f_compact_rise_r3 : List AOp := [
  ⟨(some 11), .none, .mv (.t 9)⟩,
  ⟨(some 12), .none, .iaddr 5 (.t 7) (.t 9)⟩,
  ⟨(some 13), .none, .loadn 5 (.t 12)⟩,
  ⟨(some 6), .none, .alloc [(.int .i64 0), (.str []), (.str []), (.bool false), (.int .i64 0)]⟩,
  ⟨(some 5), .none, .mv (.t 11)⟩,
  ⟨.none, .none, .store 5 (.t 6) (.t 13)⟩]
def f_compact_rise_r4 : DR := ⟨[
  ⟨(some 14), .none, .mv (.t 5)⟩,
  ⟨(some 15), .none, .bin .eql .num (.t 14) (.c (.int .i64 0))⟩,
  ⟨(some 16), .none, .mv (.t 15)⟩,
  ⟨(some 17), (some (16, true)), .faddr 0 (.t 6)⟩,
  ⟨(some 18), (some (16, true)), .load1 (.t 17)⟩,
  ⟨(some 19), (some (16, true)), .mv (.t 0)⟩,
  ⟨(some 20), (some (16, true)), .bin .lss .num (.t 18) (.t 19)⟩,
  ⟨(some 21), .none, .pick (.t 16) (.t 20) (.c (.bool false))⟩,
  ⟨(some 22), .none, .mv (.t 21)⟩,
  ⟨(some 23), (some (22, false)), .mv (.t 5)⟩,
  ⟨(some 24), (some (22, false)), .bin .gtr .num (.t 23) (.c (.int .i64 0))⟩,
  ⟨(some 25), (some (22, false)), .mv (.t 24)⟩,
  ⟨(some 26), (some (25, true)), .faddr 0 (.t 6)⟩,
  ⟨(some 27), (some (25, true)), .load1 (.t 26)⟩,
  ⟨(some 28), (some (25, true)), .mv (.t 1)⟩,
  ⟨(some 29), (some (25, true)), .mv (.t 5)⟩,
  ⟨(some 30), (some (25, true)), .bin .sub .num (.t 29) (.c (.int .i64 1))⟩,
  ⟨(some 31), (some (25, true)), .iaddr 5 (.t 28) (.t 30)⟩,
  ⟨(some 32), (some (25, true)), .faddr 0 (.t 31)⟩,
  ⟨(some 33), (some (25, true)), .load1 (.t 32)⟩,
  ⟨(some 34), (some (25, true)), .bin .leq .num (.t 27) (.t 33)⟩,
  ⟨(some 35), (some (22, false)), .pick (.t 25) (.t 34) (.c (.bool false))⟩,
  ⟨(some 36), .none, .pick (.t 22) (.c (.bool true)) (.t 35)⟩],
  [0, 1, 3, 7, 15, 7, 63, 127, 255, 511, 1023, 2047, 4095, 8191, 4095, 4095, 36863, 118783, 249855, 511999, 1048575, 2097151, 4194303], [0, 1, 2, 3, 4, 5, 6, 7, 8, 9, 10, 11, 12, 13, 14, 15, 16, 17, 18, 19, 20, 21, 22], [], .none⟩
def f_compact_rise_r5 : List AOp := [
  ⟨(some 4), .none, .mv (.c (.bool false))⟩]
def f_compact_rise_c0 : AC := .ret
def f_compact_rise_c1 : AC := (.cond (.t 36) (.seq (.reg f_compact_rise_r5) f_compact_rise_c0) .skip)
def f_compact_rise_c2 : AC := (.seq (.dreg f_compact_rise_r4) f_compact_rise_c1)
def f_compact_rise_r6 : List AOp := [
  ⟨(some 37), .none, .bin .add .num (.t 9) (.c (.int .i64 1))⟩,
  ⟨(some 9), .none, .mv (.t 37)⟩]
def f_compact_rise_c3 : AC := (.reg f_compact_rise_r6)
def f_compact_rise_c4 : AC := (.seq (.block 1 (.seq (.reg f_compact_rise_r3) f_compact_rise_c2)) f_compact_rise_c3)
def f_compact_rise_c5 : AC := (.seq (.cond (.t 10) .skip (.exit 0)) f_compact_rise_c4)
def f_compact_rise_c6 : AC := (.seq (.reg f_compact_rise_r2) f_compact_rise_c5)
def f_compact_rise_c7 : AC := (.block 0 (.keep 6 [0, 1, 7, 8, 9] (.loop (.keep 6 [0, 1, 7, 8, 9] f_compact_rise_c6))))
def f_compact_rise_r7 : List AOp := [
  ⟨(some 4), .none, .mv (.c (.bool true))⟩]
def f_compact_rise_c8 : AC := .ret
def f_compact_rise_c9 : AC := (.seq (.reg f_compact_rise_r7) f_compact_rise_c8)
def f_compact_rise_c10 : AC := (.seq (.seq (.reg f_compact_rise_r1) f_compact_rise_c7) f_compact_rise_c9)
def f_compact_rise : AF := ⟨38, [.tmp 4], (.seq (.reg f_compact_rise_r0) f_compact_rise_c10)⟩
/- seglog_Log_last -/
def f_seglog_Log_last_r0 : List AOp := [
  ⟨(some 2), .none, .mv (.c .nilp)⟩]
def f_seglog_Log_last_r1 : List AOp := [
  ⟨(some 3), .none, .mv (.t 0)⟩,
  ⟨(some 4), .none, .nilck (.t 3)⟩,
  ⟨(some 5), .none, .faddr 4 (.t 4)⟩,
  ⟨(some 6), .none, .load1 (.t 5)⟩,
  ⟨(some 7), .none, .len .slice (.t 6)⟩,
  ⟨(some 8), .none, .bin .eql .num (.t 7) (.c (.int .i64 0))⟩]
def f_seglog_Log_last_r2 : List AOp := [
  ⟨(some 2), .none, .mv (.c .nilp)⟩]
def f_seglog_Log_last_c0 : AC := .ret
def f_seglog_Log_last_c1 : AC := (.cond (.t 8) (.seq (.reg f_seglog_Log_last_r2) f_seglog_Log_last_c0) .skip)
def f_seglog_Log_last_r3 : DR := ⟨[
  ⟨(some 9), .none, .mv (.t 0)⟩,
  ⟨(some 10), .none, .nilck (.t 9)⟩,
  ⟨(some 11), .none, .faddr 4 (.t 10)⟩,
  ⟨(some 12), .none, .load1 (.t 11)⟩,
  ⟨(some 13), .none, .mv (.t 0)⟩,
  ⟨(some 14), .none, .nilck (.t 13)⟩,
  ⟨(some 15), .none, .faddr 4 (.t 14)⟩,
  ⟨(some 16), .none, .load1 (.t 15)⟩,
  ⟨(some 17), .none, .len .slice (.t 16)⟩,
  ⟨(some 18), .none, .bin .sub .num (.t 17) (.c (.int .i64 1))⟩,
  ⟨(some 19), .none, .iaddr 1 (.t 12) (.t 18)⟩,
  ⟨(some 20), .none, .load1 (.t 19)⟩,
  ⟨(some 2), .none, .mv (.t 20)⟩],
  [0, 1, 3, 7, 0, 16, 48, 112, 240, 496, 1023, 2047, 4095], [0, 1, 2, 3, 4, 5, 6, 7, 8, 9, 10, 11, 12], [], .none⟩
def f_seglog_Log_last_c2 : AC := .ret
def f_seglog_Log_last_c3 : AC := (.seq (.dreg f_seglog_Log_last_r3) f_seglog_Log_last_c2)
def f_seglog_Log_last_c4 : AC := (.seq (.seq (.reg f_seglog_Log_last_r1) f_seglog_Log_last_c1) f_seglog_Log_last_c3)
def f_seglog_Log_last : AF := ⟨21, [.tmp 2], (.seq (.reg f_seglog_Log_last_r0) f_seglog_Log_last_c4)⟩
/- seglog_segment_reach -/
def f_seglog_segment_reach_r0 : List AOp := [
  ⟨(some 2), .none, .mv (.c (.int .i64 0))⟩]
def f_seglog_segment_reach_r1 : DR := ⟨[
  ⟨(some 3), .none, .mv (.t 0)⟩,
  ⟨(some 4), .none, .nilck (.t 3)⟩,
  ⟨(some 5), .none, .faddr 1 (.t 4)⟩,
  ⟨(some 6), .none, .load1 (.t 5)⟩,
  ⟨(some 7), .none, .mv (.t 0)⟩,
  ⟨(some 8), .none, .nilck (.t 7)⟩,
  ⟨(some 9), .none, .faddr 2 (.t 8)⟩,
  ⟨(some 10), .none, .load1 (.t 9)⟩,
  ⟨(some 11), .none, .mv (.t 0)⟩,
  ⟨(some 12), .none, .nilck (.t 11)⟩,
  ⟨(some 13), .none, .faddr 3 (.t 12)⟩,
  ⟨(some 14), .none, .load1 (.t 13)⟩,
  ⟨(some 15), .none, .mx [(.t 6), (.t 10), (.t 14)]⟩,
  ⟨(some 2), .none, .mv (.t 15)⟩],
  [0, 1, 3, 7, 0, 16, 48, 112, 0, 256, 768, 1792, 4095, 8191], [0, 1, 2, 3, 4, 5, 6, 7, 8, 9, 10, 11, 12, 13], [], .none⟩
def f_seglog_segment_reach_c0 : AC := .ret
def f_seglog_segment_reach_c1 : AC := (.seq (.dreg f_seglog_segment_reach_r1) f_seglog_segment_reach_c0)
def f_seglog_segment_reach : AF := ⟨16, [.tmp 2], (.seq (.reg f_seglog_segment_reach_r0) f_seglog_segment_reach_c1)⟩
/- slices_SortFunc_iso_Txn -/
def f_slices_SortFunc_iso_Txn_r0 : List AOp := [
  ⟨(some 5), .none, .mv (.t 0)⟩,
  ⟨(some 6), .none, .len .slice (.t 5)⟩,
  ⟨(some 4), .none, .mv (.t 6)⟩]
def f_slices_SortFunc_iso_Txn_r1 : List AOp := [
  ⟨(some 7), .none, .mv (.t 0)⟩,
  ⟨(some 8), .none, .mv (.t 4)⟩,
  ⟨(some 9), .none, .mv (.t 4)⟩,
  ⟨(some 10), .none, .conv (.int .u64) (.t 9)⟩,
  ⟨(some 11), .none, .call 220 [(.t 10)]⟩,
  ⟨(some 12), .none, .mv (.t 1)⟩,
  ⟨(some 13), .none, .call 269 [(.t 7), (.c (.int .i64 0)), (.t 8), (.t 11), (.t 12)]⟩]
def f_slices_SortFunc_iso_Txn_c0 : AC := (.reg f_slices_SortFunc_iso_Txn_r1)
def f_slices_SortFunc_iso_Txn : AF := ⟨14, [], (.seq (.reg f_slices_SortFunc_iso_Txn_r0) f_slices_SortFunc_iso_Txn_c0)⟩
/- compact_Table_at -/
def f_compact_Table_at_r0 : List AOp := [
  ⟨(some 4), .none, .mv (.c (.int .i64 0))⟩,
  ⟨(some 5), .none, .mv (.c (.bool false))⟩]
def f_compact_Table_at_r1 : List AOp := [
  ⟨(some 7), .none, .mv (.t 0)⟩,
  ⟨(some 8), .none, .mv (.t 1)⟩,
  ⟨(some 9), .none, .call 213 [(.t 7), (.t 8)]⟩,
  ⟨(some 6), .none, .mv (.t 9)⟩]
def f_compact_Table_at_r2 : DR := ⟨[
  ⟨(some 10), .none, .mv (.t 6)⟩,
  ⟨(some 11), .none, .mv (.t 6)⟩,
  ⟨(some 12), .none, .mv (.t 0)⟩,
  ⟨(some 13), .none, .nilck (.t 12)⟩,
  ⟨(some 14), .none, .faddr 1 (.t 13)⟩,
  ⟨(some 15), .none, .load1 (.t 14)⟩,
  ⟨(some 16), .none, .len .slice (.t 15)⟩,
  ⟨(some 17), .none, .bin .lss .num (.t 11) (.t 16)⟩,
  ⟨(some 18), .none, .mv (.t 17)⟩,
  ⟨(some 19), (some (18, true)), .mv (.t 0)⟩,
  ⟨(some 20), (some (18, true)), .nilck (.t 19)⟩,
  ⟨(some 21), (some (18, true)), .faddr 1 (.t 20)⟩,
  ⟨(some 22), (some (18, true)), .load1 (.t 21)⟩,
  ⟨(some 23), (some (18, true)), .mv (.t 6)⟩,
  ⟨(some 24), (some (18, true)), .iaddr 5 (.t 22) (.t 23)⟩,
  ⟨(some 25), (some (18, true)), .faddr 1 (.t 24)⟩,
  ⟨(some 26), (some (18, true)), .faddr 0 (.t 25)⟩,
  ⟨(some 27), (some (18, true)), .load1 (.t 26)⟩,
  ⟨(some 28), (some (18, true)), .mv (.t 1)⟩,
  ⟨(some 29), (some (18, true)), .bin .eql .str (.t 27) (.t 28)⟩,
  ⟨(some 30), .none, .pick (.t 18) (.t 29) (.c (.bool false))⟩,
  ⟨(some 4), .none, .mv (.t 10)⟩,
  ⟨(some 5), .none, .mv (.t 30)⟩],
  [0, 0, 0, 4, 12, 28, 60, 126, 254, 510, 1022, 2046, 4094, 510, 16382, 32766, 65534, 131070, 510, 524286, 1048574, 511, 4194303], [0, 1, 2, 3, 4, 5, 6, 7, 8, 9, 10, 11, 12, 13, 14, 15, 16, 17, 18, 19, 20, 21, 22], [], .none⟩
def f_compact_Table_at_c0 : AC := .ret
def f_compact_Table_at_c1 : AC := (.seq (.dreg f_compact_Table_at_r2) f_compact_Table_at_c0)
def f_compact_Table_at_c2 : AC := (.seq (.reg f_compact_Table_at_r1) f_compact_Table_at_c1)
def f_compact_Table_at : AF := ⟨31, [.tmp 4, .tmp 5], (.seq (.reg f_compact_Table_at_r0) f_compact_Table_at_c2)⟩
/- compact_Table_set -/
def f_compact_Table_set_r0 : List AOp := [
  ⟨(some 3), .none, .box (.t 1)⟩]
def f_compact_Table_set_r1 : List AOp := [
  ⟨(some 7), .none, .mv (.t 0)⟩,
  ⟨(some 8), .none, .faddr 1 (.t 3)⟩,
  ⟨(some 9), .none, .faddr 0 (.t 8)⟩,
  ⟨(some 10), .none, .load1 (.t 9)⟩,
  ⟨(some 11), .none, .call 211 [(.t 7), (.t 10)]⟩,
  ⟨(some 6), .none, .mv (.t 11)⟩,
  ⟨(some 12), .none, .ext (.t 6) 0⟩,
  ⟨(some 13), .none, .ext (.t 6) 1⟩,
  ⟨(some 4), .none, .mv (.t 12)⟩,
  ⟨(some 5), .none, .mv (.t 13)⟩]
def f_compact_Table_set_r2 : List AOp := [
  ⟨(some 15), .none, .mv (.t 5)⟩,
  ⟨(some 16), .none, .mv (.t 15)⟩,
  ⟨(some 17), (some (16, true)), .faddr 1 (.t 3)⟩,
  ⟨(some 18), (some (16, true)), .faddr 2 (.t 17)⟩,
  ⟨(some 19), (some (16, true)), .load1 (.t 18)⟩,
  ⟨(some 20), .none, .pick (.t 16) (.t 19) (.c (.bool false))⟩,
  ⟨(some 14), .none, .mv (.t 20)⟩]
def f_compact_Table_set_r3 : List AOp := [
  ⟨(some 21), .none, .mv (.t 0)⟩,
  ⟨(some 22), .none, .mv (.t 0)⟩,
  ⟨(some 23), .none, .nilck (.t 22)⟩,
  ⟨(some 24), .none, .faddr 1 (.t 23)⟩,
  ⟨(some 25), .none, .load1 (.t 24)⟩,
  ⟨(some 26), .none, .mv (.t 4)⟩,
  ⟨(some 27), .none, .mv (.t 4)⟩,
  ⟨(some 28), .none, .bin .add .num (.t 27) (.c (.int .i64 1))⟩,
  ⟨(some 29), .none, .call 271 [(.t 25), (.t 26), (.t 28)]⟩,
  ⟨(some 30), .none, .nilck (.t 21)⟩,
  ⟨(some 31), .none, .faddr 1 (.t 30)⟩,
  ⟨.none, .none, .store 1 (.t 31) (.t 29)⟩]
def f_compact_Table_set_r4 : List AOp := [
  ⟨(some 33), .none, .mv (.t 5)⟩,
  ⟨(some 32), .none, .mv (.t 33)⟩]
def f_compact_Table_set_r5 : DR := ⟨[
  ⟨(some 34), .none, .mv (.t 0)⟩,
  ⟨(some 35), .none, .nilck (.t 34)⟩,
  ⟨(some 36), .none, .faddr 1 (.t 35)⟩,
  ⟨(some 37), .none, .load1 (.t 36)⟩,
  ⟨(some 38), .none, .mv (.t 4)⟩,
  ⟨(some 39), .none, .loadn 5 (.t 3)⟩,
  ⟨(some 40), .none, .iaddr 5 (.t 37) (.t 38)⟩,
  ⟨.none, .none, .store 5 (.t 40) (.t 39)⟩],
  [0, 1, 3, 7, 0, 0, 63, 127], [0, 1, 2, 3, 4, 5, 6, 7], [], .none⟩
def f_compact_Table_set_r6 : List AOp := [
  ⟨(some 42), .none, .faddr 1 (.t 3)⟩,
  ⟨(some 43), .none, .faddr 2 (.t 42)⟩,
  ⟨(some 44), .none, .load1 (.t 43)⟩,
  ⟨(some 45), .none, .un .not (.t 44)⟩,
  ⟨(some 41), .none, .mv (.t 45)⟩]
def f_compact_Table_set_r7 : DR := ⟨[
  ⟨(some 46), .none, .mv (.t 0)⟩,
  ⟨(some 47), .none, .mv (.t 0)⟩,
  ⟨(some 48), .none, .nilck (.t 47)⟩,
  ⟨(some 49), .none, .faddr 1 (.t 48)⟩,
  ⟨(some 50), .none, .load1 (.t 49)⟩,
  ⟨(some 51), .none, .mv (.t 4)⟩,
  ⟨(some 52), .none, .loadn 5 (.t 3)⟩,
  ⟨(some 53), .none, .bsl false 5 1 [(.int .i64 0), (.str []), (.str []), (.bool false), (.int .i64 0)] [(0, 5, (.t 52))]⟩,
  ⟨(some 54), .none, .call 272 [(.t 50), (.t 51), (.t 53)]⟩,
  ⟨(some 55), .none, .nilck (.t 46)⟩,
  ⟨(some 56), .none, .faddr 1 (.t 55)⟩,
  ⟨.none, .none, .store 1 (.t 56) (.t 54)⟩],
  [0, 0, 2, 6, 14, 0, 0, 64, 254, 511, 1023, 2047], [0, 1, 2, 3, 4, 5, 6, 7, 8, 9, 10, 11], [], .none⟩
def f_compact_Table_set_c0 : AC := (.cond (.t 41) (.dreg f_compact_Table_set_r7) .skip)
def f_compact_Table_set_c1 : AC := (.cond (.t 32) (.dreg f_compact_Table_set_r5) (.seq (.reg f_compact_Table_set_r6) f_compact_Table_set_c0))
def f_compact_Table_set_c2 : AC := (.cond (.t 14) (.reg f_compact_Table_set_r3) (.seq (.reg f_compact_Table_set_r4) f_compact_Table_set_c1))
def f_compact_Table_set_r8 : List AOp := [
  ⟨(some 57), .none, .mv (.t 0)⟩,
  ⟨(some 58), .none, .faddr 0 (.t 3)⟩,
  ⟨(some 59), .none, .load1 (.t 58)⟩,
  ⟨(some 60), .none, .bin .add .num (.t 59) (.c (.int .i64 1))⟩,
  ⟨(some 61), .none, .nilck (.t 57)⟩,
  ⟨(some 62), .none, .faddr 0 (.t 61)⟩,
  ⟨.none, .none, .store 1 (.t 62) (.t 60)⟩]
def f_compact_Table_set_c3 : AC := (.keep 6 [0, 3] (.reg f_compact_Table_set_r8))
def f_compact_Table_set_c4 : AC := (.seq (.block 0 (.seq (.reg f_compact_Table_set_r2) f_compact_Table_set_c2)) f_compact_Table_set_c3)
def f_compact_Table_set_c5 : AC := (.seq (.reg f_compact_Table_set_r1) f_compact_Table_set_c4)
def f_compact_Table_set : AF := ⟨63, [], (.seq (.reg f_compact_Table_set_r0) f_compact_Table_set_c5)⟩
/- compact_Table_from -/
def f_compact_Table_from_r0 : List AOp := [
  ⟨(some 2), .none, .box (.t 0)⟩,
  ⟨(some 3), .none, .box (.t 1)⟩,
  ⟨(some 4), .none, .mv (.c (.int .i64 0))⟩]
def f_compact_Table_from_r1 : List AOp := [
  ⟨(some 5), .none, .load1 (.t 2)⟩,
  ⟨(some 6), .none, .nilck (.t 5)⟩,
  ⟨(some 7), .none, .faddr 1 (.t 6)⟩,
  ⟨(some 8), .none, .load1 (.t 7)⟩,
  ⟨(some 9), .none, .len .slice (.t 8)⟩,
  ⟨(some 10), .none, .mkfn 273 [] [(.t 2), (.t 3)]⟩,
  ⟨(some 11), .none, .call 178 [(.t 9), (.t 10)]⟩,
  ⟨(some 4), .none, .mv (.t 11)⟩]
def f_compact_Table_from_c0 : AC := .ret
def f_compact_Table_from_c1 : AC := (.seq (.reg f_compact_Table_from_r1) f_compact_Table_from_c0)
def f_compact_Table_from : AF := ⟨12, [.tmp 4], (.seq (.reg f_compact_Table_from_r0) f_compact_Table_from_c1)⟩
/- math_bits_Len -/
def f_math_bits_Len_r0 : List AOp := [
  ⟨(some 2), .none, .mv (.c (.int .i64 0))⟩]
def f_math_bits_Len_r1 : List AOp := [
  ⟨(some 3), .none, .mv (.t 0)⟩,
  ⟨(some 4), .none, .conv (.int .u32) (.t 3)⟩,
  ⟨(some 5), .none, .call 287 [(.t 4)]⟩,
  ⟨(some 2), .none, .mv (.t 5)⟩]
def f_math_bits_Len_c0 : AC := .ret
def f_math_bits_Len_r2 : List AOp := [
  ⟨(some 6), .none, .mv (.t 0)⟩,
  ⟨(some 7), .none, .call 288 [(.t 6)]⟩,
  ⟨(some 2), .none, .mv (.t 7)⟩]
def f_math_bits_Len_c1 : AC := .ret
def f_math_bits_Len_c2 : AC := (.seq (.reg f_math_bits_Len_r2) f_math_bits_Len_c1)
def f_math_bits_Len_c3 : AC := (.seq (.cond (.c (.bool false)) (.seq (.reg f_math_bits_Len_r1) f_math_bits_Len_c0) .skip) f_math_bits_Len_c2)
def f_math_bits_Len : AF := ⟨8, [.tmp 2], (.seq (.reg f_math_bits_Len_r0) f_math_bits_Len_c3)⟩
/- slices_ContainsFunc_api_Batch -/
def f_slices_ContainsFunc_api_Batch_r0 : List AOp := [
  ⟨(some 4), .none, .mv (.c (.bool false))⟩]
def f_slices_ContainsFunc_api_Batch_r1 : List AOp := [
  ⟨(some 5), .none, .mv (.t 0)⟩,
  ⟨(some 6), .none, .mv (.t 1)⟩,
  ⟨(some 7), .none, .call 290 [(.t 5), (.t 6)]⟩,
  ⟨(some 8), .none, .bin .geq .num (.t 7) (.c (.int .i64 0))⟩,
  ⟨(some 4), .none, .mv (.t 8)⟩]
def f_slices_ContainsFunc_api_Batch_c0 : AC := .ret
def f_slices_ContainsFunc_api_Batch_c1 : AC := (.seq (.reg f_slices_ContainsFunc_api_Batch_r1) f_slices_ContainsFunc_api_Batch_c0)
def f_slices_ContainsFunc_api_Batch : AF := ⟨9, [.tmp 4], (.seq (.reg f_slices_ContainsFunc_api_Batch_r0) f_slices_ContainsFunc_api_Batch_c1)⟩
/- disk_Disk_Names -/
def f226r0 : List AOp := [
  ⟨(some 3), .none, .box (.t 1)⟩,
  ⟨(some 4), .none, .mv (.c .nils)⟩]
def f226r1 : List AOp := [
  ⟨(some 7), .none, .mv (.t 0)⟩,
  ⟨(some 8), .none, .bin .eql .ptr (.t 7) (.c .nilp)⟩]
def f226r2 : List AOp := [
  ⟨(some 4), .none, .mv (.c .nils)⟩]
def f226r3 : List AOp := [
  ⟨(some 5), .none, .alloc [.nils]⟩]
def f226r4 : List AOp := [
  ⟨(some 9), .none, .mv (.t 0)⟩,
  ⟨(some 10), .none, .nilck (.t 9)⟩,
  ⟨(some 11), .none, .faddr 4 (.t 10)⟩,
  ⟨(some 12), .none, .load1 (.t 11)⟩,
  ⟨(some 13), .none, .call 291 [(.t 12)]⟩]
def f226r8 : List AOp := [
  ⟨(some 22), .none, .load1 (.t 5)⟩,
  ⟨(some 23), .none, .call 293 [(.t 22)]⟩]
def f226r9 : List AOp := [
  ⟨(some 24), .none, .load1 (.t 5)⟩,
  ⟨(some 4), .none, .mv (.t 24)⟩]
def f226 : AR := ⟨25, [.tmp 4], [(.reg f226r0), (.seq (.reg f226r1) (.cond (.t 8) (.seq (.reg f226r2) .ret) .skip)), (.reg f226r3), (.reg f226r4)], (.t 13), (.seq (.reg f226r8) (.seq (.reg f226r9) .ret))⟩
/- frame_First -/
def f_frame_First_r0 : List AOp := [
  ⟨(some 2), .none, .mv (.c .nils)⟩,
  ⟨(some 3), .none, .mv (.c (.int .i64 0))⟩,
  ⟨(some 4), .none, .mv (.c (.bool false))⟩]
def f_frame_First_r1 : List AOp := [
  ⟨(some 7), .none, .mv (.t 0)⟩,
  ⟨(some 8), .none, .len .slice (.t 7)⟩,
  ⟨(some 9), .none, .bin .lss .num (.t 8) (.c (.int .i64 8))⟩]
def f_frame_First_r2 : List AOp := [
  ⟨(some 2), .none, .mv (.c .nils)⟩,
  ⟨(some 3), .none, .mv (.c (.int .i64 0))⟩,
  ⟨(some 4), .none, .mv (.c (.bool false))⟩]
def f_frame_First_c0 : AC := .ret
def f_frame_First_c1 : AC := (.cond (.t 9) (.seq (.reg f_frame_First_r2) f_frame_First_c0) .skip)
def f_frame_First_r3 : List AOp := [
  ⟨(some 10), .none, .mv (.t 0)⟩,
  ⟨(some 11), .none, .call 294 [(.t 10)]⟩,
  ⟨(some 5), .none, .mv (.t 11)⟩]
def f_frame_First_r4 : List AOp := [
  ⟨(some 12), .none, .mv (.t 5)⟩,
  ⟨(some 13), .none, .bin .gtr .num (.t 12) (.c (.int .u32 262144))⟩,
  ⟨(some 14), .none, .mv (.t 13)⟩,
  ⟨(some 15), (some (14, false)), .mv (.t 5)⟩,
  ⟨(some 16), (some (14, false)), .conv (.int .i64) (.t 15)⟩,
  ⟨(some 17), (some (14, false)), .mv (.t 0)⟩,
  ⟨(some 18), (some (14, false)), .len .slice (.t 17)⟩,
  ⟨(some 19), (some (14, false)), .bin .sub .num (.t 18) (.c (.int .i64 8))⟩,
  ⟨(some 20), (some (14, false)), .bin .gtr .num (.t 16) (.t 19)⟩,
  ⟨(some 21), .none, .pick (.t 14) (.c (.bool true)) (.t 20)⟩]
def f_frame_First_r5 : List AOp := [
  ⟨(some 2), .none, .mv (.c .nils)⟩,
  ⟨(some 3), .none, .mv (.c (.int .i64 0))⟩,
  ⟨(some 4), .none, .mv (.c (.bool false))⟩]
def f_frame_First_c2 : AC := .ret
def f_frame_First_c3 : AC := (.cond (.t 21) (.seq (.reg f_frame_First_r5) f_frame_First_c2) .skip)
def f_frame_First_r6 : List AOp := [
  ⟨(some 22), .none, .mv (.t 5)⟩,
  ⟨(some 23), .none, .conv (.int .i64) (.t 22)⟩,
  ⟨(some 24), .none, .bin .add .num (.t 23) (.c (.int .i64 4))⟩,
  ⟨(some 6), .none, .mv (.t 24)⟩]
def f_frame_First_r7 : DR := ⟨[
  ⟨(some 25), .none, .mv (.t 0)⟩,
  ⟨(some 26), .none, .mv (.t 6)⟩,
  ⟨(some 27), .none, .slc 1 (.t 25) (some (.t 26)) .none .none⟩,
  ⟨(some 28), .none, .call 294 [(.t 27)]⟩,
  ⟨(some 29), .none, .mv (.t 0)⟩,
  ⟨(some 30), .none, .mv (.t 6)⟩,
  ⟨(some 31), .none, .slc 1 (.t 29) .none (some (.t 30)) .none⟩,
  ⟨(some 32), .none, .bsl false 1 1 [.nils] [(0, 1, (.t 31))]⟩,
  ⟨(some 33), .none, .call 265 [(.t 32)]⟩,
  ⟨(some 34), .none, .bin .neq .num (.t 28) (.t 33)⟩],
  [0, 0, 3, 7, 0, 0, 48, 112, 255, 511], [0, 1, 2, 3, 4, 5, 6, 7, 8, 9], [], .none⟩
def f_frame_First_r8 : List AOp := [
  ⟨(some 2), .none, .mv (.c .nils)⟩,
  ⟨(some 3), .none, .mv (.c (.int .i64 0))⟩,
  ⟨(some 4), .none, .mv (.c (.bool false))⟩]
def f_frame_First_c4 : AC := .ret
def f_frame_First_c5 : AC := (.cond (.t 34) (.seq (.reg f_frame_First_r8) f_frame_First_c4) .skip)
def f_frame_First_r9 : List AOp := [
  ⟨(some 35), .none, .mv (.t 0)⟩,
  ⟨(some 36), .none, .mv (.t 6)⟩,
  ⟨(some 37), .none, .slc 1 (.t 35) (some (.c (.int .i64 4))) (some (.t 36)) .none⟩,
  ⟨(some 38), .none, .call 165 [(.t 37)]⟩,
  ⟨(some 39), .none, .mv (.t 6)⟩,
  ⟨(some 40), .none, .bin .add .num (.t 39) (.c (.int .i64 4))⟩,
  ⟨(some 2), .none, .mv (.t 38)⟩,
  ⟨(some 3), .none, .mv (.t 40)⟩,
  ⟨(some 4), .none, .mv (.c (.bool true))⟩]
def f_frame_First_c6 : AC := .ret
def f_frame_First_c7 : AC := (.seq (.reg f_frame_First_r9) f_frame_First_c6)
def f_frame_First_c8 : AC := (.seq (.seq (.dreg f_frame_First_r7) f_frame_First_c5) f_frame_First_c7)
def f_frame_First_c9 : AC := (.seq (.reg f_frame_First_r6) f_frame_First_c8)
def f_frame_First_c10 : AC := (.seq (.seq (.reg f_frame_First_r4) f_frame_First_c3) f_frame_First_c9)
def f_frame_First_c11 : AC := (.seq (.reg f_frame_First_r3) f_frame_First_c10)
def f_frame_First_c12 : AC := (.seq (.seq (.reg f_frame_First_r1) f_frame_First_c1) f_frame_First_c11)
def f_frame_First : AF := ⟨41, [.tmp 2, .tmp 3, .tmp 4], (.seq (.reg f_frame_First_r0) f_frame_First_c12)⟩
/- seglog_Log_segment -/
def f_seglog_Log_segment_r0 : List AOp := [
  ⟨(some 6), .none, .mv (.c .nilp)⟩]
def f_seglog_Log_segment_r1 : List AOp := [
  ⟨(some 10), .none, .mv (.t 0)⟩,
  ⟨(some 11), .none, .nilck (.t 10)⟩,
  ⟨(some 12), .none, .faddr 2 (.t 11)⟩,
  ⟨(some 13), .none, .faddr 1 (.t 12)⟩,
  ⟨(some 14), .none, .load1 (.t 13)⟩,
  ⟨(some 15), .none, .call 296 [(.t 14)]⟩,
  ⟨(some 9), .none, .mv (.t 15)⟩,
  ⟨(some 16), .none, .ext (.t 9) 0⟩,
  ⟨(some 17), .none, .ext (.t 9) 1⟩,
  ⟨(some 7), .none, .mv (.t 16)⟩,
  ⟨(some 8), .none, .mv (.t 17)⟩]
def f_seglog_Log_segment_r2 : List AOp := [
  ⟨(some 18), .none, .mv (.t 7)⟩,
  ⟨(some 19), .none, .mv (.t 1)⟩,
  ⟨(some 20), .none, .mv (.t 2)⟩,
  ⟨(some 21), .none, .mv (.t 1)⟩,
  ⟨(some 22), .none, .mv (.t 2)⟩,
  ⟨(some 23), .none, .call 249 [(.t 21), (.t 22)]⟩,
  ⟨(some 24), .none, .len .slice (.t 23)⟩,
  ⟨(some 25), .none, .build [.nilp, (.int .i64 0), (.int .i64 0), (.int .i64 0), (.int .i64 0), (.int .i64 0)] [(0, 1, (.t 18)), (1, 1, (.t 19)), (2, 1, (.t 20)), (4, 1, (.c (.int .i64 (-1)))), (5, 1, (.t 24))]⟩,
  ⟨(some 26), .none, .box (.t 25)⟩,
  ⟨(some 6), .none, .mv (.t 26)⟩]
def f_seglog_Log_segment_c0 : AC := .ret
def f_seglog_Log_segment_c1 : AC := (.seq (.reg f_seglog_Log_segment_r2) f_seglog_Log_segment_c0)
def f_seglog_Log_segment_c2 : AC := (.seq (.reg f_seglog_Log_segment_r1) f_seglog_Log_segment_c1)
def f_seglog_Log_segment : AF := ⟨27, [.tmp 6], (.seq (.reg f_seglog_Log_segment_r0) f_seglog_Log_segment_c2)⟩
/- rec_Decode -/
def f_rec_Decode_r0 : List AOp := [
  ⟨(some 2), .none, .alloc [(.int .i64 0), (.int .i64 0), (.int .i64 0), (.int .i64 0), (.int .i64 0), (.int .i64 0), .nils]⟩,
  ⟨(some 3), .none, .mv (.c (.int .i64 0))⟩]
def f_rec_Decode_r1 : List AOp := [
  ⟨(some 12), .none, .build [(.int .i64 0), (.int .i64 0), (.int .i64 0), (.int .i64 0), (.int .i64 0), (.int .i64 0), .nils] []⟩,
  ⟨(some 4), .none, .alloc [(.int .i64 0), (.int .i64 0), (.int .i64 0), (.int .i64 0), (.int .i64 0), (.int .i64 0), .nils]⟩,
  ⟨.none, .none, .store 7 (.t 4) (.t 12)⟩]
def f_rec_Decode_r2 : List AOp := [
  ⟨(some 13), .none, .mv (.t 0)⟩,
  ⟨(some 14), .none, .call 82 [(.t 13)]⟩,
  ⟨(some 5), .none, .mv (.t 14)⟩]
def f_rec_Decode_r3 : List AOp := [
  ⟨(some 15), .none, .mv (.t 5)⟩,
  ⟨(some 16), .none, .call 295 [(.t 15)]⟩,
  ⟨(some 17), .none, .bin .neq .num (.t 16) (.c (.int .i64 1))⟩]
def f_rec_Decode_r4 : List AOp := [
  ⟨(some 18), .none, .loadn 7 (.t 4)⟩,
  ⟨.none, .none, .store 7 (.t 2) (.t 18)⟩,
  ⟨(some 3), .none, .mv (.c (.int .i64 6))⟩]
def f_rec_Decode_c0 : AC := .ret
def f_rec_Decode_c1 : AC := (.cond (.t 17) (.seq (.reg f_rec_Decode_r4) f_rec_Decode_c0) .skip)
def f_rec_Decode_r5 : List AOp := [
  ⟨(some 19), .none, .mv (.t 5)⟩,
  ⟨(some 20), .none, .call 295 [(.t 19)]⟩,
  ⟨(some 21), .none, .mv (.t 5)⟩,
  ⟨(some 22), .none, .call 297 [(.t 21), (.c (.int .i64 1099511627776))]⟩,
  ⟨(some 23), .none, .mv (.t 5)⟩,
  ⟨(some 24), .none, .call 297 [(.t 23), (.c (.int .i64 1048576))]⟩,
  ⟨(some 25), .none, .build [(.int .i64 0), (.int .i64 0), (.int .i64 0), (.int .i64 0), (.int .i64 0), (.int .i64 0), .nils] [(4, 1, (.t 20)), (0, 1, (.t 22)), (1, 1, (.t 24))]⟩,
  ⟨(some 6), .none, .alloc [(.int .i64 0), (.int .i64 0), (.int .i64 0), (.int .i64 0), (.int .i64 0), (.int .i64 0), .nils]⟩,
  ⟨.none, .none, .store 7 (.t 6) (.t 25)⟩]
def f_rec_Decode_r6 : List AOp := [
  ⟨(some 26), .none, .faddr 1 (.t 6)⟩,
  ⟨(some 27), .none, .load1 (.t 26)⟩,
  ⟨(some 28), .none, .bin .gtr .num (.t 27) (.c (.int .i64 0))⟩]
def f_rec_Decode_r7 : List AOp := [
  ⟨(some 29), .none, .mv (.t 5)⟩,
  ⟨(some 30), .none, .call 297 [(.t 29), (.c (.int .i64 32767))]⟩,
  ⟨(some 31), .none, .faddr 2 (.t 6)⟩,
  ⟨.none, .none, .store 1 (.t 31) (.t 30)⟩]
def f_rec_Decode_r8 : List AOp := [
  ⟨(some 32), .none, .loadn 7 (.t 6)⟩,
  ⟨(some 33), .none, .call 185 [(.t 32)]⟩,
  ⟨(some 34), .none, .un .not (.t 33)⟩]
def f_rec_Decode_r9 : List AOp := [
  ⟨(some 35), .none, .mv (.t 5)⟩,
  ⟨(some 36), .none, .call 297 [(.t 35), (.c (.int .i64 2147483647))]⟩,
  ⟨(some 37), .none, .faddr 3 (.t 6)⟩,
  ⟨.none, .none, .store 1 (.t 37) (.t 36)⟩]
def f_rec_Decode_c2 : AC := (.cond (.t 34) (.reg f_rec_Decode_r9) .skip)
def f_rec_Decode_c3 : AC := (.seq (.reg f_rec_Decode_r8) f_rec_Decode_c2)
def f_rec_Decode_c4 : AC := (.cond (.t 28) (.seq (.reg f_rec_Decode_r7) f_rec_Decode_c3) .skip)
def f_rec_Decode_r10 : List AOp := [
  ⟨(some 38), .none, .mv (.t 5)⟩,
  ⟨(some 39), .none, .call 297 [(.t 38), (.c (.int .i64 1099511627776))]⟩,
  ⟨(some 40), .none, .faddr 5 (.t 6)⟩,
  ⟨.none, .none, .store 1 (.t 40) (.t 39)⟩]
def f_rec_Decode_r11 : List AOp := [
  ⟨(some 41), .none, .mv (.t 5)⟩,
  ⟨(some 42), .none, .call 238 [(.t 41)]⟩,
  ⟨(some 43), .none, .bin .neq .num (.t 42) (.c (.int .i64 0))⟩,
  ⟨(some 44), .none, .mv (.t 43)⟩,
  ⟨(some 45), (some (44, false)), .faddr 5 (.t 6)⟩,
  ⟨(some 46), (some (44, false)), .load1 (.t 45)⟩,
  ⟨(some 47), (some (44, false)), .bin .gtr .num (.t 46) (.c (.int .i64 1099511627776))⟩,
  ⟨(some 48), .none, .pick (.t 44) (.c (.bool true)) (.t 47)⟩]
def f_rec_Decode_r12 : List AOp := [
  ⟨(some 49), .none, .loadn 7 (.t 4)⟩,
  ⟨.none, .none, .store 7 (.t 2) (.t 49)⟩,
  ⟨(some 3), .none, .mv (.c (.int .i64 6))⟩]
def f_rec_Decode_c5 : AC := .ret
def f_rec_Decode_c6 : AC := (.cond (.t 48) (.seq (.reg f_rec_Decode_r12) f_rec_Decode_c5) .skip)
def f_rec_Decode_r13 : List AOp := [
  ⟨(some 50), .none, .loadn 7 (.t 6)⟩,
  ⟨(some 51), .none, .call 185 [(.t 50)]⟩,
  ⟨(some 52), .none, .un .not (.t 51)⟩]
def f_rec_Decode_r14 : List AOp := [
  ⟨(some 53), .none, .mv (.t 5)⟩,
  ⟨(some 54), .none, .call 297 [(.t 53), (.c (.int .i64 64))]⟩,
  ⟨(some 7), .none, .mv (.t 54)⟩]
def f_rec_Decode_r15 : List AOp := [
  ⟨(some 55), .none, .mv (.t 7)⟩,
  ⟨(some 56), .none, .bin .gtr .num (.t 55) (.c (.int .i64 64))⟩]
def f_rec_Decode_r16 : List AOp := [
  ⟨(some 57), .none, .loadn 7 (.t 4)⟩,
  ⟨.none, .none, .store 7 (.t 2) (.t 57)⟩,
  ⟨(some 3), .none, .mv (.c (.int .i64 6))⟩]
def f_rec_Decode_c7 : AC := .ret
def f_rec_Decode_c8 : AC := (.cond (.t 56) (.seq (.reg f_rec_Decode_r16) f_rec_Decode_c7) .skip)
def f_rec_Decode_r17 : List AOp := [
  ⟨(some 8), .none, .mv (.c (.str []))⟩]
def f_rec_Decode_r18 : List AOp := [
  ⟨(some 58), .none, .mv (.t 7)⟩,
  ⟨(some 59), .none, .mv (.c (.int .i64 0))⟩]
def f_rec_Decode_r19 : List AOp := [
  ⟨(some 60), .none, .bin .lss .num (.t 59) (.t 58)⟩]
def f_rec_Decode_r20 : List AOp := [
  ⟨(some 62), .none, .mv (.t 5)⟩,
  ⟨(some 63), .none, .faddr 5 (.t 6)⟩,
  ⟨(some 64), .none, .load1 (.t 63)⟩,
  ⟨(some 65), .none, .mv (.t 8)⟩,
  ⟨(some 66), .none, .call 298 [(.t 62), (.t 64), (.t 65)]⟩,
  ⟨(some 61), .none, .mv (.t 66)⟩,
  ⟨(some 67), .none, .ext (.t 61) 0⟩,
  ⟨(some 68), .none, .ext (.t 61) 1⟩,
  ⟨(some 9), .none, .alloc [(.str []), (.str []), (.bool false), (.int .i64 0)]⟩,
  ⟨.none, .none, .store 4 (.t 9) (.t 67)⟩,
  ⟨(some 10), .none, .mv (.t 68)⟩]
def f_rec_Decode_r21 : List AOp := [
  ⟨(some 69), .none, .mv (.t 10)⟩,
  ⟨(some 70), .none, .un .not (.t 69)⟩]
def f_rec_Decode_r22 : List AOp := [
  ⟨(some 71), .none, .loadn 7 (.t 4)⟩,
  ⟨.none, .none, .store 7 (.t 2) (.t 71)⟩,
  ⟨(some 3), .none, .mv (.c (.int .i64 6))⟩]
def f_rec_Decode_c9 : AC := .ret
def f_rec_Decode_c10 : AC := (.cond (.t 70) (.seq (.reg f_rec_Decode_r22) f_rec_Decode_c9) .skip)
def f_rec_Decode_r23 : List AOp := [
  ⟨(some 72), .none, .faddr 6 (.t 6)⟩,
  ⟨(some 73), .none, .load1 (.t 72)⟩,
  ⟨(some 74), .none, .loadn 4 (.t 9)⟩,
  ⟨(some 75), .none, .bsl false 4 1 [(.str []), (.str []), (.bool false), (.int .i64 0)] [(0, 4, (.t 74))]⟩,
  ⟨(some 76), .none, .app false 4 48 (.t 73) (.t 75)⟩,
  ⟨(some 11), .none, .mv (.t 76)⟩]
def f_rec_Decode_r24 : List AOp := [
  ⟨(some 77), .none, .mv (.t 11)⟩,
  ⟨(some 78), .none, .faddr 6 (.t 6)⟩,
  ⟨.none, .none, .store 1 (.t 78) (.t 77)⟩]
def f_rec_Decode_r25 : List AOp := [
  ⟨(some 79), .none, .faddr 0 (.t 9)⟩,
  ⟨(some 80), .none, .load1 (.t 79)⟩,
  ⟨(some 8), .none, .mv (.t 80)⟩]
def f_rec_Decode_c11 : AC := (.reg f_rec_Decode_r25)
def f_rec_Decode_c12 : AC := (.seq (.reg f_rec_Decode_r24) f_rec_Decode_c11)
def f_rec_Decode_c13 : AC := (.seq (.reg f_rec_Decode_r23) f_rec_Decode_c12)
def f_rec_Decode_c14 : AC := (.seq (.seq (.reg f_rec_Decode_r21) f_rec_Decode_c10) f_rec_Decode_c13)
def f_rec_Decode_r26 : List AOp := [
  ⟨(some 81), .none, .bin .add .num (.t 59) (.c (.int .i64 1))⟩,
  ⟨(some 59), .none, .mv (.t 81)⟩]
def f_rec_Decode_c15 : AC := (.reg f_rec_Decode_r26)
def f_rec_Decode_c16 : AC := (.seq (.block 1 (.seq (.reg f_rec_Decode_r20) f_rec_Decode_c14)) f_rec_Decode_c15)
def f_rec_Decode_c17 : AC := (.seq (.cond (.t 60) .skip (.exit 0)) f_rec_Decode_c16)
def f_rec_Decode_c18 : AC := (.seq (.reg f_rec_Decode_r19) f_rec_Decode_c17)
def f_rec_Decode_c19 : AC := (.block 0 (.keep 7 [2, 4, 5, 6, 8, 58, 59] (.loop (.keep 7 [2, 4, 5, 6, 8, 58, 59] f_rec_Decode_c18))))
def f_rec_Decode_c20 : AC := (.seq (.reg f_rec_Decode_r18) f_rec_Decode_c19)
def f_rec_Decode_c21 : AC := (.seq (.reg f_rec_Decode_r17) f_rec_Decode_c20)
def f_rec_Decode_c22 : AC := (.seq (.seq (.reg f_rec_Decode_r15) f_rec_Decode_c8) f_rec_Decode_c21)
def f_rec_Decode_c23 : AC := (.cond (.t 52) (.seq (.reg f_rec_Decode_r14) f_rec_Decode_c22) .skip)
def f_rec_Decode_r27 : List AOp := [
  ⟨(some 82), .none, .mv (.t 5)⟩,
  ⟨(some 83), .none, .call 84 [(.t 82)]⟩,
  ⟨(some 84), .none, .bin .neq .num (.t 83) (.c (.int .i64 0))⟩,
  ⟨(some 85), .none, .mv (.t 84)⟩,
  ⟨(some 86), (some (85, false)), .loadn 7 (.t 6)⟩,
  ⟨(some 87), (some (85, false)), .call 186 [(.t 86)]⟩,
  ⟨(some 88), (some (85, false)), .bin .neq .num (.t 87) (.c (.int .i64 0))⟩,
  ⟨(some 89), .none, .pick (.t 85) (.c (.bool true)) (.t 88)⟩]
def f_rec_Decode_r28 : List AOp := [
  ⟨(some 90), .none, .loadn 7 (.t 4)⟩,
  ⟨.none, .none, .store 7 (.t 2) (.t 90)⟩,
  ⟨(some 3), .none, .mv (.c (.int .i64 6))⟩]
def f_rec_Decode_c24 : AC := .ret
def f_rec_Decode_c25 : AC := (.cond (.t 89) (.seq (.reg f_rec_Decode_r28) f_rec_Decode_c24) .skip)
def f_rec_Decode_r29 : List AOp := [
  ⟨(some 91), .none, .loadn 7 (.t 6)⟩,
  ⟨.none, .none, .store 7 (.t 2) (.t 91)⟩,
  ⟨(some 3), .none, .mv (.c (.int .i64 0))⟩]
def f_rec_Decode_c26 : AC := .ret
def f_rec_Decode_c27 : AC := (.seq (.reg f_rec_Decode_r29) f_rec_Decode_c26)
def f_rec_Decode_c28 : AC := (.keep 7 [2, 4, 5, 6] (.seq (.seq (.reg f_rec_Decode_r27) f_rec_Decode_c25) f_rec_Decode_c27))
def f_rec_Decode_c29 : AC := (.seq (.seq (.reg f_rec_Decode_r13) f_rec_Decode_c23) f_rec_Decode_c28)
def f_rec_Decode_c30 : AC := (.seq (.seq (.reg f_rec_Decode_r11) f_rec_Decode_c6) f_rec_Decode_c29)
def f_rec_Decode_c31 : AC := (.keep 7 [2, 4, 5, 6] (.seq (.reg f_rec_Decode_r10) f_rec_Decode_c30))
def f_rec_Decode_c32 : AC := (.seq (.seq (.reg f_rec_Decode_r6) f_rec_Decode_c4) f_rec_Decode_c31)
def f_rec_Decode_c33 : AC := (.seq (.reg f_rec_Decode_r5) f_rec_Decode_c32)
def f_rec_Decode_c34 : AC := (.seq (.seq (.reg f_rec_Decode_r3) f_rec_Decode_c1) f_rec_Decode_c33)
def f_rec_Decode_c35 : AC := (.seq (.reg f_rec_Decode_r2) f_rec_Decode_c34)
def f_rec_Decode_c36 : AC := (.seq (.reg f_rec_Decode_r1) f_rec_Decode_c35)
def f_rec_Decode : AF := ⟨92, [.celln 2 7, .tmp 3], (.seq (.reg f_rec_Decode_r0) f_rec_Decode_c36)⟩
/- seglog_segment_take -/
def f_seglog_segment_take_r0 : List AOp := [
  ⟨(some 4), .none, .box (.t 1)⟩]
def f_seglog_segment_take_r1 : List AOp := [
  ⟨(some 7), .none, .loadn 7 (.t 4)⟩,
  ⟨(some 8), .none, .call 299 [(.t 7)]⟩,
  ⟨(some 6), .none, .mv (.t 8)⟩]
def f_seglog_segment_take_r2 : DR := ⟨[
  ⟨(some 9), .none, .mv (.t 0)⟩,
  ⟨(some 10), .none, .nilck (.t 9)⟩,
  ⟨(some 11), .none, .faddr 0 (.t 10)⟩,
  ⟨(some 12), .none, .load1 (.t 11)⟩,
  ⟨(some 13), .none, .faddr 0 (.t 4)⟩,
  ⟨(some 14), .none, .load1 (.t 13)⟩,
  ⟨(some 15), .none, .mv (.t 0)⟩,
  ⟨(some 16), .none, .nilck (.t 15)⟩,
  ⟨(some 17), .none, .faddr 5 (.t 16)⟩,
  ⟨(some 18), .none, .load1 (.t 17)⟩,
  ⟨(some 19), .none, .mv (.t 6)⟩,
  ⟨(some 20), .none, .call 300 [(.t 12), (.t 14), (.t 18), (.t 19)]⟩],
  [0, 1, 3, 7, 0, 16, 0, 64, 192, 448, 0, 2047], [0, 1, 2, 3, 4, 5, 6, 7, 8, 9, 10, 11], [], .none⟩
def f_seglog_segment_take_r3 : List AOp := [
  ⟨(some 21), .none, .mv (.t 0)⟩,
  ⟨(some 22), .none, .loadn 7 (.t 4)⟩,
  ⟨(some 23), .none, .call 95 [(.t 22)]⟩,
  ⟨(some 24), .none, .nilck (.t 21)⟩,
  ⟨(some 25), .none, .faddr 3 (.t 24)⟩,
  ⟨.none, .none, .store 1 (.t 25) (.t 23)⟩]
def f_seglog_segment_take_r4 : List AOp := [
  ⟨(some 26), .none, .mv (.t 0)⟩,
  ⟨(some 27), .none, .mv (.t 0)⟩,
  ⟨(some 28), .none, .nilck (.t 27)⟩,
  ⟨(some 29), .none, .faddr 4 (.t 28)⟩,
  ⟨(some 30), .none, .load1 (.t 29)⟩,
  ⟨(some 31), .none, .mv (.t 6)⟩,
  ⟨(some 32), .none, .mx [(.t 30), (.t 31)]⟩,
  ⟨(some 33), .none, .nilck (.t 26)⟩,
  ⟨(some 34), .none, .faddr 4 (.t 33)⟩,
  ⟨.none, .none, .store 1 (.t 34) (.t 32)⟩]
def f_seglog_segment_take_r5 : List AOp := [
  ⟨(some 35), .none, .mv (.t 0)⟩,
  ⟨(some 36), .none, .nilck (.t 35)⟩,
  ⟨(some 37), .none, .faddr 5 (.t 36)⟩,
  ⟨(some 38), .none, .load1 (.t 37)⟩,
  ⟨(some 39), .none, .mv (.t 2)⟩,
  ⟨(some 40), .none, .bin .add .num (.t 38) (.t 39)⟩,
  ⟨(some 41), .none, .nilck (.t 35)⟩,
  ⟨(some 42), .none, .faddr 5 (.t 41)⟩,
  ⟨.none, .none, .store 1 (.t 42) (.t 40)⟩]
def f_seglog_segment_take_c0 : AC := (.reg f_seglog_segment_take_r5)
def f_seglog_segment_take_c1 : AC := (.seq (.reg f_seglog_segment_take_r4) f_seglog_segment_take_c0)
def f_seglog_segment_take_c2 : AC := (.seq (.reg f_seglog_segment_take_r3) f_seglog_segment_take_c1)
def f_seglog_segment_take_c3 : AC := (.seq (.dreg f_seglog_segment_take_r2) f_seglog_segment_take_c2)
def f_seglog_segment_take_c4 : AC := (.seq (.reg f_seglog_segment_take_r1) f_seglog_segment_take_c3)
def f_seglog_segment_take : AF := ⟨43, [], (.seq (.reg f_seglog_segment_take_r0) f_seglog_segment_take_c4)⟩
/- seglog_Log_put -/
def f_seglog_Log_put_r0 : List AOp := [
  ⟨(some 5), .none, .mv (.t 0)⟩,
  ⟨(some 6), .none, .nilck (.t 5)⟩,
  ⟨(some 7), .none, .faddr 4 (.t 6)⟩,
  ⟨(some 8), .none, .load1 (.t 7)⟩,
  ⟨(some 9), .none, .mv (.t 1)⟩,
  ⟨(some 10), .none, .bsl false 1 1 [.nilp] [(0, 1, (.t 9))]⟩,
  ⟨(some 11), .none, .app false 1 8 (.t 8) (.t 10)⟩,
  ⟨(some 4), .none, .mv (.t 11)⟩]
def f_seglog_Log_put_r1 : List AOp := [
  ⟨(some 12), .none, .mv (.t 0)⟩,
  ⟨(some 13), .none, .mv (.t 4)⟩,
  ⟨(some 14), .none, .nilck (.t 12)⟩,
  ⟨(some 15), .none, .faddr 4 (.t 14)⟩,
  ⟨.none, .none, .store 1 (.t 15) (.t 13)⟩]
def f_seglog_Log_put_c0 : AC := (.reg f_seglog_Log_put_r1)
def f_seglog_Log_put : AF := ⟨16, [], (.seq (.reg f_seglog_Log_put_r0) f_seglog_Log_put_c0)⟩
/- wire_place_take -/
def f_wire_place_take_r0 : List AOp := [
  ⟨(some 4), .none, .mv (.c .nils)⟩]
def f_wire_place_take_r1 : List AOp := [
  ⟨(some 5), .none, .mv (.t 0)⟩,
  ⟨(some 6), .none, .nilck (.t 5)⟩,
  ⟨(some 7), .none, .faddr 1 (.t 6)⟩,
  ⟨(some 8), .none, .load1 (.t 7)⟩,
  ⟨(some 9), .none, .mv (.t 1)⟩,
  ⟨(some 10), .none, .bin .add .num (.t 8) (.t 9)⟩,
  ⟨(some 11), .none, .nilck (.t 5)⟩,
  ⟨(some 12), .none, .faddr 1 (.t 11)⟩,
  ⟨.none, .none, .store 1 (.t 12) (.t 10)⟩]
def f_wire_place_take_r2 : DR := ⟨[
  ⟨(some 13), .none, .mv (.t 0)⟩,
  ⟨(some 14), .none, .nilck (.t 13)⟩,
  ⟨(some 15), .none, .faddr 0 (.t 14)⟩,
  ⟨(some 16), .none, .load1 (.t 15)⟩,
  ⟨(some 17), .none, .mv (.t 0)⟩,
  ⟨(some 18), .none, .nilck (.t 17)⟩,
  ⟨(some 19), .none, .faddr 1 (.t 18)⟩,
  ⟨(some 20), .none, .load1 (.t 19)⟩,
  ⟨(some 21), .none, .mv (.t 1)⟩,
  ⟨(some 22), .none, .bin .sub .num (.t 20) (.t 21)⟩,
  ⟨(some 23), .none, .mv (.t 0)⟩,
  ⟨(some 24), .none, .nilck (.t 23)⟩,
  ⟨(some 25), .none, .faddr 1 (.t 24)⟩,
  ⟨(some 26), .none, .load1 (.t 25)⟩,
  ⟨(some 27), .none, .slc 1 (.t 16) (some (.t 22)) (some (.t 26)) .none⟩,
  ⟨(some 4), .none, .mv (.t 27)⟩],
  [0, 1, 3, 7, 0, 16, 48, 112, 0, 496, 0, 1024, 3072, 7168, 16383, 32767], [0, 1, 2, 3, 4, 5, 6, 7, 8, 9, 10, 11, 12, 13, 14, 15], [], .none⟩
def f_wire_place_take_c0 : AC := .ret
def f_wire_place_take_c1 : AC := (.seq (.dreg f_wire_place_take_r2) f_wire_place_take_c0)
def f_wire_place_take_c2 : AC := (.seq (.reg f_wire_place_take_r1) f_wire_place_take_c1)
def f_wire_place_take : AF := ⟨28, [.tmp 4], (.seq (.reg f_wire_place_take_r0) f_wire_place_take_c2)⟩
/- wire_Reader_Within -/
def f_wire_Reader_Within_r0 : List AOp := [
  ⟨(some 6), .none, .mv (.c (.int .i64 0))⟩]
def f_wire_Reader_Within_r1 : List AOp := [
  ⟨(some 9), .none, .mv (.t 0)⟩,
  ⟨(some 10), .none, .call 166 [(.t 9)]⟩,
  ⟨(some 11), .none, .un .not (.t 10)⟩]
def f_wire_Reader_Within_r2 : List AOp := [
  ⟨(some 6), .none, .mv (.c (.int .i64 0))⟩]
def f_wire_Reader_Within_c0 : AC := .ret
def f_wire_Reader_Within_c1 : AC := (.cond (.t 11) (.seq (.reg f_wire_Reader_Within_r2) f_wire_Reader_Within_c0) .skip)
def f_wire_Reader_Within_r3 : List AOp := [
  ⟨(some 12), .none, .mv (.t 0)⟩,
  ⟨(some 13), .none, .nilck (.t 12)⟩,
  ⟨(some 14), .none, .faddr 0 (.t 13)⟩,
  ⟨(some 15), .none, .faddr 1 (.t 14)⟩,
  ⟨(some 16), .none, .load1 (.t 15)⟩,
  ⟨(some 7), .none, .mv (.t 16)⟩]
def f_wire_Reader_Within_r4 : List AOp := [
  ⟨(some 17), .none, .mv (.t 0)⟩,
  ⟨(some 18), .none, .call 301 [(.t 17)]⟩,
  ⟨(some 8), .none, .mv (.t 18)⟩]
def f_wire_Reader_Within_r5 : List AOp := [
  ⟨(some 19), .none, .mv (.t 0)⟩,
  ⟨(some 20), .none, .nilck (.t 19)⟩,
  ⟨(some 21), .none, .faddr 0 (.t 20)⟩,
  ⟨(some 22), .none, .faddr 2 (.t 21)⟩,
  ⟨(some 23), .none, .load1 (.t 22)⟩,
  ⟨(some 24), .none, .bin .eql .num (.t 23) (.c (.int .i64 0))⟩,
  ⟨(some 25), .none, .mv (.t 24)⟩,
  ⟨(some 26), (some (25, true)), .mv (.t 8)⟩,
  ⟨(some 27), (some (25, true)), .mv (.t 1)⟩,
  ⟨(some 28), (some (25, true)), .bin .lss .num (.t 26) (.t 27)⟩,
  ⟨(some 29), (some (25, true)), .mv (.t 28)⟩,
  ⟨(some 30), (some (29, false)), .mv (.t 8)⟩,
  ⟨(some 31), (some (29, false)), .mv (.t 2)⟩,
  ⟨(some 32), (some (29, false)), .bin .gtr .num (.t 30) (.t 31)⟩,
  ⟨(some 33), (some (25, true)), .pick (.t 29) (.c (.bool true)) (.t 32)⟩,
  ⟨(some 34), .none, .pick (.t 25) (.t 33) (.c (.bool false))⟩]
def f_wire_Reader_Within_r6 : List AOp := [
  ⟨(some 35), .none, .mv (.t 0)⟩,
  ⟨(some 36), .none, .mv (.t 7)⟩,
  ⟨(some 37), .none, .nilck (.t 35)⟩,
  ⟨(some 38), .none, .faddr 0 (.t 37)⟩,
  ⟨(some 39), .none, .faddr 1 (.t 38)⟩,
  ⟨.none, .none, .store 1 (.t 39) (.t 36)⟩]
def f_wire_Reader_Within_r7 : List AOp := [
  ⟨(some 40), .none, .mv (.t 0)⟩,
  ⟨(some 41), .none, .nilck (.t 40)⟩,
  ⟨(some 42), .none, .faddr 0 (.t 41)⟩,
  ⟨(some 43), .none, .call 169 [(.t 42), (.c (.int .i64 8))]⟩]
def f_wire_Reader_Within_c2 : AC := (.reg f_wire_Reader_Within_r7)
def f_wire_Reader_Within_c3 : AC := (.cond (.t 34) (.seq (.reg f_wire_Reader_Within_r6) f_wire_Reader_Within_c2) .skip)
def f_wire_Reader_Within_r8 : List AOp := [
  ⟨(some 44), .none, .mv (.t 0)⟩,
  ⟨(some 45), .none, .nilck (.t 44)⟩,
  ⟨(some 46), .none, .faddr 0 (.t 45)⟩,
  ⟨(some 47), .none, .faddr 2 (.t 46)⟩,
  ⟨(some 48), .none, .load1 (.t 47)⟩,
  ⟨(some 49), .none, .bin .neq .num (.t 48) (.c (.int .i64 0))⟩]
def f_wire_Reader_Within_r9 : List AOp := [
  ⟨(some 6), .none, .mv (.c (.int .i64 0))⟩]
def f_wire_Reader_Within_c4 : AC := .ret
def f_wire_Reader_Within_c5 : AC := (.cond (.t 49) (.seq (.reg f_wire_Reader_Within_r9) f_wire_Reader_Within_c4) .skip)
def f_wire_Reader_Within_r10 : List AOp := [
  ⟨(some 50), .none, .mv (.t 8)⟩,
  ⟨(some 6), .none, .mv (.t 50)⟩]
def f_wire_Reader_Within_c6 : AC := .ret
def f_wire_Reader_Within_c7 : AC := (.seq (.reg f_wire_Reader_Within_r10) f_wire_Reader_Within_c6)
def f_wire_Reader_Within_c8 : AC := (.keep 6 [0, 8] (.seq (.seq (.reg f_wire_Reader_Within_r8) f_wire_Reader_Within_c5) f_wire_Reader_Within_c7))
def f_wire_Reader_Within_c9 : AC := (.seq (.seq (.reg f_wire_Reader_Within_r5) f_wire_Reader_Within_c3) f_wire_Reader_Within_c8)
def f_wire_Reader_Within_c10 : AC := (.seq (.reg f_wire_Reader_Within_r4) f_wire_Reader_Within_c9)
def f_wire_Reader_Within_c11 : AC := (.seq (.reg f_wire_Reader_Within_r3) f_wire_Reader_Within_c10)
def f_wire_Reader_Within_c12 : AC := (.seq (.seq (.reg f_wire_Reader_Within_r1) f_wire_Reader_Within_c1) f_wire_Reader_Within_c11)
def f_wire_Reader_Within : AF := ⟨51, [.tmp 6], (.seq (.reg f_wire_Reader_Within_r0) f_wire_Reader_Within_c12)⟩
/- wire_Reader_Err -/
def f_wire_Reader_Err_r0 : List AOp := [
  ⟨(some 2), .none, .mv (.c (.int .i64 0))⟩]
def f_wire_Reader_Err_r1 : List AOp := [
  ⟨(some 3), .none, .mv (.t 0)⟩,
  ⟨(some 4), .none, .bin .eql .ptr (.t 3) (.c .nilp)⟩]
def f_wire_Reader_Err_r2 : List AOp := [
  ⟨(some 2), .none, .mv (.c (.int .i64 1))⟩]
def f_wire_Reader_Err_c0 : AC := .ret
def f_wire_Reader_Err_c1 : AC := (.cond (.t 4) (.seq (.reg f_wire_Reader_Err_r2) f_wire_Reader_Err_c0) .skip)
def f_wire_Reader_Err_r3 : List AOp := [
  ⟨(some 5), .none, .mv (.t 0)⟩,
  ⟨(some 6), .none, .nilck (.t 5)⟩,
  ⟨(some 7), .none, .faddr 0 (.t 6)⟩,
  ⟨(some 8), .none, .faddr 2 (.t 7)⟩,
  ⟨(some 9), .none, .load1 (.t 8)⟩,
  ⟨(some 2), .none, .mv (.t 9)⟩]
def f_wire_Reader_Err_c2 : AC := .ret
def f_wire_Reader_Err_c3 : AC := (.seq (.reg f_wire_Reader_Err_r3) f_wire_Reader_Err_c2)
def f_wire_Reader_Err_c4 : AC := (.seq (.seq (.reg f_wire_Reader_Err_r1) f_wire_Reader_Err_c1) f_wire_Reader_Err_c3)
def f_wire_Reader_Err : AF := ⟨10, [.tmp 2], (.seq (.reg f_wire_Reader_Err_r0) f_wire_Reader_Err_c4)⟩
/- dedup_Table_row -/
def f_dedup_Table_row_r0 : List AOp := [
  ⟨(some 4), .none, .alloc [(.int .i64 0), (.int .i64 0), (.int .i64 0), (.int .i64 0), (.int .i64 0), (.int .i64 0), (.int .i64 0)]⟩,
  ⟨(some 5), .none, .mv (.c (.bool false))⟩]
def f_dedup_Table_row_r1 : List AOp := [
  ⟨(some 9), .none, .mv (.t 0)⟩,
  ⟨(some 10), .none, .nilck (.t 9)⟩,
  ⟨(some 11), .none, .faddr 2 (.t 10)⟩,
  ⟨(some 12), .none, .load1 (.t 11)⟩,
  ⟨(some 13), .none, .mv (.t 1)⟩,
  ⟨(some 14), .none, .look .num (.agg [(.int .i64 0), (.int .i64 0), (.int .i64 0), (.int .i64 0), (.int .i64 0), (.int .i64 0), (.int .i64 0)]) true (.t 12) (.t 13)⟩,
  ⟨(some 8), .none, .mv (.t 14)⟩,
  ⟨(some 15), .none, .ext (.t 8) 0⟩,
  ⟨(some 16), .none, .ext (.t 8) 1⟩,
  ⟨(some 6), .none, .alloc [(.int .i64 0), (.int .i64 0), (.int .i64 0), (.int .i64 0), (.int .i64 0), (.int .i64 0), (.int .i64 0)]⟩,
  ⟨.none, .none, .store 7 (.t 6) (.t 15)⟩,
  ⟨(some 7), .none, .mv (.t 16)⟩]
def f_dedup_Table_row_r2 : List AOp := [
  ⟨(some 17), .none, .mv (.t 7)⟩,
  ⟨(some 18), .none, .un .not (.t 17)⟩]
def f_dedup_Table_row_r3 : List AOp := [
  ⟨(some 19), .none, .mv (.t 1)⟩,
  ⟨(some 20), .none, .build [(.int .i64 0), (.int .i64 0), (.int .i64 0), (.int .i64 0), (.int .i64 0), (.int .i64 0), (.int .i64 0)] [(0, 1, (.t 19)), (1, 1, (.c (.int .i64 (-1)))), (5, 1, (.c (.int .i64 (-1))))]⟩,
  ⟨.none, .none, .store 7 (.t 4) (.t 20)⟩,
  ⟨(some 5), .none, .mv (.c (.bool false))⟩]
def f_dedup_Table_row_c0 : AC := .ret
def f_dedup_Table_row_c1 : AC := (.cond (.t 18) (.seq (.reg f_dedup_Table_row_r3) f_dedup_Table_row_c0) .skip)
def f_dedup_Table_row_r4 : List AOp := [
  ⟨(some 21), .none, .loadn 7 (.t 6)⟩,
  ⟨.none, .none, .store 7 (.t 4) (.t 21)⟩,
  ⟨(some 5), .none, .mv (.c (.bool true))⟩]
def f_dedup_Table_row_c2 : AC := .ret
def f_dedup_Table_row_c3 : AC := (.seq (.reg f_dedup_Table_row_r4) f_dedup_Table_row_c2)
def f_dedup_Table_row_c4 : AC := (.seq (.seq (.reg f_dedup_Table_row_r2) f_dedup_Table_row_c1) f_dedup_Table_row_c3)
def f_dedup_Table_row_c5 : AC := (.seq (.reg f_dedup_Table_row_r1) f_dedup_Table_row_c4)
def f_dedup_Table_row : AF := ⟨22, [.celln 4 7, .tmp 5], (.seq (.reg f_dedup_Table_row_r0) f_dedup_Table_row_c5)⟩
/- seglog_Log_placed -/
def f_seglog_Log_placed_r0 : List AOp := [
  ⟨(some 4), .none, .mv (.c .nils)⟩,
  ⟨(some 5), .none, .mv (.c .nils)⟩,
  ⟨(some 6), .none, .mv (.c (.int .i64 0))⟩]
def f_seglog_Log_placed_r1 : List AOp := [
  ⟨(some 14), .none, .mv (.t 0)⟩,
  ⟨(some 15), .none, .call 105 [(.t 14)]⟩,
  ⟨(some 7), .none, .mv (.t 15)⟩]
def f_seglog_Log_placed_r2 : List AOp := [
  ⟨(some 8), .none, .mv (.c .nils)⟩]
def f_seglog_Log_placed_r3 : List AOp := [
  ⟨(some 9), .none, .mv (.c .nils)⟩]
def f_seglog_Log_placed_r4 : List AOp := [
  ⟨(some 16), .none, .mv (.t 1)⟩,
  ⟨(some 17), .none, .len .slice (.t 16)⟩,
  ⟨(some 18), .none, .mv (.c (.int .i64 0))⟩]
def f_seglog_Log_placed_r5 : List AOp := [
  ⟨(some 19), .none, .bin .lss .num (.t 18) (.t 17)⟩]
def f_seglog_Log_placed_r6 : List AOp := [
  ⟨(some 20), .none, .iaddr 7 (.t 16) (.t 18)⟩,
  ⟨(some 21), .none, .loadn 7 (.t 20)⟩,
  ⟨(some 11), .none, .alloc [(.int .i64 0), (.int .i64 0), (.int .i64 0), (.int .i64 0), (.int .i64 0), (.int .i64 0), .nils]⟩,
  ⟨.none, .none, .store 7 (.t 11) (.t 21)⟩]
def f_seglog_Log_placed_r7 : List AOp := [
  ⟨(some 22), .none, .mv (.t 7)⟩,
  ⟨(some 23), .none, .faddr 0 (.t 11)⟩,
  ⟨.none, .none, .store 1 (.t 23) (.t 22)⟩]
def f_seglog_Log_placed_r8 : List AOp := [
  ⟨(some 25), .none, .loadn 7 (.t 11)⟩,
  ⟨(some 26), .none, .call 268 [(.t 25)]⟩,
  ⟨(some 24), .none, .mv (.t 26)⟩,
  ⟨(some 27), .none, .ext (.t 24) 0⟩,
  ⟨(some 28), .none, .ext (.t 24) 1⟩,
  ⟨(some 12), .none, .mv (.t 27)⟩,
  ⟨(some 13), .none, .mv (.t 28)⟩]
def f_seglog_Log_placed_r9 : List AOp := [
  ⟨(some 29), .none, .mv (.t 13)⟩,
  ⟨(some 30), .none, .bin .neq .num (.t 29) (.c (.int .i64 0))⟩]
def f_seglog_Log_placed_r10 : List AOp := [
  ⟨(some 31), .none, .mv (.t 13)⟩,
  ⟨(some 4), .none, .mv (.c .nils)⟩,
  ⟨(some 5), .none, .mv (.c .nils)⟩,
  ⟨(some 6), .none, .mv (.t 31)⟩]
def f_seglog_Log_placed_c0 : AC := .ret
def f_seglog_Log_placed_c1 : AC := (.cond (.t 30) (.seq (.reg f_seglog_Log_placed_r10) f_seglog_Log_placed_c0) .skip)
def f_seglog_Log_placed_r11 : List AOp := [
  ⟨(some 32), .none, .mv (.t 8)⟩,
  ⟨(some 33), .none, .loadn 7 (.t 11)⟩,
  ⟨(some 34), .none, .bsl false 7 1 [(.int .i64 0), (.int .i64 0), (.int .i64 0), (.int .i64 0), (.int .i64 0), (.int .i64 0), .nils] [(0, 7, (.t 33))]⟩,
  ⟨(some 35), .none, .app false 7 72 (.t 32) (.t 34)⟩,
  ⟨(some 8), .none, .mv (.t 35)⟩]
def f_seglog_Log_placed_r12 : List AOp := [
  ⟨(some 36), .none, .mv (.t 9)⟩,
  ⟨(some 37), .none, .mv (.t 12)⟩,
  ⟨(some 38), .none, .bsl false 1 1 [.nils] [(0, 1, (.t 37))]⟩,
  ⟨(some 39), .none, .call 193 [(.t 38)]⟩,
  ⟨(some 40), .none, .bsl false 1 1 [.nils] [(0, 1, (.t 39))]⟩,
  ⟨(some 41), .none, .app false 1 24 (.t 36) (.t 40)⟩,
  ⟨(some 9), .none, .mv (.t 41)⟩]
def f_seglog_Log_placed_r13 : List AOp := [
  ⟨(some 42), .none, .loadn 7 (.t 11)⟩,
  ⟨(some 43), .none, .call 95 [(.t 42)]⟩,
  ⟨(some 7), .none, .mv (.t 43)⟩]
def f_seglog_Log_placed_c2 : AC := (.reg f_seglog_Log_placed_r13)
def f_seglog_Log_placed_c3 : AC := (.seq (.reg f_seglog_Log_placed_r12) f_seglog_Log_placed_c2)
def f_seglog_Log_placed_c4 : AC := (.seq (.reg f_seglog_Log_placed_r11) f_seglog_Log_placed_c3)
def f_seglog_Log_placed_c5 : AC := (.seq (.seq (.reg f_seglog_Log_placed_r9) f_seglog_Log_placed_c1) f_seglog_Log_placed_c4)
def f_seglog_Log_placed_c6 : AC := (.seq (.reg f_seglog_Log_placed_r8) f_seglog_Log_placed_c5)
def f_seglog_Log_placed_c7 : AC := (.seq (.reg f_seglog_Log_placed_r7) f_seglog_Log_placed_c6)
def f_seglog_Log_placed_r14 : List AOp := [
  ⟨(some 44), .none, .bin .add .num (.t 18) (.c (.int .i64 1))⟩,
  ⟨(some 18), .none, .mv (.t 44)⟩]
def f_seglog_Log_placed_c8 : AC := (.reg f_seglog_Log_placed_r14)
def f_seglog_Log_placed_c9 : AC := (.seq (.block 1 (.seq (.reg f_seglog_Log_placed_r6) f_seglog_Log_placed_c7)) f_seglog_Log_placed_c8)
def f_seglog_Log_placed_c10 : AC := (.seq (.cond (.t 19) .skip (.exit 0)) f_seglog_Log_placed_c9)
def f_seglog_Log_placed_c11 : AC := (.seq (.reg f_seglog_Log_placed_r5) f_seglog_Log_placed_c10)
def f_seglog_Log_placed_c12 : AC := (.block 0 (.keep 6 [7, 8, 9, 16, 17, 18] (.loop (.keep 6 [7, 8, 9, 16, 17, 18] f_seglog_Log_placed_c11))))
def f_seglog_Log_placed_r15 : List AOp := [
  ⟨(some 45), .none, .mv (.t 8)⟩,
  ⟨(some 46), .none, .mv (.t 9)⟩,
  ⟨(some 4), .none, .mv (.t 45)⟩,
  ⟨(some 5), .none, .mv (.t 46)⟩,
  ⟨(some 6), .none, .mv (.c (.int .i64 0))⟩]
def f_seglog_Log_placed_c13 : AC := .ret
def f_seglog_Log_placed_c14 : AC := (.seq (.reg f_seglog_Log_placed_r15) f_seglog_Log_placed_c13)
def f_seglog_Log_placed_c15 : AC := (.seq (.seq (.reg f_seglog_Log_placed_r4) f_seglog_Log_placed_c12) f_seglog_Log_placed_c14)
def f_seglog_Log_placed_c16 : AC := (.seq (.reg f_seglog_Log_placed_r3) f_seglog_Log_placed_c15)
def f_seglog_Log_placed_c17 : AC := (.seq (.reg f_seglog_Log_placed_r2) f_seglog_Log_placed_c16)
def f_seglog_Log_placed_c18 : AC := (.seq (.reg f_seglog_Log_placed_r1) f_seglog_Log_placed_c17)
def f_seglog_Log_placed : AF := ⟨47, [.tmp 4, .tmp 5, .tmp 6], (.seq (.reg f_seglog_Log_placed_r0) f_seglog_Log_placed_c18)⟩
/- seglog_Log_fits -/
def f_seglog_Log_fits_r0 : List AOp := [
  ⟨(some 4), .none, .mv (.c (.bool false))⟩]
def f_seglog_Log_fits_r1 : List AOp := [
  ⟨(some 6), .none, .mv (.t 0)⟩,
  ⟨(some 7), .none, .call 205 [(.t 6)]⟩,
  ⟨(some 5), .none, .mv (.t 7)⟩]
def f_seglog_Log_fits_r2 : DR := ⟨[
  ⟨(some 8), .none, .mv (.t 5)⟩,
  ⟨(some 9), .none, .bin .neq .ptr (.t 8) (.c .nilp)⟩,
  ⟨(some 10), .none, .mv (.t 9)⟩,
  ⟨(some 11), (some (10, true)), .mv (.t 5)⟩,
  ⟨(some 12), (some (10, true)), .nilck (.t 11)⟩,
  ⟨(some 13), (some (10, true)), .faddr 3 (.t 12)⟩,
  ⟨(some 14), (some (10, true)), .load1 (.t 13)⟩,
  ⟨(some 15), (some (10, true)), .bin .eql .num (.t 14) (.c (.int .i64 0))⟩,
  ⟨(some 16), (some (10, true)), .mv (.t 15)⟩,
  ⟨(some 17), (some (16, false)), .mv (.t 5)⟩,
  ⟨(some 18), (some (16, false)), .nilck (.t 17)⟩,
  ⟨(some 19), (some (16, false)), .faddr 5 (.t 18)⟩,
  ⟨(some 20), (some (16, false)), .load1 (.t 19)⟩,
  ⟨(some 21), (some (16, false)), .mv (.t 1)⟩,
  ⟨(some 22), (some (16, false)), .bin .add .num (.t 20) (.t 21)⟩,
  ⟨(some 23), (some (16, false)), .mv (.t 0)⟩,
  ⟨(some 24), (some (16, false)), .nilck (.t 23)⟩,
  ⟨(some 25), (some (16, false)), .faddr 2 (.t 24)⟩,
  ⟨(some 26), (some (16, false)), .faddr 0 (.t 25)⟩,
  ⟨(some 27), (some (16, false)), .load1 (.t 26)⟩,
  ⟨(some 28), (some (16, false)), .bin .leq .num (.t 22) (.t 27)⟩,
  ⟨(some 29), (some (10, true)), .pick (.t 16) (.c (.bool true)) (.t 28)⟩,
  ⟨(some 30), .none, .pick (.t 10) (.t 29) (.c (.bool false))⟩,
  ⟨(some 4), .none, .mv (.t 30)⟩],
  [0, 1, 3, 7, 15, 31, 63, 127, 255, 511, 1023, 2047, 4095, 511, 16383, 511, 33279, 98815, 229887, 492031, 1048575, 2097151, 4194303, 8388607], [0, 1, 2, 3, 4, 5, 6, 7, 8, 9, 10, 11, 12, 13, 14, 15, 16, 17, 18, 19, 20, 21, 22, 23], [], .none⟩
def f_seglog_Log_fits_c0 : AC := .ret
def f_seglog_Log_fits_c1 : AC := (.seq (.dreg f_seglog_Log_fits_r2) f_seglog_Log_fits_c0)
def f_seglog_Log_fits_c2 : AC := (.seq (.reg f_seglog_Log_fits_r1) f_seglog_Log_fits_c1)
def f_seglog_Log_fits : AF := ⟨31, [.tmp 4], (.seq (.reg f_seglog_Log_fits_r0) f_seglog_Log_fits_c2)⟩
/- seglog_head -/
def f_seglog_head_r0 : List AOp := [
  ⟨(some 4), .none, .mv (.c .nils)⟩]
def f_seglog_head_r1 : List AOp := [
  ⟨(some 5), .none, .bsl false 1 1 [(.int .u8 0)] [(0, 1, (.c (.int .u8 83)))]⟩,
  ⟨(some 6), .none, .mv (.t 0)⟩,
  ⟨(some 7), .none, .conv (.int .u64) (.t 6)⟩,
  ⟨(some 8), .none, .call 78 [(.t 7)]⟩,
  ⟨(some 9), .none, .mv (.t 1)⟩,
  ⟨(some 10), .none, .conv (.int .u64) (.t 9)⟩,
  ⟨(some 11), .none, .call 78 [(.t 10)]⟩,
  ⟨(some 12), .none, .bsl false 1 3 [.nils] [(0, 1, (.t 5)), (1, 1, (.t 8)), (2, 1, (.t 11))]⟩,
  ⟨(some 13), .none, .call 193 [(.t 12)]⟩,
  ⟨(some 4), .none, .mv (.t 13)⟩]
def f_seglog_head_c0 : AC := .ret
def f_seglog_head_c1 : AC := (.seq (.reg f_seglog_head_r1) f_seglog_head_c0)
def f_seglog_head : AF := ⟨14, [.tmp 4], (.seq (.reg f_seglog_head_r0) f_seglog_head_c1)⟩
/- dedup_mark -/
def f_dedup_mark_r0 : List AOp := [
  ⟨(some 1), .none, .box (.t 0)⟩,
  ⟨(some 2), .none, .mv (.c (.bool false))⟩]
def f_dedup_mark_r1 : List AOp := [
  ⟨(some 3), .none, .faddr 4 (.t 1)⟩,
  ⟨(some 4), .none, .load1 (.t 3)⟩,
  ⟨(some 5), .none, .bin .eql .num (.t 4) (.c (.int .i64 2))⟩,
  ⟨(some 6), .none, .mv (.t 5)⟩,
  ⟨(some 7), (some (6, false)), .faddr 4 (.t 1)⟩,
  ⟨(some 8), (some (6, false)), .load1 (.t 7)⟩,
  ⟨(some 9), (some (6, false)), .bin .eql .num (.t 8) (.c (.int .i64 3))⟩,
  ⟨(some 10), .none, .pick (.t 6) (.c (.bool true)) (.t 9)⟩,
  ⟨(some 2), .none, .mv (.t 10)⟩]
def f_dedup_mark_c0 : AC := .ret
def f_dedup_mark_c1 : AC := (.seq (.reg f_dedup_mark_r1) f_dedup_mark_c0)
def f_dedup_mark : AF := ⟨11, [.tmp 2], (.seq (.reg f_dedup_mark_r0) f_dedup_mark_c1)⟩
/- dedup_again -/
def f_dedup_again_r0 : List AOp := [
  ⟨(some 2), .none, .box (.t 0)⟩,
  ⟨(some 3), .none, .box (.t 1)⟩,
  ⟨(some 4), .none, .alloc [(.bool false), (.int .i64 0)]⟩,
  ⟨(some 5), .none, .mv (.c (.bool false))⟩]
def f_dedup_again_r1 : DR := ⟨[
  ⟨(some 6), .none, .faddr 2 (.t 3)⟩,
  ⟨(some 7), .none, .load1 (.t 6)⟩,
  ⟨(some 8), .none, .faddr 1 (.t 2)⟩,
  ⟨(some 9), .none, .load1 (.t 8)⟩,
  ⟨(some 10), .none, .bin .neq .num (.t 7) (.t 9)⟩,
  ⟨(some 11), .none, .mv (.t 10)⟩,
  ⟨(some 12), (some (11, false)), .faddr 3 (.t 3)⟩,
  ⟨(some 13), (some (11, false)), .load1 (.t 12)⟩,
  ⟨(some 14), (some (11, false)), .faddr 6 (.t 3)⟩,
  ⟨(some 15), (some (11, false)), .load1 (.t 14)⟩,
  ⟨(some 16), (some (11, false)), .len .slice (.t 15)⟩,
  ⟨(some 17), (some (11, false)), .bin .add .num (.t 13) (.t 16)⟩,
  ⟨(some 18), (some (11, false)), .loadn 7 (.t 2)⟩,
  ⟨(some 19), (some (11, false)), .call 302 [(.t 18)]⟩,
  ⟨(some 20), (some (11, false)), .bin .gtr .num (.t 17) (.t 19)⟩,
  ⟨(some 21), .none, .pick (.t 11) (.c (.bool true)) (.t 20)⟩],
  [0, 1, 0, 4, 15, 31, 63, 127, 63, 319, 831, 2047, 63, 4159, 16383, 32767], [0, 1, 2, 3, 4, 5, 6, 7, 8, 9, 10, 11, 12, 13, 14, 15], [(7, 1), (9, 1)], .none⟩
def f_dedup_again_r2 : List AOp := [
  ⟨(some 22), .none, .build [(.bool false), (.int .i64 0)] []⟩,
  ⟨.none, .none, .store 2 (.t 4) (.t 22)⟩,
  ⟨(some 5), .none, .mv (.c (.bool false))⟩]
def f_dedup_again_c0 : AC := .ret
def f_dedup_again_c1 : AC := (.cond (.t 21) (.seq (.reg f_dedup_again_r2) f_dedup_again_c0) .skip)
def f_dedup_again_r3 : List AOp := [
  ⟨(some 23), .none, .faddr 3 (.t 3)⟩,
  ⟨(some 24), .none, .load1 (.t 23)⟩,
  ⟨(some 25), .none, .faddr 2 (.t 2)⟩,
  ⟨(some 26), .none, .load1 (.t 25)⟩,
  ⟨(some 27), .none, .bin .eql .num (.t 24) (.t 26)⟩,
  ⟨(some 28), .none, .mv (.t 27)⟩,
  ⟨(some 29), (some (28, true)), .faddr 6 (.t 3)⟩,
  ⟨(some 30), (some (28, true)), .load1 (.t 29)⟩,
  ⟨(some 31), (some (28, true)), .len .slice (.t 30)⟩,
  ⟨(some 32), (some (28, true)), .faddr 3 (.t 2)⟩,
  ⟨(some 33), (some (28, true)), .load1 (.t 32)⟩,
  ⟨(some 34), (some (28, true)), .bin .eql .num (.t 31) (.t 33)⟩,
  ⟨(some 35), .none, .pick (.t 28) (.t 34) (.c (.bool false))⟩]
def f_dedup_again_r4 : List AOp := [
  ⟨(some 36), .none, .faddr 4 (.t 2)⟩,
  ⟨(some 37), .none, .load1 (.t 36)⟩,
  ⟨(some 38), .none, .build [(.bool false), (.int .i64 0)] [(0, 1, (.c (.bool true))), (1, 1, (.t 37))]⟩,
  ⟨.none, .none, .store 2 (.t 4) (.t 38)⟩,
  ⟨(some 5), .none, .mv (.c (.bool true))⟩]
def f_dedup_again_c2 : AC := .ret
def f_dedup_again_c3 : AC := (.cond (.t 35) (.seq (.reg f_dedup_again_r4) f_dedup_again_c2) .skip)
def f_dedup_again_r5 : List AOp := [
  ⟨(some 39), .none, .build [(.bool false), (.int .i64 0)] [(0, 1, (.c (.bool true))), (1, 1, (.c (.int .i64 (-1))))]⟩,
  ⟨.none, .none, .store 2 (.t 4) (.t 39)⟩,
  ⟨(some 5), .none, .mv (.c (.bool true))⟩]
def f_dedup_again_c4 : AC := .ret
def f_dedup_again_c5 : AC := (.seq (.reg f_dedup_again_r5) f_dedup_again_c4)
def f_dedup_again_c6 : AC := (.seq (.seq (.reg f_dedup_again_r3) f_dedup_again_c3) f_dedup_again_c5)
def f_dedup_again_c7 : AC := (.seq (.seq (.dreg f_dedup_again_r1) f_dedup_again_c1) f_dedup_again_c6)
def f_dedup_again : AF := ⟨40, [.celln 4 2, .tmp 5], (.seq (.reg f_dedup_again_r0) f_dedup_again_c7)⟩
/- dedup_Table_fresh -/
def f_dedup_Table_fresh_r0 : List AOp := [
  ⟨(some 5), .none, .box (.t 1)⟩,
  ⟨(some 7), .none, .box (.t 3)⟩,
  ⟨(some 8), .none, .mv (.c (.int .i64 0))⟩]
def f_dedup_Table_fresh_r1 : List AOp := [
  ⟨(some 10), .none, .loadn 7 (.t 5)⟩,
  ⟨(some 11), .none, .call 302 [(.t 10)]⟩,
  ⟨(some 9), .none, .mv (.t 11)⟩]
def f_dedup_Table_fresh_r2 : List AOp := [
  ⟨(some 12), .none, .faddr 2 (.t 7)⟩,
  ⟨(some 13), .none, .load1 (.t 12)⟩,
  ⟨(some 14), .none, .faddr 1 (.t 5)⟩,
  ⟨(some 15), .none, .load1 (.t 14)⟩,
  ⟨(some 16), .none, .bin .gtr .num (.t 13) (.t 15)⟩]
def f_dedup_Table_fresh_r3 : List AOp := [
  ⟨(some 9), .none, .mv (.c (.int .i64 0))⟩]
def f_dedup_Table_fresh_c0 : AC := (.cond (.t 16) (.reg f_dedup_Table_fresh_r3) .skip)
def f_dedup_Table_fresh_r4 : List AOp := [
  ⟨(some 18), .none, .loadn 7 (.t 5)⟩,
  ⟨(some 19), .none, .call 189 [(.t 18)]⟩,
  ⟨(some 20), .none, .mv (.t 19)⟩,
  ⟨(some 21), (some (20, true)), .faddr 2 (.t 7)⟩,
  ⟨(some 22), (some (20, true)), .load1 (.t 21)⟩,
  ⟨(some 23), (some (20, true)), .faddr 1 (.t 5)⟩,
  ⟨(some 24), (some (20, true)), .load1 (.t 23)⟩,
  ⟨(some 25), (some (20, true)), .bin .gtr .num (.t 22) (.t 24)⟩,
  ⟨(some 26), (some (20, true)), .mv (.t 25)⟩,
  ⟨(some 27), (some (26, false)), .faddr 4 (.t 7)⟩,
  ⟨(some 28), (some (26, false)), .load1 (.t 27)⟩,
  ⟨(some 29), (some (26, false)), .bin .eql .num (.t 28) (.c (.int .i64 0))⟩,
  ⟨(some 30), (some (20, true)), .pick (.t 26) (.c (.bool true)) (.t 29)⟩,
  ⟨(some 31), .none, .pick (.t 20) (.t 30) (.c (.bool false))⟩,
  ⟨(some 17), .none, .mv (.t 31)⟩]
def f_dedup_Table_fresh_r5 : List AOp := [
  ⟨(some 8), .none, .mv (.c (.int .i64 22))⟩]
def f_dedup_Table_fresh_c1 : AC := .ret
def f_dedup_Table_fresh_r6 : List AOp := [
  ⟨(some 33), .none, .loadn 7 (.t 7)⟩,
  ⟨(some 34), .none, .call 250 [(.t 33)]⟩,
  ⟨(some 35), .none, .un .not (.t 34)⟩,
  ⟨(some 36), .none, .mv (.t 35)⟩,
  ⟨(some 37), (some (36, true)), .faddr 3 (.t 7)⟩,
  ⟨(some 38), (some (36, true)), .load1 (.t 37)⟩,
  ⟨(some 39), (some (36, true)), .mv (.t 9)⟩,
  ⟨(some 40), (some (36, true)), .bin .neq .num (.t 38) (.t 39)⟩,
  ⟨(some 41), .none, .pick (.t 36) (.t 40) (.c (.bool false))⟩,
  ⟨(some 32), .none, .mv (.t 41)⟩]
def f_dedup_Table_fresh_r7 : List AOp := [
  ⟨(some 8), .none, .mv (.c (.int .i64 21))⟩]
def f_dedup_Table_fresh_c2 : AC := .ret
def f_dedup_Table_fresh_r8 : DR := ⟨[
  ⟨(some 43), .none, .mv (.t 2)⟩,
  ⟨(some 44), .none, .un .not (.t 43)⟩,
  ⟨(some 45), .none, .mv (.t 44)⟩,
  ⟨(some 46), (some (45, true)), .mv (.t 0)⟩,
  ⟨(some 47), (some (45, true)), .nilck (.t 46)⟩,
  ⟨(some 48), (some (45, true)), .faddr 2 (.t 47)⟩,
  ⟨(some 49), (some (45, true)), .load1 (.t 48)⟩,
  ⟨(some 50), (some (45, true)), .len .map (.t 49)⟩,
  ⟨(some 51), (some (45, true)), .mv (.t 0)⟩,
  ⟨(some 52), (some (45, true)), .nilck (.t 51)⟩,
  ⟨(some 53), (some (45, true)), .faddr 0 (.t 52)⟩,
  ⟨(some 54), (some (45, true)), .load1 (.t 53)⟩,
  ⟨(some 55), (some (45, true)), .bin .geq .num (.t 50) (.t 54)⟩,
  ⟨(some 56), .none, .pick (.t 45) (.t 55) (.c (.bool false))⟩,
  ⟨(some 42), .none, .mv (.t 56)⟩],
  [0, 1, 3, 7, 15, 31, 63, 127, 7, 263, 775, 1799, 4095, 8191, 16383], [0, 1, 2, 3, 4, 5, 6, 7, 8, 9, 10, 11, 12, 13, 14], [], .none⟩
def f_dedup_Table_fresh_r9 : List AOp := [
  ⟨(some 8), .none, .mv (.c (.int .i64 5))⟩]
def f_dedup_Table_fresh_c3 : AC := .ret
def f_dedup_Table_fresh_c4 : AC := (.cond (.t 42) (.seq (.reg f_dedup_Table_fresh_r9) f_dedup_Table_fresh_c3) .skip)
def f_dedup_Table_fresh_c5 : AC := (.cond (.t 32) (.seq (.reg f_dedup_Table_fresh_r7) f_dedup_Table_fresh_c2) (.seq (.dreg f_dedup_Table_fresh_r8) f_dedup_Table_fresh_c4))
def f_dedup_Table_fresh_c6 : AC := (.cond (.t 17) (.seq (.reg f_dedup_Table_fresh_r5) f_dedup_Table_fresh_c1) (.seq (.reg f_dedup_Table_fresh_r6) f_dedup_Table_fresh_c5))
def f_dedup_Table_fresh_r10 : List AOp := [
  ⟨(some 8), .none, .mv (.c (.int .i64 0))⟩]
def f_dedup_Table_fresh_c7 : AC := .ret
def f_dedup_Table_fresh_c8 : AC := (.seq (.reg f_dedup_Table_fresh_r10) f_dedup_Table_fresh_c7)
def f_dedup_Table_fresh_c9 : AC := (.keep 6 [0, 2, 5, 7, 9] (.seq (.block 0 (.seq (.reg f_dedup_Table_fresh_r4) f_dedup_Table_fresh_c6)) f_dedup_Table_fresh_c8))
def f_dedup_Table_fresh_c10 : AC := (.seq (.seq (.reg f_dedup_Table_fresh_r2) f_dedup_Table_fresh_c0) f_dedup_Table_fresh_c9)
def f_dedup_Table_fresh_c11 : AC := (.seq (.reg f_dedup_Table_fresh_r1) f_dedup_Table_fresh_c10)
def f_dedup_Table_fresh : AF := ⟨57, [.tmp 8], (.seq (.reg f_dedup_Table_fresh_r0) f_dedup_Table_fresh_c11)⟩
/- iso_View_may -/
def f_iso_View_may_r0 : List AOp := [
  ⟨(some 3), .none, .box (.t 1)⟩,
  ⟨(some 4), .none, .mv (.c (.int .i64 0))⟩]
def f_iso_View_may_r1 : List AOp := [
  ⟨(some 10), .none, .faddr 1 (.t 3)⟩,
  ⟨(some 11), .none, .load1 (.t 10)⟩,
  ⟨(some 12), .none, .faddr 2 (.t 3)⟩,
  ⟨(some 13), .none, .load1 (.t 12)⟩,
  ⟨(some 14), .none, .build [(.int .i64 0), (.int .i64 0)] [(0, 1, (.t 11)), (1, 1, (.t 13))]⟩,
  ⟨(some 5), .none, .alloc [(.int .i64 0), (.int .i64 0)]⟩,
  ⟨.none, .none, .store 2 (.t 5) (.t 14)⟩]
def f_iso_View_may_r2 : DR := ⟨[
  ⟨(some 16), .none, .mv (.t 0)⟩,
  ⟨(some 17), .none, .nilck (.t 16)⟩,
  ⟨(some 18), .none, .faddr 2 (.t 17)⟩,
  ⟨(some 19), .none, .load1 (.t 18)⟩,
  ⟨(some 20), .none, .loadn 2 (.t 5)⟩,
  ⟨(some 21), .none, .look (.agg [.num, .num]) (.agg [(.int .i64 0), (.int .i64 0), (.int .i64 0), (.int .i64 0)]) true (.t 19) (.t 20)⟩,
  ⟨(some 15), .none, .mv (.t 21)⟩,
  ⟨(some 22), .none, .ext (.t 15) 0⟩,
  ⟨(some 23), .none, .ext (.t 15) 1⟩,
  ⟨(some 6), .none, .alloc [(.int .i64 0), (.int .i64 0), (.int .i64 0), (.int .i64 0)]⟩,
  ⟨.none, .none, .store 4 (.t 6) (.t 22)⟩,
  ⟨(some 7), .none, .mv (.t 23)⟩],
  [0, 1, 3, 7, 0, 31, 63, 127, 127, 0, 767, 2047], [0, 1, 2, 3, 4, 5, 6, 7, 8, 9, 10, 11], [(3, 1), (4, 1), (5, 1)], .none⟩
def f_iso_View_may_r3 : DR := ⟨[
  ⟨(some 25), .none, .mv (.t 0)⟩,
  ⟨(some 26), .none, .nilck (.t 25)⟩,
  ⟨(some 27), .none, .faddr 1 (.t 26)⟩,
  ⟨(some 28), .none, .load1 (.t 27)⟩,
  ⟨(some 29), .none, .faddr 1 (.t 3)⟩,
  ⟨(some 30), .none, .load1 (.t 29)⟩,
  ⟨(some 31), .none, .look .num (.agg [(.int .i64 0), (.int .i64 0), (.int .i64 0), (.int .i64 0)]) true (.t 28) (.t 30)⟩,
  ⟨(some 24), .none, .mv (.t 31)⟩,
  ⟨(some 32), .none, .ext (.t 24) 0⟩,
  ⟨(some 33), .none, .ext (.t 24) 1⟩,
  ⟨(some 8), .none, .alloc [(.int .i64 0), (.int .i64 0), (.int .i64 0), (.int .i64 0)]⟩,
  ⟨.none, .none, .store 4 (.t 8) (.t 32)⟩,
  ⟨(some 9), .none, .mv (.t 33)⟩],
  [0, 1, 3, 7, 0, 16, 63, 127, 255, 255, 0, 1535, 4095], [0, 1, 2, 3, 4, 5, 6, 7, 8, 9, 10, 11, 12], [(3, 1), (5, 1), (6, 1)], .none⟩
def f_iso_View_may_r4 : List AOp := [
  ⟨(some 35), .none, .mv (.t 7)⟩,
  ⟨(some 34), .none, .mv (.t 35)⟩]
def f_iso_View_may_r5 : List AOp := [
  ⟨(some 4), .none, .mv (.c (.int .i64 20))⟩]
def f_iso_View_may_c0 : AC := .ret
def f_iso_View_may_r6 : List AOp := [
  ⟨(some 37), .none, .mv (.t 9)⟩,
  ⟨(some 38), .none, .mv (.t 37)⟩,
  ⟨(some 39), (some (38, true)), .faddr 0 (.t 8)⟩,
  ⟨(some 40), (some (38, true)), .loadn 2 (.t 39)⟩,
  ⟨(some 41), (some (38, true)), .loadn 2 (.t 5)⟩,
  ⟨(some 42), (some (38, true)), .bin .neq (.agg [.num, .num]) (.t 40) (.t 41)⟩,
  ⟨(some 43), .none, .pick (.t 38) (.t 42) (.c (.bool false))⟩,
  ⟨(some 36), .none, .mv (.t 43)⟩]
def f_iso_View_may_r7 : List AOp := [
  ⟨(some 4), .none, .mv (.c (.int .i64 22))⟩]
def f_iso_View_may_c1 : AC := .ret
def f_iso_View_may_r8 : List AOp := [
  ⟨(some 45), .none, .faddr 4 (.t 3)⟩,
  ⟨(some 46), .none, .load1 (.t 45)⟩,
  ⟨(some 47), .none, .bin .eql .num (.t 46) (.c (.int .i64 1))⟩,
  ⟨(some 48), .none, .mv (.t 47)⟩,
  ⟨(some 49), (some (48, true)), .mv (.t 9)⟩,
  ⟨(some 50), (some (48, true)), .un .not (.t 49)⟩,
  ⟨(some 51), .none, .pick (.t 48) (.t 50) (.c (.bool false))⟩,
  ⟨(some 52), .none, .mv (.t 51)⟩,
  ⟨(some 53), (some (52, true)), .mv (.t 0)⟩,
  ⟨(some 54), (some (52, true)), .nilck (.t 53)⟩,
  ⟨(some 55), (some (52, true)), .faddr 1 (.t 54)⟩,
  ⟨(some 56), (some (52, true)), .load1 (.t 55)⟩,
  ⟨(some 57), (some (52, true)), .len .map (.t 56)⟩,
  ⟨(some 58), (some (52, true)), .bin .geq .num (.t 57) (.c (.int .i64 1024))⟩,
  ⟨(some 59), .none, .pick (.t 52) (.t 58) (.c (.bool false))⟩,
  ⟨(some 44), .none, .mv (.t 59)⟩]
def f_iso_View_may_r9 : List AOp := [
  ⟨(some 4), .none, .mv (.c (.int .i64 5))⟩]
def f_iso_View_may_c2 : AC := .ret
def f_iso_View_may_r10 : List AOp := [
  ⟨(some 61), .none, .faddr 4 (.t 3)⟩,
  ⟨(some 62), .none, .load1 (.t 61)⟩,
  ⟨(some 63), .none, .bin .eql .num (.t 62) (.c (.int .i64 3))⟩,
  ⟨(some 64), .none, .mv (.t 63)⟩,
  ⟨(some 65), (some (64, true)), .mv (.t 9)⟩,
  ⟨(some 66), .none, .pick (.t 64) (.t 65) (.c (.bool false))⟩,
  ⟨(some 67), .none, .mv (.t 66)⟩,
  ⟨(some 68), (some (67, true)), .mv (.t 0)⟩,
  ⟨(some 69), (some (67, true)), .nilck (.t 68)⟩,
  ⟨(some 70), (some (67, true)), .faddr 2 (.t 69)⟩,
  ⟨(some 71), (some (67, true)), .load1 (.t 70)⟩,
  ⟨(some 72), (some (67, true)), .len .map (.t 71)⟩,
  ⟨(some 73), (some (67, true)), .bin .geq .num (.t 72) (.c (.int .i64 4096))⟩,
  ⟨(some 74), .none, .pick (.t 67) (.t 73) (.c (.bool false))⟩,
  ⟨(some 60), .none, .mv (.t 74)⟩]
def f_iso_View_may_r11 : List AOp := [
  ⟨(some 4), .none, .mv (.c (.int .i64 5))⟩]
def f_iso_View_may_c3 : AC := .ret
def f_iso_View_may_c4 : AC := (.cond (.t 60) (.seq (.reg f_iso_View_may_r11) f_iso_View_may_c3) .skip)
def f_iso_View_may_c5 : AC := (.cond (.t 44) (.seq (.reg f_iso_View_may_r9) f_iso_View_may_c2) (.seq (.reg f_iso_View_may_r10) f_iso_View_may_c4))
def f_iso_View_may_c6 : AC := (.cond (.t 36) (.seq (.reg f_iso_View_may_r7) f_iso_View_may_c1) (.seq (.reg f_iso_View_may_r8) f_iso_View_may_c5))
def f_iso_View_may_c7 : AC := (.cond (.t 34) (.seq (.reg f_iso_View_may_r5) f_iso_View_may_c0) (.seq (.reg f_iso_View_may_r6) f_iso_View_may_c6))
def f_iso_View_may_r12 : List AOp := [
  ⟨(some 4), .none, .mv (.c (.int .i64 0))⟩]
def f_iso_View_may_c8 : AC := .ret
def f_iso_View_may_c9 : AC := (.seq (.reg f_iso_View_may_r12) f_iso_View_may_c8)
def f_iso_View_may_c10 : AC := (.seq (.block 0 (.seq (.reg f_iso_View_may_r4) f_iso_View_may_c7)) f_iso_View_may_c9)
def f_iso_View_may_c11 : AC := (.seq (.dreg f_iso_View_may_r3) f_iso_View_may_c10)
def f_iso_View_may_c12 : AC := (.seq (.dreg f_iso_View_may_r2) f_iso_View_may_c11)
def f_iso_View_may_c13 : AC := (.seq (.reg f_iso_View_may_r1) f_iso_View_may_c12)
def f_iso_View_may : AF := ⟨75, [.tmp 4], (.seq (.reg f_iso_View_may_r0) f_iso_View_may_c13)⟩
/- index_Index_Find -/
def f_index_Index_Find_r0 : List AOp := [
  ⟨(some 2), .none, .box (.t 0)⟩,
  ⟨(some 3), .none, .box (.t 1)⟩,
  ⟨(some 4), .none, .alloc [(.int .i64 0), (.int .i64 0), (.int .i64 0)]⟩,
  ⟨(some 5), .none, .mv (.c (.bool false))⟩]
def f_index_Index_Find_r1 : List AOp := [
  ⟨(some 6), .none, .load1 (.t 2)⟩,
  ⟨(some 7), .none, .bin .eql .ptr (.t 6) (.c .nilp)⟩]
def f_index_Index_Find_r2 : List AOp := [
  ⟨(some 8), .none, .build [(.int .i64 0), (.int .i64 0), (.int .i64 0)] []⟩,
  ⟨.none, .none, .store 3 (.t 4) (.t 8)⟩,
  ⟨(some 5), .none, .mv (.c (.bool false))⟩]
def f_index_Index_Find_c0 : AC := .ret
def f_index_Index_Find_c1 : AC := (.cond (.t 7) (.seq (.reg f_index_Index_Find_r2) f_index_Index_Find_c0) .skip)
def f_index_Index_Find_r3 : DR := ⟨[
  ⟨(some 9), .none, .load1 (.t 2)⟩,
  ⟨(some 10), .none, .load1 (.t 2)⟩,
  ⟨(some 11), .none, .nilck (.t 10)⟩,
  ⟨(some 12), .none, .faddr 4 (.t 11)⟩,
  ⟨(some 13), .none, .load1 (.t 12)⟩,
  ⟨(some 14), .none, .len .slice (.t 13)⟩,
  ⟨(some 15), .none, .mkfn 307 [] [(.t 2), (.t 3)]⟩,
  ⟨(some 16), .none, .call 178 [(.t 14), (.t 15)]⟩,
  ⟨(some 17), .none, .bin .sub .num (.t 16) (.c (.int .i64 1))⟩,
  ⟨(some 18), .none, .call 306 [(.t 9), (.t 17)]⟩,
  ⟨(some 19), .none, .ext (.t 18) 0⟩,
  ⟨(some 20), .none, .ext (.t 18) 1⟩,
  ⟨.none, .none, .store 3 (.t 4) (.t 19)⟩,
  ⟨(some 5), .none, .mv (.t 20)⟩],
  [0, 0, 2, 6, 14, 30, 0, 126, 254, 511, 1023, 1023, 4095, 8191], [0, 1, 2, 3, 4, 5, 6, 7, 8, 9, 10, 11, 12, 13], [(0, 1)], .none⟩
def f_index_Index_Find_c2 : AC := .ret
def f_index_Index_Find_c3 : AC := (.seq (.dreg f_index_Index_Find_r3) f_index_Index_Find_c2)
def f_index_Index_Find_c4 : AC := (.seq (.seq (.reg f_index_Index_Find_r1) f_index_Index_Find_c1) f_index_Index_Find_c3)
def f_index_Index_Find : AF := ⟨21, [.celln 4 3, .tmp 5], (.seq (.reg f_index_Index_Find_r0) f_index_Index_Find_c4)⟩
/- rec_numbers -/
def f_rec_numbers_r0 : List AOp := [
  ⟨(some 1), .none, .box (.t 0)⟩,
  ⟨(some 2), .none, .mv (.c (.bool false))⟩]
def f_rec_numbers_r1 : List AOp := [
  ⟨(some 3), .none, .faddr 4 (.t 1)⟩,
  ⟨(some 4), .none, .load1 (.t 3)⟩,
  ⟨(some 5), .none, .bin .geq .num (.t 4) (.c (.int .i64 0))⟩,
  ⟨(some 6), .none, .mv (.t 5)⟩,
  ⟨(some 7), (some (6, true)), .faddr 4 (.t 1)⟩,
  ⟨(some 8), (some (6, true)), .load1 (.t 7)⟩,
  ⟨(some 9), (some (6, true)), .bin .leq .num (.t 8) (.c (.int .i64 3))⟩,
  ⟨(some 10), .none, .pick (.t 6) (.t 9) (.c (.bool false))⟩,
  ⟨(some 11), .none, .mv (.t 10)⟩,
  ⟨(some 12), (some (11, true)), .faddr 0 (.t 1)⟩,
  ⟨(some 13), (some (11, true)), .load1 (.t 12)⟩,
  ⟨(some 14), (some (11, true)), .call 308 [(.t 13), (.c (.int .i64 0)), (.c (.int .i64 1099511627776))]⟩,
  ⟨(some 15), .none, .pick (.t 11) (.t 14) (.c (.bool false))⟩,
  ⟨(some 16), .none, .mv (.t 15)⟩,
  ⟨(some 17), (some (16, true)), .faddr 1 (.t 1)⟩,
  ⟨(some 18), (some (16, true)), .load1 (.t 17)⟩,
  ⟨(some 19), (some (16, true)), .call 308 [(.t 18), (.c (.int .i64 0)), (.c (.int .i64 1048576))]⟩,
  ⟨(some 20), .none, .pick (.t 16) (.t 19) (.c (.bool false))⟩,
  ⟨(some 21), .none, .mv (.t 20)⟩,
  ⟨(some 22), (some (21, true)), .faddr 2 (.t 1)⟩,
  ⟨(some 23), (some (21, true)), .load1 (.t 22)⟩,
  ⟨(some 24), (some (21, true)), .bin .geq .num (.t 23) (.c (.int .i64 0))⟩,
  ⟨(some 25), .none, .pick (.t 21) (.t 24) (.c (.bool false))⟩,
  ⟨(some 26), .none, .mv (.t 25)⟩,
  ⟨(some 27), (some (26, true)), .faddr 2 (.t 1)⟩,
  ⟨(some 28), (some (26, true)), .load1 (.t 27)⟩,
  ⟨(some 29), (some (26, true)), .bin .leq .num (.t 28) (.c (.int .i64 32767))⟩,
  ⟨(some 30), .none, .pick (.t 26) (.t 29) (.c (.bool false))⟩,
  ⟨(some 31), .none, .mv (.t 30)⟩,
  ⟨(some 32), (some (31, true)), .faddr 3 (.t 1)⟩,
  ⟨(some 33), (some (31, true)), .load1 (.t 32)⟩,
  ⟨(some 34), (some (31, true)), .bin .geq .num (.t 33) (.c (.int .i64 0))⟩,
  ⟨(some 35), .none, .pick (.t 31) (.t 34) (.c (.bool false))⟩,
  ⟨(some 36), .none, .mv (.t 35)⟩,
  ⟨(some 37), (some (36, true)), .faddr 3 (.t 1)⟩,
  ⟨(some 38), (some (36, true)), .load1 (.t 37)⟩,
  ⟨(some 39), (some (36, true)), .bin .leq .num (.t 38) (.c (.int .i64 2147483647))⟩,
  ⟨(some 40), .none, .pick (.t 36) (.t 39) (.c (.bool false))⟩,
  ⟨(some 41), .none, .mv (.t 40)⟩,
  ⟨(some 42), (some (41, true)), .faddr 5 (.t 1)⟩,
  ⟨(some 43), (some (41, true)), .load1 (.t 42)⟩,
  ⟨(some 44), (some (41, true)), .call 308 [(.t 43), (.c (.int .i64 0)), (.c (.int .i64 1099511627776))]⟩,
  ⟨(some 45), .none, .pick (.t 41) (.t 44) (.c (.bool false))⟩,
  ⟨(some 2), .none, .mv (.t 45)⟩]
def f_rec_numbers_c0 : AC := .ret
def f_rec_numbers_c1 : AC := (.seq (.reg f_rec_numbers_r1) f_rec_numbers_c0)
def f_rec_numbers : AF := ⟨46, [.tmp 2], (.seq (.reg f_rec_numbers_r0) f_rec_numbers_c1)⟩
/- rec_fits -/
def f_rec_fits_r0 : List AOp := [
  ⟨(some 1), .none, .box (.t 0)⟩,
  ⟨(some 2), .none, .mv (.c (.bool false))⟩]
def f_rec_fits_r1 : List AOp := [
  ⟨(some 3), .none, .faddr 1 (.t 1)⟩,
  ⟨(some 4), .none, .load1 (.t 3)⟩,
  ⟨(some 5), .none, .bin .eql .num (.t 4) (.c (.int .i64 0))⟩,
  ⟨(some 6), .none, .mv (.t 5)⟩,
  ⟨(some 7), (some (6, true)), .faddr 4 (.t 1)⟩,
  ⟨(some 8), (some (6, true)), .load1 (.t 7)⟩,
  ⟨(some 9), (some (6, true)), .bin .neq .num (.t 8) (.c (.int .i64 0))⟩,
  ⟨(some 10), (some (6, true)), .mv (.t 9)⟩,
  ⟨(some 11), (some (10, false)), .faddr 2 (.t 1)⟩,
  ⟨(some 12), (some (10, false)), .load1 (.t 11)⟩,
  ⟨(some 13), (some (10, false)), .bin .neq .num (.t 12) (.c (.int .i64 0))⟩,
  ⟨(some 14), (some (6, true)), .pick (.t 10) (.c (.bool true)) (.t 13)⟩,
  ⟨(some 15), (some (6, true)), .mv (.t 14)⟩,
  ⟨(some 16), (some (15, false)), .faddr 3 (.t 1)⟩,
  ⟨(some 17), (some (15, false)), .load1 (.t 16)⟩,
  ⟨(some 18), (some (15, false)), .bin .neq .num (.t 17) (.c (.int .i64 0))⟩,
  ⟨(some 19), (some (6, true)), .pick (.t 15) (.c (.bool true)) (.t 18)⟩,
  ⟨(some 20), .none, .pick (.t 6) (.t 19) (.c (.bool false))⟩]
def f_rec_fits_r2 : List AOp := [
  ⟨(some 2), .none, .mv (.c (.bool false))⟩]
def f_rec_fits_c0 : AC := .ret
def f_rec_fits_c1 : AC := (.cond (.t 20) (.seq (.reg f_rec_fits_r2) f_rec_fits_c0) .skip)
def f_rec_fits_r3 : List AOp := [
  ⟨(some 21), .none, .loadn 7 (.t 1)⟩,
  ⟨(some 22), .none, .call 185 [(.t 21)]⟩]
def f_rec_fits_r4 : List AOp := [
  ⟨(some 23), .none, .faddr 3 (.t 1)⟩,
  ⟨(some 24), .none, .load1 (.t 23)⟩,
  ⟨(some 25), .none, .bin .eql .num (.t 24) (.c (.int .i64 0))⟩,
  ⟨(some 26), .none, .mv (.t 25)⟩,
  ⟨(some 27), (some (26, true)), .faddr 6 (.t 1)⟩,
  ⟨(some 28), (some (26, true)), .load1 (.t 27)⟩,
  ⟨(some 29), (some (26, true)), .len .slice (.t 28)⟩,
  ⟨(some 30), (some (26, true)), .bin .eql .num (.t 29) (.c (.int .i64 0))⟩,
  ⟨(some 31), .none, .pick (.t 26) (.t 30) (.c (.bool false))⟩,
  ⟨(some 2), .none, .mv (.t 31)⟩]
def f_rec_fits_c2 : AC := .ret
def f_rec_fits_c3 : AC := (.cond (.t 22) (.seq (.reg f_rec_fits_r4) f_rec_fits_c2) .skip)
def f_rec_fits_r5 : List AOp := [
  ⟨(some 32), .none, .faddr 6 (.t 1)⟩,
  ⟨(some 33), .none, .load1 (.t 32)⟩,
  ⟨(some 34), .none, .len .slice (.t 33)⟩,
  ⟨(some 35), .none, .bin .gtr .num (.t 34) (.c (.int .i64 0))⟩,
  ⟨(some 2), .none, .mv (.t 35)⟩]
def f_rec_fits_c4 : AC := .ret
def f_rec_fits_c5 : AC := (.seq (.reg f_rec_fits_r5) f_rec_fits_c4)
def f_rec_fits_c6 : AC := (.seq (.seq (.reg f_rec_fits_r3) f_rec_fits_c3) f_rec_fits_c5)
def f_rec_fits_c7 : AC := (.seq (.seq (.reg f_rec_fits_r1) f_rec_fits_c1) f_rec_fits_c6)
def f_rec_fits : AF := ⟨36, [.tmp 2], (.seq (.reg f_rec_fits_r0) f_rec_fits_c7)⟩
/- rec_record -/
def f_rec_record_r0 : List AOp := [
  ⟨(some 1), .none, .box (.t 0)⟩,
  ⟨(some 2), .none, .mv (.c (.int .i64 0))⟩]
def f_rec_record_r1 : List AOp := [
  ⟨(some 4), .none, .faddr 0 (.t 1)⟩,
  ⟨(some 5), .none, .load1 (.t 4)⟩,
  ⟨(some 6), .none, .len .str (.t 5)⟩,
  ⟨(some 7), .none, .bin .gtr .num (.t 6) (.c (.int .i64 1024))⟩,
  ⟨(some 8), .none, .mv (.t 7)⟩,
  ⟨(some 9), (some (8, false)), .faddr 1 (.t 1)⟩,
  ⟨(some 10), (some (8, false)), .load1 (.t 9)⟩,
  ⟨(some 11), (some (8, false)), .len .str (.t 10)⟩,
  ⟨(some 12), (some (8, false)), .bin .gtr .num (.t 11) (.c (.int .i64 1024))⟩,
  ⟨(some 13), .none, .pick (.t 8) (.c (.bool true)) (.t 12)⟩,
  ⟨(some 3), .none, .mv (.t 13)⟩]
def f_rec_record_r2 : List AOp := [
  ⟨(some 2), .none, .mv (.c (.int .i64 7))⟩]
def f_rec_record_c0 : AC := .ret
def f_rec_record_r3 : List AOp := [
  ⟨(some 15), .none, .faddr 3 (.t 1)⟩,
  ⟨(some 16), .none, .load1 (.t 15)⟩,
  ⟨(some 17), .none, .call 308 [(.t 16), (.c (.int .i64 0)), (.c (.int .i64 1099511627776))]⟩,
  ⟨(some 18), .none, .un .not (.t 17)⟩,
  ⟨(some 19), .none, .mv (.t 18)⟩,
  ⟨(some 20), (some (19, false)), .faddr 2 (.t 1)⟩,
  ⟨(some 21), (some (19, false)), .load1 (.t 20)⟩,
  ⟨(some 22), (some (19, false)), .mv (.t 21)⟩,
  ⟨(some 23), (some (22, true)), .faddr 1 (.t 1)⟩,
  ⟨(some 24), (some (22, true)), .load1 (.t 23)⟩,
  ⟨(some 25), (some (22, true)), .bin .neq .str (.t 24) (.c (.str []))⟩,
  ⟨(some 26), (some (19, false)), .pick (.t 22) (.t 25) (.c (.bool false))⟩,
  ⟨(some 27), .none, .pick (.t 19) (.c (.bool true)) (.t 26)⟩,
  ⟨(some 14), .none, .mv (.t 27)⟩]
def f_rec_record_r4 : List AOp := [
  ⟨(some 2), .none, .mv (.c (.int .i64 2))⟩]
def f_rec_record_c1 : AC := .ret
def f_rec_record_c2 : AC := (.cond (.t 14) (.seq (.reg f_rec_record_r4) f_rec_record_c1) .skip)
def f_rec_record_c3 : AC := (.cond (.t 3) (.seq (.reg f_rec_record_r2) f_rec_record_c0) (.seq (.reg f_rec_record_r3) f_rec_record_c2))
def f_rec_record_r5 : List AOp := [
  ⟨(some 2), .none, .mv (.c (.int .i64 0))⟩]
def f_rec_record_c4 : AC := .ret
def f_rec_record_c5 : AC := (.seq (.reg f_rec_record_r5) f_rec_record_c4)
def f_rec_record_c6 : AC := (.seq (.block 0 (.seq (.reg f_rec_record_r1) f_rec_record_c3)) f_rec_record_c5)
def f_rec_record : AF := ⟨28, [.tmp 2], (.seq (.reg f_rec_record_r0) f_rec_record_c6)⟩
/- wire_Int -/
def f_wire_Int_r0 : List AOp := [
  ⟨(some 2), .none, .mv (.c .nils)⟩]
def f_wire_Int_r1 : List AOp := [
  ⟨(some 3), .none, .mv (.t 0)⟩,
  ⟨(some 4), .none, .conv (.int .u64) (.t 3)⟩,
  ⟨(some 5), .none, .bin .shl .num (.t 4) (.c (.int .u64 1))⟩,
  ⟨(some 6), .none, .mv (.t 0)⟩,
  ⟨(some 7), .none, .bin .shr .num (.t 6) (.c (.int .u64 63))⟩,
  ⟨(some 8), .none, .conv (.int .u64) (.t 7)⟩,
  ⟨(some 9), .none, .bin .xor .num (.t 5) (.t 8)⟩,
  ⟨(some 10), .none, .call 78 [(.t 9)]⟩,
  ⟨(some 2), .none, .mv (.t 10)⟩]
def f_wire_Int_c0 : AC := .ret
def f_wire_Int_c1 : AC := (.seq (.reg f_wire_Int_r1) f_wire_Int_c0)
def f_wire_Int : AF := ⟨11, [.tmp 2], (.seq (.reg f_wire_Int_r0) f_wire_Int_c1)⟩
/- frame_four -/
def f_frame_four_r0 : List AOp := [
  ⟨(some 2), .none, .mv (.c .nils)⟩]
def f_frame_four_r1 : List AOp := [
  ⟨(some 3), .none, .mv (.t 0)⟩,
  ⟨(some 4), .none, .conv (.int .u8) (.t 3)⟩,
  ⟨(some 5), .none, .mv (.t 0)⟩,
  ⟨(some 6), .none, .bin .shr .num (.t 5) (.c (.int .u64 8))⟩,
  ⟨(some 7), .none, .conv (.int .u8) (.t 6)⟩,
  ⟨(some 8), .none, .mv (.t 0)⟩,
  ⟨(some 9), .none, .bin .shr .num (.t 8) (.c (.int .u64 16))⟩,
  ⟨(some 10), .none, .conv (.int .u8) (.t 9)⟩,
  ⟨(some 11), .none, .mv (.t 0)⟩,
  ⟨(some 12), .none, .bin .shr .num (.t 11) (.c (.int .u64 24))⟩,
  ⟨(some 13), .none, .conv (.int .u8) (.t 12)⟩,
  ⟨(some 14), .none, .bsl false 1 4 [(.int .u8 0)] [(0, 1, (.t 4)), (1, 1, (.t 7)), (2, 1, (.t 10)), (3, 1, (.t 13))]⟩,
  ⟨(some 2), .none, .mv (.t 14)⟩]
def f_frame_four_c0 : AC := .ret
def f_frame_four_c1 : AC := (.seq (.reg f_frame_four_r1) f_frame_four_c0)
def f_frame_four : AF := ⟨15, [.tmp 2], (.seq (.reg f_frame_four_r0) f_frame_four_c1)⟩
/- frame_Sum -/
def f_frame_Sum_r0 : List AOp := [
  ⟨(some 2), .none, .mv (.c (.int .u32 0))⟩]
def f_frame_Sum_r1 : List AOp := [
  ⟨(some 3), .none, .mv (.t 0)⟩,
  ⟨(some 4), .none, .call 323 [(.c (.int .u32 0)), (.t 3)]⟩,
  ⟨(some 2), .none, .mv (.t 4)⟩]
def f_frame_Sum_c0 : AC := .ret
def f_frame_Sum_c1 : AC := (.seq (.reg f_frame_Sum_r1) f_frame_Sum_c0)
def f_frame_Sum : AF := ⟨5, [.tmp 2], (.seq (.reg f_frame_Sum_r0) f_frame_Sum_c1)⟩
/- disk_Name -/
def f_disk_Name_r0 : List AOp := [
  ⟨(some 2), .none, .mv (.c (.bool false))⟩]
def f_disk_Name_r1 : List AOp := [
  ⟨(some 7), .none, .mv (.t 0)⟩,
  ⟨(some 8), .none, .len .str (.t 7)⟩,
  ⟨(some 9), .none, .bin .lss .num (.t 8) (.c (.int .i64 1))⟩,
  ⟨(some 10), .none, .mv (.t 9)⟩,
  ⟨(some 11), (some (10, false)), .mv (.t 0)⟩,
  ⟨(some 12), (some (10, false)), .len .str (.t 11)⟩,
  ⟨(some 13), (some (10, false)), .bin .gtr .num (.t 12) (.c (.int .i64 24))⟩,
  ⟨(some 14), .none, .pick (.t 10) (.c (.bool true)) (.t 13)⟩]
def f_disk_Name_r2 : List AOp := [
  ⟨(some 2), .none, .mv (.c (.bool false))⟩]
def f_disk_Name_c0 : AC := .ret
def f_disk_Name_c1 : AC := (.cond (.t 14) (.seq (.reg f_disk_Name_r2) f_disk_Name_c0) .skip)
def f_disk_Name_r3 : List AOp := [
  ⟨(some 15), .none, .mv (.t 0)⟩,
  ⟨(some 16), .none, .conv .toBytes (.t 15)⟩,
  ⟨(some 17), .none, .len .slice (.t 16)⟩,
  ⟨(some 18), .none, .mv (.c (.int .i64 0))⟩]
def f_disk_Name_r4 : List AOp := [
  ⟨(some 19), .none, .bin .lss .num (.t 18) (.t 17)⟩]
def f_disk_Name_r5 : List AOp := [
  ⟨(some 20), .none, .iaddr 1 (.t 16) (.t 18)⟩,
  ⟨(some 21), .none, .load1 (.t 20)⟩,
  ⟨(some 4), .none, .mv (.t 21)⟩]
def f_disk_Name_r6 : List AOp := [
  ⟨(some 22), .none, .mv (.t 4)⟩,
  ⟨(some 23), .none, .bin .geq .num (.t 22) (.c (.int .u8 97))⟩,
  ⟨(some 24), .none, .mv (.t 23)⟩,
  ⟨(some 25), (some (24, true)), .mv (.t 4)⟩,
  ⟨(some 26), (some (24, true)), .bin .leq .num (.t 25) (.c (.int .u8 122))⟩,
  ⟨(some 27), .none, .pick (.t 24) (.t 26) (.c (.bool false))⟩,
  ⟨(some 28), .none, .mv (.t 4)⟩,
  ⟨(some 29), .none, .bin .geq .num (.t 28) (.c (.int .u8 48))⟩,
  ⟨(some 30), .none, .mv (.t 29)⟩,
  ⟨(some 31), (some (30, true)), .mv (.t 4)⟩,
  ⟨(some 32), (some (30, true)), .bin .leq .num (.t 31) (.c (.int .u8 57))⟩,
  ⟨(some 33), .none, .pick (.t 30) (.t 32) (.c (.bool false))⟩,
  ⟨(some 5), .none, .mv (.t 27)⟩,
  ⟨(some 6), .none, .mv (.t 33)⟩]
def f_disk_Name_r7 : List AOp := [
  ⟨(some 34), .none, .mv (.t 5)⟩,
  ⟨(some 35), .none, .un .not (.t 34)⟩,
  ⟨(some 36), .none, .mv (.t 35)⟩,
  ⟨(some 37), (some (36, true)), .mv (.t 6)⟩,
  ⟨(some 38), (some (36, true)), .un .not (.t 37)⟩,
  ⟨(some 39), .none, .pick (.t 36) (.t 38) (.c (.bool false))⟩,
  ⟨(some 40), .none, .mv (.t 39)⟩,
  ⟨(some 41), (some (40, true)), .mv (.t 4)⟩,
  ⟨(some 42), (some (40, true)), .bin .neq .num (.t 41) (.c (.int .u8 46))⟩,
  ⟨(some 43), .none, .pick (.t 40) (.t 42) (.c (.bool false))⟩,
  ⟨(some 44), .none, .mv (.t 43)⟩,
  ⟨(some 45), (some (44, true)), .mv (.t 4)⟩,
  ⟨(some 46), (some (44, true)), .bin .neq .num (.t 45) (.c (.int .u8 45))⟩,
  ⟨(some 47), .none, .pick (.t 44) (.t 46) (.c (.bool false))⟩]
def f_disk_Name_r8 : List AOp := [
  ⟨(some 2), .none, .mv (.c (.bool false))⟩]
def f_disk_Name_c2 : AC := .ret
def f_disk_Name_c3 : AC := (.cond (.t 47) (.seq (.reg f_disk_Name_r8) f_disk_Name_c2) .skip)
def f_disk_Name_c4 : AC := (.seq (.reg f_disk_Name_r7) f_disk_Name_c3)
def f_disk_Name_c5 : AC := (.seq (.reg f_disk_Name_r6) f_disk_Name_c4)
def f_disk_Name_r9 : List AOp := [
  ⟨(some 48), .none, .bin .add .num (.t 18) (.c (.int .i64 1))⟩,
  ⟨(some 18), .none, .mv (.t 48)⟩]
def f_disk_Name_c6 : AC := (.reg f_disk_Name_r9)
def f_disk_Name_c7 : AC := (.seq (.block 1 (.seq (.reg f_disk_Name_r5) f_disk_Name_c5)) f_disk_Name_c6)
def f_disk_Name_c8 : AC := (.seq (.cond (.t 19) .skip (.exit 0)) f_disk_Name_c7)
def f_disk_Name_c9 : AC := (.seq (.reg f_disk_Name_r4) f_disk_Name_c8)
def f_disk_Name_c10 : AC := (.block 0 (.keep 6 [16, 17, 18] (.loop (.keep 6 [16, 17, 18] f_disk_Name_c9))))
def f_disk_Name_r10 : List AOp := [
  ⟨(some 2), .none, .mv (.c (.bool true))⟩]
def f_disk_Name_c11 : AC := .ret
def f_disk_Name_c12 : AC := (.seq (.reg f_disk_Name_r10) f_disk_Name_c11)
def f_disk_Name_c13 : AC := (.seq (.seq (.reg f_disk_Name_r3) f_disk_Name_c10) f_disk_Name_c12)
def f_disk_Name_c14 : AC := (.seq (.seq (.reg f_disk_Name_r1) f_disk_Name_c1) f_disk_Name_c13)
def f_disk_Name : AF := ⟨49, [.tmp 2], (.seq (.reg f_disk_Name_r0) f_disk_Name_c14)⟩
/- disk_Disk_Free -/
def f_disk_Disk_Free_r0 : List AOp := [
  ⟨(some 2), .none, .mv (.c (.int .i64 0))⟩]
def f_disk_Disk_Free_r1 : List AOp := [
  ⟨(some 3), .none, .mv (.t 0)⟩,
  ⟨(some 4), .none, .bin .eql .ptr (.t 3) (.c .nilp)⟩]
def f_disk_Disk_Free_r2 : List AOp := [
  ⟨(some 2), .none, .mv (.c (.int .i64 0))⟩]
def f_disk_Disk_Free_c0 : AC := .ret
def f_disk_Disk_Free_c1 : AC := (.cond (.t 4) (.seq (.reg f_disk_Disk_Free_r2) f_disk_Disk_Free_c0) .skip)
def f_disk_Disk_Free_r3 : DR := ⟨[
  ⟨(some 5), .none, .mv (.t 0)⟩,
  ⟨(some 6), .none, .nilck (.t 5)⟩,
  ⟨(some 7), .none, .faddr 2 (.t 6)⟩,
  ⟨(some 8), .none, .load1 (.t 7)⟩,
  ⟨(some 9), .none, .mv (.t 0)⟩,
  ⟨(some 10), .none, .nilck (.t 9)⟩,
  ⟨(some 11), .none, .faddr 3 (.t 10)⟩,
  ⟨(some 12), .none, .load1 (.t 11)⟩,
  ⟨(some 13), .none, .bin .sub .num (.t 8) (.t 12)⟩,
  ⟨(some 14), .none, .mx [(.t 13), (.c (.int .i64 0))]⟩,
  ⟨(some 2), .none, .mv (.t 14)⟩],
  [0, 1, 3, 7, 0, 16, 48, 112, 255, 511, 1023], [0, 1, 2, 3, 4, 5, 6, 7, 8, 9, 10], [], .none⟩
def f_disk_Disk_Free_c2 : AC := .ret
def f_disk_Disk_Free_c3 : AC := (.seq (.dreg f_disk_Disk_Free_r3) f_disk_Disk_Free_c2)
def f_disk_Disk_Free_c4 : AC := (.seq (.seq (.reg f_disk_Disk_Free_r1) f_disk_Disk_Free_c1) f_disk_Disk_Free_c3)
def f_disk_Disk_Free : AF := ⟨15, [.tmp 2], (.seq (.reg f_disk_Disk_Free_r0) f_disk_Disk_Free_c4)⟩
/- rec_Encode -/
def f_rec_Encode_r0 : List AOp := [
  ⟨(some 1), .none, .box (.t 0)⟩,
  ⟨(some 2), .none, .mv (.c .nils)⟩,
  ⟨(some 3), .none, .mv (.c (.int .i64 0))⟩]
def f_rec_Encode_r1 : List AOp := [
  ⟨(some 10), .none, .loadn 7 (.t 1)⟩,
  ⟨(some 11), .none, .call 186 [(.t 10)]⟩,
  ⟨(some 4), .none, .mv (.t 11)⟩]
def f_rec_Encode_r2 : List AOp := [
  ⟨(some 12), .none, .mv (.t 4)⟩,
  ⟨(some 13), .none, .bin .neq .num (.t 12) (.c (.int .i64 0))⟩]
def f_rec_Encode_r3 : List AOp := [
  ⟨(some 14), .none, .mv (.t 4)⟩,
  ⟨(some 2), .none, .mv (.c .nils)⟩,
  ⟨(some 3), .none, .mv (.t 14)⟩]
def f_rec_Encode_c0 : AC := .ret
def f_rec_Encode_c1 : AC := (.cond (.t 13) (.seq (.reg f_rec_Encode_r3) f_rec_Encode_c0) .skip)
def f_rec_Encode_c2 : AC := (.seq (.reg f_rec_Encode_r2) f_rec_Encode_c1)
def f_rec_Encode_r4 : DR := ⟨[
  ⟨(some 15), .none, .faddr 4 (.t 1)⟩,
  ⟨(some 16), .none, .load1 (.t 15)⟩,
  ⟨(some 17), .none, .conv (.int .u8) (.t 16)⟩,
  ⟨(some 18), .none, .bsl false 1 2 [(.int .u8 0)] [(0, 1, (.c (.int .u8 1))), (1, 1, (.t 17))]⟩,
  ⟨(some 19), .none, .faddr 0 (.t 1)⟩,
  ⟨(some 20), .none, .load1 (.t 19)⟩,
  ⟨(some 21), .none, .conv (.int .u64) (.t 20)⟩,
  ⟨(some 22), .none, .call 78 [(.t 21)]⟩,
  ⟨(some 23), .none, .faddr 1 (.t 1)⟩,
  ⟨(some 24), .none, .load1 (.t 23)⟩,
  ⟨(some 25), .none, .conv (.int .u64) (.t 24)⟩,
  ⟨(some 26), .none, .call 78 [(.t 25)]⟩,
  ⟨(some 27), .none, .bsl false 1 3 [.nils] [(0, 1, (.t 18)), (1, 1, (.t 22)), (2, 1, (.t 26))]⟩,
  ⟨(some 28), .none, .call 77 [(.t 27)]⟩,
  ⟨(some 5), .none, .mv (.t 28)⟩],
  [0, 1, 3, 7, 0, 16, 48, 112, 0, 256, 768, 2032, 4095, 8191, 16383], [0, 1, 2, 3, 4, 5, 6, 7, 8, 9, 10, 11, 12, 13, 14], [(1, 1), (1, 2), (9, 0)], .none⟩
def f_rec_Encode_r5 : List AOp := [
  ⟨(some 29), .none, .faddr 1 (.t 1)⟩,
  ⟨(some 30), .none, .load1 (.t 29)⟩,
  ⟨(some 31), .none, .bin .gtr .num (.t 30) (.c (.int .i64 0))⟩]
def f_rec_Encode_r6 : List AOp := [
  ⟨(some 32), .none, .mv (.t 5)⟩,
  ⟨(some 33), .none, .faddr 2 (.t 1)⟩,
  ⟨(some 34), .none, .load1 (.t 33)⟩,
  ⟨(some 35), .none, .conv (.int .u64) (.t 34)⟩,
  ⟨(some 36), .none, .call 78 [(.t 35)]⟩,
  ⟨(some 37), .none, .app false 1 1 (.t 32) (.t 36)⟩,
  ⟨(some 5), .none, .mv (.t 37)⟩]
def f_rec_Encode_r7 : List AOp := [
  ⟨(some 38), .none, .loadn 7 (.t 1)⟩,
  ⟨(some 39), .none, .call 185 [(.t 38)]⟩,
  ⟨(some 40), .none, .un .not (.t 39)⟩]
def f_rec_Encode_r8 : List AOp := [
  ⟨(some 41), .none, .mv (.t 5)⟩,
  ⟨(some 42), .none, .faddr 3 (.t 1)⟩,
  ⟨(some 43), .none, .load1 (.t 42)⟩,
  ⟨(some 44), .none, .conv (.int .u64) (.t 43)⟩,
  ⟨(some 45), .none, .call 78 [(.t 44)]⟩,
  ⟨(some 46), .none, .app false 1 1 (.t 41) (.t 45)⟩,
  ⟨(some 5), .none, .mv (.t 46)⟩]
def f_rec_Encode_c3 : AC := (.cond (.t 40) (.reg f_rec_Encode_r8) .skip)
def f_rec_Encode_c4 : AC := (.seq (.reg f_rec_Encode_r7) f_rec_Encode_c3)
def f_rec_Encode_c5 : AC := (.cond (.t 31) (.seq (.reg f_rec_Encode_r6) f_rec_Encode_c4) .skip)
def f_rec_Encode_r9 : List AOp := [
  ⟨(some 47), .none, .mv (.t 5)⟩,
  ⟨(some 48), .none, .faddr 5 (.t 1)⟩,
  ⟨(some 49), .none, .load1 (.t 48)⟩,
  ⟨(some 50), .none, .conv (.int .u64) (.t 49)⟩,
  ⟨(some 51), .none, .call 78 [(.t 50)]⟩,
  ⟨(some 52), .none, .app false 1 1 (.t 47) (.t 51)⟩,
  ⟨(some 5), .none, .mv (.t 52)⟩]
def f_rec_Encode_r10 : List AOp := [
  ⟨(some 53), .none, .loadn 7 (.t 1)⟩,
  ⟨(some 54), .none, .call 185 [(.t 53)]⟩]
def f_rec_Encode_r11 : List AOp := [
  ⟨(some 55), .none, .mv (.t 5)⟩,
  ⟨(some 2), .none, .mv (.t 55)⟩,
  ⟨(some 3), .none, .mv (.c (.int .i64 0))⟩]
def f_rec_Encode_c6 : AC := .ret
def f_rec_Encode_c7 : AC := (.cond (.t 54) (.seq (.reg f_rec_Encode_r11) f_rec_Encode_c6) .skip)
def f_rec_Encode_r12 : List AOp := [
  ⟨(some 56), .none, .mv (.t 5)⟩,
  ⟨(some 57), .none, .faddr 6 (.t 1)⟩,
  ⟨(some 58), .none, .load1 (.t 57)⟩,
  ⟨(some 59), .none, .len .slice (.t 58)⟩,
  ⟨(some 60), .none, .conv (.int .u64) (.t 59)⟩,
  ⟨(some 61), .none, .call 78 [(.t 60)]⟩,
  ⟨(some 62), .none, .app false 1 1 (.t 56) (.t 61)⟩,
  ⟨(some 5), .none, .mv (.t 62)⟩]
def f_rec_Encode_r13 : List AOp := [
  ⟨(some 6), .none, .mv (.c (.str []))⟩]
def f_rec_Encode_r14 : List AOp := [
  ⟨(some 63), .none, .faddr 6 (.t 1)⟩,
  ⟨(some 64), .none, .load1 (.t 63)⟩,
  ⟨(some 65), .none, .len .slice (.t 64)⟩,
  ⟨(some 66), .none, .mv (.c (.int .i64 0))⟩]
def f_rec_Encode_r15 : List AOp := [
  ⟨(some 67), .none, .bin .lss .num (.t 66) (.t 65)⟩]
def f_rec_Encode_r16 : List AOp := [
  ⟨(some 68), .none, .iaddr 4 (.t 64) (.t 66)⟩,
  ⟨(some 69), .none, .loadn 4 (.t 68)⟩,
  ⟨(some 8), .none, .alloc [(.str []), (.str []), (.bool false), (.int .i64 0)]⟩,
  ⟨.none, .none, .store 4 (.t 8) (.t 69)⟩]
def f_rec_Encode_r17 : List AOp := [
  ⟨(some 70), .none, .mv (.t 6)⟩,
  ⟨(some 71), .none, .faddr 0 (.t 8)⟩,
  ⟨(some 72), .none, .load1 (.t 71)⟩,
  ⟨(some 73), .none, .call 324 [(.t 70), (.t 72)]⟩,
  ⟨(some 9), .none, .mv (.t 73)⟩]
def f_rec_Encode_r18 : DR := ⟨[
  ⟨(some 74), .none, .mv (.t 5)⟩,
  ⟨(some 75), .none, .faddr 3 (.t 8)⟩,
  ⟨(some 76), .none, .load1 (.t 75)⟩,
  ⟨(some 77), .none, .faddr 5 (.t 1)⟩,
  ⟨(some 78), .none, .load1 (.t 77)⟩,
  ⟨(some 79), .none, .bin .sub .num (.t 76) (.t 78)⟩,
  ⟨(some 80), .none, .call 262 [(.t 79)]⟩,
  ⟨(some 81), .none, .faddr 2 (.t 8)⟩,
  ⟨(some 82), .none, .load1 (.t 81)⟩,
  ⟨(some 83), .none, .call 274 [(.t 82)]⟩,
  ⟨(some 84), .none, .mv (.t 9)⟩,
  ⟨(some 85), .none, .conv (.int .u64) (.t 84)⟩,
  ⟨(some 86), .none, .call 78 [(.t 85)]⟩,
  ⟨(some 87), .none, .faddr 0 (.t 8)⟩,
  ⟨(some 88), .none, .load1 (.t 87)⟩,
  ⟨(some 89), .none, .mv (.t 9)⟩,
  ⟨(some 90), .none, .sslc (.t 88) (some (.t 89)) .none⟩,
  ⟨(some 91), .none, .call 194 [(.t 90)]⟩,
  ⟨(some 92), .none, .bsl false 1 4 [.nils] [(0, 1, (.t 80)), (1, 1, (.t 83)), (2, 1, (.t 86)), (3, 1, (.t 91))]⟩,
  ⟨(some 93), .none, .call 77 [(.t 92)]⟩,
  ⟨(some 94), .none, .app false 1 1 (.t 74) (.t 93)⟩,
  ⟨(some 5), .none, .mv (.t 94)⟩],
  [0, 0, 2, 0, 8, 30, 62, 0, 128, 510, 0, 1024, 4094, 0, 8192, 0, 57344, 131070, 262142, 524286, 1048575, 2097151], [0, 1, 2, 3, 4, 5, 6, 7, 8, 9, 10, 11, 12, 13, 14, 15, 16, 17, 18, 19, 20, 21], [(8, 0), (14, 0), (14, 1), (14, 2)], .none⟩
def f_rec_Encode_r19 : List AOp := [
  ⟨(some 95), .none, .faddr 2 (.t 8)⟩,
  ⟨(some 96), .none, .load1 (.t 95)⟩,
  ⟨(some 97), .none, .un .not (.t 96)⟩]
def f_rec_Encode_r20 : List AOp := [
  ⟨(some 98), .none, .mv (.t 5)⟩,
  ⟨(some 99), .none, .faddr 1 (.t 8)⟩,
  ⟨(some 100), .none, .load1 (.t 99)⟩,
  ⟨(some 101), .none, .call 194 [(.t 100)]⟩,
  ⟨(some 102), .none, .app false 1 1 (.t 98) (.t 101)⟩,
  ⟨(some 5), .none, .mv (.t 102)⟩]
def f_rec_Encode_c8 : AC := (.cond (.t 97) (.reg f_rec_Encode_r20) .skip)
def f_rec_Encode_r21 : List AOp := [
  ⟨(some 103), .none, .faddr 0 (.t 8)⟩,
  ⟨(some 104), .none, .load1 (.t 103)⟩,
  ⟨(some 6), .none, .mv (.t 104)⟩]
def f_rec_Encode_c9 : AC := (.keep 7 [1, 5, 8, 64, 65, 66] (.reg f_rec_Encode_r21))
def f_rec_Encode_c10 : AC := (.seq (.seq (.reg f_rec_Encode_r19) f_rec_Encode_c8) f_rec_Encode_c9)
def f_rec_Encode_c11 : AC := (.seq (.dreg f_rec_Encode_r18) f_rec_Encode_c10)
def f_rec_Encode_c12 : AC := (.seq (.reg f_rec_Encode_r17) f_rec_Encode_c11)
def f_rec_Encode_r22 : List AOp := [
  ⟨(some 105), .none, .bin .add .num (.t 66) (.c (.int .i64 1))⟩,
  ⟨(some 66), .none, .mv (.t 105)⟩]
def f_rec_Encode_c13 : AC := (.reg f_rec_Encode_r22)
def f_rec_Encode_c14 : AC := (.seq (.block 1 (.seq (.reg f_rec_Encode_r16) f_rec_Encode_c12)) f_rec_Encode_c13)
def f_rec_Encode_c15 : AC := (.seq (.cond (.t 67) .skip (.exit 0)) f_rec_Encode_c14)
def f_rec_Encode_c16 : AC := (.seq (.reg f_rec_Encode_r15) f_rec_Encode_c15)
def f_rec_Encode_c17 : AC := (.block 0 (.keep 7 [1, 5, 6, 64, 65, 66] (.loop (.keep 7 [1, 5, 6, 64, 65, 66] f_rec_Encode_c16))))
def f_rec_Encode_r23 : List AOp := [
  ⟨(some 106), .none, .mv (.t 5)⟩,
  ⟨(some 2), .none, .mv (.t 106)⟩,
  ⟨(some 3), .none, .mv (.c (.int .i64 0))⟩]
def f_rec_Encode_c18 : AC := .ret
def f_rec_Encode_c19 : AC := (.seq (.reg f_rec_Encode_r23) f_rec_Encode_c18)
def f_rec_Encode_c20 : AC := (.seq (.seq (.reg f_rec_Encode_r14) f_rec_Encode_c17) f_rec_Encode_c19)
def f_rec_Encode_c21 : AC := (.seq (.reg f_rec_Encode_r13) f_rec_Encode_c20)
def f_rec_Encode_c22 : AC := (.seq (.reg f_rec_Encode_r12) f_rec_Encode_c21)
def f_rec_Encode_c23 : AC := (.seq (.seq (.reg f_rec_Encode_r10) f_rec_Encode_c7) f_rec_Encode_c22)
def f_rec_Encode_c24 : AC := (.keep 7 [1, 5] (.seq (.reg f_rec_Encode_r9) f_rec_Encode_c23))
def f_rec_Encode_c25 : AC := (.seq (.seq (.reg f_rec_Encode_r5) f_rec_Encode_c5) f_rec_Encode_c24)
def f_rec_Encode_c26 : AC := (.seq (.dreg f_rec_Encode_r4) f_rec_Encode_c25)
def f_rec_Encode_c27 : AC := (.seq (.seq (.reg f_rec_Encode_r1) f_rec_Encode_c2) f_rec_Encode_c26)
def f_rec_Encode : AF := ⟨107, [.tmp 2, .tmp 3], (.seq (.reg f_rec_Encode_r0) f_rec_Encode_c27)⟩
/- slices_pdqsortCmpFunc_iso_Txn -/
def f_slices_pdqsortCmpFunc_iso_Txn_r0 : List AOp := [
  ⟨(some 10), .none, .mv (.c (.bool true))⟩]
def f_slices_pdqsortCmpFunc_iso_Txn_r1 : List AOp := [
  ⟨(some 11), .none, .mv (.c (.bool true))⟩]
def f_slices_pdqsortCmpFunc_iso_Txn_r2 : List AOp := [
  ⟨(some 21), .none, .mv (.t 2)⟩,
  ⟨(some 22), .none, .mv (.t 1)⟩,
  ⟨(some 23), .none, .bin .sub .num (.t 21) (.t 22)⟩,
  ⟨(some 12), .none, .mv (.t 23)⟩]
def f_slices_pdqsortCmpFunc_iso_Txn_r3 : List AOp := [
  ⟨(some 24), .none, .mv (.t 12)⟩,
  ⟨(some 25), .none, .bin .leq .num (.t 24) (.c (.int .i64 12))⟩]
def f_slices_pdqsortCmpFunc_iso_Txn_r4 : List AOp := [
  ⟨(some 26), .none, .mv (.t 0)⟩,
  ⟨(some 27), .none, .mv (.t 1)⟩,
  ⟨(some 28), .none, .mv (.t 2)⟩,
  ⟨(some 29), .none, .mv (.t 4)⟩,
  ⟨(some 30), .none, .call 325 [(.t 26), (.t 27), (.t 28), (.t 29)]⟩]
def f_slices_pdqsortCmpFunc_iso_Txn_c0 : AC := .ret
def f_slices_pdqsortCmpFunc_iso_Txn_c1 : AC := (.cond (.t 25) (.seq (.reg f_slices_pdqsortCmpFunc_iso_Txn_r4) f_slices_pdqsortCmpFunc_iso_Txn_c0) .skip)
def f_slices_pdqsortCmpFunc_iso_Txn_r5 : List AOp := [
  ⟨(some 31), .none, .mv (.t 3)⟩,
  ⟨(some 32), .none, .bin .eql .num (.t 31) (.c (.int .i64 0))⟩]
def f_slices_pdqsortCmpFunc_iso_Txn_r6 : List AOp := [
  ⟨(some 33), .none, .mv (.t 0)⟩,
  ⟨(some 34), .none, .mv (.t 1)⟩,
  ⟨(some 35), .none, .mv (.t 2)⟩,
  ⟨(some 36), .none, .mv (.t 4)⟩,
  ⟨(some 37), .none, .call 326 [(.t 33), (.t 34), (.t 35), (.t 36)]⟩]
def f_slices_pdqsortCmpFunc_iso_Txn_c2 : AC := .ret
def f_slices_pdqsortCmpFunc_iso_Txn_c3 : AC := (.cond (.t 32) (.seq (.reg f_slices_pdqsortCmpFunc_iso_Txn_r6) f_slices_pdqsortCmpFunc_iso_Txn_c2) .skip)
def f_slices_pdqsortCmpFunc_iso_Txn_r7 : List AOp := [
  ⟨(some 38), .none, .mv (.t 10)⟩,
  ⟨(some 39), .none, .un .not (.t 38)⟩]
def f_slices_pdqsortCmpFunc_iso_Txn_r8 : List AOp := [
  ⟨(some 40), .none, .mv (.t 0)⟩,
  ⟨(some 41), .none, .mv (.t 1)⟩,
  ⟨(some 42), .none, .mv (.t 2)⟩,
  ⟨(some 43), .none, .mv (.t 4)⟩,
  ⟨(some 44), .none, .call 327 [(.t 40), (.t 41), (.t 42), (.t 43)]⟩]
def f_slices_pdqsortCmpFunc_iso_Txn_r9 : List AOp := [
  ⟨(some 45), .none, .mv (.t 3)⟩,
  ⟨(some 46), .none, .bin .sub .num (.t 45) (.c (.int .i64 1))⟩,
  ⟨(some 3), .none, .mv (.t 46)⟩]
def f_slices_pdqsortCmpFunc_iso_Txn_c4 : AC := (.reg f_slices_pdqsortCmpFunc_iso_Txn_r9)
def f_slices_pdqsortCmpFunc_iso_Txn_c5 : AC := (.cond (.t 39) (.seq (.reg f_slices_pdqsortCmpFunc_iso_Txn_r8) f_slices_pdqsortCmpFunc_iso_Txn_c4) .skip)
def f_slices_pdqsortCmpFunc_iso_Txn_r10 : List AOp := [
  ⟨(some 48), .none, .mv (.t 0)⟩,
  ⟨(some 49), .none, .mv (.t 1)⟩,
  ⟨(some 50), .none, .mv (.t 2)⟩,
  ⟨(some 51), .none, .mv (.t 4)⟩,
  ⟨(some 52), .none, .call 328 [(.t 48), (.t 49), (.t 50), (.t 51)]⟩,
  ⟨(some 47), .none, .mv (.t 52)⟩,
  ⟨(some 53), .none, .ext (.t 47) 0⟩,
  ⟨(some 54), .none, .ext (.t 47) 1⟩,
  ⟨(some 13), .none, .mv (.t 53)⟩,
  ⟨(some 14), .none, .mv (.t 54)⟩]
def f_slices_pdqsortCmpFunc_iso_Txn_r11 : List AOp := [
  ⟨(some 55), .none, .mv (.t 14)⟩,
  ⟨(some 56), .none, .bin .eql .num (.t 55) (.c (.int .i64 2))⟩]
def f_slices_pdqsortCmpFunc_iso_Txn_r12 : List AOp := [
  ⟨(some 57), .none, .mv (.t 0)⟩,
  ⟨(some 58), .none, .mv (.t 1)⟩,
  ⟨(some 59), .none, .mv (.t 2)⟩,
  ⟨(some 60), .none, .mv (.t 4)⟩,
  ⟨(some 61), .none, .call 329 [(.t 57), (.t 58), (.t 59), (.t 60)]⟩]
def f_slices_pdqsortCmpFunc_iso_Txn_r13 : List AOp := [
  ⟨(some 62), .none, .mv (.t 2)⟩,
  ⟨(some 63), .none, .bin .sub .num (.t 62) (.c (.int .i64 1))⟩,
  ⟨(some 64), .none, .mv (.t 13)⟩,
  ⟨(some 65), .none, .mv (.t 1)⟩,
  ⟨(some 66), .none, .bin .sub .num (.t 64) (.t 65)⟩,
  ⟨(some 67), .none, .bin .sub .num (.t 63) (.t 66)⟩,
  ⟨(some 13), .none, .mv (.t 67)⟩]
def f_slices_pdqsortCmpFunc_iso_Txn_r14 : List AOp := [
  ⟨(some 14), .none, .mv (.c (.int .i64 1))⟩]
def f_slices_pdqsortCmpFunc_iso_Txn_c6 : AC := (.reg f_slices_pdqsortCmpFunc_iso_Txn_r14)
def f_slices_pdqsortCmpFunc_iso_Txn_c7 : AC := (.seq (.reg f_slices_pdqsortCmpFunc_iso_Txn_r13) f_slices_pdqsortCmpFunc_iso_Txn_c6)
def f_slices_pdqsortCmpFunc_iso_Txn_c8 : AC := (.cond (.t 56) (.seq (.reg f_slices_pdqsortCmpFunc_iso_Txn_r12) f_slices_pdqsortCmpFunc_iso_Txn_c7) .skip)
def f_slices_pdqsortCmpFunc_iso_Txn_r15 : List AOp := [
  ⟨(some 68), .none, .mv (.t 10)⟩,
  ⟨(some 69), .none, .mv (.t 68)⟩,
  ⟨(some 70), (some (69, true)), .mv (.t 11)⟩,
  ⟨(some 71), .none, .pick (.t 69) (.t 70) (.c (.bool false))⟩,
  ⟨(some 72), .none, .mv (.t 71)⟩,
  ⟨(some 73), (some (72, true)), .mv (.t 14)⟩,
  ⟨(some 74), (some (72, true)), .bin .eql .num (.t 73) (.c (.int .i64 1))⟩,
  ⟨(some 75), .none, .pick (.t 72) (.t 74) (.c (.bool false))⟩]
def f_slices_pdqsortCmpFunc_iso_Txn_r16 : List AOp := [
  ⟨(some 76), .none, .mv (.t 0)⟩,
  ⟨(some 77), .none, .mv (.t 1)⟩,
  ⟨(some 78), .none, .mv (.t 2)⟩,
  ⟨(some 79), .none, .mv (.t 4)⟩,
  ⟨(some 80), .none, .call 330 [(.t 76), (.t 77), (.t 78), (.t 79)]⟩]
def f_slices_pdqsortCmpFunc_iso_Txn_c9 : AC := (.cond (.t 80) .ret .skip)
def f_slices_pdqsortCmpFunc_iso_Txn_c10 : AC := (.cond (.t 75) (.seq (.reg f_slices_pdqsortCmpFunc_iso_Txn_r16) f_slices_pdqsortCmpFunc_iso_Txn_c9) .skip)
def f_slices_pdqsortCmpFunc_iso_Txn_r17 : DR := ⟨[
  ⟨(some 81), .none, .mv (.t 1)⟩,
  ⟨(some 82), .none, .bin .gtr .num (.t 81) (.c (.int .i64 0))⟩,
  ⟨(some 83), .none, .mv (.t 82)⟩,
  ⟨(some 84), (some (83, true)), .mv (.t 4)⟩,
  ⟨(some 85), (some (83, true)), .mv (.t 0)⟩,
  ⟨(some 86), (some (83, true)), .mv (.t 1)⟩,
  ⟨(some 87), (some (83, true)), .bin .sub .num (.t 86) (.c (.int .i64 1))⟩,
  ⟨(some 88), (some (83, true)), .iaddr 4 (.t 85) (.t 87)⟩,
  ⟨(some 89), (some (83, true)), .loadn 4 (.t 88)⟩,
  ⟨(some 90), (some (83, true)), .mv (.t 0)⟩,
  ⟨(some 91), (some (83, true)), .mv (.t 13)⟩,
  ⟨(some 92), (some (83, true)), .iaddr 4 (.t 90) (.t 91)⟩,
  ⟨(some 93), (some (83, true)), .loadn 4 (.t 92)⟩,
  ⟨(some 94), (some (83, true)), .callv (.t 84) [(.t 89), (.t 93)]⟩,
  ⟨(some 95), (some (83, true)), .bin .lss .num (.t 94) (.c (.int .i64 0))⟩,
  ⟨(some 96), (some (83, true)), .un .not (.t 95)⟩,
  ⟨(some 97), .none, .pick (.t 83) (.t 96) (.c (.bool false))⟩],
  [0, 1, 3, 7, 7, 7, 39, 119, 247, 7, 7, 1543, 3591, 8191, 16383, 32767, 65535], [0, 1, 2, 3, 4, 5, 6, 7, 8, 9, 10, 11, 12, 13, 14, 15, 16], [], .none⟩
def f_slices_pdqsortCmpFunc_iso_Txn_r18 : List AOp := [
  ⟨(some 98), .none, .mv (.t 0)⟩,
  ⟨(some 99), .none, .mv (.t 1)⟩,
  ⟨(some 100), .none, .mv (.t 2)⟩,
  ⟨(some 101), .none, .mv (.t 13)⟩,
  ⟨(some 102), .none, .mv (.t 4)⟩,
  ⟨(some 103), .none, .call 331 [(.t 98), (.t 99), (.t 100), (.t 101), (.t 102)]⟩,
  ⟨(some 15), .none, .mv (.t 103)⟩]
def f_slices_pdqsortCmpFunc_iso_Txn_r19 : List AOp := [
  ⟨(some 104), .none, .mv (.t 15)⟩,
  ⟨(some 1), .none, .mv (.t 104)⟩]
def f_slices_pdqsortCmpFunc_iso_Txn_c11 : AC := (.exit 1)
def f_slices_pdqsortCmpFunc_iso_Txn_c12 : AC := (.seq (.reg f_slices_pdqsortCmpFunc_iso_Txn_r19) f_slices_pdqsortCmpFunc_iso_Txn_c11)
def f_slices_pdqsortCmpFunc_iso_Txn_c13 : AC := (.cond (.t 97) (.seq (.reg f_slices_pdqsortCmpFunc_iso_Txn_r18) f_slices_pdqsortCmpFunc_iso_Txn_c12) .skip)
def f_slices_pdqsortCmpFunc_iso_Txn_r20 : List AOp := [
  ⟨(some 106), .none, .mv (.t 0)⟩,
  ⟨(some 107), .none, .mv (.t 1)⟩,
  ⟨(some 108), .none, .mv (.t 2)⟩,
  ⟨(some 109), .none, .mv (.t 13)⟩,
  ⟨(some 110), .none, .mv (.t 4)⟩,
  ⟨(some 111), .none, .call 332 [(.t 106), (.t 107), (.t 108), (.t 109), (.t 110)]⟩,
  ⟨(some 105), .none, .mv (.t 111)⟩,
  ⟨(some 112), .none, .ext (.t 105) 0⟩,
  ⟨(some 113), .none, .ext (.t 105) 1⟩,
  ⟨(some 16), .none, .mv (.t 112)⟩,
  ⟨(some 17), .none, .mv (.t 113)⟩]
def f_slices_pdqsortCmpFunc_iso_Txn_r21 : List AOp := [
  ⟨(some 114), .none, .mv (.t 17)⟩,
  ⟨(some 11), .none, .mv (.t 114)⟩]
def f_slices_pdqsortCmpFunc_iso_Txn_r22 : List AOp := [
  ⟨(some 115), .none, .mv (.t 16)⟩,
  ⟨(some 116), .none, .mv (.t 1)⟩,
  ⟨(some 117), .none, .bin .sub .num (.t 115) (.t 116)⟩,
  ⟨(some 118), .none, .mv (.t 2)⟩,
  ⟨(some 119), .none, .mv (.t 16)⟩,
  ⟨(some 120), .none, .bin .sub .num (.t 118) (.t 119)⟩,
  ⟨(some 18), .none, .mv (.t 117)⟩,
  ⟨(some 19), .none, .mv (.t 120)⟩]
def f_slices_pdqsortCmpFunc_iso_Txn_r23 : List AOp := [
  ⟨(some 121), .none, .mv (.t 12)⟩,
  ⟨(some 122), .none, .bin .quo .num (.t 121) (.c (.int .i64 8))⟩,
  ⟨(some 20), .none, .mv (.t 122)⟩]
def f_slices_pdqsortCmpFunc_iso_Txn_r24 : List AOp := [
  ⟨(some 123), .none, .mv (.t 18)⟩,
  ⟨(some 124), .none, .mv (.t 19)⟩,
  ⟨(some 125), .none, .bin .lss .num (.t 123) (.t 124)⟩]
def f_slices_pdqsortCmpFunc_iso_Txn_r25 : List AOp := [
  ⟨(some 126), .none, .mv (.t 18)⟩,
  ⟨(some 127), .none, .mv (.t 20)⟩,
  ⟨(some 128), .none, .bin .geq .num (.t 126) (.t 127)⟩,
  ⟨(some 10), .none, .mv (.t 128)⟩]
def f_slices_pdqsortCmpFunc_iso_Txn_r26 : List AOp := [
  ⟨(some 129), .none, .mv (.t 0)⟩,
  ⟨(some 130), .none, .mv (.t 1)⟩,
  ⟨(some 131), .none, .mv (.t 16)⟩,
  ⟨(some 132), .none, .mv (.t 3)⟩,
  ⟨(some 133), .none, .mv (.t 4)⟩,
  ⟨(some 134), .none, .call 269 [(.t 129), (.t 130), (.t 131), (.t 132), (.t 133)]⟩]
def f_slices_pdqsortCmpFunc_iso_Txn_r27 : List AOp := [
  ⟨(some 135), .none, .mv (.t 16)⟩,
  ⟨(some 136), .none, .bin .add .num (.t 135) (.c (.int .i64 1))⟩,
  ⟨(some 1), .none, .mv (.t 136)⟩]
def f_slices_pdqsortCmpFunc_iso_Txn_c14 : AC := (.reg f_slices_pdqsortCmpFunc_iso_Txn_r27)
def f_slices_pdqsortCmpFunc_iso_Txn_c15 : AC := (.seq (.reg f_slices_pdqsortCmpFunc_iso_Txn_r26) f_slices_pdqsortCmpFunc_iso_Txn_c14)
def f_slices_pdqsortCmpFunc_iso_Txn_r28 : List AOp := [
  ⟨(some 137), .none, .mv (.t 19)⟩,
  ⟨(some 138), .none, .mv (.t 20)⟩,
  ⟨(some 139), .none, .bin .geq .num (.t 137) (.t 138)⟩,
  ⟨(some 10), .none, .mv (.t 139)⟩]
def f_slices_pdqsortCmpFunc_iso_Txn_r29 : List AOp := [
  ⟨(some 140), .none, .mv (.t 0)⟩,
  ⟨(some 141), .none, .mv (.t 16)⟩,
  ⟨(some 142), .none, .bin .add .num (.t 141) (.c (.int .i64 1))⟩,
  ⟨(some 143), .none, .mv (.t 2)⟩,
  ⟨(some 144), .none, .mv (.t 3)⟩,
  ⟨(some 145), .none, .mv (.t 4)⟩,
  ⟨(some 146), .none, .call 269 [(.t 140), (.t 142), (.t 143), (.t 144), (.t 145)]⟩]
def f_slices_pdqsortCmpFunc_iso_Txn_r30 : List AOp := [
  ⟨(some 147), .none, .mv (.t 16)⟩,
  ⟨(some 2), .none, .mv (.t 147)⟩]
def f_slices_pdqsortCmpFunc_iso_Txn_c16 : AC := (.reg f_slices_pdqsortCmpFunc_iso_Txn_r30)
def f_slices_pdqsortCmpFunc_iso_Txn_c17 : AC := (.seq (.reg f_slices_pdqsortCmpFunc_iso_Txn_r29) f_slices_pdqsortCmpFunc_iso_Txn_c16)
def f_slices_pdqsortCmpFunc_iso_Txn_c18 : AC := (.cond (.t 125) (.seq (.reg f_slices_pdqsortCmpFunc_iso_Txn_r25) f_slices_pdqsortCmpFunc_iso_Txn_c15) (.seq (.reg f_slices_pdqsortCmpFunc_iso_Txn_r28) f_slices_pdqsortCmpFunc_iso_Txn_c17))
def f_slices_pdqsortCmpFunc_iso_Txn_c19 : AC := (.seq (.reg f_slices_pdqsortCmpFunc_iso_Txn_r24) f_slices_pdqsortCmpFunc_iso_Txn_c18)
def f_slices_pdqsortCmpFunc_iso_Txn_c20 : AC := (.seq (.reg f_slices_pdqsortCmpFunc_iso_Txn_r23) f_slices_pdqsortCmpFunc_iso_Txn_c19)
def f_slices_pdqsortCmpFunc_iso_Txn_c21 : AC := (.seq (.reg f_slices_pdqsortCmpFunc_iso_Txn_r22) f_slices_pdqsortCmpFunc_iso_Txn_c20)
def f_slices_pdqsortCmpFunc_iso_Txn_c22 : AC := (.seq (.reg f_slices_pdqsortCmpFunc_iso_Txn_r21) f_slices_pdqsortCmpFunc_iso_Txn_c21)
def f_slices_pdqsortCmpFunc_iso_Txn_c23 : AC := (.seq (.reg f_slices_pdqsortCmpFunc_iso_Txn_r20) f_slices_pdqsortCmpFunc_iso_Txn_c22)
def f_slices_pdqsortCmpFunc_iso_Txn_c24 : AC := (.keep 8 [0, 1, 2, 3, 4, 10, 11, 12, 13] (.seq (.seq (.dreg f_slices_pdqsortCmpFunc_iso_Txn_r17) f_slices_pdqsortCmpFunc_iso_Txn_c13) f_slices_pdqsortCmpFunc_iso_Txn_c23))
def f_slices_pdqsortCmpFunc_iso_Txn_c25 : AC := (.keep 8 [0, 1, 2, 3, 4, 10, 11, 12, 13, 14] (.seq (.seq (.reg f_slices_pdqsortCmpFunc_iso_Txn_r15) f_slices_pdqsortCmpFunc_iso_Txn_c10) f_slices_pdqsortCmpFunc_iso_Txn_c24))
def f_slices_pdqsortCmpFunc_iso_Txn_c26 : AC := (.seq (.seq (.reg f_slices_pdqsortCmpFunc_iso_Txn_r11) f_slices_pdqsortCmpFunc_iso_Txn_c8) f_slices_pdqsortCmpFunc_iso_Txn_c25)
def f_slices_pdqsortCmpFunc_iso_Txn_c27 : AC := (.keep 8 [0, 1, 2, 3, 4, 10, 11, 12] (.seq (.reg f_slices_pdqsortCmpFunc_iso_Txn_r10) f_slices_pdqsortCmpFunc_iso_Txn_c26))
def f_slices_pdqsortCmpFunc_iso_Txn_c28 : AC := (.seq (.seq (.reg f_slices_pdqsortCmpFunc_iso_Txn_r7) f_slices_pdqsortCmpFunc_iso_Txn_c5) f_slices_pdqsortCmpFunc_iso_Txn_c27)
def f_slices_pdqsortCmpFunc_iso_Txn_c29 : AC := (.seq (.seq (.reg f_slices_pdqsortCmpFunc_iso_Txn_r5) f_slices_pdqsortCmpFunc_iso_Txn_c3) f_slices_pdqsortCmpFunc_iso_Txn_c28)
def f_slices_pdqsortCmpFunc_iso_Txn_c30 : AC := (.seq (.seq (.reg f_slices_pdqsortCmpFunc_iso_Txn_r3) f_slices_pdqsortCmpFunc_iso_Txn_c1) f_slices_pdqsortCmpFunc_iso_Txn_c29)
def f_slices_pdqsortCmpFunc_iso_Txn_c31 : AC := (.block 1 (.seq (.reg f_slices_pdqsortCmpFunc_iso_Txn_r2) f_slices_pdqsortCmpFunc_iso_Txn_c30))
def f_slices_pdqsortCmpFunc_iso_Txn_c32 : AC := (.block 0 (.keep 8 [0, 1, 2, 3, 4, 10, 11] (.loop (.keep 8 [0, 1, 2, 3, 4, 10, 11] f_slices_pdqsortCmpFunc_iso_Txn_c31))))
def f_slices_pdqsortCmpFunc_iso_Txn_c33 : AC := (.seq (.reg f_slices_pdqsortCmpFunc_iso_Txn_r1) f_slices_pdqsortCmpFunc_iso_Txn_c32)
def f_slices_pdqsortCmpFunc_iso_Txn : AF := ⟨148, [], (.seq (.reg f_slices_pdqsortCmpFunc_iso_Txn_r0) f_slices_pdqsortCmpFunc_iso_Txn_c33)⟩
/- slices_Insert_rec_At -/
def f_slices_Insert_rec_At_r0 : List AOp := [
  ⟨(some 6), .none, .mv (.c .nils)⟩]
def f_slices_Insert_rec_At_r1 : List AOp := [
  ⟨(some 10), .none, .mv (.t 0)⟩,
  ⟨(some 11), .none, .mv (.t 1)⟩,
  ⟨(some 12), .none, .slc 5 (.t 10) (some (.t 11)) .none .none⟩]
def f_slices_Insert_rec_At_r2 : List AOp := [
  ⟨(some 13), .none, .mv (.t 2)⟩,
  ⟨(some 14), .none, .len .slice (.t 13)⟩,
  ⟨(some 7), .none, .mv (.t 14)⟩]
def f_slices_Insert_rec_At_r3 : List AOp := [
  ⟨(some 15), .none, .mv (.t 7)⟩,
  ⟨(some 16), .none, .bin .eql .num (.t 15) (.c (.int .i64 0))⟩]
def f_slices_Insert_rec_At_r4 : List AOp := [
  ⟨(some 17), .none, .mv (.t 0)⟩,
  ⟨(some 6), .none, .mv (.t 17)⟩]
def f_slices_Insert_rec_At_c0 : AC := .ret
def f_slices_Insert_rec_At_c1 : AC := (.cond (.t 16) (.seq (.reg f_slices_Insert_rec_At_r4) f_slices_Insert_rec_At_c0) .skip)
def f_slices_Insert_rec_At_r5 : List AOp := [
  ⟨(some 18), .none, .mv (.t 0)⟩,
  ⟨(some 19), .none, .len .slice (.t 18)⟩,
  ⟨(some 8), .none, .mv (.t 19)⟩]
def f_slices_Insert_rec_At_r6 : List AOp := [
  ⟨(some 20), .none, .mv (.t 1)⟩,
  ⟨(some 21), .none, .mv (.t 8)⟩,
  ⟨(some 22), .none, .bin .eql .num (.t 20) (.t 21)⟩]
def f_slices_Insert_rec_At_r7 : List AOp := [
  ⟨(some 23), .none, .mv (.t 0)⟩,
  ⟨(some 24), .none, .mv (.t 2)⟩,
  ⟨(some 25), .none, .app true 5 56 (.t 23) (.t 24)⟩,
  ⟨(some 6), .none, .mv (.t 25)⟩]
def f_slices_Insert_rec_At_c2 : AC := .ret
def f_slices_Insert_rec_At_c3 : AC := (.cond (.t 22) (.seq (.reg f_slices_Insert_rec_At_r7) f_slices_Insert_rec_At_c2) .skip)
def f_slices_Insert_rec_At_r8 : List AOp := [
  ⟨(some 26), .none, .mv (.t 8)⟩,
  ⟨(some 27), .none, .mv (.t 7)⟩,
  ⟨(some 28), .none, .bin .add .num (.t 26) (.t 27)⟩,
  ⟨(some 29), .none, .mv (.t 0)⟩,
  ⟨(some 30), .none, .bad⟩,
  ⟨(some 31), .none, .bin .gtr .num (.t 28) (.t 30)⟩]
def f_slices_Insert_rec_At_r9 : List AOp := [
  ⟨(some 32), .none, .mv (.t 0)⟩,
  ⟨(some 33), .none, .mv (.t 1)⟩,
  ⟨(some 34), .none, .slc 5 (.t 32) .none (some (.t 33)) .none⟩,
  ⟨(some 35), .none, .mv (.t 8)⟩,
  ⟨(some 36), .none, .mv (.t 7)⟩,
  ⟨(some 37), .none, .bin .add .num (.t 35) (.t 36)⟩,
  ⟨(some 38), .none, .mv (.t 1)⟩,
  ⟨(some 39), .none, .bin .sub .num (.t 37) (.t 38)⟩,
  ⟨(some 40), .none, .bad⟩,
  ⟨(some 9), .none, .mv (.t 40)⟩]
def f_slices_Insert_rec_At_r10 : List AOp := [
  ⟨(some 41), .none, .mv (.t 9)⟩,
  ⟨(some 42), .none, .mv (.t 1)⟩,
  ⟨(some 43), .none, .slc 5 (.t 41) (some (.t 42)) .none .none⟩,
  ⟨(some 44), .none, .mv (.t 2)⟩,
  ⟨(some 45), .none, .bad⟩]
def f_slices_Insert_rec_At_r11 : DR := ⟨[
  ⟨(some 46), .none, .mv (.t 9)⟩,
  ⟨(some 47), .none, .mv (.t 1)⟩,
  ⟨(some 48), .none, .mv (.t 7)⟩,
  ⟨(some 49), .none, .bin .add .num (.t 47) (.t 48)⟩,
  ⟨(some 50), .none, .slc 5 (.t 46) (some (.t 49)) .none .none⟩,
  ⟨(some 51), .none, .mv (.t 0)⟩,
  ⟨(some 52), .none, .mv (.t 1)⟩,
  ⟨(some 53), .none, .slc 5 (.t 51) (some (.t 52)) .none .none⟩,
  ⟨(some 54), .none, .bad⟩],
  [0, 0, 0, 6, 15, 0, 0, 96, 255], [0, 1, 2, 3, 4, 5, 6, 7, 8], [], .none⟩
def f_slices_Insert_rec_At_r12 : List AOp := [
  ⟨(some 55), .none, .mv (.t 9)⟩,
  ⟨(some 6), .none, .mv (.t 55)⟩]
def f_slices_Insert_rec_At_c4 : AC := .ret
def f_slices_Insert_rec_At_c5 : AC := (.seq (.reg f_slices_Insert_rec_At_r12) f_slices_Insert_rec_At_c4)
def f_slices_Insert_rec_At_c6 : AC := (.seq (.dreg f_slices_Insert_rec_At_r11) f_slices_Insert_rec_At_c5)
def f_slices_Insert_rec_At_c7 : AC := (.seq (.reg f_slices_Insert_rec_At_r10) f_slices_Insert_rec_At_c6)
def f_slices_Insert_rec_At_c8 : AC := (.cond (.t 31) (.seq (.reg f_slices_Insert_rec_At_r9) f_slices_Insert_rec_At_c7) .skip)
def f_slices_Insert_rec_At_r13 : List AOp := [
  ⟨(some 56), .none, .mv (.t 0)⟩,
  ⟨(some 57), .none, .mv (.t 8)⟩,
  ⟨(some 58), .none, .mv (.t 7)⟩,
  ⟨(some 59), .none, .bin .add .num (.t 57) (.t 58)⟩,
  ⟨(some 60), .none, .slc 5 (.t 56) .none (some (.t 59)) .none⟩,
  ⟨(some 0), .none, .mv (.t 60)⟩]
def f_slices_Insert_rec_At_r14 : List AOp := [
  ⟨(some 61), .none, .mv (.t 2)⟩,
  ⟨(some 62), .none, .mv (.t 0)⟩,
  ⟨(some 63), .none, .mv (.t 1)⟩,
  ⟨(some 64), .none, .mv (.t 7)⟩,
  ⟨(some 65), .none, .bin .add .num (.t 63) (.t 64)⟩,
  ⟨(some 66), .none, .slc 5 (.t 62) (some (.t 65)) .none .none⟩,
  ⟨(some 67), .none, .call 333 [(.t 61), (.t 66)]⟩,
  ⟨(some 68), .none, .un .not (.t 67)⟩]
def f_slices_Insert_rec_At_r15 : DR := ⟨[
  ⟨(some 69), .none, .mv (.t 0)⟩,
  ⟨(some 70), .none, .mv (.t 1)⟩,
  ⟨(some 71), .none, .mv (.t 7)⟩,
  ⟨(some 72), .none, .bin .add .num (.t 70) (.t 71)⟩,
  ⟨(some 73), .none, .slc 5 (.t 69) (some (.t 72)) .none .none⟩,
  ⟨(some 74), .none, .mv (.t 0)⟩,
  ⟨(some 75), .none, .mv (.t 1)⟩,
  ⟨(some 76), .none, .slc 5 (.t 74) (some (.t 75)) .none .none⟩,
  ⟨(some 77), .none, .bad⟩],
  [0, 0, 0, 6, 15, 0, 0, 96, 255], [0, 1, 2, 3, 4, 5, 6, 7, 8], [], .none⟩
def f_slices_Insert_rec_At_r16 : List AOp := [
  ⟨(some 78), .none, .mv (.t 0)⟩,
  ⟨(some 79), .none, .mv (.t 1)⟩,
  ⟨(some 80), .none, .slc 5 (.t 78) (some (.t 79)) .none .none⟩,
  ⟨(some 81), .none, .mv (.t 2)⟩,
  ⟨(some 82), .none, .bad⟩]
def f_slices_Insert_rec_At_r17 : List AOp := [
  ⟨(some 83), .none, .mv (.t 0)⟩,
  ⟨(some 6), .none, .mv (.t 83)⟩]
def f_slices_Insert_rec_At_c9 : AC := .ret
def f_slices_Insert_rec_At_c10 : AC := (.seq (.reg f_slices_Insert_rec_At_r17) f_slices_Insert_rec_At_c9)
def f_slices_Insert_rec_At_c11 : AC := (.seq (.reg f_slices_Insert_rec_At_r16) f_slices_Insert_rec_At_c10)
def f_slices_Insert_rec_At_c12 : AC := (.cond (.t 68) (.seq (.dreg f_slices_Insert_rec_At_r15) f_slices_Insert_rec_At_c11) .skip)
def f_slices_Insert_rec_At_r18 : List AOp := [
  ⟨(some 84), .none, .mv (.t 0)⟩,
  ⟨(some 85), .none, .mv (.t 8)⟩,
  ⟨(some 86), .none, .slc 5 (.t 84) (some (.t 85)) .none .none⟩,
  ⟨(some 87), .none, .mv (.t 2)⟩,
  ⟨(some 88), .none, .bad⟩]
def f_slices_Insert_rec_At_r19 : List AOp := [
  ⟨(some 89), .none, .mv (.t 0)⟩,
  ⟨(some 90), .none, .mv (.t 1)⟩,
  ⟨(some 91), .none, .slc 5 (.t 89) (some (.t 90)) .none .none⟩,
  ⟨(some 92), .none, .mv (.t 7)⟩,
  ⟨(some 93), .none, .call 334 [(.t 91), (.t 92)]⟩]
def f_slices_Insert_rec_At_r20 : List AOp := [
  ⟨(some 94), .none, .mv (.t 0)⟩,
  ⟨(some 6), .none, .mv (.t 94)⟩]
def f_slices_Insert_rec_At_c13 : AC := .ret
def f_slices_Insert_rec_At_c14 : AC := (.seq (.reg f_slices_Insert_rec_At_r20) f_slices_Insert_rec_At_c13)
def f_slices_Insert_rec_At_c15 : AC := (.seq (.reg f_slices_Insert_rec_At_r19) f_slices_Insert_rec_At_c14)
def f_slices_Insert_rec_At_c16 : AC := (.seq (.reg f_slices_Insert_rec_At_r18) f_slices_Insert_rec_At_c15)
def f_slices_Insert_rec_At_c17 : AC := (.seq (.seq (.reg f_slices_Insert_rec_At_r14) f_slices_Insert_rec_At_c12) f_slices_Insert_rec_At_c16)
def f_slices_Insert_rec_At_c18 : AC := (.seq (.reg f_slices_Insert_rec_At_r13) f_slices_Insert_rec_At_c17)
def f_slices_Insert_rec_At_c19 : AC := (.seq (.seq (.reg f_slices_Insert_rec_At_r8) f_slices_Insert_rec_At_c8) f_slices_Insert_rec_At_c18)
def f_slices_Insert_rec_At_c20 : AC := (.seq (.seq (.reg f_slices_Insert_rec_At_r6) f_slices_Insert_rec_At_c3) f_slices_Insert_rec_At_c19)
def f_slices_Insert_rec_At_c21 : AC := (.seq (.reg f_slices_Insert_rec_At_r5) f_slices_Insert_rec_At_c20)
def f_slices_Insert_rec_At_c22 : AC := (.seq (.seq (.reg f_slices_Insert_rec_At_r3) f_slices_Insert_rec_At_c1) f_slices_Insert_rec_At_c21)
def f_slices_Insert_rec_At_c23 : AC := (.seq (.reg f_slices_Insert_rec_At_r2) f_slices_Insert_rec_At_c22)
def f_slices_Insert_rec_At_c24 : AC := (.seq (.reg f_slices_Insert_rec_At_r1) f_slices_Insert_rec_At_c23)
def f_slices_Insert_rec_At : AF := ⟨95, [.tmp 6], (.seq (.reg f_slices_Insert_rec_At_r0) f_slices_Insert_rec_At_c24)⟩
/- compact_Table_from_1 -/
def f_compact_Table_from_1_r0 : List AOp := [
  ⟨(some 4), .none, .mv (.c (.bool false))⟩]
def f_compact_Table_from_1_r1 : DR := ⟨[
  ⟨(some 5), .none, .load1 (.t 1)⟩,
  ⟨(some 6), .none, .nilck (.t 5)⟩,
  ⟨(some 7), .none, .faddr 1 (.t 6)⟩,
  ⟨(some 8), .none, .load1 (.t 7)⟩,
  ⟨(some 9), .none, .mv (.t 0)⟩,
  ⟨(some 10), .none, .iaddr 5 (.t 8) (.t 9)⟩,
  ⟨(some 11), .none, .faddr 1 (.t 10)⟩,
  ⟨(some 12), .none, .faddr 0 (.t 11)⟩,
  ⟨(some 13), .none, .load1 (.t 12)⟩,
  ⟨(some 14), .none, .load1 (.t 2)⟩,
  ⟨(some 15), .none, .bin .geq .str (.t 13) (.t 14)⟩,
  ⟨(some 4), .none, .mv (.t 15)⟩],
  [0, 1, 3, 7, 0, 31, 63, 127, 255, 0, 1023, 2047], [0, 1, 2, 3, 4, 5, 6, 7, 8, 9, 10, 11], [], .none⟩
def f_compact_Table_from_1_c0 : AC := .ret
def f_compact_Table_from_1_c1 : AC := (.seq (.dreg f_compact_Table_from_1_r1) f_compact_Table_from_1_c0)
def f_compact_Table_from_1 : AF := ⟨16, [.tmp 4], (.seq (.reg f_compact_Table_from_1_r0) f_compact_Table_from_1_c1)⟩
/- wire_Flag -/
def f_wire_Flag_r0 : List AOp := [
  ⟨(some 2), .none, .mv (.c .nils)⟩]
def f_wire_Flag_r1 : List AOp := [
  ⟨(some 3), .none, .mv (.t 0)⟩]
def f_wire_Flag_r2 : List AOp := [
  ⟨(some 4), .none, .bsl false 1 1 [(.int .u8 0)] [(0, 1, (.c (.int .u8 1)))]⟩,
  ⟨(some 2), .none, .mv (.t 4)⟩]
def f_wire_Flag_c0 : AC := .ret
def f_wire_Flag_c1 : AC := (.cond (.t 3) (.seq (.reg f_wire_Flag_r2) f_wire_Flag_c0) .skip)
def f_wire_Flag_r3 : List AOp := [
  ⟨(some 5), .none, .bsl false 1 1 [(.int .u8 0)] [(0, 1, (.c (.int .u8 0)))]⟩,
  ⟨(some 2), .none, .mv (.t 5)⟩]
def f_wire_Flag_c2 : AC := .ret
def f_wire_Flag_c3 : AC := (.seq (.reg f_wire_Flag_r3) f_wire_Flag_c2)
def f_wire_Flag_c4 : AC := (.seq (.seq (.reg f_wire_Flag_r1) f_wire_Flag_c1) f_wire_Flag_c3)
def f_wire_Flag : AF := ⟨6, [.tmp 2], (.seq (.reg f_wire_Flag_r0) f_wire_Flag_c4)⟩
/- math_bits_Len64 -/
def f_math_bits_Len64_r0 : List AOp := [
  ⟨(some 2), .none, .mv (.c (.int .i64 0))⟩]
def f_math_bits_Len64_r1 : List AOp := [
  ⟨(some 3), .none, .mv (.t 0)⟩,
  ⟨(some 4), .none, .bin .geq .num (.t 3) (.c (.int .u64 4294967296))⟩]
def f_math_bits_Len64_r2 : List AOp := [
  ⟨(some 5), .none, .mv (.t 0)⟩,
  ⟨(some 6), .none, .bin .shr .num (.t 5) (.c (.int .u64 32))⟩,
  ⟨(some 0), .none, .mv (.t 6)⟩]
def f_math_bits_Len64_r3 : List AOp := [
  ⟨(some 2), .none, .mv (.c (.int .i64 32))⟩]
def f_math_bits_Len64_c0 : AC := (.reg f_math_bits_Len64_r3)
def f_math_bits_Len64_c1 : AC := (.cond (.t 4) (.seq (.reg f_math_bits_Len64_r2) f_math_bits_Len64_c0) .skip)
def f_math_bits_Len64_r4 : List AOp := [
  ⟨(some 7), .none, .mv (.t 0)⟩,
  ⟨(some 8), .none, .bin .geq .num (.t 7) (.c (.int .u64 65536))⟩]
def f_math_bits_Len64_r5 : List AOp := [
  ⟨(some 9), .none, .mv (.t 0)⟩,
  ⟨(some 10), .none, .bin .shr .num (.t 9) (.c (.int .u64 16))⟩,
  ⟨(some 0), .none, .mv (.t 10)⟩]
def f_math_bits_Len64_r6 : List AOp := [
  ⟨(some 11), .none, .mv (.t 2)⟩,
  ⟨(some 12), .none, .bin .add .num (.t 11) (.c (.int .i64 16))⟩,
  ⟨(some 2), .none, .mv (.t 12)⟩]
def f_math_bits_Len64_c2 : AC := (.reg f_math_bits_Len64_r6)
def f_math_bits_Len64_c3 : AC := (.cond (.t 8) (.seq (.reg f_math_bits_Len64_r5) f_math_bits_Len64_c2) .skip)
def f_math_bits_Len64_r7 : List AOp := [
  ⟨(some 13), .none, .mv (.t 0)⟩,
  ⟨(some 14), .none, .bin .geq .num (.t 13) (.c (.int .u64 256))⟩]
def f_math_bits_Len64_r8 : List AOp := [
  ⟨(some 15), .none, .mv (.t 0)⟩,
  ⟨(some 16), .none, .bin .shr .num (.t 15) (.c (.int .u64 8))⟩,
  ⟨(some 0), .none, .mv (.t 16)⟩]
def f_math_bits_Len64_r9 : List AOp := [
  ⟨(some 17), .none, .mv (.t 2)⟩,
  ⟨(some 18), .none, .bin .add .num (.t 17) (.c (.int .i64 8))⟩,
  ⟨(some 2), .none, .mv (.t 18)⟩]
def f_math_bits_Len64_c4 : AC := (.reg f_math_bits_Len64_r9)
def f_math_bits_Len64_c5 : AC := (.cond (.t 14) (.seq (.reg f_math_bits_Len64_r8) f_math_bits_Len64_c4) .skip)
def f_math_bits_Len64_r10 : List AOp := [
  ⟨(some 19), .none, .mv (.t 2)⟩,
  ⟨(some 20), .none, .mv (.t 0)⟩,
  ⟨(some 21), .none, .conv (.int .u8) (.t 20)⟩,
  ⟨(some 22), .none, .sidx (.c (.str [0, 1, 2, 2, 3, 3, 3, 3, 4, 4, 4, 4, 4, 4, 4, 4, 5, 5, 5, 5, 5, 5, 5, 5, 5, 5, 5, 5, 5, 5, 5, 5, 6, 6, 6, 6, 6, 6, 6, 6, 6, 6, 6, 6, 6, 6, 6, 6, 6, 6, 6, 6, 6, 6, 6, 6, 6, 6, 6, 6, 6, 6, 6, 6, 7, 7, 7, 7, 7, 7, 7, 7, 7, 7, 7, 7, 7, 7, 7, 7, 7, 7, 7, 7, 7, 7, 7, 7, 7, 7, 7, 7, 7, 7, 7, 7, 7, 7, 7, 7, 7, 7, 7, 7, 7, 7, 7, 7, 7, 7, 7, 7, 7, 7, 7, 7, 7, 7, 7, 7, 7, 7, 7, 7, 7, 7, 7, 7, 8, 8, 8, 8, 8, 8, 8, 8, 8, 8, 8, 8, 8, 8, 8, 8, 8, 8, 8, 8, 8, 8, 8, 8, 8, 8, 8, 8, 8, 8, 8, 8, 8, 8, 8, 8, 8, 8, 8, 8, 8, 8, 8, 8, 8, 8, 8, 8, 8, 8, 8, 8, 8, 8, 8, 8, 8, 8, 8, 8, 8, 8, 8, 8, 8, 8, 8, 8, 8, 8, 8, 8, 8, 8, 8, 8, 8, 8, 8, 8, 8, 8, 8, 8, 8, 8, 8, 8, 8, 8, 8, 8, 8, 8, 8, 8, 8, 8, 8, 8, 8, 8, 8, 8, 8, 8, 8, 8, 8, 8, 8, 8, 8, 8, 8, 8, 8, 8, 8, 8, 8, 8, 8, 8, 8, 8, 8, 8])) (.t 21)⟩,
  ⟨(some 23), .none, .conv (.int .i64) (.t 22)⟩,
  ⟨(some 24), .none, .bin .add .num (.t 19) (.t 23)⟩,
  ⟨(some 2), .none, .mv (.t 24)⟩]
def f_math_bits_Len64_c6 : AC := .ret
def f_math_bits_Len64_c7 : AC := (.keep 5 [0, 2] (.seq (.reg f_math_bits_Len64_r10) f_math_bits_Len64_c6))
def f_math_bits_Len64_c8 : AC := (.keep 5 [0, 2] (.seq (.seq (.reg f_math_bits_Len64_r7) f_math_bits_Len64_c5) f_math_bits_Len64_c7))
def f_math_bits_Len64_c9 : AC := (.keep 5 [0, 2] (.seq (.seq (.reg f_math_bits_Len64_r4) f_math_bits_Len64_c3) f_math_bits_Len64_c8))
def f_math_bits_Len64_c10 : AC := (.seq (.seq (.reg f_math_bits_Len64_r1) f_math_bits_Len64_c1) f_math_bits_Len64_c9)
def f_math_bits_Len64 : AF := ⟨25, [.tmp 2], (.seq (.reg f_math_bits_Len64_r0) f_math_bits_Len64_c10)⟩
/- slices_IndexFunc_api_Batch -/
def f_slices_IndexFunc_api_Batch_r0 : List AOp := [
  ⟨(some 4), .none, .mv (.c (.int .i64 0))⟩]
def f_slices_IndexFunc_api_Batch_r1 : List AOp := [
  ⟨(some 6), .none, .mv (.t 0)⟩,
  ⟨(some 7), .none, .len .slice (.t 6)⟩,
  ⟨(some 8), .none, .mv (.c (.int .i64 0))⟩]
def f_slices_IndexFunc_api_Batch_r2 : List AOp := [
  ⟨(some 9), .none, .bin .lss .num (.t 8) (.t 7)⟩]
def f_slices_IndexFunc_api_Batch_r3 : List AOp := [
  ⟨(some 10), .none, .mv (.t 8)⟩,
  ⟨(some 5), .none, .mv (.t 10)⟩]
def f_slices_IndexFunc_api_Batch_r4 : List AOp := [
  ⟨(some 11), .none, .mv (.t 1)⟩,
  ⟨(some 12), .none, .mv (.t 0)⟩,
  ⟨(some 13), .none, .mv (.t 5)⟩,
  ⟨(some 14), .none, .iaddr 7 (.t 12) (.t 13)⟩,
  ⟨(some 15), .none, .loadn 7 (.t 14)⟩,
  ⟨(some 16), .none, .callv (.t 11) [(.t 15)]⟩]
def f_slices_IndexFunc_api_Batch_r5 : List AOp := [
  ⟨(some 17), .none, .mv (.t 5)⟩,
  ⟨(some 4), .none, .mv (.t 17)⟩]
def f_slices_IndexFunc_api_Batch_c0 : AC := .ret
def f_slices_IndexFunc_api_Batch_c1 : AC := (.cond (.t 16) (.seq (.reg f_slices_IndexFunc_api_Batch_r5) f_slices_IndexFunc_api_Batch_c0) .skip)
def f_slices_IndexFunc_api_Batch_c2 : AC := (.seq (.reg f_slices_IndexFunc_api_Batch_r4) f_slices_IndexFunc_api_Batch_c1)
def f_slices_IndexFunc_api_Batch_r6 : List AOp := [
  ⟨(some 18), .none, .bin .add .num (.t 8) (.c (.int .i64 1))⟩,
  ⟨(some 8), .none, .mv (.t 18)⟩]
def f_slices_IndexFunc_api_Batch_c3 : AC := (.reg f_slices_IndexFunc_api_Batch_r6)
def f_slices_IndexFunc_api_Batch_c4 : AC := (.seq (.block 1 (.seq (.reg f_slices_IndexFunc_api_Batch_r3) f_slices_IndexFunc_api_Batch_c2)) f_slices_IndexFunc_api_Batch_c3)
def f_slices_IndexFunc_api_Batch_c5 : AC := (.seq (.cond (.t 9) .skip (.exit 0)) f_slices_IndexFunc_api_Batch_c4)
def f_slices_IndexFunc_api_Batch_c6 : AC := (.seq (.reg f_slices_IndexFunc_api_Batch_r2) f_slices_IndexFunc_api_Batch_c5)
def f_slices_IndexFunc_api_Batch_c7 : AC := (.block 0 (.keep 5 [0, 1, 7, 8] (.loop (.keep 5 [0, 1, 7, 8] f_slices_IndexFunc_api_Batch_c6))))
def f_slices_IndexFunc_api_Batch_r7 : List AOp := [
  ⟨(some 4), .none, .mv (.c (.int .i64 (-1)))⟩]
def f_slices_IndexFunc_api_Batch_c8 : AC := .ret
def f_slices_IndexFunc_api_Batch_c9 : AC := (.seq (.reg f_slices_IndexFunc_api_Batch_r7) f_slices_IndexFunc_api_Batch_c8)
def f_slices_IndexFunc_api_Batch_c10 : AC := (.seq (.seq (.reg f_slices_IndexFunc_api_Batch_r1) f_slices_IndexFunc_api_Batch_c7) f_slices_IndexFunc_api_Batch_c9)
def f_slices_IndexFunc_api_Batch : AF := ⟨19, [.tmp 4], (.seq (.reg f_slices_IndexFunc_api_Batch_r0) f_slices_IndexFunc_api_Batch_c10)⟩
/- maps_Keys_map_string_disk_file_string_disk_file -/
def f_maps_Keys_map_string_disk_file_string_disk_file_r0 : List AOp := [
  ⟨(some 1), .none, .box (.t 0)⟩,
  ⟨(some 2), .none, .mv (.c .nilf)⟩]
def f_maps_Keys_map_string_disk_file_string_disk_file_r1 : List AOp := [
  ⟨(some 3), .none, .mkfn 346 [] [(.t 1)]⟩,
  ⟨(some 2), .none, .mv (.t 3)⟩]
def f_maps_Keys_map_string_disk_file_string_disk_file_c0 : AC := .ret
def f_maps_Keys_map_string_disk_file_string_disk_file_c1 : AC := (.seq (.reg f_maps_Keys_map_string_disk_file_string_disk_file_r1) f_maps_Keys_map_string_disk_file_string_disk_file_c0)
def f_maps_Keys_map_string_disk_file_string_disk_file : AF := ⟨4, [.tmp 2], (.seq (.reg f_maps_Keys_map_string_disk_file_string_disk_file_r0) f_maps_Keys_map_string_disk_file_string_disk_file_c1)⟩
/- slices_Sort_string -/
def f_slices_Sort_string_r0 : List AOp := [
  ⟨(some 3), .none, .mv (.t 0)⟩,
  ⟨(some 4), .none, .len .slice (.t 3)⟩,
  ⟨(some 2), .none, .mv (.t 4)⟩]
def f_slices_Sort_string_r1 : List AOp := [
  ⟨(some 5), .none, .mv (.t 0)⟩,
  ⟨(some 6), .none, .mv (.t 2)⟩,
  ⟨(some 7), .none, .mv (.t 2)⟩,
  ⟨(some 8), .none, .conv (.int .u64) (.t 7)⟩,
  ⟨(some 9), .none, .call 220 [(.t 8)]⟩,
  ⟨(some 10), .none, .call 348 [(.t 5), (.c (.int .i64 0)), (.t 6), (.t 9)]⟩]
def f_slices_Sort_string_c0 : AC := (.reg f_slices_Sort_string_r1)
def f_slices_Sort_string : AF := ⟨11, [], (.seq (.reg f_slices_Sort_string_r0) f_slices_Sort_string_c0)⟩
/- frame_number -/
def f_frame_number_r0 : List AOp := [
  ⟨(some 2), .none, .mv (.c (.int .u32 0))⟩]
def f_frame_number_r1 : DR := ⟨[
  ⟨(some 3), .none, .mv (.t 0)⟩,
  ⟨(some 4), .none, .iaddr 1 (.t 3) (.c (.int .i64 0))⟩,
  ⟨(some 5), .none, .load1 (.t 4)⟩,
  ⟨(some 6), .none, .conv (.int .u32) (.t 5)⟩,
  ⟨(some 7), .none, .mv (.t 0)⟩,
  ⟨(some 8), .none, .iaddr 1 (.t 7) (.c (.int .i64 1))⟩,
  ⟨(some 9), .none, .load1 (.t 8)⟩,
  ⟨(some 10), .none, .conv (.int .u32) (.t 9)⟩,
  ⟨(some 11), .none, .bin .shl .num (.t 10) (.c (.int .u64 8))⟩,
  ⟨(some 12), .none, .bin .or .num (.t 6) (.t 11)⟩,
  ⟨(some 13), .none, .mv (.t 0)⟩,
  ⟨(some 14), .none, .iaddr 1 (.t 13) (.c (.int .i64 2))⟩,
  ⟨(some 15), .none, .load1 (.t 14)⟩,
  ⟨(some 16), .none, .conv (.int .u32) (.t 15)⟩,
  ⟨(some 17), .none, .bin .shl .num (.t 16) (.c (.int .u64 16))⟩,
  ⟨(some 18), .none, .bin .or .num (.t 12) (.t 17)⟩,
  ⟨(some 19), .none, .mv (.t 0)⟩,
  ⟨(some 20), .none, .iaddr 1 (.t 19) (.c (.int .i64 3))⟩,
  ⟨(some 21), .none, .load1 (.t 20)⟩,
  ⟨(some 22), .none, .conv (.int .u32) (.t 21)⟩,
  ⟨(some 23), .none, .bin .shl .num (.t 22) (.c (.int .u64 24))⟩,
  ⟨(some 24), .none, .bin .or .num (.t 18) (.t 23)⟩,
  ⟨(some 2), .none, .mv (.t 24)⟩],
  [0, 1, 3, 7, 0, 16, 48, 112, 240, 511, 0, 1024, 3072, 7168, 15360, 32767, 0, 65536, 196608, 458752, 983040, 2097151, 4194303], [0, 1, 2, 3, 4, 5, 6, 7, 8, 9, 10, 11, 12, 13, 14, 15, 16, 17, 18, 19, 20, 21, 22], [], .none⟩
def f_frame_number_c0 : AC := .ret
def f_frame_number_c1 : AC := (.seq (.dreg f_frame_number_r1) f_frame_number_c0)
def f_frame_number : AF := ⟨25, [.tmp 2], (.seq (.reg f_frame_number_r0) f_frame_number_c1)⟩
/- wire_Reader_Byte -/
def f_wire_Reader_Byte_r0 : List AOp := [
  ⟨(some 2), .none, .mv (.c (.int .i64 0))⟩]
def f_wire_Reader_Byte_r1 : List AOp := [
  ⟨(some 3), .none, .mv (.t 0)⟩,
  ⟨(some 4), .none, .call 166 [(.t 3)]⟩,
  ⟨(some 5), .none, .un .not (.t 4)⟩]
def f_wire_Reader_Byte_r2 : List AOp := [
  ⟨(some 2), .none, .mv (.c (.int .i64 0))⟩]
def f_wire_Reader_Byte_c0 : AC := .ret
def f_wire_Reader_Byte_c1 : AC := (.cond (.t 5) (.seq (.reg f_wire_Reader_Byte_r2) f_wire_Reader_Byte_c0) .skip)
def f_wire_Reader_Byte_r3 : List AOp := [
  ⟨(some 6), .none, .mv (.t 0)⟩,
  ⟨(some 7), .none, .nilck (.t 6)⟩,
  ⟨(some 8), .none, .faddr 0 (.t 7)⟩,
  ⟨(some 9), .none, .call 168 [(.t 8)]⟩,
  ⟨(some 10), .none, .bin .eql .num (.t 9) (.c (.int .i64 0))⟩]
def f_wire_Reader_Byte_r4 : List AOp := [
  ⟨(some 11), .none, .mv (.t 0)⟩,
  ⟨(some 12), .none, .nilck (.t 11)⟩,
  ⟨(some 13), .none, .faddr 0 (.t 12)⟩,
  ⟨(some 14), .none, .call 169 [(.t 13), (.c (.int .i64 6))]⟩]
def f_wire_Reader_Byte_r5 : List AOp := [
  ⟨(some 2), .none, .mv (.c (.int .i64 0))⟩]
def f_wire_Reader_Byte_c2 : AC := .ret
def f_wire_Reader_Byte_c3 : AC := (.seq (.reg f_wire_Reader_Byte_r5) f_wire_Reader_Byte_c2)
def f_wire_Reader_Byte_c4 : AC := (.cond (.t 10) (.seq (.reg f_wire_Reader_Byte_r4) f_wire_Reader_Byte_c3) .skip)
def f_wire_Reader_Byte_r6 : List AOp := [
  ⟨(some 15), .none, .mv (.t 0)⟩,
  ⟨(some 16), .none, .nilck (.t 15)⟩,
  ⟨(some 17), .none, .faddr 0 (.t 16)⟩,
  ⟨(some 18), .none, .call 235 [(.t 17), (.c (.int .i64 1))]⟩,
  ⟨(some 19), .none, .iaddr 1 (.t 18) (.c (.int .i64 0))⟩,
  ⟨(some 20), .none, .load1 (.t 19)⟩,
  ⟨(some 21), .none, .conv (.int .i64) (.t 20)⟩,
  ⟨(some 2), .none, .mv (.t 21)⟩]
def f_wire_Reader_Byte_c5 : AC := .ret
def f_wire_Reader_Byte_c6 : AC := (.seq (.reg f_wire_Reader_Byte_r6) f_wire_Reader_Byte_c5)
def f_wire_Reader_Byte_c7 : AC := (.seq (.seq (.reg f_wire_Reader_Byte_r3) f_wire_Reader_Byte_c4) f_wire_Reader_Byte_c6)
def f_wire_Reader_Byte_c8 : AC := (.seq (.seq (.reg f_wire_Reader_Byte_r1) f_wire_Reader_Byte_c1) f_wire_Reader_Byte_c7)
def f_wire_Reader_Byte : AF := ⟨22, [.tmp 2], (.seq (.reg f_wire_Reader_Byte_r0) f_wire_Reader_Byte_c8)⟩
/- index_New -/
def f_index_New_r0 : List AOp := [
  ⟨(some 2), .none, .mv (.c .nilp)⟩,
  ⟨(some 3), .none, .mv (.c (.int .i64 0))⟩]
def f_index_New_r1 : List AOp := [
  ⟨(some 4), .none, .mv (.t 0)⟩,
  ⟨(some 5), .none, .bin .lss .num (.t 4) (.c (.int .i64 1))⟩,
  ⟨(some 6), .none, .mv (.t 5)⟩,
  ⟨(some 7), (some (6, false)), .mv (.t 0)⟩,
  ⟨(some 8), (some (6, false)), .bin .gtr .num (.t 7) (.c (.int .i64 4194304))⟩,
  ⟨(some 9), .none, .pick (.t 6) (.c (.bool true)) (.t 8)⟩]
def f_index_New_r2 : List AOp := [
  ⟨(some 2), .none, .mv (.c .nilp)⟩,
  ⟨(some 3), .none, .mv (.c (.int .i64 2))⟩]
def f_index_New_c0 : AC := .ret
def f_index_New_c1 : AC := (.cond (.t 9) (.seq (.reg f_index_New_r2) f_index_New_c0) .skip)
def f_index_New_r3 : List AOp := [
  ⟨(some 10), .none, .build [(.int .i64 0), (.int .i64 0), (.int .i64 0)] [(0, 1, (.c (.int .i64 (-1)))), (1, 1, (.c (.int .i64 (-1)))), (2, 1, (.c (.int .i64 (-1))))]⟩,
  ⟨(some 11), .none, .mv (.t 0)⟩,
  ⟨(some 12), .none, .build [(.int .i64 0), (.int .i64 0), (.int .i64 0), (.int .i64 0), .nils] [(0, 3, (.t 10)), (3, 1, (.t 11)), (4, 1, (.c .nils))]⟩,
  ⟨(some 13), .none, .box (.t 12)⟩,
  ⟨(some 2), .none, .mv (.t 13)⟩,
  ⟨(some 3), .none, .mv (.c (.int .i64 0))⟩]
def f_index_New_c2 : AC := .ret
def f_index_New_c3 : AC := (.seq (.reg f_index_New_r3) f_index_New_c2)
def f_index_New_c4 : AC := (.seq (.seq (.reg f_index_New_r1) f_index_New_c1) f_index_New_c3)
def f_index_New : AF := ⟨14, [.tmp 2, .tmp 3], (.seq (.reg f_index_New_r0) f_index_New_c4)⟩
end Go.AM.P
