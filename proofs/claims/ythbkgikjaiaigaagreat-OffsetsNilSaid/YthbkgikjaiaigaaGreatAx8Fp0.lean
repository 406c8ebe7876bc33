import Derived.Test.YthbkgikjaiaigaaGreatAmRng
namespace Go.AM.P
set_option linter.all false
/- towpath/towpathlaw14.OffsetsNil -/
def f8r0 : List AOp := [
  ⟨(some 6), .none, .mv (.c (.bool false))⟩]
def f8r1 : List AOp := [
  ⟨(some 7), .none, .mv (.c .nilp)⟩]
def f8r2 : List AOp := [
  ⟨(some 17), .none, .mv (.t 7)⟩,
  ⟨(some 18), .none, .mv (.t 0)⟩,
  ⟨(some 19), .none, .mv (.t 1)⟩,
  ⟨(some 20), .none, .mv (.t 2)⟩,
  ⟨(some 21), .none, .call 53 [(.t 17), (.t 18), (.t 19), (.c (.int .i64 0)), (.t 20), (.c .nils)]⟩,
  ⟨(some 16), .none, .mv (.t 21)⟩,
  ⟨(some 22), .none, .ext (.t 16) 0⟩,
  ⟨(some 23), .none, .ext (.t 16) 1⟩,
  ⟨(some 8), .none, .mv (.t 22)⟩,
  ⟨(some 9), .none, .mv (.t 23)⟩]
def f8r3 : List AOp := [
  ⟨(some 25), .none, .mv (.t 7)⟩,
  ⟨(some 26), .none, .mv (.t 0)⟩,
  ⟨(some 27), .none, .mv (.t 1)⟩,
  ⟨(some 28), .none, .mv (.t 2)⟩,
  ⟨(some 29), .none, .call 54 [(.t 25), (.t 26), (.t 27), (.c (.bool true)), (.t 28)]⟩,
  ⟨(some 24), .none, .mv (.t 29)⟩,
  ⟨(some 30), .none, .ext (.t 24) 0⟩,
  ⟨(some 31), .none, .ext (.t 24) 1⟩,
  ⟨(some 10), .none, .mv (.t 30)⟩,
  ⟨(some 11), .none, .mv (.t 31)⟩]
def f8r4 : List AOp := [
  ⟨(some 33), .none, .mv (.t 7)⟩,
  ⟨(some 34), .none, .mv (.t 2)⟩,
  ⟨(some 35), .none, .call 55 [(.t 33), (.t 34)]⟩,
  ⟨(some 32), .none, .mv (.t 35)⟩,
  ⟨(some 36), .none, .ext (.t 32) 0⟩,
  ⟨(some 37), .none, .ext (.t 32) 1⟩,
  ⟨(some 12), .none, .mv (.t 36)⟩,
  ⟨(some 13), .none, .mv (.t 37)⟩]
def f8r5 : List AOp := [
  ⟨(some 39), .none, .mv (.t 7)⟩,
  ⟨(some 40), .none, .mv (.t 1)⟩,
  ⟨(some 41), .none, .call 56 [(.t 39), (.t 40)]⟩,
  ⟨(some 38), .none, .mv (.t 41)⟩,
  ⟨(some 42), .none, .ext (.t 38) 0⟩,
  ⟨(some 43), .none, .ext (.t 38) 1⟩,
  ⟨(some 14), .none, .alloc [(.int .i64 0), (.int .i64 0), (.int .i64 0), (.int .i64 0)]⟩,
  ⟨.none, .none, .store 4 (.t 14) (.t 42)⟩,
  ⟨(some 15), .none, .mv (.t 43)⟩]
def f8r6 : List AOp := [
  ⟨(some 44), .none, .mv (.t 8)⟩,
  ⟨(some 45), .none, .un .not (.t 44)⟩,
  ⟨(some 46), .none, .mv (.t 45)⟩,
  ⟨(some 47), (some (46, true)), .mv (.t 10)⟩,
  ⟨(some 48), (some (46, true)), .un .not (.t 47)⟩,
  ⟨(some 49), .none, .pick (.t 46) (.t 48) (.c (.bool false))⟩,
  ⟨(some 50), .none, .mv (.t 49)⟩,
  ⟨(some 51), (some (50, true)), .mv (.t 12)⟩,
  ⟨(some 52), (some (50, true)), .bin .eql .num (.t 51) (.c (.int .i64 0))⟩,
  ⟨(some 53), .none, .pick (.t 50) (.t 52) (.c (.bool false))⟩,
  ⟨(some 54), .none, .mv (.t 53)⟩,
  ⟨(some 55), (some (54, true)), .mv (.t 15)⟩,
  ⟨(some 56), (some (54, true)), .un .not (.t 55)⟩,
  ⟨(some 57), .none, .pick (.t 54) (.t 56) (.c (.bool false))⟩,
  ⟨(some 58), .none, .mv (.t 57)⟩,
  ⟨(some 59), (some (58, true)), .mv (.t 9)⟩,
  ⟨(some 60), (some (58, true)), .bin .eql .num (.t 59) (.c (.int .i64 1))⟩,
  ⟨(some 61), .none, .pick (.t 58) (.t 60) (.c (.bool false))⟩,
  ⟨(some 62), .none, .mv (.t 61)⟩,
  ⟨(some 63), (some (62, true)), .mv (.t 11)⟩,
  ⟨(some 64), (some (62, true)), .bin .eql .num (.t 63) (.c (.int .i64 1))⟩,
  ⟨(some 65), .none, .pick (.t 62) (.t 64) (.c (.bool false))⟩,
  ⟨(some 66), .none, .mv (.t 65)⟩,
  ⟨(some 67), (some (66, true)), .mv (.t 13)⟩,
  ⟨(some 68), (some (66, true)), .bin .eql .num (.t 67) (.c (.int .i64 1))⟩,
  ⟨(some 69), .none, .pick (.t 66) (.t 68) (.c (.bool false))⟩,
  ⟨(some 70), .none, .mv (.t 69)⟩,
  ⟨(some 71), (some (70, true)), .mv (.t 7)⟩,
  ⟨(some 72), (some (70, true)), .call 57 [(.t 71)]⟩,
  ⟨(some 73), (some (70, true)), .len .slice (.t 72)⟩,
  ⟨(some 74), (some (70, true)), .bin .eql .num (.t 73) (.c (.int .i64 0))⟩,
  ⟨(some 75), .none, .pick (.t 70) (.t 74) (.c (.bool false))⟩,
  ⟨(some 76), .none, .mv (.t 75)⟩,
  ⟨(some 77), (some (76, true)), .mv (.t 7)⟩,
  ⟨(some 78), (some (76, true)), .call 58 [(.t 77)]⟩,
  ⟨(some 79), (some (76, true)), .len .slice (.t 78)⟩,
  ⟨(some 80), (some (76, true)), .bin .eql .num (.t 79) (.c (.int .i64 0))⟩,
  ⟨(some 81), .none, .pick (.t 76) (.t 80) (.c (.bool false))⟩,
  ⟨(some 82), .none, .mv (.t 81)⟩,
  ⟨(some 83), (some (82, true)), .mv (.t 7)⟩,
  ⟨(some 84), (some (82, true)), .call 59 [(.t 83)]⟩,
  ⟨(some 85), (some (82, true)), .len .slice (.t 84)⟩,
  ⟨(some 86), (some (82, true)), .bin .eql .num (.t 85) (.c (.int .i64 0))⟩,
  ⟨(some 87), .none, .pick (.t 82) (.t 86) (.c (.bool false))⟩,
  ⟨(some 88), .none, .mv (.t 87)⟩,
  ⟨(some 89), (some (88, true)), .mv (.t 7)⟩,
  ⟨(some 90), (some (88, true)), .call 60 [(.t 89)]⟩,
  ⟨(some 91), (some (88, true)), .len .slice (.t 90)⟩,
  ⟨(some 92), (some (88, true)), .bin .eql .num (.t 91) (.c (.int .i64 0))⟩,
  ⟨(some 93), .none, .pick (.t 88) (.t 92) (.c (.bool false))⟩,
  ⟨(some 94), .none, .mv (.t 93)⟩,
  ⟨(some 95), (some (94, true)), .call 21 []⟩,
  ⟨(some 96), .none, .pick (.t 94) (.t 95) (.c (.bool false))⟩,
  ⟨(some 6), .none, .mv (.t 96)⟩]
def f8 : AF := ⟨97, [.tmp 6], (.seq (.reg f8r0) (.seq (.reg f8r1) (.seq (.reg f8r2) (.seq (.reg f8r3) (.seq (.reg f8r4) (.seq (.reg f8r5) (.seq (.reg f8r6) .ret)))))))⟩
/- towpath/disk.New -/
def f9r0 : List AOp := [
  ⟨(some 2), .none, .mv (.c .nilp)⟩,
  ⟨(some 3), .none, .mv (.c (.int .i64 0))⟩]
def f9r1 : List AOp := [
  ⟨(some 4), .none, .mv (.t 0)⟩,
  ⟨(some 5), .none, .bin .lss .num (.t 4) (.c (.int .i64 0))⟩,
  ⟨(some 6), .none, .mv (.t 5)⟩,
  ⟨(some 7), (some (6, false)), .mv (.t 0)⟩,
  ⟨(some 8), (some (6, false)), .bin .gtr .num (.t 7) (.c (.int .i64 4194304))⟩,
  ⟨(some 9), .none, .pick (.t 6) (.c (.bool true)) (.t 8)⟩]
def f9r2 : List AOp := [
  ⟨(some 2), .none, .mv (.c .nilp)⟩,
  ⟨(some 3), .none, .mv (.c (.int .i64 2))⟩]
def f9r3 : List AOp := [
  ⟨(some 10), .none, .build [(.int .i64 0), (.bool false)] [(0, 1, (.c (.int .i64 (-1))))]⟩,
  ⟨(some 11), .none, .mv (.t 0)⟩,
  ⟨(some 12), .none, .mkmap⟩,
  ⟨(some 13), .none, .build [(.int .i64 0), (.bool false), (.int .i64 0), (.int .i64 0), .nilm] [(0, 2, (.t 10)), (2, 1, (.t 11)), (4, 1, (.t 12))]⟩,
  ⟨(some 14), .none, .box (.t 13)⟩,
  ⟨(some 2), .none, .mv (.t 14)⟩,
  ⟨(some 3), .none, .mv (.c (.int .i64 0))⟩]
def f9 : AF := ⟨15, [.tmp 2, .tmp 3], (.seq (.reg f9r0) (.seq (.seq (.reg f9r1) (.cond (.t 9) (.seq (.reg f9r2) .ret) .skip)) (.seq (.reg f9r3) .ret)))⟩
/- towpath/part.Open -/
def f10r0 : List AOp := [
  ⟨(some 5), .none, .box (.t 2)⟩,
  ⟨(some 6), .none, .mv (.c .nilp)⟩,
  ⟨(some 7), .none, .mv (.c (.int .i64 0))⟩]
def f10r1 : List AOp := [
  ⟨(some 15), .none, .faddr 2 (.t 5)⟩,
  ⟨(some 16), .none, .load1 (.t 15)⟩,
  ⟨(some 17), .none, .bin .lss .num (.t 16) (.c (.int .i64 1))⟩,
  ⟨(some 18), .none, .mv (.t 17)⟩,
  ⟨(some 19), (some (18, false)), .faddr 2 (.t 5)⟩,
  ⟨(some 20), (some (18, false)), .load1 (.t 19)⟩,
  ⟨(some 21), (some (18, false)), .bin .gtr .num (.t 20) (.c (.int .i64 1024))⟩,
  ⟨(some 22), .none, .pick (.t 18) (.c (.bool true)) (.t 21)⟩]
def f10r2 : List AOp := [
  ⟨(some 23), .none, .mv (.t 0)⟩,
  ⟨(some 24), .none, .bin .eql .ptr (.t 23) (.c .nilp)⟩]
def f10r3 : List AOp := [
  ⟨(some 6), .none, .mv (.c .nilp)⟩,
  ⟨(some 7), .none, .mv (.c (.int .i64 1))⟩]
def f10r4 : List AOp := [
  ⟨(some 6), .none, .mv (.c .nilp)⟩,
  ⟨(some 7), .none, .mv (.c (.int .i64 2))⟩]
def f10r5 : List AOp := [
  ⟨(some 26), .none, .mv (.t 0)⟩,
  ⟨(some 27), .none, .mv (.t 1)⟩,
  ⟨(some 28), .none, .faddr 0 (.t 5)⟩,
  ⟨(some 29), .none, .loadn 2 (.t 28)⟩,
  ⟨(some 30), .none, .call 61 [(.t 26), (.t 27), (.t 29)]⟩,
  ⟨(some 25), .none, .mv (.t 30)⟩,
  ⟨(some 31), .none, .ext (.t 25) 0⟩,
  ⟨(some 32), .none, .ext (.t 25) 1⟩,
  ⟨(some 8), .none, .mv (.t 31)⟩,
  ⟨(some 9), .none, .mv (.t 32)⟩]
def f10r6 : List AOp := [
  ⟨(some 33), .none, .mv (.t 9)⟩,
  ⟨(some 34), .none, .bin .neq .num (.t 33) (.c (.int .i64 0))⟩]
def f10r7 : List AOp := [
  ⟨(some 35), .none, .mv (.t 9)⟩,
  ⟨(some 6), .none, .mv (.c .nilp)⟩,
  ⟨(some 7), .none, .mv (.t 35)⟩]
def f10r8 : List AOp := [
  ⟨(some 36), .none, .mv (.t 8)⟩,
  ⟨(some 37), .none, .mv (.t 0)⟩,
  ⟨(some 38), .none, .mv (.t 1)⟩,
  ⟨(some 39), .none, .build [.nilp, .nilp, (.str [])] [(0, 1, (.t 36)), (1, 1, (.t 37)), (2, 1, (.t 38))]⟩,
  ⟨(some 40), .none, .faddr 2 (.t 5)⟩,
  ⟨(some 41), .none, .load1 (.t 40)⟩,
  ⟨(some 42), .none, .build [.nilp, .nilp, (.str []), (.int .i64 0), .nilp, .nilp] [(0, 3, (.t 39)), (3, 1, (.t 41))]⟩,
  ⟨(some 43), .none, .box (.t 42)⟩,
  ⟨(some 10), .none, .mv (.t 43)⟩]
def f10r9 : List AOp := [
  ⟨(some 44), .none, .mv (.t 0)⟩,
  ⟨(some 45), .none, .mv (.t 10)⟩,
  ⟨(some 46), .none, .call 63 [(.t 45)]⟩,
  ⟨(some 47), .none, .call 62 [(.t 44), (.t 46)]⟩,
  ⟨(some 48), .none, .bin .gtr .num (.t 47) (.c (.int .i64 0))⟩,
  ⟨(some 49), .none, .mv (.t 48)⟩,
  ⟨(some 50), (some (49, false)), .mv (.t 0)⟩,
  ⟨(some 51), (some (49, false)), .mv (.t 10)⟩,
  ⟨(some 52), (some (49, false)), .call 63 [(.t 51)]⟩,
  ⟨(some 53), (some (49, false)), .call 64 [(.t 50), (.t 52)]⟩,
  ⟨(some 54), .none, .pick (.t 49) (.c (.bool true)) (.t 53)⟩]
def f10r10 : List AOp := [
  ⟨(some 55), .none, .mv (.t 0)⟩,
  ⟨(some 56), .none, .mv (.t 10)⟩,
  ⟨(some 57), .none, .call 63 [(.t 56)]⟩,
  ⟨(some 58), .none, .call 65 [(.t 55), (.t 57)]⟩,
  ⟨(some 11), .none, .mv (.t 58)⟩]
def f10r11 : List AOp := [
  ⟨(some 59), .none, .mv (.t 11)⟩,
  ⟨(some 60), .none, .bin .neq .num (.t 59) (.c (.int .i64 0))⟩]
def f10r12 : List AOp := [
  ⟨(some 61), .none, .mv (.t 11)⟩,
  ⟨(some 6), .none, .mv (.c .nilp)⟩,
  ⟨(some 7), .none, .mv (.t 61)⟩]
def f10r13 : List AOp := [
  ⟨(some 62), .none, .mv (.t 10)⟩,
  ⟨(some 63), .none, .call 66 [(.t 62)]⟩,
  ⟨(some 12), .none, .mv (.t 63)⟩]
def f10r14 : List AOp := [
  ⟨(some 64), .none, .mv (.t 8)⟩,
  ⟨(some 65), .none, .call 67 [(.t 64)]⟩,
  ⟨(some 66), .none, .len .slice (.t 65)⟩,
  ⟨(some 67), .none, .mv (.c (.int .i64 0))⟩]
def f10r15 : List AOp := [
  ⟨(some 68), .none, .bin .lss .num (.t 67) (.t 66)⟩]
def f10r16 : List AOp := [
  ⟨(some 69), .none, .iaddr 7 (.t 65) (.t 67)⟩,
  ⟨(some 70), .none, .loadn 7 (.t 69)⟩,
  ⟨(some 14), .none, .alloc [(.int .i64 0), (.int .i64 0), (.int .i64 0), (.int .i64 0), (.int .i64 0), (.int .i64 0), .nils]⟩,
  ⟨.none, .none, .store 7 (.t 14) (.t 70)⟩]
def f10r17 : List AOp := [
  ⟨(some 71), .none, .faddr 0 (.t 14)⟩,
  ⟨(some 72), .none, .load1 (.t 71)⟩,
  ⟨(some 73), .none, .mv (.t 12)⟩,
  ⟨(some 74), .none, .bin .geq .num (.t 72) (.t 73)⟩]
def f10r18 : List AOp := [
  ⟨(some 75), .none, .mv (.t 10)⟩,
  ⟨(some 76), .none, .loadn 7 (.t 14)⟩,
  ⟨(some 77), .none, .call 68 [(.t 75), (.t 76)]⟩]
def f10r19 : List AOp := [
  ⟨(some 78), .none, .bin .add .num (.t 67) (.c (.int .i64 1))⟩,
  ⟨(some 67), .none, .mv (.t 78)⟩]
def f10r20 : List AOp := [
  ⟨(some 79), .none, .mv (.t 10)⟩,
  ⟨(some 6), .none, .mv (.t 79)⟩,
  ⟨(some 7), .none, .mv (.c (.int .i64 0))⟩]
def f10 : AF := ⟨80, [.tmp 6, .tmp 7], (.seq (.reg f10r0) (.seq (.seq (.reg f10r1) (.cond (.t 22) (.seq (.seq (.reg f10r2) (.cond (.t 24) (.seq (.reg f10r3) .ret) .skip)) (.seq (.reg f10r4) .ret)) .skip)) (.seq (.reg f10r5) (.seq (.seq (.reg f10r6) (.cond (.t 34) (.seq (.reg f10r7) .ret) .skip)) (.seq (.reg f10r8) (.seq (.seq (.reg f10r9) (.cond (.t 54) (.seq (.reg f10r10) (.seq (.reg f10r11) (.cond (.t 60) (.seq (.reg f10r12) .ret) .skip))) .skip)) (.seq (.reg f10r13) (.seq (.seq (.reg f10r14) (.block 0 (.loop (.seq (.reg f10r15) (.seq (.cond (.t 68) .skip (.exit 0)) (.seq (.block 1 (.seq (.reg f10r16) (.seq (.reg f10r17) (.cond (.t 74) (.reg f10r18) .skip)))) (.reg f10r19))))))) (.seq (.reg f10r20) .ret)))))))))⟩
/- towpath/offsets.Record -/
def f15r0 : List AOp := [
  ⟨(some 2), .none, .box (.t 0)⟩,
  ⟨(some 4), .none, .alloc [(.str []), (.str []), (.bool false), (.int .i64 0)]⟩,
  ⟨(some 5), .none, .mv (.c (.int .i64 0))⟩]
def f15r1 : List AOp := [
  ⟨(some 7), .none, .loadn 4 (.t 2)⟩,
  ⟨(some 8), .none, .call 76 [(.t 7)]⟩,
  ⟨(some 9), .none, .un .not (.t 8)⟩,
  ⟨(some 10), .none, .mv (.t 9)⟩,
  ⟨(some 11), (some (10, false)), .mv (.t 1)⟩,
  ⟨(some 12), (some (10, false)), .bin .lss .num (.t 11) (.c (.int .i64 0))⟩,
  ⟨(some 13), .none, .pick (.t 10) (.c (.bool true)) (.t 12)⟩,
  ⟨(some 14), .none, .mv (.t 13)⟩,
  ⟨(some 15), (some (14, false)), .mv (.t 1)⟩,
  ⟨(some 16), (some (14, false)), .bin .gtr .num (.t 15) (.c (.int .i64 1099511627776))⟩,
  ⟨(some 17), .none, .pick (.t 14) (.c (.bool true)) (.t 16)⟩]
def f15r2 : List AOp := [
  ⟨(some 18), .none, .build [(.str []), (.str []), (.bool false), (.int .i64 0)] []⟩,
  ⟨.none, .none, .store 4 (.t 4) (.t 18)⟩,
  ⟨(some 5), .none, .mv (.c (.int .i64 2))⟩]
def f15r3 : DR := ⟨[
  ⟨(some 19), .none, .faddr 1 (.t 2)⟩,
  ⟨(some 20), .none, .load1 (.t 19)⟩,
  ⟨(some 21), .none, .conv (.int .u64) (.t 20)⟩,
  ⟨(some 22), .none, .call 78 [(.t 21)]⟩,
  ⟨(some 23), .none, .faddr 2 (.t 2)⟩,
  ⟨(some 24), .none, .load1 (.t 23)⟩,
  ⟨(some 25), .none, .conv (.int .u64) (.t 24)⟩,
  ⟨(some 26), .none, .call 78 [(.t 25)]⟩,
  ⟨(some 27), .none, .faddr 3 (.t 2)⟩,
  ⟨(some 28), .none, .load1 (.t 27)⟩,
  ⟨(some 29), .none, .conv (.int .u64) (.t 28)⟩,
  ⟨(some 30), .none, .call 78 [(.t 29)]⟩,
  ⟨(some 31), .none, .bsl false 1 3 [.nils] [(0, 1, (.t 22)), (1, 1, (.t 26)), (2, 1, (.t 30))]⟩,
  ⟨(some 32), .none, .call 77 [(.t 31)]⟩,
  ⟨(some 6), .none, .mv (.t 32)⟩],
  [0, 1, 3, 7, 0, 16, 48, 127, 0, 256, 768, 2047, 4095, 8191, 16383], [0, 1, 2, 3, 4, 5, 6, 7, 8, 9, 10, 11, 12, 13, 14], [(5, 0), (9, 0), (9, 1)], .none⟩
def f15r4 : DR := ⟨[
  ⟨(some 33), .none, .faddr 0 (.t 2)⟩,
  ⟨(some 34), .none, .load1 (.t 33)⟩,
  ⟨(some 35), .none, .call 79 [(.t 34)]⟩,
  ⟨(some 36), .none, .mv (.t 6)⟩,
  ⟨(some 37), .none, .conv .toStr (.t 36)⟩,
  ⟨(some 38), .none, .mv (.t 1)⟩,
  ⟨(some 39), .none, .build [(.str []), (.str []), (.bool false), (.int .i64 0)] [(0, 1, (.t 35)), (1, 1, (.t 37)), (3, 1, (.t 38))]⟩,
  ⟨.none, .none, .store 4 (.t 4) (.t 39)⟩,
  ⟨(some 5), .none, .mv (.c (.int .i64 0))⟩],
  [0, 1, 3, 0, 8, 0, 63, 127, 255], [0, 1, 2, 3, 4, 5, 6, 7, 8], [(4, 0)], .none⟩
def f15 : AF := ⟨40, [.celln 4 4, .tmp 5], (.seq (.reg f15r0) (.seq (.seq (.reg f15r1) (.cond (.t 17) (.seq (.reg f15r2) .ret) .skip)) (.seq (.dreg f15r3) (.seq (.dreg f15r4) .ret))))⟩
/- towpath/offsets.Parse -/
def f18r0 : List AOp := [
  ⟨(some 1), .none, .box (.t 0)⟩,
  ⟨(some 2), .none, .alloc [(.int .i64 0), (.int .i64 0), (.int .i64 0), (.int .i64 0)]⟩,
  ⟨(some 3), .none, .mv (.c (.int .i64 0))⟩]
def f18r1 : List AOp := [
  ⟨(some 11), .none, .faddr 0 (.t 1)⟩,
  ⟨(some 12), .none, .load1 (.t 11)⟩,
  ⟨(some 13), .none, .len .str (.t 12)⟩,
  ⟨(some 14), .none, .bin .neq .num (.t 13) (.c (.int .i64 4))⟩,
  ⟨(some 15), .none, .mv (.t 14)⟩,
  ⟨(some 16), (some (15, false)), .faddr 2 (.t 1)⟩,
  ⟨(some 17), (some (15, false)), .load1 (.t 16)⟩,
  ⟨(some 18), .none, .pick (.t 15) (.c (.bool true)) (.t 17)⟩]
def f18r2 : List AOp := [
  ⟨(some 19), .none, .build [(.int .i64 0), (.int .i64 0), (.int .i64 0), (.int .i64 0)] []⟩,
  ⟨.none, .none, .store 4 (.t 2) (.t 19)⟩,
  ⟨(some 3), .none, .mv (.c (.int .i64 6))⟩]
def f18r3 : List AOp := [
  ⟨(some 20), .none, .build [(.int .i64 0), (.int .i64 0), (.int .i64 0), (.int .i64 0)] []⟩,
  ⟨(some 4), .none, .alloc [(.int .i64 0), (.int .i64 0), (.int .i64 0), (.int .i64 0)]⟩,
  ⟨.none, .none, .store 4 (.t 4) (.t 20)⟩]
def f18r4 : List AOp := [
  ⟨(some 21), .none, .faddr 0 (.t 1)⟩,
  ⟨(some 22), .none, .load1 (.t 21)⟩,
  ⟨(some 23), .none, .sslc (.t 22) (some (.c (.int .i64 1))) .none⟩,
  ⟨(some 24), .none, .conv .toBytes (.t 23)⟩,
  ⟨(some 25), .none, .len .slice (.t 24)⟩,
  ⟨(some 26), .none, .mv (.c (.int .i64 0))⟩]
def f18r5 : List AOp := [
  ⟨(some 27), .none, .bin .lss .num (.t 26) (.t 25)⟩]
def f18r6 : List AOp := [
  ⟨(some 28), .none, .iaddr 1 (.t 24) (.t 26)⟩,
  ⟨(some 29), .none, .load1 (.t 28)⟩,
  ⟨(some 6), .none, .mv (.t 29)⟩]
def f18r7 : List AOp := [
  ⟨(some 30), .none, .mv (.t 6)⟩,
  ⟨(some 31), .none, .bin .lss .num (.t 30) (.c (.int .u8 48))⟩,
  ⟨(some 32), .none, .mv (.t 31)⟩,
  ⟨(some 33), (some (32, false)), .mv (.t 6)⟩,
  ⟨(some 34), (some (32, false)), .bin .gtr .num (.t 33) (.c (.int .u8 57))⟩,
  ⟨(some 35), .none, .pick (.t 32) (.c (.bool true)) (.t 34)⟩]
def f18r8 : List AOp := [
  ⟨(some 36), .none, .build [(.int .i64 0), (.int .i64 0), (.int .i64 0), (.int .i64 0)] []⟩,
  ⟨.none, .none, .store 4 (.t 2) (.t 36)⟩,
  ⟨(some 3), .none, .mv (.c (.int .i64 6))⟩]
def f18r9 : List AOp := [
  ⟨(some 37), .none, .faddr 0 (.t 4)⟩,
  ⟨(some 38), .none, .load1 (.t 37)⟩,
  ⟨(some 39), .none, .bin .mul .num (.t 38) (.c (.int .i64 10))⟩,
  ⟨(some 40), .none, .mv (.t 6)⟩,
  ⟨(some 41), .none, .bin .sub .num (.t 40) (.c (.int .u8 48))⟩,
  ⟨(some 42), .none, .conv (.int .i64) (.t 41)⟩,
  ⟨(some 43), .none, .bin .add .num (.t 39) (.t 42)⟩,
  ⟨(some 44), .none, .faddr 0 (.t 4)⟩,
  ⟨.none, .none, .store 1 (.t 44) (.t 43)⟩]
def f18r10 : List AOp := [
  ⟨(some 45), .none, .bin .add .num (.t 26) (.c (.int .i64 1))⟩,
  ⟨(some 26), .none, .mv (.t 45)⟩]
def f18r11 : List AOp := [
  ⟨(some 46), .none, .faddr 1 (.t 1)⟩,
  ⟨(some 47), .none, .load1 (.t 46)⟩,
  ⟨(some 48), .none, .conv .toBytes (.t 47)⟩,
  ⟨(some 49), .none, .call 82 [(.t 48)]⟩,
  ⟨(some 7), .none, .mv (.t 49)⟩]
def f18r12 : List AOp := [
  ⟨(some 50), .none, .mv (.t 7)⟩,
  ⟨(some 51), .none, .call 83 [(.t 50)]⟩,
  ⟨(some 52), .none, .mv (.t 7)⟩,
  ⟨(some 53), .none, .call 83 [(.t 52)]⟩,
  ⟨(some 54), .none, .mv (.t 7)⟩,
  ⟨(some 55), .none, .call 83 [(.t 54)]⟩,
  ⟨(some 8), .none, .mv (.t 51)⟩,
  ⟨(some 9), .none, .mv (.t 53)⟩,
  ⟨(some 10), .none, .mv (.t 55)⟩]
def f18r13 : List AOp := [
  ⟨(some 56), .none, .mv (.t 7)⟩,
  ⟨(some 57), .none, .call 84 [(.t 56)]⟩,
  ⟨(some 58), .none, .bin .neq .num (.t 57) (.c (.int .i64 0))⟩,
  ⟨(some 59), .none, .mv (.t 58)⟩,
  ⟨(some 60), (some (59, false)), .mv (.t 8)⟩,
  ⟨(some 61), (some (59, false)), .bin .gtr .num (.t 60) (.c (.int .u64 1099511627776))⟩,
  ⟨(some 62), .none, .pick (.t 59) (.c (.bool true)) (.t 61)⟩,
  ⟨(some 63), .none, .mv (.t 62)⟩,
  ⟨(some 64), (some (63, false)), .mv (.t 9)⟩,
  ⟨(some 65), (some (63, false)), .bin .gtr .num (.t 64) (.c (.int .u64 64))⟩,
  ⟨(some 66), .none, .pick (.t 63) (.c (.bool true)) (.t 65)⟩,
  ⟨(some 67), .none, .mv (.t 66)⟩,
  ⟨(some 68), (some (67, false)), .mv (.t 10)⟩,
  ⟨(some 69), (some (67, false)), .bin .gtr .num (.t 68) (.c (.int .u64 2147483647))⟩,
  ⟨(some 70), .none, .pick (.t 67) (.c (.bool true)) (.t 69)⟩]
def f18r14 : List AOp := [
  ⟨(some 71), .none, .build [(.int .i64 0), (.int .i64 0), (.int .i64 0), (.int .i64 0)] []⟩,
  ⟨.none, .none, .store 4 (.t 2) (.t 71)⟩,
  ⟨(some 3), .none, .mv (.c (.int .i64 6))⟩]
def f18r15 : List AOp := [
  ⟨(some 72), .none, .mv (.t 8)⟩,
  ⟨(some 73), .none, .conv (.int .i64) (.t 72)⟩,
  ⟨(some 74), .none, .mv (.t 9)⟩,
  ⟨(some 75), .none, .conv (.int .i64) (.t 74)⟩,
  ⟨(some 76), .none, .mv (.t 10)⟩,
  ⟨(some 77), .none, .conv (.int .i64) (.t 76)⟩,
  ⟨(some 78), .none, .faddr 1 (.t 4)⟩,
  ⟨.none, .none, .store 1 (.t 78) (.t 73)⟩,
  ⟨(some 79), .none, .faddr 2 (.t 4)⟩,
  ⟨.none, .none, .store 1 (.t 79) (.t 75)⟩,
  ⟨(some 80), .none, .faddr 3 (.t 4)⟩,
  ⟨.none, .none, .store 1 (.t 80) (.t 77)⟩]
def f18r16 : DR := ⟨[
  ⟨(some 81), .none, .loadn 4 (.t 4)⟩,
  ⟨(some 82), .none, .call 76 [(.t 81)]⟩,
  ⟨(some 83), .none, .un .not (.t 82)⟩,
  ⟨(some 84), .none, .mv (.t 83)⟩,
  ⟨(some 85), (some (84, false)), .faddr 0 (.t 1)⟩,
  ⟨(some 86), (some (84, false)), .load1 (.t 85)⟩,
  ⟨(some 87), (some (84, false)), .faddr 0 (.t 4)⟩,
  ⟨(some 88), (some (84, false)), .load1 (.t 87)⟩,
  ⟨(some 89), (some (84, false)), .call 79 [(.t 88)]⟩,
  ⟨(some 90), (some (84, false)), .bin .neq .str (.t 86) (.t 89)⟩,
  ⟨(some 91), .none, .pick (.t 84) (.c (.bool true)) (.t 90)⟩],
  [0, 1, 3, 7, 15, 31, 15, 79, 207, 511, 1023], [0, 1, 2, 3, 4, 5, 6, 7, 8, 9, 10], [(5, 2)], .none⟩
def f18r17 : List AOp := [
  ⟨(some 92), .none, .build [(.int .i64 0), (.int .i64 0), (.int .i64 0), (.int .i64 0)] []⟩,
  ⟨.none, .none, .store 4 (.t 2) (.t 92)⟩,
  ⟨(some 3), .none, .mv (.c (.int .i64 6))⟩]
def f18r18 : List AOp := [
  ⟨(some 93), .none, .loadn 4 (.t 4)⟩,
  ⟨.none, .none, .store 4 (.t 2) (.t 93)⟩,
  ⟨(some 3), .none, .mv (.c (.int .i64 0))⟩]
def f18 : AF := ⟨94, [.celln 2 4, .tmp 3], (.seq (.reg f18r0) (.seq (.seq (.reg f18r1) (.cond (.t 18) (.seq (.reg f18r2) .ret) .skip)) (.seq (.reg f18r3) (.seq (.seq (.reg f18r4) (.block 0 (.loop (.seq (.reg f18r5) (.seq (.cond (.t 27) .skip (.exit 0)) (.seq (.block 1 (.seq (.reg f18r6) (.seq (.seq (.reg f18r7) (.cond (.t 35) (.seq (.reg f18r8) .ret) .skip)) (.reg f18r9)))) (.reg f18r10))))))) (.seq (.reg f18r11) (.seq (.reg f18r12) (.seq (.seq (.reg f18r13) (.cond (.t 70) (.seq (.reg f18r14) .ret) .skip)) (.seq (.reg f18r15) (.seq (.seq (.dreg f18r16) (.cond (.t 91) (.seq (.reg f18r17) .ret) .skip)) (.seq (.reg f18r18) .ret))))))))))⟩
/- towpath/towpathlaw14.awake -/
def f21r0 : List AOp := [
  ⟨(some 0), .none, .mv (.c (.bool false))⟩]
def f21r1 : List AOp := [
  ⟨(some 17), .none, .build [(.int .i64 0), (.int .i64 0), (.int .i64 0), (.int .i64 0)] [(0, 1, (.c (.int .i64 7))), (1, 1, (.c (.int .i64 300))), (2, 1, (.c (.int .i64 2))), (3, 1, (.c (.int .i64 5)))]⟩,
  ⟨(some 1), .none, .alloc [(.int .i64 0), (.int .i64 0), (.int .i64 0), (.int .i64 0)]⟩,
  ⟨.none, .none, .store 4 (.t 1) (.t 17)⟩]
def f21r2 : List AOp := [
  ⟨(some 19), .none, .loadn 4 (.t 1)⟩,
  ⟨(some 20), .none, .call 15 [(.t 19), (.c (.int .i64 9))]⟩,
  ⟨(some 18), .none, .mv (.t 20)⟩,
  ⟨(some 21), .none, .ext (.t 18) 0⟩,
  ⟨(some 22), .none, .ext (.t 18) 1⟩,
  ⟨(some 2), .none, .alloc [(.str []), (.str []), (.bool false), (.int .i64 0)]⟩,
  ⟨.none, .none, .store 4 (.t 2) (.t 21)⟩,
  ⟨(some 3), .none, .mv (.t 22)⟩]
def f21r3 : List AOp := [
  ⟨(some 24), .none, .call 9 [(.c (.int .i64 65536))]⟩,
  ⟨(some 23), .none, .mv (.t 24)⟩,
  ⟨(some 25), .none, .ext (.t 23) 0⟩,
  ⟨(some 26), .none, .ext (.t 23) 1⟩,
  ⟨(some 4), .none, .mv (.t 25)⟩,
  ⟨(some 5), .none, .mv (.t 26)⟩]
def f21r4 : List AOp := [
  ⟨(some 28), .none, .mv (.t 4)⟩,
  ⟨(some 29), .none, .call 87 [(.c (.int .i64 0))]⟩,
  ⟨(some 30), .none, .call 86 [(.t 28), (.c (.str [111])), (.t 29)]⟩,
  ⟨(some 27), .none, .mv (.t 30)⟩,
  ⟨(some 31), .none, .ext (.t 27) 0⟩,
  ⟨(some 32), .none, .ext (.t 27) 1⟩,
  ⟨(some 6), .none, .mv (.t 31)⟩,
  ⟨(some 7), .none, .mv (.t 32)⟩]
def f21r5 : List AOp := [
  ⟨(some 33), .none, .mv (.t 3)⟩,
  ⟨(some 34), .none, .bin .neq .num (.t 33) (.c (.int .i64 0))⟩,
  ⟨(some 35), .none, .mv (.t 34)⟩,
  ⟨(some 36), (some (35, false)), .faddr 0 (.t 2)⟩,
  ⟨(some 37), (some (35, false)), .load1 (.t 36)⟩,
  ⟨(some 38), (some (35, false)), .bin .neq .str (.t 37) (.c (.str [111, 48, 48, 55]))⟩,
  ⟨(some 39), .none, .pick (.t 35) (.c (.bool true)) (.t 38)⟩,
  ⟨(some 40), .none, .mv (.t 39)⟩,
  ⟨(some 41), (some (40, false)), .faddr 1 (.t 2)⟩,
  ⟨(some 42), (some (40, false)), .load1 (.t 41)⟩,
  ⟨(some 43), (some (40, false)), .bin .neq .str (.t 42) (.c (.str [172, 2, 2, 5]))⟩,
  ⟨(some 44), .none, .pick (.t 40) (.c (.bool true)) (.t 43)⟩,
  ⟨(some 45), .none, .mv (.t 44)⟩,
  ⟨(some 46), (some (45, false)), .mv (.t 7)⟩,
  ⟨(some 47), (some (45, false)), .bin .neq .num (.t 46) (.c (.int .i64 0))⟩,
  ⟨(some 48), .none, .pick (.t 45) (.c (.bool true)) (.t 47)⟩,
  ⟨(some 49), .none, .mv (.t 48)⟩,
  ⟨(some 50), (some (49, false)), .mv (.t 6)⟩,
  ⟨(some 51), (some (49, false)), .bin .eql .ptr (.t 50) (.c .nilp)⟩,
  ⟨(some 52), .none, .pick (.t 49) (.c (.bool true)) (.t 51)⟩]
def f21r6 : List AOp := [
  ⟨(some 0), .none, .mv (.c (.bool false))⟩]
def f21r7 : List AOp := [
  ⟨(some 54), .none, .mv (.t 6)⟩,
  ⟨(some 55), .none, .loadn 4 (.t 1)⟩,
  ⟨(some 56), .none, .bsl false 4 1 [(.int .i64 0), (.int .i64 0), (.int .i64 0), (.int .i64 0)] [(0, 4, (.t 55))]⟩,
  ⟨(some 57), .none, .call 53 [(.t 54), (.c (.int .i64 3)), (.c (.int .i64 0)), (.c (.int .i64 0)), (.c (.int .i64 9)), (.t 56)]⟩,
  ⟨(some 53), .none, .mv (.t 57)⟩,
  ⟨(some 58), .none, .ext (.t 53) 0⟩,
  ⟨(some 59), .none, .ext (.t 53) 1⟩,
  ⟨(some 8), .none, .mv (.t 58)⟩,
  ⟨(some 9), .none, .mv (.t 59)⟩]
def f21r8 : List AOp := [
  ⟨(some 61), .none, .mv (.t 6)⟩,
  ⟨(some 62), .none, .call 56 [(.t 61), (.c (.int .i64 7))]⟩,
  ⟨(some 60), .none, .mv (.t 62)⟩,
  ⟨(some 63), .none, .ext (.t 60) 0⟩,
  ⟨(some 64), .none, .ext (.t 60) 1⟩,
  ⟨(some 10), .none, .alloc [(.int .i64 0), (.int .i64 0), (.int .i64 0), (.int .i64 0)]⟩,
  ⟨.none, .none, .store 4 (.t 10) (.t 63)⟩,
  ⟨(some 11), .none, .mv (.t 64)⟩]
def f21r9 : List AOp := [
  ⟨(some 65), .none, .mv (.t 6)⟩,
  ⟨(some 66), .none, .call 58 [(.t 65)]⟩,
  ⟨(some 12), .none, .mv (.t 66)⟩]
def f21r10 : List AOp := [
  ⟨(some 68), .none, .mv (.t 6)⟩,
  ⟨(some 69), .none, .call 54 [(.t 68), (.c (.int .i64 3)), (.c (.int .i64 0)), (.c (.bool true)), (.c (.int .i64 9))]⟩,
  ⟨(some 67), .none, .mv (.t 69)⟩,
  ⟨(some 70), .none, .ext (.t 67) 0⟩,
  ⟨(some 71), .none, .ext (.t 67) 1⟩,
  ⟨(some 13), .none, .mv (.t 70)⟩,
  ⟨(some 14), .none, .mv (.t 71)⟩]
def f21r11 : List AOp := [
  ⟨(some 73), .none, .mv (.t 6)⟩,
  ⟨(some 74), .none, .call 56 [(.t 73), (.c (.int .i64 7))]⟩,
  ⟨(some 72), .none, .mv (.t 74)⟩,
  ⟨(some 75), .none, .ext (.t 72) 0⟩,
  ⟨(some 76), .none, .ext (.t 72) 1⟩,
  ⟨(some 15), .none, .alloc [(.int .i64 0), (.int .i64 0), (.int .i64 0), (.int .i64 0)]⟩,
  ⟨.none, .none, .store 4 (.t 15) (.t 75)⟩,
  ⟨(some 16), .none, .mv (.t 76)⟩]
def f21r12 : List AOp := [
  ⟨(some 77), .none, .mv (.t 8)⟩,
  ⟨(some 78), .none, .un .not (.t 77)⟩,
  ⟨(some 79), .none, .mv (.t 78)⟩,
  ⟨(some 80), (some (79, true)), .mv (.t 9)⟩,
  ⟨(some 81), (some (79, true)), .bin .eql .num (.t 80) (.c (.int .i64 0))⟩,
  ⟨(some 82), .none, .pick (.t 79) (.t 81) (.c (.bool false))⟩,
  ⟨(some 83), .none, .mv (.t 82)⟩,
  ⟨(some 84), (some (83, true)), .mv (.t 11)⟩,
  ⟨(some 85), (some (83, true)), .un .not (.t 84)⟩,
  ⟨(some 86), .none, .pick (.t 83) (.t 85) (.c (.bool false))⟩,
  ⟨(some 87), .none, .mv (.t 86)⟩,
  ⟨(some 88), (some (87, true)), .mv (.t 12)⟩,
  ⟨(some 89), (some (87, true)), .len .slice (.t 88)⟩,
  ⟨(some 90), (some (87, true)), .bin .eql .num (.t 89) (.c (.int .i64 1))⟩,
  ⟨(some 91), .none, .pick (.t 87) (.t 90) (.c (.bool false))⟩,
  ⟨(some 92), .none, .mv (.t 91)⟩,
  ⟨(some 93), (some (92, true)), .mv (.t 12)⟩,
  ⟨(some 94), (some (92, true)), .iaddr 6 (.t 93) (.c (.int .i64 0))⟩,
  ⟨(some 95), (some (92, true)), .faddr 2 (.t 94)⟩,
  ⟨(some 96), (some (92, true)), .faddr 1 (.t 95)⟩,
  ⟨(some 97), (some (92, true)), .load1 (.t 96)⟩,
  ⟨(some 98), (some (92, true)), .bin .eql .num (.t 97) (.c (.int .i64 300))⟩,
  ⟨(some 99), .none, .pick (.t 92) (.t 98) (.c (.bool false))⟩,
  ⟨(some 100), .none, .mv (.t 99)⟩,
  ⟨(some 101), (some (100, true)), .mv (.t 14)⟩,
  ⟨(some 102), (some (100, true)), .bin .eql .num (.t 101) (.c (.int .i64 0))⟩,
  ⟨(some 103), .none, .pick (.t 100) (.t 102) (.c (.bool false))⟩,
  ⟨(some 104), .none, .mv (.t 103)⟩,
  ⟨(some 105), (some (104, true)), .mv (.t 16)⟩,
  ⟨(some 106), .none, .pick (.t 104) (.t 105) (.c (.bool false))⟩,
  ⟨(some 107), .none, .mv (.t 106)⟩,
  ⟨(some 108), (some (107, true)), .loadn 4 (.t 15)⟩,
  ⟨(some 109), (some (107, true)), .loadn 4 (.t 1)⟩,
  ⟨(some 110), (some (107, true)), .bin .eql (.agg [.num, .num, .num, .num]) (.t 108) (.t 109)⟩,
  ⟨(some 111), .none, .pick (.t 107) (.t 110) (.c (.bool false))⟩,
  ⟨(some 0), .none, .mv (.t 111)⟩]
def f21 : AF := ⟨112, [.tmp 0], (.seq (.reg f21r0) (.seq (.reg f21r1) (.seq (.reg f21r2) (.seq (.reg f21r3) (.seq (.reg f21r4) (.seq (.seq (.reg f21r5) (.cond (.t 52) (.seq (.reg f21r6) .ret) .skip)) (.seq (.reg f21r7) (.seq (.reg f21r8) (.seq (.reg f21r9) (.seq (.reg f21r10) (.seq (.reg f21r11) (.seq (.reg f21r12) .ret))))))))))))⟩
/- (*towpath/part.Part).Append -/
def f22r0 : List AOp := [
  ⟨(some 3), .none, .box (.t 1)⟩,
  ⟨(some 4), .none, .mv (.c (.int .i64 0))⟩,
  ⟨(some 5), .none, .mv (.c (.bool false))⟩,
  ⟨(some 6), .none, .mv (.c (.int .i64 0))⟩]
def f22r1 : List AOp := [
  ⟨(some 8), .none, .mv (.t 0)⟩,
  ⟨(some 9), .none, .bin .eql .ptr (.t 8) (.c .nilp)⟩,
  ⟨(some 7), .none, .mv (.t 9)⟩]
def f22r2 : List AOp := [
  ⟨(some 4), .none, .mv (.c (.int .i64 0))⟩,
  ⟨(some 5), .none, .mv (.c (.bool false))⟩,
  ⟨(some 6), .none, .mv (.c (.int .i64 1))⟩]
def f22r3 : List AOp := [
  ⟨(some 11), .none, .loadn 7 (.t 3)⟩,
  ⟨(some 12), .none, .call 88 [(.t 11)]⟩,
  ⟨(some 10), .none, .mv (.t 12)⟩]
def f22r4 : List AOp := [
  ⟨(some 4), .none, .mv (.c (.int .i64 0))⟩,
  ⟨(some 5), .none, .mv (.c (.bool false))⟩,
  ⟨(some 6), .none, .mv (.c (.int .i64 2))⟩]
def f22r5 : List AOp := [
  ⟨(some 13), .none, .mv (.t 0)⟩,
  ⟨(some 14), .none, .loadn 7 (.t 3)⟩,
  ⟨(some 15), .none, .call 89 [(.t 13), (.t 14)]⟩,
  ⟨(some 16), .none, .ext (.t 15) 0⟩,
  ⟨(some 17), .none, .ext (.t 15) 1⟩,
  ⟨(some 18), .none, .ext (.t 15) 2⟩,
  ⟨(some 4), .none, .mv (.t 16)⟩,
  ⟨(some 5), .none, .mv (.t 17)⟩,
  ⟨(some 6), .none, .mv (.t 18)⟩]
def f22 : AF := ⟨19, [.tmp 4, .tmp 5, .tmp 6], (.seq (.reg f22r0) (.seq (.block 0 (.seq (.reg f22r1) (.cond (.t 7) (.seq (.reg f22r2) .ret) (.seq (.reg f22r3) (.cond (.t 10) (.seq (.reg f22r4) .ret) .skip))))) (.seq (.reg f22r5) .ret)))⟩
/- (*towpath/part.Part).Mark -/
def f23r0 : List AOp := [
  ⟨(some 10), .none, .mv (.c (.int .i64 0))⟩,
  ⟨(some 11), .none, .mv (.c (.bool false))⟩,
  ⟨(some 12), .none, .mv (.c (.int .i64 0))⟩]
def f23r1 : List AOp := [
  ⟨(some 13), .none, .mv (.t 0)⟩,
  ⟨(some 14), .none, .bin .eql .ptr (.t 13) (.c .nilp)⟩]
def f23r2 : List AOp := [
  ⟨(some 10), .none, .mv (.c (.int .i64 0))⟩,
  ⟨(some 11), .none, .mv (.c (.bool false))⟩,
  ⟨(some 12), .none, .mv (.c (.int .i64 1))⟩]
def f23r3 : List AOp := [
  ⟨(some 15), .none, .mv (.t 0)⟩,
  ⟨(some 16), .none, .mv (.t 1)⟩,
  ⟨(some 17), .none, .mv (.t 2)⟩,
  ⟨(some 18), .none, .mv (.t 3)⟩,
  ⟨(some 19), .none, .mv (.t 4)⟩,
  ⟨(some 20), .none, .call 90 [(.t 16), (.t 17), (.t 18), (.t 19)]⟩,
  ⟨(some 21), .none, .call 89 [(.t 15), (.t 20)]⟩,
  ⟨(some 22), .none, .ext (.t 21) 0⟩,
  ⟨(some 23), .none, .ext (.t 21) 1⟩,
  ⟨(some 24), .none, .ext (.t 21) 2⟩,
  ⟨(some 10), .none, .mv (.t 22)⟩,
  ⟨(some 11), .none, .mv (.t 23)⟩,
  ⟨(some 12), .none, .mv (.t 24)⟩]
def f23 : AF := ⟨25, [.tmp 10, .tmp 11, .tmp 12], (.seq (.reg f23r0) (.seq (.seq (.reg f23r1) (.cond (.t 14) (.seq (.reg f23r2) .ret) .skip)) (.seq (.reg f23r3) .ret)))⟩
/- (*towpath/part.Part).Read -/
def f25r0 : List AOp := [
  ⟨(some 8), .none, .mv (.c .nils)⟩,
  ⟨(some 9), .none, .mv (.c (.int .i64 0))⟩,
  ⟨(some 10), .none, .mv (.c (.int .i64 0))⟩]
def f25r1 : List AOp := [
  ⟨(some 17), .none, .mv (.t 0)⟩,
  ⟨(some 18), .none, .bin .eql .ptr (.t 17) (.c .nilp)⟩]
def f25r2 : List AOp := [
  ⟨(some 8), .none, .mv (.c .nils)⟩,
  ⟨(some 9), .none, .mv (.c (.int .i64 0))⟩,
  ⟨(some 10), .none, .mv (.c (.int .i64 1))⟩]
def f25r3 : List AOp := [
  ⟨(some 20), .none, .mv (.t 0)⟩,
  ⟨(some 21), .none, .nilck (.t 20)⟩,
  ⟨(some 22), .none, .faddr 0 (.t 21)⟩,
  ⟨(some 23), .none, .faddr 0 (.t 22)⟩,
  ⟨(some 24), .none, .load1 (.t 23)⟩,
  ⟨(some 25), .none, .mv (.t 1)⟩,
  ⟨(some 26), .none, .mv (.t 2)⟩,
  ⟨(some 27), .none, .call 92 [(.t 24), (.t 25), (.t 26)]⟩,
  ⟨(some 19), .none, .mv (.t 27)⟩,
  ⟨(some 28), .none, .ext (.t 19) 0⟩,
  ⟨(some 29), .none, .ext (.t 19) 1⟩,
  ⟨(some 11), .none, .mv (.t 28)⟩,
  ⟨(some 12), .none, .mv (.t 29)⟩]
def f25r4 : List AOp := [
  ⟨(some 30), .none, .mv (.t 12)⟩,
  ⟨(some 31), .none, .bin .neq .num (.t 30) (.c (.int .i64 0))⟩]
def f25r5 : List AOp := [
  ⟨(some 32), .none, .mv (.t 12)⟩,
  ⟨(some 8), .none, .mv (.c .nils)⟩,
  ⟨(some 9), .none, .mv (.c (.int .i64 0))⟩,
  ⟨(some 10), .none, .mv (.t 32)⟩]
def f25r6 : List AOp := [
  ⟨(some 13), .none, .mv (.c .nils)⟩]
def f25r7 : List AOp := [
  ⟨(some 33), .none, .mv (.t 1)⟩,
  ⟨(some 14), .none, .mv (.t 33)⟩]
def f25r8 : List AOp := [
  ⟨(some 34), .none, .mv (.t 11)⟩,
  ⟨(some 35), .none, .len .slice (.t 34)⟩,
  ⟨(some 36), .none, .mv (.c (.int .i64 0))⟩]
def f25r9 : List AOp := [
  ⟨(some 37), .none, .bin .lss .num (.t 36) (.t 35)⟩]
def f25r10 : List AOp := [
  ⟨(some 38), .none, .iaddr 7 (.t 34) (.t 36)⟩,
  ⟨(some 39), .none, .loadn 7 (.t 38)⟩,
  ⟨(some 16), .none, .alloc [(.int .i64 0), (.int .i64 0), (.int .i64 0), (.int .i64 0), (.int .i64 0), (.int .i64 0), .nils]⟩,
  ⟨.none, .none, .store 7 (.t 16) (.t 39)⟩]
def f25r11 : DR := ⟨[
  ⟨(some 40), .none, .mv (.t 3)⟩,
  ⟨(some 41), .none, .mv (.t 40)⟩,
  ⟨(some 42), (some (41, true)), .faddr 0 (.t 16)⟩,
  ⟨(some 43), (some (41, true)), .load1 (.t 42)⟩,
  ⟨(some 44), (some (41, true)), .mv (.t 0)⟩,
  ⟨(some 45), (some (41, true)), .call 31 [(.t 44)]⟩,
  ⟨(some 46), (some (41, true)), .bin .geq .num (.t 43) (.t 45)⟩,
  ⟨(some 47), .none, .pick (.t 41) (.t 46) (.c (.bool false))⟩],
  [0, 1, 3, 7, 3, 19, 63, 127], [0, 1, 2, 3, 4, 5, 6, 7], [(3, 1)], .none⟩
def f25r12 : DR := ⟨[
  ⟨(some 48), .none, .mv (.t 3)⟩,
  ⟨(some 49), .none, .un .not (.t 48)⟩,
  ⟨(some 50), .none, .mv (.t 49)⟩,
  ⟨(some 51), (some (50, false)), .mv (.t 0)⟩,
  ⟨(some 52), (some (50, false)), .nilck (.t 51)⟩,
  ⟨(some 53), (some (50, false)), .faddr 5 (.t 52)⟩,
  ⟨(some 54), (some (50, false)), .load1 (.t 53)⟩,
  ⟨(some 55), (some (50, false)), .loadn 7 (.t 16)⟩,
  ⟨(some 56), (some (50, false)), .call 93 [(.t 54), (.t 55)]⟩,
  ⟨(some 57), (some (50, false)), .bin .eql .num (.t 56) (.c (.int .i64 1))⟩,
  ⟨(some 58), .none, .pick (.t 50) (.c (.bool true)) (.t 57)⟩],
  [0, 1, 3, 7, 15, 31, 63, 7, 255, 511, 1023], [0, 1, 2, 3, 4, 5, 6, 7, 8, 9, 10], [], .none⟩
def f25r13 : List AOp := [
  ⟨(some 59), .none, .mv (.t 13)⟩,
  ⟨(some 60), .none, .loadn 7 (.t 16)⟩,
  ⟨(some 61), .none, .bsl false 7 1 [(.int .i64 0), (.int .i64 0), (.int .i64 0), (.int .i64 0), (.int .i64 0), (.int .i64 0), .nils] [(0, 7, (.t 60))]⟩,
  ⟨(some 62), .none, .call 94 [(.t 61)]⟩,
  ⟨(some 63), .none, .app false 5 56 (.t 59) (.t 62)⟩,
  ⟨(some 13), .none, .mv (.t 63)⟩]
def f25r14 : List AOp := [
  ⟨(some 64), .none, .loadn 7 (.t 16)⟩,
  ⟨(some 65), .none, .call 95 [(.t 64)]⟩,
  ⟨(some 14), .none, .mv (.t 65)⟩]
def f25r15 : List AOp := [
  ⟨(some 66), .none, .bin .add .num (.t 36) (.c (.int .i64 1))⟩,
  ⟨(some 36), .none, .mv (.t 66)⟩]
def f25r16 : List AOp := [
  ⟨(some 67), .none, .mv (.t 13)⟩,
  ⟨(some 68), .none, .mv (.t 14)⟩,
  ⟨(some 8), .none, .mv (.t 67)⟩,
  ⟨(some 9), .none, .mv (.t 68)⟩,
  ⟨(some 10), .none, .mv (.c (.int .i64 0))⟩]
def f25 : AF := ⟨69, [.tmp 8, .tmp 9, .tmp 10], (.seq (.reg f25r0) (.seq (.seq (.reg f25r1) (.cond (.t 18) (.seq (.reg f25r2) .ret) .skip)) (.seq (.reg f25r3) (.seq (.seq (.reg f25r4) (.cond (.t 31) (.seq (.reg f25r5) .ret) .skip)) (.seq (.reg f25r6) (.seq (.reg f25r7) (.seq (.seq (.reg f25r8) (.block 0 (.loop (.seq (.reg f25r9) (.seq (.cond (.t 37) .skip (.exit 0)) (.seq (.block 1 (.seq (.reg f25r10) (.seq (.seq (.dreg f25r11) (.cond (.t 47) (.exit 0) .skip)) (.seq (.seq (.dreg f25r12) (.cond (.t 58) (.reg f25r13) .skip)) (.reg f25r14))))) (.reg f25r15))))))) (.seq (.reg f25r16) .ret))))))))⟩
/- (*towpath/part.Part).First -/
def f29r0 : List AOp := [
  ⟨(some 2), .none, .mv (.c (.int .i64 0))⟩]
def f29r1 : List AOp := [
  ⟨(some 3), .none, .mv (.t 0)⟩,
  ⟨(some 4), .none, .bin .eql .ptr (.t 3) (.c .nilp)⟩]
def f29r2 : List AOp := [
  ⟨(some 2), .none, .mv (.c (.int .i64 0))⟩]
def f29r3 : List AOp := [
  ⟨(some 5), .none, .mv (.t 0)⟩,
  ⟨(some 6), .none, .nilck (.t 5)⟩,
  ⟨(some 7), .none, .faddr 0 (.t 6)⟩,
  ⟨(some 8), .none, .faddr 0 (.t 7)⟩,
  ⟨(some 9), .none, .load1 (.t 8)⟩,
  ⟨(some 10), .none, .call 104 [(.t 9)]⟩,
  ⟨(some 2), .none, .mv (.t 10)⟩]
def f29 : AF := ⟨11, [.tmp 2], (.seq (.reg f29r0) (.seq (.seq (.reg f29r1) (.cond (.t 4) (.seq (.reg f29r2) .ret) .skip)) (.seq (.reg f29r3) .ret)))⟩
/- (*towpath/part.Part).Next -/
def f30r0 : List AOp := [
  ⟨(some 2), .none, .mv (.c (.int .i64 0))⟩]
def f30r1 : List AOp := [
  ⟨(some 3), .none, .mv (.t 0)⟩,
  ⟨(some 4), .none, .bin .eql .ptr (.t 3) (.c .nilp)⟩]
def f30r2 : List AOp := [
  ⟨(some 2), .none, .mv (.c (.int .i64 0))⟩]
def f30r3 : List AOp := [
  ⟨(some 5), .none, .mv (.t 0)⟩,
  ⟨(some 6), .none, .nilck (.t 5)⟩,
  ⟨(some 7), .none, .faddr 0 (.t 6)⟩,
  ⟨(some 8), .none, .faddr 0 (.t 7)⟩,
  ⟨(some 9), .none, .load1 (.t 8)⟩,
  ⟨(some 10), .none, .call 105 [(.t 9)]⟩,
  ⟨(some 2), .none, .mv (.t 10)⟩]
def f30 : AF := ⟨11, [.tmp 2], (.seq (.reg f30r0) (.seq (.seq (.reg f30r1) (.cond (.t 4) (.seq (.reg f30r2) .ret) .skip)) (.seq (.reg f30r3) .ret)))⟩
/- (*towpath/part.Part).Stable -/
def f31r0 : List AOp := [
  ⟨(some 2), .none, .mv (.c (.int .i64 0))⟩]
def f31r1 : List AOp := [
  ⟨(some 3), .none, .mv (.t 0)⟩,
  ⟨(some 4), .none, .bin .eql .ptr (.t 3) (.c .nilp)⟩]
def f31r2 : List AOp := [
  ⟨(some 2), .none, .mv (.c (.int .i64 0))⟩]
def f31r3 : List AOp := [
  ⟨(some 5), .none, .mv (.t 0)⟩,
  ⟨(some 6), .none, .nilck (.t 5)⟩,
  ⟨(some 7), .none, .faddr 5 (.t 6)⟩,
  ⟨(some 8), .none, .load1 (.t 7)⟩,
  ⟨(some 9), .none, .call 106 [(.t 8)]⟩,
  ⟨(some 10), .none, .len .slice (.t 9)⟩,
  ⟨(some 11), .none, .bin .eql .num (.t 10) (.c (.int .i64 0))⟩]
def f31r4 : List AOp := [
  ⟨(some 12), .none, .mv (.t 0)⟩,
  ⟨(some 13), .none, .call 30 [(.t 12)]⟩,
  ⟨(some 2), .none, .mv (.t 13)⟩]
def f31r5 : List AOp := [
  ⟨(some 14), .none, .mv (.t 0)⟩,
  ⟨(some 15), .none, .nilck (.t 14)⟩,
  ⟨(some 16), .none, .faddr 5 (.t 15)⟩,
  ⟨(some 17), .none, .load1 (.t 16)⟩,
  ⟨(some 18), .none, .call 107 [(.t 17)]⟩,
  ⟨(some 19), .none, .mv (.t 0)⟩,
  ⟨(some 20), .none, .call 29 [(.t 19)]⟩,
  ⟨(some 21), .none, .mx [(.t 18), (.t 20)]⟩,
  ⟨(some 2), .none, .mv (.t 21)⟩]
def f31 : AF := ⟨22, [.tmp 2], (.seq (.reg f31r0) (.seq (.seq (.reg f31r1) (.cond (.t 4) (.seq (.reg f31r2) .ret) .skip)) (.seq (.seq (.reg f31r3) (.cond (.t 11) (.seq (.reg f31r4) .ret) .skip)) (.seq (.reg f31r5) .ret))))⟩
/- (*towpath/part.Part).Batches -/
def f32r0 : List AOp := [
  ⟨(some 2), .none, .mv (.c .nils)⟩]
def f32r1 : List AOp := [
  ⟨(some 3), .none, .mv (.t 0)⟩,
  ⟨(some 4), .none, .bin .eql .ptr (.t 3) (.c .nilp)⟩]
def f32r2 : List AOp := [
  ⟨(some 2), .none, .mv (.c .nils)⟩]
def f32r3 : List AOp := [
  ⟨(some 5), .none, .mv (.t 0)⟩,
  ⟨(some 6), .none, .nilck (.t 5)⟩,
  ⟨(some 7), .none, .faddr 0 (.t 6)⟩,
  ⟨(some 8), .none, .faddr 0 (.t 7)⟩,
  ⟨(some 9), .none, .load1 (.t 8)⟩,
  ⟨(some 10), .none, .call 67 [(.t 9)]⟩,
  ⟨(some 2), .none, .mv (.t 10)⟩]
def f32 : AF := ⟨11, [.tmp 2], (.seq (.reg f32r0) (.seq (.seq (.reg f32r1) (.cond (.t 4) (.seq (.reg f32r2) .ret) .skip)) (.seq (.reg f32r3) .ret)))⟩
/- (*towpath/offsets.Offsets).Put -/
def f53r0 : List AOp := [
  ⟨(some 12), .none, .mv (.c (.bool false))⟩,
  ⟨(some 13), .none, .mv (.c (.int .i64 0))⟩]
def f53r1 : List AOp := [
  ⟨(some 23), .none, .mv (.t 0)⟩,
  ⟨(some 24), .none, .bin .eql .ptr (.t 23) (.c .nilp)⟩]
def f53r2 : List AOp := [
  ⟨(some 12), .none, .mv (.c (.bool false))⟩,
  ⟨(some 13), .none, .mv (.c (.int .i64 1))⟩]
def f53r3 : List AOp := [
  ⟨(some 25), .none, .mv (.t 5)⟩,
  ⟨(some 26), .none, .len .slice (.t 25)⟩,
  ⟨(some 27), .none, .bin .eql .num (.t 26) (.c (.int .i64 0))⟩]
def f53r4 : List AOp := [
  ⟨(some 12), .none, .mv (.c (.bool false))⟩,
  ⟨(some 13), .none, .mv (.c (.int .i64 3))⟩]
def f53r5 : List AOp := [
  ⟨(some 28), .none, .mv (.t 1)⟩,
  ⟨(some 29), .none, .mv (.t 2)⟩,
  ⟨(some 30), .none, .mv (.t 3)⟩,
  ⟨(some 31), .none, .mv (.t 4)⟩,
  ⟨(some 32), .none, .build [(.int .i64 0), (.int .i64 0), (.int .i64 0), (.int .i64 0), (.int .i64 0), (.int .i64 0), .nils] [(1, 1, (.t 28)), (2, 1, (.t 29)), (3, 1, (.t 30)), (4, 1, (.c (.int .i64 1))), (5, 1, (.t 31))]⟩,
  ⟨(some 14), .none, .alloc [(.int .i64 0), (.int .i64 0), (.int .i64 0), (.int .i64 0), (.int .i64 0), (.int .i64 0), .nils]⟩,
  ⟨.none, .none, .store 7 (.t 14) (.t 32)⟩]
def f53r6 : List AOp := [
  ⟨(some 33), .none, .mv (.t 5)⟩,
  ⟨(some 34), .none, .len .slice (.t 33)⟩,
  ⟨(some 35), .none, .mv (.c (.int .i64 0))⟩]
def f53r7 : List AOp := [
  ⟨(some 36), .none, .bin .lss .num (.t 35) (.t 34)⟩]
def f53r8 : List AOp := [
  ⟨(some 37), .none, .iaddr 4 (.t 33) (.t 35)⟩,
  ⟨(some 38), .none, .loadn 4 (.t 37)⟩,
  ⟨(some 16), .none, .alloc [(.int .i64 0), (.int .i64 0), (.int .i64 0), (.int .i64 0)]⟩,
  ⟨.none, .none, .store 4 (.t 16) (.t 38)⟩]
def f53r9 : List AOp := [
  ⟨(some 40), .none, .loadn 4 (.t 16)⟩,
  ⟨(some 41), .none, .mv (.t 4)⟩,
  ⟨(some 42), .none, .call 15 [(.t 40), (.t 41)]⟩,
  ⟨(some 39), .none, .mv (.t 42)⟩,
  ⟨(some 43), .none, .ext (.t 39) 0⟩,
  ⟨(some 44), .none, .ext (.t 39) 1⟩,
  ⟨(some 17), .none, .alloc [(.str []), (.str []), (.bool false), (.int .i64 0)]⟩,
  ⟨.none, .none, .store 4 (.t 17) (.t 43)⟩,
  ⟨(some 18), .none, .mv (.t 44)⟩]
def f53r10 : List AOp := [
  ⟨(some 45), .none, .mv (.t 18)⟩,
  ⟨(some 46), .none, .bin .neq .num (.t 45) (.c (.int .i64 0))⟩]
def f53r11 : List AOp := [
  ⟨(some 47), .none, .mv (.t 18)⟩,
  ⟨(some 12), .none, .mv (.c (.bool false))⟩,
  ⟨(some 13), .none, .mv (.t 47)⟩]
def f53r12 : List AOp := [
  ⟨(some 48), .none, .faddr 6 (.t 14)⟩,
  ⟨(some 49), .none, .load1 (.t 48)⟩,
  ⟨(some 50), .none, .loadn 4 (.t 17)⟩,
  ⟨(some 51), .none, .bsl false 4 1 [(.str []), (.str []), (.bool false), (.int .i64 0)] [(0, 4, (.t 50))]⟩,
  ⟨(some 52), .none, .app false 4 48 (.t 49) (.t 51)⟩,
  ⟨(some 19), .none, .mv (.t 52)⟩]
def f53r13 : List AOp := [
  ⟨(some 53), .none, .mv (.t 19)⟩,
  ⟨(some 54), .none, .faddr 6 (.t 14)⟩,
  ⟨.none, .none, .store 1 (.t 54) (.t 53)⟩]
def f53r14 : List AOp := [
  ⟨(some 55), .none, .bin .add .num (.t 35) (.c (.int .i64 1))⟩,
  ⟨(some 35), .none, .mv (.t 55)⟩]
def f53r15 : DR := ⟨[
  ⟨(some 57), .none, .mv (.t 0)⟩,
  ⟨(some 58), .none, .nilck (.t 57)⟩,
  ⟨(some 59), .none, .faddr 0 (.t 58)⟩,
  ⟨(some 60), .none, .load1 (.t 59)⟩,
  ⟨(some 61), .none, .loadn 7 (.t 14)⟩,
  ⟨(some 62), .none, .call 22 [(.t 60), (.t 61)]⟩,
  ⟨(some 56), .none, .mv (.t 62)⟩,
  ⟨(some 63), .none, .ext (.t 56) 0⟩,
  ⟨(some 64), .none, .ext (.t 56) 1⟩,
  ⟨(some 65), .none, .ext (.t 56) 2⟩,
  ⟨(some 20), .none, .mv (.t 63)⟩,
  ⟨(some 21), .none, .mv (.t 64)⟩,
  ⟨(some 22), .none, .mv (.t 65)⟩],
  [0, 1, 3, 7, 0, 31, 63, 127, 127, 127, 255, 1535, 4095], [0, 1, 2, 3, 4, 5, 6, 7, 8, 9, 10, 11, 12], [], .none⟩
def f53r16 : List AOp := [
  ⟨(some 66), .none, .mv (.t 21)⟩,
  ⟨(some 67), .none, .mv (.t 22)⟩,
  ⟨(some 12), .none, .mv (.t 66)⟩,
  ⟨(some 13), .none, .mv (.t 67)⟩]
def f53 : AF := ⟨68, [.tmp 12, .tmp 13], (.seq (.reg f53r0) (.seq (.seq (.reg f53r1) (.cond (.t 24) (.seq (.reg f53r2) .ret) .skip)) (.seq (.seq (.reg f53r3) (.cond (.t 27) (.seq (.reg f53r4) .ret) .skip)) (.seq (.reg f53r5) (.seq (.seq (.reg f53r6) (.block 0 (.loop (.seq (.reg f53r7) (.seq (.cond (.t 36) .skip (.exit 0)) (.seq (.block 1 (.seq (.reg f53r8) (.seq (.reg f53r9) (.seq (.seq (.reg f53r10) (.cond (.t 46) (.seq (.reg f53r11) .ret) .skip)) (.seq (.reg f53r12) (.reg f53r13)))))) (.reg f53r14))))))) (.seq (.dreg f53r15) (.seq (.reg f53r16) .ret)))))))⟩
/- (*towpath/offsets.Offsets).Mark -/
def f54r0 : List AOp := [
  ⟨(some 10), .none, .mv (.c (.bool false))⟩,
  ⟨(some 11), .none, .mv (.c (.int .i64 0))⟩]
def f54r1 : List AOp := [
  ⟨(some 15), .none, .mv (.t 0)⟩,
  ⟨(some 16), .none, .bin .eql .ptr (.t 15) (.c .nilp)⟩]
def f54r2 : List AOp := [
  ⟨(some 10), .none, .mv (.c (.bool false))⟩,
  ⟨(some 11), .none, .mv (.c (.int .i64 1))⟩]
def f54r3 : List AOp := [
  ⟨(some 18), .none, .mv (.t 0)⟩,
  ⟨(some 19), .none, .nilck (.t 18)⟩,
  ⟨(some 20), .none, .faddr 0 (.t 19)⟩,
  ⟨(some 21), .none, .load1 (.t 20)⟩,
  ⟨(some 22), .none, .mv (.t 1)⟩,
  ⟨(some 23), .none, .mv (.t 2)⟩,
  ⟨(some 24), .none, .mv (.t 3)⟩,
  ⟨(some 25), .none, .mv (.t 4)⟩,
  ⟨(some 26), .none, .call 23 [(.t 21), (.t 22), (.t 23), (.t 24), (.t 25)]⟩,
  ⟨(some 17), .none, .mv (.t 26)⟩,
  ⟨(some 27), .none, .ext (.t 17) 0⟩,
  ⟨(some 28), .none, .ext (.t 17) 1⟩,
  ⟨(some 29), .none, .ext (.t 17) 2⟩,
  ⟨(some 12), .none, .mv (.t 27)⟩,
  ⟨(some 13), .none, .mv (.t 28)⟩,
  ⟨(some 14), .none, .mv (.t 29)⟩]
def f54r4 : List AOp := [
  ⟨(some 30), .none, .mv (.t 14)⟩,
  ⟨(some 31), .none, .bin .eql .num (.t 30) (.c (.int .i64 0))⟩]
def f54r5 : List AOp := [
  ⟨(some 32), .none, .mv (.t 0)⟩,
  ⟨(some 33), .none, .call 132 [(.t 32)]⟩]
def f54r6 : List AOp := [
  ⟨(some 34), .none, .mv (.t 13)⟩,
  ⟨(some 35), .none, .mv (.t 14)⟩,
  ⟨(some 10), .none, .mv (.t 34)⟩,
  ⟨(some 11), .none, .mv (.t 35)⟩]
def f54 : AF := ⟨36, [.tmp 10, .tmp 11], (.seq (.reg f54r0) (.seq (.seq (.reg f54r1) (.cond (.t 16) (.seq (.reg f54r2) .ret) .skip)) (.seq (.reg f54r3) (.seq (.seq (.reg f54r4) (.cond (.t 31) (.reg f54r5) .skip)) (.seq (.reg f54r6) .ret)))))⟩
/- (*towpath/offsets.Offsets).Clean -/
def f55r0 : List AOp := [
  ⟨(some 4), .none, .mv (.c (.int .i64 0))⟩,
  ⟨(some 5), .none, .mv (.c (.int .i64 0))⟩]
def f55r1 : List AOp := [
  ⟨(some 6), .none, .mv (.t 0)⟩,
  ⟨(some 7), .none, .bin .eql .ptr (.t 6) (.c .nilp)⟩]
def f55r2 : List AOp := [
  ⟨(some 4), .none, .mv (.c (.int .i64 0))⟩,
  ⟨(some 5), .none, .mv (.c (.int .i64 1))⟩]
def f55r3 : List AOp := [
  ⟨(some 8), .none, .mv (.t 0)⟩,
  ⟨(some 9), .none, .nilck (.t 8)⟩,
  ⟨(some 10), .none, .faddr 0 (.t 9)⟩,
  ⟨(some 11), .none, .load1 (.t 10)⟩,
  ⟨(some 12), .none, .mv (.t 1)⟩,
  ⟨(some 13), .none, .call 27 [(.t 11), (.t 12)]⟩,
  ⟨(some 14), .none, .ext (.t 13) 0⟩,
  ⟨(some 15), .none, .ext (.t 13) 1⟩,
  ⟨(some 4), .none, .mv (.t 14)⟩,
  ⟨(some 5), .none, .mv (.t 15)⟩]
def f55 : AF := ⟨16, [.tmp 4, .tmp 5], (.seq (.reg f55r0) (.seq (.seq (.reg f55r1) (.cond (.t 7) (.seq (.reg f55r2) .ret) .skip)) (.seq (.reg f55r3) .ret)))⟩
/- (*towpath/offsets.Offsets).Of -/
def f56r0 : List AOp := [
  ⟨(some 4), .none, .alloc [(.int .i64 0), (.int .i64 0), (.int .i64 0), (.int .i64 0)]⟩,
  ⟨(some 5), .none, .mv (.c (.bool false))⟩]
def f56r1 : List AOp := [
  ⟨(some 10), .none, .mv (.t 0)⟩,
  ⟨(some 11), .none, .bin .eql .ptr (.t 10) (.c .nilp)⟩,
  ⟨(some 12), .none, .mv (.t 11)⟩,
  ⟨(some 13), (some (12, false)), .mv (.t 1)⟩,
  ⟨(some 14), (some (12, false)), .bin .lss .num (.t 13) (.c (.int .i64 0))⟩,
  ⟨(some 15), .none, .pick (.t 12) (.c (.bool true)) (.t 14)⟩,
  ⟨(some 16), .none, .mv (.t 15)⟩,
  ⟨(some 17), (some (16, false)), .mv (.t 1)⟩,
  ⟨(some 18), (some (16, false)), .bin .gtr .num (.t 17) (.c (.int .i64 255))⟩,
  ⟨(some 19), .none, .pick (.t 16) (.c (.bool true)) (.t 18)⟩]
def f56r2 : List AOp := [
  ⟨(some 20), .none, .build [(.int .i64 0), (.int .i64 0), (.int .i64 0), (.int .i64 0)] []⟩,
  ⟨.none, .none, .store 4 (.t 4) (.t 20)⟩,
  ⟨(some 5), .none, .mv (.c (.bool false))⟩]
def f56r3 : DR := ⟨[
  ⟨(some 22), .none, .mv (.t 0)⟩,
  ⟨(some 23), .none, .nilck (.t 22)⟩,
  ⟨(some 24), .none, .faddr 2 (.t 23)⟩,
  ⟨(some 25), .none, .load1 (.t 24)⟩,
  ⟨(some 26), .none, .mv (.t 1)⟩,
  ⟨(some 27), .none, .call 79 [(.t 26)]⟩,
  ⟨(some 28), .none, .call 108 [(.t 25), (.t 27)]⟩,
  ⟨(some 21), .none, .mv (.t 28)⟩,
  ⟨(some 29), .none, .ext (.t 21) 0⟩,
  ⟨(some 30), .none, .ext (.t 21) 1⟩,
  ⟨(some 6), .none, .alloc [(.int .i64 0), (.str []), (.str []), (.bool false), (.int .i64 0)]⟩,
  ⟨.none, .none, .store 5 (.t 6) (.t 29)⟩,
  ⟨(some 7), .none, .mv (.t 30)⟩],
  [0, 1, 3, 7, 0, 16, 63, 127, 255, 255, 0, 1535, 4095], [0, 1, 2, 3, 4, 5, 6, 7, 8, 9, 10, 11, 12], [(3, 1), (3, 2)], (some 10)⟩
def f56r4 : List AOp := [
  ⟨(some 31), .none, .mv (.t 7)⟩,
  ⟨(some 32), .none, .un .not (.t 31)⟩]
def f56r5 : List AOp := [
  ⟨(some 33), .none, .build [(.int .i64 0), (.int .i64 0), (.int .i64 0), (.int .i64 0)] []⟩,
  ⟨.none, .none, .store 4 (.t 4) (.t 33)⟩,
  ⟨(some 5), .none, .mv (.c (.bool false))⟩]
def f56r6 : List AOp := [
  ⟨(some 35), .none, .faddr 1 (.t 6)⟩,
  ⟨(some 36), .none, .loadn 4 (.t 35)⟩,
  ⟨(some 37), .none, .call 18 [(.t 36)]⟩,
  ⟨(some 34), .none, .mv (.t 37)⟩,
  ⟨(some 38), .none, .ext (.t 34) 0⟩,
  ⟨(some 39), .none, .ext (.t 34) 1⟩,
  ⟨(some 8), .none, .alloc [(.int .i64 0), (.int .i64 0), (.int .i64 0), (.int .i64 0)]⟩,
  ⟨.none, .none, .store 4 (.t 8) (.t 38)⟩,
  ⟨(some 9), .none, .mv (.t 39)⟩]
def f56r7 : List AOp := [
  ⟨(some 40), .none, .loadn 4 (.t 8)⟩,
  ⟨.none, .none, .store 4 (.t 4) (.t 40)⟩,
  ⟨(some 5), .none, .mv (.c (.bool true))⟩]
def f56 : AF := ⟨41, [.celln 4 4, .tmp 5], (.seq (.reg f56r0) (.seq (.seq (.reg f56r1) (.cond (.t 19) (.seq (.reg f56r2) .ret) .skip)) (.seq (.dreg f56r3) (.seq (.seq (.reg f56r4) (.cond (.t 32) (.seq (.reg f56r5) .ret) .skip)) (.seq (.reg f56r6) (.seq (.reg f56r7) .ret))))))⟩
/- (*towpath/offsets.Offsets).All -/
def f57r0 : List AOp := [
  ⟨(some 2), .none, .mv (.c .nils)⟩]
def f57r1 : List AOp := [
  ⟨(some 8), .none, .mv (.t 0)⟩,
  ⟨(some 9), .none, .bin .eql .ptr (.t 8) (.c .nilp)⟩]
def f57r2 : List AOp := [
  ⟨(some 2), .none, .mv (.c .nils)⟩]
def f57r3 : List AOp := [
  ⟨(some 3), .none, .mv (.c .nils)⟩]
def f57r4 : List AOp := [
  ⟨(some 10), .none, .mv (.t 0)⟩,
  ⟨(some 11), .none, .nilck (.t 10)⟩,
  ⟨(some 12), .none, .faddr 2 (.t 11)⟩,
  ⟨(some 13), .none, .load1 (.t 12)⟩,
  ⟨(some 14), .none, .call 133 [(.t 13)]⟩,
  ⟨(some 15), .none, .len .slice (.t 14)⟩,
  ⟨(some 16), .none, .mv (.c (.int .i64 0))⟩]
def f57r5 : List AOp := [
  ⟨(some 17), .none, .bin .lss .num (.t 16) (.t 15)⟩]
def f57r6 : List AOp := [
  ⟨(some 18), .none, .iaddr 5 (.t 14) (.t 16)⟩,
  ⟨(some 19), .none, .loadn 5 (.t 18)⟩,
  ⟨(some 5), .none, .alloc [(.int .i64 0), (.str []), (.str []), (.bool false), (.int .i64 0)]⟩,
  ⟨.none, .none, .store 5 (.t 5) (.t 19)⟩]
def f57r7 : List AOp := [
  ⟨(some 21), .none, .faddr 1 (.t 5)⟩,
  ⟨(some 22), .none, .loadn 4 (.t 21)⟩,
  ⟨(some 23), .none, .call 18 [(.t 22)]⟩,
  ⟨(some 20), .none, .mv (.t 23)⟩,
  ⟨(some 24), .none, .ext (.t 20) 0⟩,
  ⟨(some 25), .none, .ext (.t 20) 1⟩,
  ⟨(some 6), .none, .alloc [(.int .i64 0), (.int .i64 0), (.int .i64 0), (.int .i64 0)]⟩,
  ⟨.none, .none, .store 4 (.t 6) (.t 24)⟩,
  ⟨(some 7), .none, .mv (.t 25)⟩]
def f57r8 : List AOp := [
  ⟨(some 26), .none, .mv (.t 3)⟩,
  ⟨(some 27), .none, .loadn 4 (.t 6)⟩,
  ⟨(some 28), .none, .bsl false 4 1 [(.int .i64 0), (.int .i64 0), (.int .i64 0), (.int .i64 0)] [(0, 4, (.t 27))]⟩,
  ⟨(some 29), .none, .app false 4 32 (.t 26) (.t 28)⟩,
  ⟨(some 3), .none, .mv (.t 29)⟩]
def f57r9 : List AOp := [
  ⟨(some 30), .none, .bin .add .num (.t 16) (.c (.int .i64 1))⟩,
  ⟨(some 16), .none, .mv (.t 30)⟩]
def f57r10 : List AOp := [
  ⟨(some 31), .none, .mv (.t 3)⟩,
  ⟨(some 2), .none, .mv (.t 31)⟩]
def f57 : AF := ⟨32, [.tmp 2], (.seq (.reg f57r0) (.seq (.seq (.reg f57r1) (.cond (.t 9) (.seq (.reg f57r2) .ret) .skip)) (.seq (.reg f57r3) (.seq (.seq (.reg f57r4) (.block 0 (.loop (.seq (.reg f57r5) (.seq (.cond (.t 17) .skip (.exit 0)) (.seq (.block 1 (.seq (.reg f57r6) (.seq (.reg f57r7) (.reg f57r8)))) (.reg f57r9))))))) (.seq (.reg f57r10) .ret)))))⟩
/- (*towpath/offsets.Offsets).Waiting -/
def f58r0 : List AOp := [
  ⟨(some 2), .none, .mv (.c .nils)⟩]
def f58r1 : List AOp := [
  ⟨(some 11), .none, .mv (.t 0)⟩,
  ⟨(some 12), .none, .bin .eql .ptr (.t 11) (.c .nilp)⟩]
def f58r2 : List AOp := [
  ⟨(some 2), .none, .mv (.c .nils)⟩]
def f58r3 : List AOp := [
  ⟨(some 13), .none, .mv (.t 0)⟩,
  ⟨(some 14), .none, .nilck (.t 13)⟩,
  ⟨(some 15), .none, .faddr 0 (.t 14)⟩,
  ⟨(some 16), .none, .load1 (.t 15)⟩,
  ⟨(some 17), .none, .call 32 [(.t 16)]⟩,
  ⟨(some 3), .none, .mv (.t 17)⟩]
def f58r4 : List AOp := [
  ⟨(some 4), .none, .mv (.c .nils)⟩]
def f58r5 : List AOp := [
  ⟨(some 18), .none, .mv (.t 3)⟩,
  ⟨(some 19), .none, .len .slice (.t 18)⟩,
  ⟨(some 20), .none, .mv (.c (.int .i64 0))⟩]
def f58r6 : List AOp := [
  ⟨(some 21), .none, .bin .lss .num (.t 20) (.t 19)⟩]
def f58r7 : List AOp := [
  ⟨(some 22), .none, .mv (.t 20)⟩,
  ⟨(some 23), .none, .iaddr 7 (.t 18) (.t 20)⟩,
  ⟨(some 24), .none, .loadn 7 (.t 23)⟩,
  ⟨(some 6), .none, .alloc [(.int .i64 0), (.int .i64 0), (.int .i64 0), (.int .i64 0), (.int .i64 0), (.int .i64 0), .nils]⟩,
  ⟨(some 5), .none, .mv (.t 22)⟩,
  ⟨.none, .none, .store 7 (.t 6) (.t 24)⟩]
def f58r8 : DR := ⟨[
  ⟨(some 25), .none, .faddr 4 (.t 6)⟩,
  ⟨(some 26), .none, .load1 (.t 25)⟩,
  ⟨(some 27), .none, .bin .neq .num (.t 26) (.c (.int .i64 1))⟩,
  ⟨(some 28), .none, .mv (.t 27)⟩,
  ⟨(some 29), (some (28, false)), .loadn 7 (.t 6)⟩,
  ⟨(some 30), (some (28, false)), .mv (.t 3)⟩,
  ⟨(some 31), (some (28, false)), .mv (.t 5)⟩,
  ⟨(some 32), (some (28, false)), .bin .add .num (.t 31) (.c (.int .i64 1))⟩,
  ⟨(some 33), (some (28, false)), .slc 7 (.t 30) (some (.t 32)) .none .none⟩,
  ⟨(some 34), (some (28, false)), .call 134 [(.t 29), (.t 33)]⟩,
  ⟨(some 35), .none, .pick (.t 28) (.c (.bool true)) (.t 34)⟩],
  [0, 1, 3, 7, 15, 15, 15, 79, 239, 511, 1023], [0, 1, 2, 3, 4, 5, 6, 7, 8, 9, 10], [], .none⟩
def f58r9 : List AOp := [
  ⟨(some 36), .none, .faddr 6 (.t 6)⟩,
  ⟨(some 37), .none, .load1 (.t 36)⟩,
  ⟨(some 38), .none, .len .slice (.t 37)⟩,
  ⟨(some 39), .none, .mv (.c (.int .i64 0))⟩]
def f58r10 : List AOp := [
  ⟨(some 40), .none, .bin .lss .num (.t 39) (.t 38)⟩]
def f58r11 : List AOp := [
  ⟨(some 41), .none, .iaddr 4 (.t 37) (.t 39)⟩,
  ⟨(some 42), .none, .loadn 4 (.t 41)⟩,
  ⟨(some 8), .none, .alloc [(.str []), (.str []), (.bool false), (.int .i64 0)]⟩,
  ⟨.none, .none, .store 4 (.t 8) (.t 42)⟩]
def f58r12 : List AOp := [
  ⟨(some 44), .none, .loadn 4 (.t 8)⟩,
  ⟨(some 45), .none, .call 18 [(.t 44)]⟩,
  ⟨(some 43), .none, .mv (.t 45)⟩,
  ⟨(some 46), .none, .ext (.t 43) 0⟩,
  ⟨(some 47), .none, .ext (.t 43) 1⟩,
  ⟨(some 9), .none, .alloc [(.int .i64 0), (.int .i64 0), (.int .i64 0), (.int .i64 0)]⟩,
  ⟨.none, .none, .store 4 (.t 9) (.t 46)⟩,
  ⟨(some 10), .none, .mv (.t 47)⟩]
def f58r13 : List AOp := [
  ⟨(some 48), .none, .mv (.t 10)⟩,
  ⟨(some 49), .none, .bin .eql .num (.t 48) (.c (.int .i64 0))⟩]
def f58r14 : List AOp := [
  ⟨(some 50), .none, .mv (.t 4)⟩,
  ⟨(some 51), .none, .faddr 1 (.t 6)⟩,
  ⟨(some 52), .none, .load1 (.t 51)⟩,
  ⟨(some 53), .none, .faddr 2 (.t 6)⟩,
  ⟨(some 54), .none, .load1 (.t 53)⟩,
  ⟨(some 55), .none, .loadn 4 (.t 9)⟩,
  ⟨(some 56), .none, .build [(.int .i64 0), (.int .i64 0), (.int .i64 0), (.int .i64 0), (.int .i64 0), (.int .i64 0)] [(0, 1, (.t 52)), (1, 1, (.t 54)), (2, 4, (.t 55))]⟩,
  ⟨(some 57), .none, .bsl false 6 1 [(.int .i64 0), (.int .i64 0), (.int .i64 0), (.int .i64 0), (.int .i64 0), (.int .i64 0)] [(0, 6, (.t 56))]⟩,
  ⟨(some 58), .none, .app false 6 48 (.t 50) (.t 57)⟩,
  ⟨(some 4), .none, .mv (.t 58)⟩]
def f58r15 : List AOp := [
  ⟨(some 59), .none, .bin .add .num (.t 39) (.c (.int .i64 1))⟩,
  ⟨(some 39), .none, .mv (.t 59)⟩]
def f58r16 : List AOp := [
  ⟨(some 60), .none, .bin .add .num (.t 20) (.c (.int .i64 1))⟩,
  ⟨(some 20), .none, .mv (.t 60)⟩]
def f58r17 : List AOp := [
  ⟨(some 61), .none, .mv (.t 4)⟩,
  ⟨(some 2), .none, .mv (.t 61)⟩]
def f58 : AF := ⟨62, [.tmp 2], (.seq (.reg f58r0) (.seq (.seq (.reg f58r1) (.cond (.t 12) (.seq (.reg f58r2) .ret) .skip)) (.seq (.reg f58r3) (.seq (.reg f58r4) (.seq (.seq (.reg f58r5) (.block 0 (.loop (.seq (.reg f58r6) (.seq (.cond (.t 21) .skip (.exit 0)) (.seq (.block 1 (.seq (.reg f58r7) (.seq (.seq (.dreg f58r8) (.cond (.t 35) (.exit 1) .skip)) (.seq (.reg f58r9) (.block 2 (.loop (.seq (.reg f58r10) (.seq (.cond (.t 40) .skip (.exit 2)) (.seq (.block 3 (.seq (.reg f58r11) (.seq (.reg f58r12) (.seq (.reg f58r13) (.cond (.t 49) (.reg f58r14) .skip))))) (.reg f58r15)))))))))) (.reg f58r16))))))) (.seq (.reg f58r17) .ret))))))⟩
/- (*towpath/offsets.Offsets).Batches -/
def f59r0 : List AOp := [
  ⟨(some 2), .none, .mv (.c .nils)⟩]
def f59r1 : List AOp := [
  ⟨(some 3), .none, .mv (.t 0)⟩,
  ⟨(some 4), .none, .bin .eql .ptr (.t 3) (.c .nilp)⟩]
def f59r2 : List AOp := [
  ⟨(some 2), .none, .mv (.c .nils)⟩]
def f59r3 : List AOp := [
  ⟨(some 5), .none, .mv (.t 0)⟩,
  ⟨(some 6), .none, .nilck (.t 5)⟩,
  ⟨(some 7), .none, .faddr 0 (.t 6)⟩,
  ⟨(some 8), .none, .load1 (.t 7)⟩,
  ⟨(some 9), .none, .call 32 [(.t 8)]⟩,
  ⟨(some 2), .none, .mv (.t 9)⟩]
def f59 : AF := ⟨10, [.tmp 2], (.seq (.reg f59r0) (.seq (.seq (.reg f59r1) (.cond (.t 4) (.seq (.reg f59r2) .ret) .skip)) (.seq (.reg f59r3) .ret)))⟩
/- (*towpath/offsets.Offsets).Committed -/
def f60r0 : List AOp := [
  ⟨(some 2), .none, .mv (.c .nils)⟩]
def f60r1 : List AOp := [
  ⟨(some 6), .none, .mv (.t 0)⟩,
  ⟨(some 7), .none, .bin .eql .ptr (.t 6) (.c .nilp)⟩]
def f60r2 : List AOp := [
  ⟨(some 2), .none, .mv (.c .nils)⟩]
def f60r3 : DR := ⟨[
  ⟨(some 9), .none, .mv (.t 0)⟩,
  ⟨(some 10), .none, .nilck (.t 9)⟩,
  ⟨(some 11), .none, .faddr 0 (.t 10)⟩,
  ⟨(some 12), .none, .load1 (.t 11)⟩,
  ⟨(some 13), .none, .mv (.t 0)⟩,
  ⟨(some 14), .none, .nilck (.t 13)⟩,
  ⟨(some 15), .none, .faddr 0 (.t 14)⟩,
  ⟨(some 16), .none, .load1 (.t 15)⟩,
  ⟨(some 17), .none, .call 29 [(.t 16)]⟩,
  ⟨(some 18), .none, .call 25 [(.t 12), (.t 17), (.c (.int .i64 1099511627776)), (.c (.bool true))]⟩,
  ⟨(some 8), .none, .mv (.t 18)⟩,
  ⟨(some 19), .none, .ext (.t 8) 0⟩,
  ⟨(some 20), .none, .ext (.t 8) 1⟩,
  ⟨(some 21), .none, .ext (.t 8) 2⟩,
  ⟨(some 3), .none, .mv (.t 19)⟩,
  ⟨(some 4), .none, .mv (.t 20)⟩,
  ⟨(some 5), .none, .mv (.t 21)⟩],
  [0, 1, 3, 7, 0, 16, 48, 112, 240, 511, 1023, 2047, 2047, 2047, 4095, 24575, 65535], [0, 1, 2, 3, 4, 5, 6, 7, 8, 9, 10, 11, 12, 13, 14, 15, 16], [(3, 1)], .none⟩
def f60r4 : List AOp := [
  ⟨(some 22), .none, .mv (.t 3)⟩,
  ⟨(some 2), .none, .mv (.t 22)⟩]
def f60 : AF := ⟨23, [.tmp 2], (.seq (.reg f60r0) (.seq (.seq (.reg f60r1) (.cond (.t 7) (.seq (.reg f60r2) .ret) .skip)) (.seq (.dreg f60r3) (.seq (.reg f60r4) .ret))))⟩
/- towpath/seglog.Open -/
def f61r0 : List AOp := [
  ⟨(some 5), .none, .box (.t 2)⟩,
  ⟨(some 6), .none, .mv (.c .nilp)⟩,
  ⟨(some 7), .none, .mv (.c (.int .i64 0))⟩]
def f61r1 : List AOp := [
  ⟨(some 15), .none, .mv (.t 0)⟩,
  ⟨(some 16), .none, .bin .eql .ptr (.t 15) (.c .nilp)⟩,
  ⟨(some 14), .none, .mv (.t 16)⟩]
def f61r2 : List AOp := [
  ⟨(some 6), .none, .mv (.c .nilp)⟩,
  ⟨(some 7), .none, .mv (.c (.int .i64 1))⟩]
def f61r3 : List AOp := [
  ⟨(some 18), .none, .mv (.t 1)⟩,
  ⟨(some 19), .none, .call 135 [(.t 18)]⟩,
  ⟨(some 20), .none, .un .not (.t 19)⟩,
  ⟨(some 21), .none, .mv (.t 20)⟩,
  ⟨(some 22), (some (21, false)), .loadn 2 (.t 5)⟩,
  ⟨(some 23), (some (21, false)), .call 136 [(.t 22)]⟩,
  ⟨(some 24), (some (21, false)), .un .not (.t 23)⟩,
  ⟨(some 25), .none, .pick (.t 21) (.c (.bool true)) (.t 24)⟩,
  ⟨(some 17), .none, .mv (.t 25)⟩]
def f61r4 : List AOp := [
  ⟨(some 6), .none, .mv (.c .nilp)⟩,
  ⟨(some 7), .none, .mv (.c (.int .i64 2))⟩]
def f61r5 : List AOp := [
  ⟨(some 27), .none, .mv (.t 0)⟩,
  ⟨(some 28), .none, .call 137 [(.t 27)]⟩,
  ⟨(some 26), .none, .mv (.t 28)⟩]
def f61r6 : List AOp := [
  ⟨(some 6), .none, .mv (.c .nilp)⟩,
  ⟨(some 7), .none, .mv (.c (.int .i64 9))⟩]
def f61r7 : List AOp := [
  ⟨(some 29), .none, .mv (.t 0)⟩,
  ⟨(some 30), .none, .mv (.t 1)⟩,
  ⟨(some 31), .none, .loadn 2 (.t 5)⟩,
  ⟨(some 32), .none, .build [.nilp, (.str []), (.int .i64 0), (.int .i64 0), .nils] [(0, 1, (.t 29)), (1, 1, (.t 30)), (2, 2, (.t 31))]⟩,
  ⟨(some 33), .none, .box (.t 32)⟩,
  ⟨(some 8), .none, .mv (.t 33)⟩]
def f61r8 : List AOp := [
  ⟨(some 35), .none, .mv (.t 8)⟩,
  ⟨(some 36), .none, .call 138 [(.t 35)]⟩,
  ⟨(some 34), .none, .mv (.t 36)⟩,
  ⟨(some 37), .none, .ext (.t 34) 0⟩,
  ⟨(some 38), .none, .ext (.t 34) 1⟩,
  ⟨(some 9), .none, .mv (.t 37)⟩,
  ⟨(some 10), .none, .mv (.t 38)⟩]
def f61r9 : List AOp := [
  ⟨(some 39), .none, .mv (.t 10)⟩,
  ⟨(some 40), .none, .bin .neq .num (.t 39) (.c (.int .i64 0))⟩]
def f61r10 : List AOp := [
  ⟨(some 41), .none, .mv (.t 10)⟩,
  ⟨(some 6), .none, .mv (.c .nilp)⟩,
  ⟨(some 7), .none, .mv (.t 41)⟩]
def f61r11 : List AOp := [
  ⟨(some 11), .none, .mv (.c (.bool true))⟩]
def f61r12 : List AOp := [
  ⟨(some 42), .none, .mv (.t 9)⟩,
  ⟨(some 43), .none, .len .slice (.t 42)⟩,
  ⟨(some 44), .none, .mv (.c (.int .i64 0))⟩]
def f61r13 : List AOp := [
  ⟨(some 45), .none, .bin .lss .num (.t 44) (.t 43)⟩]
def f61r14 : List AOp := [
  ⟨(some 46), .none, .mv (.t 44)⟩,
  ⟨(some 47), .none, .iaddr 1 (.t 42) (.t 44)⟩,
  ⟨(some 48), .none, .load1 (.t 47)⟩,
  ⟨(some 12), .none, .mv (.t 46)⟩,
  ⟨(some 13), .none, .mv (.t 48)⟩]
def f61r15 : List AOp := [
  ⟨(some 49), .none, .mv (.t 13)⟩,
  ⟨(some 50), .none, .mv (.t 8)⟩,
  ⟨(some 51), .none, .call 105 [(.t 50)]⟩,
  ⟨(some 52), .none, .bin .lss .num (.t 49) (.t 51)⟩]
def f61r16 : List AOp := [
  ⟨(some 53), .none, .mv (.t 0)⟩,
  ⟨(some 54), .none, .mv (.t 8)⟩,
  ⟨(some 55), .none, .mv (.t 13)⟩,
  ⟨(some 56), .none, .call 139 [(.t 54), (.t 55), (.c (.str [46, 108, 111, 103]))]⟩,
  ⟨(some 57), .none, .call 65 [(.t 53), (.t 56)]⟩,
  ⟨(some 10), .none, .mv (.t 57)⟩]
def f61r17 : List AOp := [
  ⟨(some 58), .none, .mv (.t 10)⟩,
  ⟨(some 59), .none, .bin .neq .num (.t 58) (.c (.int .i64 0))⟩]
def f61r18 : List AOp := [
  ⟨(some 61), .none, .mv (.t 8)⟩,
  ⟨(some 62), .none, .mv (.t 13)⟩,
  ⟨(some 63), .none, .call 140 [(.t 61), (.t 62)]⟩,
  ⟨(some 60), .none, .mv (.t 63)⟩,
  ⟨(some 64), .none, .ext (.t 60) 0⟩,
  ⟨(some 65), .none, .ext (.t 60) 1⟩,
  ⟨(some 11), .none, .mv (.t 64)⟩,
  ⟨(some 10), .none, .mv (.t 65)⟩]
def f61r19 : List AOp := [
  ⟨(some 66), .none, .mv (.t 10)⟩,
  ⟨(some 67), .none, .bin .eql .num (.t 66) (.c (.int .i64 0))⟩,
  ⟨(some 68), .none, .mv (.t 67)⟩,
  ⟨(some 69), (some (68, true)), .mv (.t 11)⟩,
  ⟨(some 70), (some (68, true)), .un .not (.t 69)⟩,
  ⟨(some 71), .none, .pick (.t 68) (.t 70) (.c (.bool false))⟩]
def f61r20 : List AOp := [
  ⟨(some 72), .none, .mv (.t 8)⟩,
  ⟨(some 73), .none, .mv (.t 9)⟩,
  ⟨(some 74), .none, .mv (.t 12)⟩,
  ⟨(some 75), .none, .bin .add .num (.t 74) (.c (.int .i64 1))⟩,
  ⟨(some 76), .none, .slc 1 (.t 73) (some (.t 75)) .none .none⟩,
  ⟨(some 77), .none, .call 141 [(.t 72), (.t 76)]⟩,
  ⟨(some 10), .none, .mv (.t 77)⟩]
def f61r21 : List AOp := [
  ⟨(some 78), .none, .mv (.t 10)⟩,
  ⟨(some 79), .none, .bin .neq .num (.t 78) (.c (.int .i64 0))⟩]
def f61r22 : List AOp := [
  ⟨(some 80), .none, .bin .add .num (.t 44) (.c (.int .i64 1))⟩,
  ⟨(some 44), .none, .mv (.t 80)⟩]
def f61r23 : List AOp := [
  ⟨(some 81), .none, .mv (.t 10)⟩,
  ⟨(some 82), .none, .bin .neq .num (.t 81) (.c (.int .i64 0))⟩]
def f61r24 : List AOp := [
  ⟨(some 83), .none, .mv (.t 10)⟩,
  ⟨(some 6), .none, .mv (.c .nilp)⟩,
  ⟨(some 7), .none, .mv (.t 83)⟩]
def f61r25 : List AOp := [
  ⟨(some 84), .none, .mv (.t 8)⟩,
  ⟨(some 6), .none, .mv (.t 84)⟩,
  ⟨(some 7), .none, .mv (.c (.int .i64 0))⟩]
def f61 : AF := ⟨85, [.tmp 6, .tmp 7], (.seq (.reg f61r0) (.scope (.seq (.block 0 (.seq (.reg f61r1) (.cond (.t 14) (.seq (.reg f61r2) .ret) (.seq (.reg f61r3) (.cond (.t 17) (.seq (.reg f61r4) .ret) (.seq (.reg f61r5) (.cond (.t 26) (.seq (.reg f61r6) .ret) .skip))))))) (.seq (.reg f61r7) (.seq (.reg f61r8) (.seq (.seq (.reg f61r9) (.cond (.t 40) (.seq (.reg f61r10) .ret) .skip)) (.seq (.reg f61r11) (.seq .skip (.seq (.seq (.reg f61r12) (.block 1 (.loop (.seq (.reg f61r13) (.seq (.cond (.t 45) .skip (.exit 1)) (.seq (.block 2 (.seq (.reg f61r14) (.seq (.seq (.reg f61r15) (.cond (.t 52) (.seq (.seq (.reg f61r16) (.seq (.reg f61r17) (.cond (.t 59) (.exit 1) .skip))) (.exit 2)) .skip)) (.seq (.reg f61r18) (.seq (.seq (.reg f61r19) (.cond (.t 71) (.seq (.reg f61r20) (.exit 1)) .skip)) (.seq (.reg f61r21) (.cond (.t 79) (.exit 1) .skip))))))) (.reg f61r22))))))) (.seq (.seq (.reg f61r23) (.cond (.t 82) (.seq (.reg f61r24) .ret) .skip)) (.seq (.reg f61r25) .ret)))))))))))⟩
/- (*towpath/disk.Disk).Size -/
def f62r0 : List AOp := [
  ⟨(some 4), .none, .mv (.c (.int .i64 0))⟩]
def f62r1 : List AOp := [
  ⟨(some 5), .none, .mv (.t 0)⟩,
  ⟨(some 6), .none, .mv (.t 1)⟩,
  ⟨(some 7), .none, .call 142 [(.t 5), (.t 6)]⟩,
  ⟨(some 8), .none, .field 0 .none (.t 7)⟩,
  ⟨(some 9), .none, .len .slice (.t 8)⟩,
  ⟨(some 4), .none, .mv (.t 9)⟩]
def f62 : AF := ⟨10, [.tmp 4], (.seq (.reg f62r0) (.seq (.reg f62r1) .ret))⟩
/- (*towpath/part.Part).temp -/
def f63r0 : List AOp := [
  ⟨(some 2), .none, .mv (.c (.str []))⟩]
def f63r1 : List AOp := [
  ⟨(some 3), .none, .mv (.t 0)⟩,
  ⟨(some 4), .none, .nilck (.t 3)⟩,
  ⟨(some 5), .none, .faddr 0 (.t 4)⟩,
  ⟨(some 6), .none, .faddr 2 (.t 5)⟩,
  ⟨(some 7), .none, .load1 (.t 6)⟩,
  ⟨(some 8), .none, .bin .add .str (.t 7) (.c (.str [46, 116, 109, 112]))⟩,
  ⟨(some 2), .none, .mv (.t 8)⟩]
def f63 : AF := ⟨9, [.tmp 2], (.seq (.reg f63r0) (.seq (.reg f63r1) .ret))⟩
/- towpath/part.has -/
def f64r0 : List AOp := [
  ⟨(some 4), .none, .mv (.c (.bool false))⟩]
def f64r1 : List AOp := [
  ⟨(some 8), .none, .mv (.t 0)⟩,
  ⟨(some 9), .none, .mv (.t 1)⟩,
  ⟨(some 10), .none, .call 143 [(.t 8), (.t 9)]⟩,
  ⟨(some 7), .none, .mv (.t 10)⟩,
  ⟨(some 11), .none, .ext (.t 7) 0⟩,
  ⟨(some 12), .none, .ext (.t 7) 1⟩,
  ⟨(some 5), .none, .mv (.t 11)⟩,
  ⟨(some 6), .none, .mv (.t 12)⟩]
def f64r2 : List AOp := [
  ⟨(some 13), .none, .mv (.t 6)⟩,
  ⟨(some 14), .none, .bin .eql .num (.t 13) (.c (.int .i64 0))⟩,
  ⟨(some 4), .none, .mv (.t 14)⟩]
def f64 : AF := ⟨15, [.tmp 4], (.seq (.reg f64r0) (.seq (.reg f64r1) (.seq (.reg f64r2) .ret)))⟩
/- (*towpath/part.Part).load -/
def f66r0 : List AOp := [
  ⟨(some 2), .none, .mv (.c (.int .i64 0))⟩]
def f66r1 : List AOp := [
  ⟨(some 15), .none, .mv (.t 0)⟩,
  ⟨(some 16), .none, .mv (.t 0)⟩,
  ⟨(some 17), .none, .nilck (.t 16)⟩,
  ⟨(some 18), .none, .faddr 3 (.t 17)⟩,
  ⟨(some 19), .none, .load1 (.t 18)⟩,
  ⟨(some 20), .none, .call 147 [(.t 19)]⟩,
  ⟨(some 14), .none, .mv (.t 20)⟩,
  ⟨(some 21), .none, .ext (.t 14) 0⟩,
  ⟨(some 22), .none, .ext (.t 14) 1⟩,
  ⟨(some 23), .none, .nilck (.t 15)⟩,
  ⟨(some 24), .none, .faddr 4 (.t 23)⟩,
  ⟨.none, .none, .store 1 (.t 24) (.t 21)⟩]
def f66r2 : List AOp := [
  ⟨(some 25), .none, .mv (.t 0)⟩,
  ⟨(some 26), .none, .call 148 []⟩,
  ⟨(some 27), .none, .nilck (.t 25)⟩,
  ⟨(some 28), .none, .faddr 5 (.t 27)⟩,
  ⟨.none, .none, .store 1 (.t 28) (.t 26)⟩]
def f66r3 : DR := ⟨[
  ⟨(some 30), .none, .mv (.t 0)⟩,
  ⟨(some 31), .none, .nilck (.t 30)⟩,
  ⟨(some 32), .none, .faddr 0 (.t 31)⟩,
  ⟨(some 33), .none, .faddr 1 (.t 32)⟩,
  ⟨(some 34), .none, .load1 (.t 33)⟩,
  ⟨(some 35), .none, .mv (.t 0)⟩,
  ⟨(some 36), .none, .call 149 [(.t 35)]⟩,
  ⟨(some 37), .none, .call 143 [(.t 34), (.t 36)]⟩,
  ⟨(some 29), .none, .mv (.t 37)⟩,
  ⟨(some 38), .none, .ext (.t 29) 0⟩,
  ⟨(some 39), .none, .ext (.t 29) 1⟩,
  ⟨(some 3), .none, .mv (.t 38)⟩,
  ⟨(some 4), .none, .mv (.t 39)⟩],
  [0, 1, 3, 7, 15, 0, 32, 127, 255, 511, 511, 1023, 4095], [0, 1, 2, 3, 4, 5, 6, 7, 8, 9, 10, 11, 12], [(4, 1)], .none⟩
def f66r4 : List AOp := [
  ⟨(some 41), .none, .mv (.t 3)⟩,
  ⟨(some 42), .none, .call 150 [(.t 41)]⟩,
  ⟨(some 40), .none, .mv (.t 42)⟩,
  ⟨(some 43), .none, .ext (.t 40) 0⟩,
  ⟨(some 44), .none, .ext (.t 40) 1⟩,
  ⟨(some 5), .none, .mv (.t 43)⟩,
  ⟨(some 6), .none, .mv (.t 44)⟩]
def f66r5 : List AOp := [
  ⟨(some 45), .none, .mv (.t 6)⟩,
  ⟨(some 46), .none, .un .not (.t 45)⟩]
def f66r6 : List AOp := [
  ⟨(some 2), .none, .mv (.c (.int .i64 0))⟩]
def f66r7 : List AOp := [
  ⟨(some 47), .none, .mv (.t 5)⟩,
  ⟨(some 48), .none, .call 82 [(.t 47)]⟩,
  ⟨(some 7), .none, .mv (.t 48)⟩]
def f66r8 : List AOp := [
  ⟨(some 49), .none, .mv (.t 7)⟩,
  ⟨(some 50), .none, .call 83 [(.t 49)]⟩,
  ⟨(some 51), .none, .mv (.t 7)⟩,
  ⟨(some 52), .none, .call 151 [(.t 51), (.c (.int .i64 262144))]⟩,
  ⟨(some 53), .none, .mv (.t 7)⟩,
  ⟨(some 54), .none, .call 151 [(.t 53), (.c (.int .i64 262144))]⟩,
  ⟨(some 8), .none, .mv (.t 50)⟩,
  ⟨(some 9), .none, .mv (.t 52)⟩,
  ⟨(some 10), .none, .mv (.t 54)⟩]
def f66r9 : List AOp := [
  ⟨(some 55), .none, .mv (.t 7)⟩,
  ⟨(some 56), .none, .call 84 [(.t 55)]⟩,
  ⟨(some 57), .none, .bin .neq .num (.t 56) (.c (.int .i64 0))⟩,
  ⟨(some 58), .none, .mv (.t 57)⟩,
  ⟨(some 59), (some (58, false)), .mv (.t 8)⟩,
  ⟨(some 60), (some (58, false)), .mv (.t 0)⟩,
  ⟨(some 61), (some (58, false)), .call 30 [(.t 60)]⟩,
  ⟨(some 62), (some (58, false)), .conv (.int .u64) (.t 61)⟩,
  ⟨(some 63), (some (58, false)), .bin .gtr .num (.t 59) (.t 62)⟩,
  ⟨(some 64), .none, .pick (.t 58) (.c (.bool true)) (.t 63)⟩,
  ⟨(some 65), .none, .mv (.t 64)⟩,
  ⟨(some 66), (some (65, false)), .mv (.t 8)⟩,
  ⟨(some 67), (some (65, false)), .conv (.int .i64) (.t 66)⟩,
  ⟨(some 68), (some (65, false)), .mv (.t 0)⟩,
  ⟨(some 69), (some (65, false)), .call 29 [(.t 68)]⟩,
  ⟨(some 70), (some (65, false)), .bin .lss .num (.t 67) (.t 69)⟩,
  ⟨(some 71), .none, .pick (.t 65) (.c (.bool true)) (.t 70)⟩]
def f66r10 : List AOp := [
  ⟨(some 2), .none, .mv (.c (.int .i64 0))⟩]
def f66r11 : List AOp := [
  ⟨(some 73), .none, .mv (.t 9)⟩,
  ⟨(some 74), .none, .conv .toBytes (.t 73)⟩,
  ⟨(some 75), .none, .mv (.t 0)⟩,
  ⟨(some 76), .none, .nilck (.t 75)⟩,
  ⟨(some 77), .none, .faddr 3 (.t 76)⟩,
  ⟨(some 78), .none, .load1 (.t 77)⟩,
  ⟨(some 79), .none, .call 152 [(.t 74), (.t 78)]⟩,
  ⟨(some 72), .none, .mv (.t 79)⟩,
  ⟨(some 80), .none, .ext (.t 72) 0⟩,
  ⟨(some 81), .none, .ext (.t 72) 1⟩,
  ⟨(some 11), .none, .mv (.t 80)⟩,
  ⟨(some 12), .none, .mv (.t 81)⟩]
def f66r12 : List AOp := [
  ⟨(some 82), .none, .mv (.t 12)⟩,
  ⟨(some 83), .none, .bin .neq .num (.t 82) (.c (.int .i64 0))⟩,
  ⟨(some 84), .none, .mv (.t 83)⟩,
  ⟨(some 85), (some (84, false)), .mv (.t 11)⟩,
  ⟨(some 86), (some (84, false)), .call 153 [(.t 85)]⟩,
  ⟨(some 87), (some (84, false)), .mv (.t 8)⟩,
  ⟨(some 88), (some (84, false)), .conv (.int .i64) (.t 87)⟩,
  ⟨(some 89), (some (84, false)), .bin .gtr .num (.t 86) (.t 88)⟩,
  ⟨(some 90), .none, .pick (.t 84) (.c (.bool true)) (.t 89)⟩]
def f66r13 : List AOp := [
  ⟨(some 2), .none, .mv (.c (.int .i64 0))⟩]
def f66r14 : List AOp := [
  ⟨(some 92), .none, .mv (.t 10)⟩,
  ⟨(some 93), .none, .conv .toBytes (.t 92)⟩,
  ⟨(some 94), .none, .call 154 [(.t 93)]⟩,
  ⟨(some 91), .none, .mv (.t 94)⟩,
  ⟨(some 95), .none, .ext (.t 91) 0⟩,
  ⟨(some 96), .none, .ext (.t 91) 1⟩,
  ⟨(some 13), .none, .mv (.t 95)⟩,
  ⟨(some 12), .none, .mv (.t 96)⟩]
def f66r15 : List AOp := [
  ⟨(some 97), .none, .mv (.t 12)⟩,
  ⟨(some 98), .none, .bin .neq .num (.t 97) (.c (.int .i64 0))⟩,
  ⟨(some 99), .none, .mv (.t 98)⟩,
  ⟨(some 100), (some (99, false)), .mv (.t 13)⟩,
  ⟨(some 101), (some (99, false)), .call 155 [(.t 100)]⟩,
  ⟨(some 102), (some (99, false)), .mv (.t 8)⟩,
  ⟨(some 103), (some (99, false)), .conv (.int .i64) (.t 102)⟩,
  ⟨(some 104), (some (99, false)), .bin .gtr .num (.t 101) (.t 103)⟩,
  ⟨(some 105), .none, .pick (.t 99) (.c (.bool true)) (.t 104)⟩]
def f66r16 : List AOp := [
  ⟨(some 2), .none, .mv (.c (.int .i64 0))⟩]
def f66r17 : List AOp := [
  ⟨(some 106), .none, .mv (.t 0)⟩,
  ⟨(some 107), .none, .mv (.t 0)⟩,
  ⟨(some 108), .none, .mv (.t 11)⟩,
  ⟨(some 109), .none, .mv (.t 13)⟩,
  ⟨(some 110), .none, .nilck (.t 106)⟩,
  ⟨(some 111), .none, .faddr 4 (.t 110)⟩,
  ⟨.none, .none, .store 1 (.t 111) (.t 108)⟩,
  ⟨(some 112), .none, .nilck (.t 107)⟩,
  ⟨(some 113), .none, .faddr 5 (.t 112)⟩,
  ⟨.none, .none, .store 1 (.t 113) (.t 109)⟩]
def f66r18 : List AOp := [
  ⟨(some 114), .none, .mv (.t 8)⟩,
  ⟨(some 115), .none, .conv (.int .i64) (.t 114)⟩,
  ⟨(some 2), .none, .mv (.t 115)⟩]
def f66 : AF := ⟨116, [.tmp 2], (.seq (.reg f66r0) (.seq (.reg f66r1) (.seq (.reg f66r2) (.seq (.dreg f66r3) (.seq (.reg f66r4) (.seq (.seq (.reg f66r5) (.cond (.t 46) (.seq (.reg f66r6) .ret) .skip)) (.seq (.reg f66r7) (.seq (.reg f66r8) (.seq (.seq (.reg f66r9) (.cond (.t 71) (.seq (.reg f66r10) .ret) .skip)) (.seq (.reg f66r11) (.seq (.seq (.reg f66r12) (.cond (.t 90) (.seq (.reg f66r13) .ret) .skip)) (.seq (.reg f66r14) (.seq (.seq (.reg f66r15) (.cond (.t 105) (.seq (.reg f66r16) .ret) .skip)) (.seq (.reg f66r17) (.seq (.reg f66r18) .ret)))))))))))))))⟩
/- (*towpath/seglog.Log).All -/
def f67r0 : List AOp := [
  ⟨(some 2), .none, .mv (.c .nils)⟩]
def f67r1 : List AOp := [
  ⟨(some 5), .none, .mv (.t 0)⟩,
  ⟨(some 6), .none, .bin .eql .ptr (.t 5) (.c .nilp)⟩]
def f67r2 : List AOp := [
  ⟨(some 2), .none, .mv (.c .nils)⟩]
def f67r3 : List AOp := [
  ⟨(some 8), .none, .mv (.t 0)⟩,
  ⟨(some 9), .none, .mv (.t 0)⟩,
  ⟨(some 10), .none, .call 104 [(.t 9)]⟩,
  ⟨(some 11), .none, .call 92 [(.t 8), (.t 10), (.c (.int .i64 1099511627776))]⟩,
  ⟨(some 7), .none, .mv (.t 11)⟩,
  ⟨(some 12), .none, .ext (.t 7) 0⟩,
  ⟨(some 13), .none, .ext (.t 7) 1⟩,
  ⟨(some 3), .none, .mv (.t 12)⟩,
  ⟨(some 4), .none, .mv (.t 13)⟩]
def f67r4 : List AOp := [
  ⟨(some 14), .none, .mv (.t 3)⟩,
  ⟨(some 2), .none, .mv (.t 14)⟩]
def f67 : AF := ⟨15, [.tmp 2], (.seq (.reg f67r0) (.seq (.seq (.reg f67r1) (.cond (.t 6) (.seq (.reg f67r2) .ret) .skip)) (.seq (.reg f67r3) (.seq (.reg f67r4) .ret))))⟩
/- (*towpath/part.Part).take -/
def f68r0 : List AOp := [
  ⟨(some 3), .none, .box (.t 1)⟩]
def f68r1 : DR := ⟨[
  ⟨(some 4), .none, .mv (.t 0)⟩,
  ⟨(some 5), .none, .nilck (.t 4)⟩,
  ⟨(some 6), .none, .faddr 4 (.t 5)⟩,
  ⟨(some 7), .none, .load1 (.t 6)⟩,
  ⟨(some 8), .none, .loadn 7 (.t 3)⟩,
  ⟨(some 9), .none, .call 156 [(.t 7), (.t 8)]⟩],
  [0, 1, 3, 7, 0, 31], [0, 1, 2, 3, 4, 5], [], .none⟩
def f68r2 : DR := ⟨[
  ⟨(some 10), .none, .mv (.t 0)⟩,
  ⟨(some 11), .none, .nilck (.t 10)⟩,
  ⟨(some 12), .none, .faddr 5 (.t 11)⟩,
  ⟨(some 13), .none, .load1 (.t 12)⟩,
  ⟨(some 14), .none, .loadn 7 (.t 3)⟩,
  ⟨(some 15), .none, .call 157 [(.t 13), (.t 14)]⟩],
  [0, 1, 3, 7, 0, 31], [0, 1, 2, 3, 4, 5], [], .none⟩
def f68 : AF := ⟨16, [], (.seq (.reg f68r0) (.seq (.dreg f68r1) (.dreg f68r2)))⟩
/- (towpath/offsets.Commit).may -/
def f76r0 : List AOp := [
  ⟨(some 1), .none, .box (.t 0)⟩,
  ⟨(some 2), .none, .mv (.c (.bool false))⟩]
def f76r1 : List AOp := [
  ⟨(some 3), .none, .faddr 0 (.t 1)⟩,
  ⟨(some 4), .none, .load1 (.t 3)⟩,
  ⟨(some 5), .none, .bin .geq .num (.t 4) (.c (.int .i64 0))⟩,
  ⟨(some 6), .none, .mv (.t 5)⟩,
  ⟨(some 7), (some (6, true)), .faddr 0 (.t 1)⟩,
  ⟨(some 8), (some (6, true)), .load1 (.t 7)⟩,
  ⟨(some 9), (some (6, true)), .bin .leq .num (.t 8) (.c (.int .i64 255))⟩,
  ⟨(some 10), .none, .pick (.t 6) (.t 9) (.c (.bool false))⟩,
  ⟨(some 11), .none, .mv (.t 10)⟩,
  ⟨(some 12), (some (11, true)), .faddr 1 (.t 1)⟩,
  ⟨(some 13), (some (11, true)), .load1 (.t 12)⟩,
  ⟨(some 14), (some (11, true)), .bin .geq .num (.t 13) (.c (.int .i64 0))⟩,
  ⟨(some 15), .none, .pick (.t 11) (.t 14) (.c (.bool false))⟩,
  ⟨(some 16), .none, .mv (.t 15)⟩,
  ⟨(some 17), (some (16, true)), .faddr 1 (.t 1)⟩,
  ⟨(some 18), (some (16, true)), .load1 (.t 17)⟩,
  ⟨(some 19), (some (16, true)), .bin .leq .num (.t 18) (.c (.int .i64 1099511627776))⟩,
  ⟨(some 20), .none, .pick (.t 16) (.t 19) (.c (.bool false))⟩,
  ⟨(some 21), .none, .mv (.t 20)⟩,
  ⟨(some 22), (some (21, true)), .faddr 2 (.t 1)⟩,
  ⟨(some 23), (some (21, true)), .load1 (.t 22)⟩,
  ⟨(some 24), (some (21, true)), .bin .geq .num (.t 23) (.c (.int .i64 0))⟩,
  ⟨(some 25), .none, .pick (.t 21) (.t 24) (.c (.bool false))⟩,
  ⟨(some 26), .none, .mv (.t 25)⟩,
  ⟨(some 27), (some (26, true)), .faddr 2 (.t 1)⟩,
  ⟨(some 28), (some (26, true)), .load1 (.t 27)⟩,
  ⟨(some 29), (some (26, true)), .bin .leq .num (.t 28) (.c (.int .i64 64))⟩,
  ⟨(some 30), .none, .pick (.t 26) (.t 29) (.c (.bool false))⟩,
  ⟨(some 31), .none, .mv (.t 30)⟩,
  ⟨(some 32), (some (31, true)), .faddr 3 (.t 1)⟩,
  ⟨(some 33), (some (31, true)), .load1 (.t 32)⟩,
  ⟨(some 34), (some (31, true)), .bin .geq .num (.t 33) (.c (.int .i64 0))⟩,
  ⟨(some 35), .none, .pick (.t 31) (.t 34) (.c (.bool false))⟩,
  ⟨(some 36), .none, .mv (.t 35)⟩,
  ⟨(some 37), (some (36, true)), .faddr 3 (.t 1)⟩,
  ⟨(some 38), (some (36, true)), .load1 (.t 37)⟩,
  ⟨(some 39), (some (36, true)), .bin .leq .num (.t 38) (.c (.int .i64 2147483647))⟩,
  ⟨(some 40), .none, .pick (.t 36) (.t 39) (.c (.bool false))⟩,
  ⟨(some 2), .none, .mv (.t 40)⟩]
def f76 : AF := ⟨41, [.tmp 2], (.seq (.reg f76r0) (.seq (.reg f76r1) .ret))⟩
/- towpath/wire.Join -/
def f77r0 : List AOp := [
  ⟨(some 2), .none, .mv (.c .nils)⟩]
def f77r1 : List AOp := [
  ⟨(some 3), .none, .mv (.c (.int .i64 0))⟩]
def f77r2 : List AOp := [
  ⟨(some 9), .none, .mv (.t 0)⟩,
  ⟨(some 10), .none, .len .slice (.t 9)⟩,
  ⟨(some 11), .none, .mv (.c (.int .i64 0))⟩]
def f77r3 : List AOp := [
  ⟨(some 12), .none, .bin .lss .num (.t 11) (.t 10)⟩]
def f77r4 : List AOp := [
  ⟨(some 13), .none, .iaddr 1 (.t 9) (.t 11)⟩,
  ⟨(some 14), .none, .load1 (.t 13)⟩,
  ⟨(some 5), .none, .mv (.t 14)⟩]
def f77r5 : List AOp := [
  ⟨(some 15), .none, .mv (.t 3)⟩,
  ⟨(some 16), .none, .mv (.t 5)⟩,
  ⟨(some 17), .none, .len .slice (.t 16)⟩,
  ⟨(some 18), .none, .bin .add .num (.t 15) (.t 17)⟩,
  ⟨(some 3), .none, .mv (.t 18)⟩]
def f77r6 : List AOp := [
  ⟨(some 19), .none, .bin .add .num (.t 11) (.c (.int .i64 1))⟩,
  ⟨(some 11), .none, .mv (.t 19)⟩]
def f77r7 : List AOp := [
  ⟨(some 20), .none, .mv (.t 3)⟩,
  ⟨(some 21), .none, .mksl 1 1 [(.int .u8 0)] (.c (.int .i64 0)) (.t 20)⟩,
  ⟨(some 6), .none, .mv (.t 21)⟩]
def f77r8 : List AOp := [
  ⟨(some 22), .none, .mv (.t 0)⟩,
  ⟨(some 23), .none, .len .slice (.t 22)⟩,
  ⟨(some 24), .none, .mv (.c (.int .i64 0))⟩]
def f77r9 : List AOp := [
  ⟨(some 25), .none, .bin .lss .num (.t 24) (.t 23)⟩]
def f77r10 : List AOp := [
  ⟨(some 26), .none, .iaddr 1 (.t 22) (.t 24)⟩,
  ⟨(some 27), .none, .load1 (.t 26)⟩,
  ⟨(some 8), .none, .mv (.t 27)⟩]
def f77r11 : List AOp := [
  ⟨(some 28), .none, .mv (.t 6)⟩,
  ⟨(some 29), .none, .mv (.t 8)⟩,
  ⟨(some 30), .none, .app false 1 1 (.t 28) (.t 29)⟩,
  ⟨(some 6), .none, .mv (.t 30)⟩]
def f77r12 : List AOp := [
  ⟨(some 31), .none, .bin .add .num (.t 24) (.c (.int .i64 1))⟩,
  ⟨(some 24), .none, .mv (.t 31)⟩]
def f77r13 : List AOp := [
  ⟨(some 32), .none, .mv (.t 6)⟩,
  ⟨(some 2), .none, .mv (.t 32)⟩]
def f77 : AF := ⟨33, [.tmp 2], (.seq (.reg f77r0) (.seq (.reg f77r1) (.seq (.seq (.reg f77r2) (.block 0 (.loop (.seq (.reg f77r3) (.seq (.cond (.t 12) .skip (.exit 0)) (.seq (.block 1 (.seq (.reg f77r4) (.reg f77r5))) (.reg f77r6))))))) (.seq (.reg f77r7) (.seq (.seq (.reg f77r8) (.block 2 (.loop (.seq (.reg f77r9) (.seq (.cond (.t 25) .skip (.exit 2)) (.seq (.block 3 (.seq (.reg f77r10) (.reg f77r11))) (.reg f77r12))))))) (.seq (.reg f77r13) .ret))))))⟩
/- towpath/wire.Uint -/
def f78r0 : List AOp := [
  ⟨(some 2), .none, .mv (.c .nils)⟩]
def f78r1 : List AOp := [
  ⟨(some 3), .none, .mv (.c .nils)⟩]
def f78r2 : List AOp := [
  ⟨(some 4), .none, .mv (.t 0)⟩,
  ⟨(some 5), .none, .bin .geq .num (.t 4) (.c (.int .u64 128))⟩]
def f78r3 : List AOp := [
  ⟨(some 6), .none, .mv (.t 3)⟩,
  ⟨(some 7), .none, .mv (.t 0)⟩,
  ⟨(some 8), .none, .conv (.int .u8) (.t 7)⟩,
  ⟨(some 9), .none, .bin .or .num (.t 8) (.c (.int .u8 128))⟩,
  ⟨(some 10), .none, .bsl false 1 1 [(.int .u8 0)] [(0, 1, (.t 9))]⟩,
  ⟨(some 11), .none, .app false 1 1 (.t 6) (.t 10)⟩,
  ⟨(some 3), .none, .mv (.t 11)⟩]
def f78r4 : List AOp := [
  ⟨(some 12), .none, .mv (.t 0)⟩,
  ⟨(some 13), .none, .bin .shr .num (.t 12) (.c (.int .u64 7))⟩,
  ⟨(some 0), .none, .mv (.t 13)⟩]
def f78r5 : List AOp := [
  ⟨(some 14), .none, .mv (.t 3)⟩,
  ⟨(some 15), .none, .mv (.t 0)⟩,
  ⟨(some 16), .none, .conv (.int .u8) (.t 15)⟩,
  ⟨(some 17), .none, .bsl false 1 1 [(.int .u8 0)] [(0, 1, (.t 16))]⟩,
  ⟨(some 18), .none, .app false 1 1 (.t 14) (.t 17)⟩,
  ⟨(some 2), .none, .mv (.t 18)⟩]
def f78 : AF := ⟨19, [.tmp 2], (.seq (.reg f78r0) (.seq (.reg f78r1) (.seq (.block 0 (.loop (.seq (.seq (.reg f78r2) (.cond (.t 5) .skip (.exit 0))) (.block 1 (.seq (.reg f78r3) (.reg f78r4)))))) (.seq (.reg f78r5) .ret))))⟩
/- towpath/offsets.key -/
def f79r0 : List AOp := [
  ⟨(some 2), .none, .mv (.c (.str []))⟩]
def f79r1 : List AOp := [
  ⟨(some 3), .none, .mv (.t 0)⟩,
  ⟨(some 4), .none, .bin .quo .num (.t 3) (.c (.int .i64 100))⟩,
  ⟨(some 5), .none, .bin .add .num (.c (.int .i64 48)) (.t 4)⟩,
  ⟨(some 6), .none, .conv (.int .u8) (.t 5)⟩,
  ⟨(some 7), .none, .mv (.t 0)⟩,
  ⟨(some 8), .none, .bin .quo .num (.t 7) (.c (.int .i64 10))⟩,
  ⟨(some 9), .none, .bin .rem .num (.t 8) (.c (.int .i64 10))⟩,
  ⟨(some 10), .none, .bin .add .num (.c (.int .i64 48)) (.t 9)⟩,
  ⟨(some 11), .none, .conv (.int .u8) (.t 10)⟩,
  ⟨(some 12), .none, .mv (.t 0)⟩,
  ⟨(some 13), .none, .bin .rem .num (.t 12) (.c (.int .i64 10))⟩,
  ⟨(some 14), .none, .bin .add .num (.c (.int .i64 48)) (.t 13)⟩,
  ⟨(some 15), .none, .conv (.int .u8) (.t 14)⟩,
  ⟨(some 16), .none, .bsl false 1 3 [(.int .u8 0)] [(0, 1, (.t 6)), (1, 1, (.t 11)), (2, 1, (.t 15))]⟩,
  ⟨(some 17), .none, .conv .toStr (.t 16)⟩,
  ⟨(some 18), .none, .bin .add .str (.c (.str [111])) (.t 17)⟩,
  ⟨(some 2), .none, .mv (.t 18)⟩]
def f79 : AF := ⟨19, [.tmp 2], (.seq (.reg f79r0) (.seq (.reg f79r1) .ret))⟩
/- towpath/wire.NewReader -/
def f82r0 : List AOp := [
  ⟨(some 2), .none, .mv (.c .nilp)⟩]
def f82r1 : List AOp := [
  ⟨(some 3), .none, .mv (.t 0)⟩,
  ⟨(some 4), .none, .call 165 [(.t 3)]⟩,
  ⟨(some 5), .none, .build [.nils, (.int .i64 0), (.int .i64 0)] [(0, 1, (.t 4))]⟩,
  ⟨(some 6), .none, .build [.nils, (.int .i64 0), (.int .i64 0)] [(0, 3, (.t 5))]⟩,
  ⟨(some 7), .none, .box (.t 6)⟩,
  ⟨(some 2), .none, .mv (.t 7)⟩]
def f82 : AF := ⟨8, [.tmp 2], (.seq (.reg f82r0) (.seq (.reg f82r1) .ret))⟩
/- (*towpath/wire.Reader).Uint -/
def f83r0 : List AOp := [
  ⟨(some 2), .none, .mv (.c (.int .u64 0))⟩]
def f83r1 : List AOp := [
  ⟨(some 3), .none, .mv (.t 0)⟩,
  ⟨(some 4), .none, .call 166 [(.t 3)]⟩,
  ⟨(some 5), .none, .un .not (.t 4)⟩]
def f83r2 : List AOp := [
  ⟨(some 2), .none, .mv (.c (.int .u64 0))⟩]
def f83r3 : List AOp := [
  ⟨(some 6), .none, .mv (.t 0)⟩,
  ⟨(some 7), .none, .nilck (.t 6)⟩,
  ⟨(some 8), .none, .faddr 0 (.t 7)⟩,
  ⟨(some 9), .none, .call 167 [(.t 8)]⟩,
  ⟨(some 2), .none, .mv (.t 9)⟩]
def f83 : AF := ⟨10, [.tmp 2], (.seq (.reg f83r0) (.seq (.seq (.reg f83r1) (.cond (.t 5) (.seq (.reg f83r2) .ret) .skip)) (.seq (.reg f83r3) .ret)))⟩
/- (*towpath/wire.Reader).End -/
def f84r0 : List AOp := [
  ⟨(some 2), .none, .mv (.c (.int .i64 0))⟩]
def f84r1 : List AOp := [
  ⟨(some 3), .none, .mv (.t 0)⟩,
  ⟨(some 4), .none, .bin .eql .ptr (.t 3) (.c .nilp)⟩]
def f84r2 : List AOp := [
  ⟨(some 2), .none, .mv (.c (.int .i64 1))⟩]
def f84r3 : List AOp := [
  ⟨(some 5), .none, .mv (.t 0)⟩,
  ⟨(some 6), .none, .nilck (.t 5)⟩,
  ⟨(some 7), .none, .faddr 0 (.t 6)⟩,
  ⟨(some 8), .none, .call 168 [(.t 7)]⟩,
  ⟨(some 9), .none, .bin .gtr .num (.t 8) (.c (.int .i64 0))⟩]
def f84r4 : List AOp := [
  ⟨(some 10), .none, .mv (.t 0)⟩,
  ⟨(some 11), .none, .nilck (.t 10)⟩,
  ⟨(some 12), .none, .faddr 0 (.t 11)⟩,
  ⟨(some 13), .none, .call 169 [(.t 12), (.c (.int .i64 6))]⟩]
def f84r5 : List AOp := [
  ⟨(some 14), .none, .mv (.t 0)⟩,
  ⟨(some 15), .none, .nilck (.t 14)⟩,
  ⟨(some 16), .none, .faddr 0 (.t 15)⟩,
  ⟨(some 17), .none, .faddr 2 (.t 16)⟩,
  ⟨(some 18), .none, .load1 (.t 17)⟩,
  ⟨(some 2), .none, .mv (.t 18)⟩]
def f84 : AF := ⟨19, [.tmp 2], (.seq (.reg f84r0) (.seq (.seq (.reg f84r1) (.cond (.t 4) (.seq (.reg f84r2) .ret) .skip)) (.seq (.seq (.reg f84r3) (.cond (.t 9) (.reg f84r4) .skip)) (.seq (.reg f84r5) .ret))))⟩
/- towpath/offsets.Open -/
def f86r0 : List AOp := [
  ⟨(some 5), .none, .box (.t 2)⟩,
  ⟨(some 6), .none, .mv (.c .nilp)⟩,
  ⟨(some 7), .none, .mv (.c (.int .i64 0))⟩]
def f86r1 : List AOp := [
  ⟨(some 12), .none, .mv (.t 0)⟩,
  ⟨(some 13), .none, .mv (.t 1)⟩,
  ⟨(some 14), .none, .loadn 3 (.t 5)⟩,
  ⟨(some 15), .none, .call 10 [(.t 12), (.t 13), (.t 14)]⟩,
  ⟨(some 11), .none, .mv (.t 15)⟩,
  ⟨(some 16), .none, .ext (.t 11) 0⟩,
  ⟨(some 17), .none, .ext (.t 11) 1⟩,
  ⟨(some 8), .none, .mv (.t 16)⟩,
  ⟨(some 9), .none, .mv (.t 17)⟩]
def f86r2 : List AOp := [
  ⟨(some 18), .none, .mv (.t 9)⟩,
  ⟨(some 19), .none, .bin .neq .num (.t 18) (.c (.int .i64 0))⟩]
def f86r3 : List AOp := [
  ⟨(some 20), .none, .mv (.t 9)⟩,
  ⟨(some 6), .none, .mv (.c .nilp)⟩,
  ⟨(some 7), .none, .mv (.t 20)⟩]
def f86r4 : List AOp := [
  ⟨(some 21), .none, .mv (.t 8)⟩,
  ⟨(some 22), .none, .mv (.t 8)⟩,
  ⟨(some 23), .none, .call 29 [(.t 22)]⟩,
  ⟨(some 24), .none, .call 172 []⟩,
  ⟨(some 25), .none, .build [.nilp, (.int .i64 0), .nilp] [(0, 1, (.t 21)), (1, 1, (.t 23)), (2, 1, (.t 24))]⟩,
  ⟨(some 26), .none, .box (.t 25)⟩,
  ⟨(some 10), .none, .mv (.t 26)⟩]
def f86r5 : List AOp := [
  ⟨(some 27), .none, .mv (.t 10)⟩,
  ⟨(some 28), .none, .call 132 [(.t 27)]⟩]
def f86r6 : List AOp := [
  ⟨(some 29), .none, .mv (.t 10)⟩,
  ⟨(some 6), .none, .mv (.t 29)⟩,
  ⟨(some 7), .none, .mv (.c (.int .i64 0))⟩]
def f86 : AF := ⟨30, [.tmp 6, .tmp 7], (.seq (.reg f86r0) (.seq (.reg f86r1) (.seq (.seq (.reg f86r2) (.cond (.t 19) (.seq (.reg f86r3) .ret) .skip)) (.seq (.reg f86r4) (.seq (.reg f86r5) (.seq (.reg f86r6) .ret))))))⟩
/- towpath/towpathlaw14.config -/
def f87r0 : List AOp := [
  ⟨(some 2), .none, .alloc [(.int .i64 0), (.int .i64 0), (.int .i64 0)]⟩]
def f87r1 : List AOp := [
  ⟨(some 3), .none, .mv (.t 0)⟩,
  ⟨(some 4), .none, .bin .rem .num (.t 3) (.c (.int .i64 200))⟩,
  ⟨(some 0), .none, .mv (.t 4)⟩]
def f87r2 : List AOp := [
  ⟨(some 5), .none, .mv (.t 0)⟩,
  ⟨(some 6), .none, .bin .lss .num (.t 5) (.c (.int .i64 0))⟩]
def f87r3 : List AOp := [
  ⟨(some 7), .none, .mv (.t 0)⟩,
  ⟨(some 8), .none, .un .neg (.t 7)⟩,
  ⟨(some 0), .none, .mv (.t 8)⟩]
def f87r4 : List AOp := [
  ⟨(some 9), .none, .mv (.t 0)⟩,
  ⟨(some 10), .none, .bin .add .num (.c (.int .i64 64)) (.t 9)⟩,
  ⟨(some 11), .none, .build [(.int .i64 0), (.int .i64 0)] [(0, 1, (.t 10)), (1, 1, (.c (.int .i64 30)))]⟩,
  ⟨(some 12), .none, .build [(.int .i64 0), (.int .i64 0), (.int .i64 0)] [(0, 2, (.t 11)), (2, 1, (.c (.int .i64 20)))]⟩,
  ⟨.none, .none, .store 3 (.t 2) (.t 12)⟩]
def f87 : AF := ⟨13, [.celln 2 3], (.seq (.reg f87r0) (.seq (.reg f87r1) (.seq (.seq (.reg f87r2) (.cond (.t 6) (.reg f87r3) .skip)) (.seq (.reg f87r4) .ret))))⟩
/- towpath/part.mark -/
def f88r0 : List AOp := [
  ⟨(some 1), .none, .box (.t 0)⟩,
  ⟨(some 2), .none, .mv (.c (.bool false))⟩]
def f88r1 : List AOp := [
  ⟨(some 3), .none, .faddr 4 (.t 1)⟩,
  ⟨(some 4), .none, .load1 (.t 3)⟩,
  ⟨(some 5), .none, .bin .eql .num (.t 4) (.c (.int .i64 2))⟩,
  ⟨(some 6), .none, .mv (.t 5)⟩,
  ⟨(some 7), (some (6, false)), .faddr 4 (.t 1)⟩,
  ⟨(some 8), (some (6, false)), .load1 (.t 7)⟩,
  ⟨(some 9), (some (6, false)), .bin .eql .num (.t 8) (.c (.int .i64 3))⟩,
  ⟨(some 10), .none, .pick (.t 6) (.c (.bool true)) (.t 9)⟩,
  ⟨(some 2), .none, .mv (.t 10)⟩]
def f88 : AF := ⟨11, [.tmp 2], (.seq (.reg f88r0) (.seq (.reg f88r1) .ret))⟩
/- (*towpath/part.Part).put -/
def f89r0 : List AOp := [
  ⟨(some 3), .none, .box (.t 1)⟩,
  ⟨(some 4), .none, .mv (.c (.int .i64 0))⟩,
  ⟨(some 5), .none, .mv (.c (.bool false))⟩,
  ⟨(some 6), .none, .mv (.c (.int .i64 0))⟩]
def f89r1 : List AOp := [
  ⟨(some 10), .none, .mv (.t 0)⟩,
  ⟨(some 11), .none, .call 30 [(.t 10)]⟩,
  ⟨(some 12), .none, .faddr 0 (.t 3)⟩,
  ⟨.none, .none, .store 1 (.t 12) (.t 11)⟩]
def f89r2 : List AOp := [
  ⟨(some 14), .none, .mv (.t 0)⟩,
  ⟨(some 15), .none, .loadn 7 (.t 3)⟩,
  ⟨(some 16), .none, .call 91 [(.t 14), (.t 15)]⟩,
  ⟨(some 13), .none, .mv (.t 16)⟩,
  ⟨(some 17), .none, .ext (.t 13) 0⟩,
  ⟨(some 18), .none, .ext (.t 13) 1⟩,
  ⟨(some 7), .none, .alloc [(.bool false), (.int .i64 0)]⟩,
  ⟨.none, .none, .store 2 (.t 7) (.t 17)⟩,
  ⟨(some 8), .none, .mv (.t 18)⟩]
def f89r3 : List AOp := [
  ⟨(some 19), .none, .mv (.t 8)⟩,
  ⟨(some 20), .none, .bin .neq .num (.t 19) (.c (.int .i64 0))⟩,
  ⟨(some 21), .none, .mv (.t 20)⟩,
  ⟨(some 22), (some (21, false)), .faddr 0 (.t 7)⟩,
  ⟨(some 23), (some (21, false)), .load1 (.t 22)⟩,
  ⟨(some 24), .none, .pick (.t 21) (.c (.bool true)) (.t 23)⟩]
def f89r4 : DR := ⟨[
  ⟨(some 25), .none, .faddr 1 (.t 7)⟩,
  ⟨(some 26), .none, .load1 (.t 25)⟩,
  ⟨(some 27), .none, .faddr 0 (.t 7)⟩,
  ⟨(some 28), .none, .load1 (.t 27)⟩,
  ⟨(some 29), .none, .mv (.t 8)⟩,
  ⟨(some 4), .none, .mv (.t 26)⟩,
  ⟨(some 5), .none, .mv (.t 28)⟩,
  ⟨(some 6), .none, .mv (.t 29)⟩],
  [0, 1, 0, 4, 0, 3, 47, 127], [0, 1, 2, 3, 4, 5, 6, 7], [], .none⟩
def f89r5 : DR := ⟨[
  ⟨(some 31), .none, .mv (.t 0)⟩,
  ⟨(some 32), .none, .nilck (.t 31)⟩,
  ⟨(some 33), .none, .faddr 0 (.t 32)⟩,
  ⟨(some 34), .none, .faddr 0 (.t 33)⟩,
  ⟨(some 35), .none, .load1 (.t 34)⟩,
  ⟨(some 36), .none, .loadn 7 (.t 3)⟩,
  ⟨(some 37), .none, .bsl false 7 1 [(.int .i64 0), (.int .i64 0), (.int .i64 0), (.int .i64 0), (.int .i64 0), (.int .i64 0), .nils] [(0, 7, (.t 36))]⟩,
  ⟨(some 38), .none, .call 173 [(.t 35), (.t 37)]⟩,
  ⟨(some 30), .none, .mv (.t 38)⟩,
  ⟨(some 39), .none, .ext (.t 30) 0⟩,
  ⟨(some 40), .none, .ext (.t 30) 1⟩,
  ⟨(some 9), .none, .mv (.t 39)⟩,
  ⟨(some 8), .none, .mv (.t 40)⟩],
  [0, 1, 3, 7, 15, 0, 32, 127, 255, 511, 511, 1023, 4095], [0, 1, 2, 3, 4, 5, 6, 7, 8, 9, 10, 11, 12], [], .none⟩
def f89r6 : List AOp := [
  ⟨(some 41), .none, .mv (.t 8)⟩,
  ⟨(some 42), .none, .bin .eql .num (.t 41) (.c (.int .i64 0))⟩]
def f89r7 : List AOp := [
  ⟨(some 43), .none, .mv (.t 0)⟩,
  ⟨(some 44), .none, .nilck (.t 43)⟩,
  ⟨(some 45), .none, .faddr 0 (.t 44)⟩,
  ⟨(some 46), .none, .faddr 0 (.t 45)⟩,
  ⟨(some 47), .none, .load1 (.t 46)⟩,
  ⟨(some 48), .none, .call 174 [(.t 47)]⟩,
  ⟨(some 8), .none, .mv (.t 48)⟩]
def f89r8 : List AOp := [
  ⟨(some 49), .none, .mv (.t 8)⟩,
  ⟨(some 50), .none, .bin .neq .num (.t 49) (.c (.int .i64 0))⟩]
def f89r9 : List AOp := [
  ⟨(some 51), .none, .mv (.t 8)⟩,
  ⟨(some 4), .none, .mv (.c (.int .i64 0))⟩,
  ⟨(some 5), .none, .mv (.c (.bool false))⟩,
  ⟨(some 6), .none, .mv (.t 51)⟩]
def f89r10 : List AOp := [
  ⟨(some 52), .none, .mv (.t 9)⟩,
  ⟨(some 53), .none, .faddr 0 (.t 3)⟩,
  ⟨.none, .none, .store 1 (.t 53) (.t 52)⟩]
def f89r11 : List AOp := [
  ⟨(some 54), .none, .mv (.t 0)⟩,
  ⟨(some 55), .none, .loadn 7 (.t 3)⟩,
  ⟨(some 56), .none, .call 175 [(.t 55)]⟩,
  ⟨(some 57), .none, .call 68 [(.t 54), (.t 56)]⟩]
def f89r12 : List AOp := [
  ⟨(some 58), .none, .mv (.t 9)⟩,
  ⟨(some 4), .none, .mv (.t 58)⟩,
  ⟨(some 5), .none, .mv (.c (.bool false))⟩,
  ⟨(some 6), .none, .mv (.c (.int .i64 0))⟩]
def f89 : AF := ⟨59, [.tmp 4, .tmp 5, .tmp 6], (.seq (.reg f89r0) (.seq (.reg f89r1) (.seq (.reg f89r2) (.seq (.seq (.reg f89r3) (.cond (.t 24) (.seq (.dreg f89r4) .ret) .skip)) (.seq (.dreg f89r5) (.seq (.seq (.reg f89r6) (.cond (.t 42) (.reg f89r7) .skip)) (.seq (.seq (.reg f89r8) (.cond (.t 50) (.seq (.reg f89r9) .ret) .skip)) (.seq (.reg f89r10) (.seq (.reg f89r11) (.seq (.reg f89r12) .ret))))))))))⟩
/- towpath/rec.Mark -/
def f90r0 : List AOp := [
  ⟨(some 8), .none, .alloc [(.int .i64 0), (.int .i64 0), (.int .i64 0), (.int .i64 0), (.int .i64 0), (.int .i64 0), .nils]⟩]
def f90r1 : List AOp := [
  ⟨(some 10), .none, .mv (.t 0)⟩,
  ⟨(some 11), .none, .mv (.t 1)⟩,
  ⟨(some 12), .none, .mv (.t 3)⟩,
  ⟨(some 13), .none, .build [(.int .i64 0), (.int .i64 0), (.int .i64 0), (.int .i64 0), (.int .i64 0), (.int .i64 0), .nils] [(1, 1, (.t 10)), (2, 1, (.t 11)), (4, 1, (.c (.int .i64 3))), (5, 1, (.t 12))]⟩,
  ⟨(some 9), .none, .alloc [(.int .i64 0), (.int .i64 0), (.int .i64 0), (.int .i64 0), (.int .i64 0), (.int .i64 0), .nils]⟩,
  ⟨.none, .none, .store 7 (.t 9) (.t 13)⟩]
def f90r2 : List AOp := [
  ⟨(some 14), .none, .mv (.t 2)⟩]
def f90r3 : List AOp := [
  ⟨(some 15), .none, .faddr 4 (.t 9)⟩,
  ⟨.none, .none, .store 1 (.t 15) (.c (.int .i64 2))⟩]
def f90r4 : List AOp := [
  ⟨(some 16), .none, .loadn 7 (.t 9)⟩,
  ⟨.none, .none, .store 7 (.t 8) (.t 16)⟩]
def f90 : AF := ⟨17, [.celln 8 7], (.seq (.reg f90r0) (.seq (.reg f90r1) (.seq (.seq (.reg f90r2) (.cond (.t 14) (.reg f90r3) .skip)) (.seq (.reg f90r4) .ret))))⟩
/- (*towpath/part.Part).ask -/
def f91r0 : List AOp := [
  ⟨(some 3), .none, .box (.t 1)⟩,
  ⟨(some 4), .none, .alloc [(.bool false), (.int .i64 0)]⟩,
  ⟨(some 5), .none, .mv (.c (.int .i64 0))⟩]
def f91r1 : DR := ⟨[
  ⟨(some 9), .none, .mv (.t 0)⟩,
  ⟨(some 10), .none, .nilck (.t 9)⟩,
  ⟨(some 11), .none, .faddr 4 (.t 10)⟩,
  ⟨(some 12), .none, .load1 (.t 11)⟩,
  ⟨(some 13), .none, .loadn 7 (.t 3)⟩,
  ⟨(some 14), .none, .call 176 [(.t 12), (.t 13)]⟩,
  ⟨(some 8), .none, .mv (.t 14)⟩,
  ⟨(some 15), .none, .ext (.t 8) 0⟩,
  ⟨(some 16), .none, .ext (.t 8) 1⟩,
  ⟨(some 6), .none, .alloc [(.bool false), (.int .i64 0)]⟩,
  ⟨.none, .none, .store 2 (.t 6) (.t 15)⟩,
  ⟨(some 7), .none, .mv (.t 16)⟩],
  [0, 1, 3, 7, 0, 31, 63, 127, 127, 0, 767, 2047], [0, 1, 2, 3, 4, 5, 6, 7, 8, 9, 10, 11], [(3, 1), (4, 1)], (some 9)⟩
def f91r2 : List AOp := [
  ⟨(some 17), .none, .mv (.t 7)⟩,
  ⟨(some 18), .none, .bin .neq .num (.t 17) (.c (.int .i64 0))⟩,
  ⟨(some 19), .none, .mv (.t 18)⟩,
  ⟨(some 20), (some (19, false)), .faddr 0 (.t 6)⟩,
  ⟨(some 21), (some (19, false)), .load1 (.t 20)⟩,
  ⟨(some 22), .none, .pick (.t 19) (.c (.bool true)) (.t 21)⟩]
def f91r3 : List AOp := [
  ⟨(some 23), .none, .loadn 2 (.t 6)⟩,
  ⟨(some 24), .none, .mv (.t 7)⟩,
  ⟨.none, .none, .store 2 (.t 4) (.t 23)⟩,
  ⟨(some 5), .none, .mv (.t 24)⟩]
def f91r4 : DR := ⟨[
  ⟨(some 25), .none, .loadn 2 (.t 6)⟩,
  ⟨(some 26), .none, .mv (.t 0)⟩,
  ⟨(some 27), .none, .nilck (.t 26)⟩,
  ⟨(some 28), .none, .faddr 5 (.t 27)⟩,
  ⟨(some 29), .none, .load1 (.t 28)⟩,
  ⟨(some 30), .none, .loadn 7 (.t 3)⟩,
  ⟨(some 31), .none, .call 177 [(.t 29), (.t 30)]⟩,
  ⟨.none, .none, .store 2 (.t 4) (.t 25)⟩,
  ⟨(some 5), .none, .mv (.t 31)⟩],
  [0, 0, 2, 6, 14, 0, 62, 127, 255], [0, 1, 2, 3, 4, 5, 6, 7, 8], [(0, 1)], .none⟩
def f91 : AF := ⟨32, [.celln 4 2, .tmp 5], (.seq (.reg f91r0) (.seq (.dreg f91r1) (.seq (.seq (.reg f91r2) (.cond (.t 22) (.seq (.reg f91r3) .ret) .skip)) (.seq (.dreg f91r4) .ret))))⟩
/- (*towpath/seglog.Log).Read -/
def f92r0 : List AOp := [
  ⟨(some 3), .none, .box (.t 0)⟩,
  ⟨(some 4), .none, .box (.t 1)⟩,
  ⟨(some 5), .none, .box (.t 2)⟩,
  ⟨(some 6), .none, .mv (.c .nils)⟩,
  ⟨(some 7), .none, .mv (.c (.int .i64 0))⟩]
def f92r1 : List AOp := [
  ⟨(some 13), .none, .load1 (.t 3)⟩,
  ⟨(some 14), .none, .bin .eql .ptr (.t 13) (.c .nilp)⟩,
  ⟨(some 12), .none, .mv (.t 14)⟩]
def f92r2 : List AOp := [
  ⟨(some 6), .none, .mv (.c .nils)⟩,
  ⟨(some 7), .none, .mv (.c (.int .i64 1))⟩]
def f92r3 : List AOp := [
  ⟨(some 16), .none, .load1 (.t 5)⟩,
  ⟨(some 17), .none, .bin .lss .num (.t 16) (.c (.int .i64 1))⟩,
  ⟨(some 15), .none, .mv (.t 17)⟩]
def f92r4 : List AOp := [
  ⟨(some 6), .none, .mv (.c .nils)⟩,
  ⟨(some 7), .none, .mv (.c (.int .i64 2))⟩]
def f92r5 : DR := ⟨[
  ⟨(some 19), .none, .load1 (.t 4)⟩,
  ⟨(some 20), .none, .load1 (.t 3)⟩,
  ⟨(some 21), .none, .call 104 [(.t 20)]⟩,
  ⟨(some 22), .none, .bin .lss .num (.t 19) (.t 21)⟩,
  ⟨(some 23), .none, .mv (.t 22)⟩,
  ⟨(some 24), (some (23, false)), .load1 (.t 4)⟩,
  ⟨(some 25), (some (23, false)), .load1 (.t 3)⟩,
  ⟨(some 26), (some (23, false)), .call 105 [(.t 25)]⟩,
  ⟨(some 27), (some (23, false)), .bin .gtr .num (.t 24) (.t 26)⟩,
  ⟨(some 28), .none, .pick (.t 23) (.c (.bool true)) (.t 27)⟩,
  ⟨(some 18), .none, .mv (.t 28)⟩],
  [0, 0, 2, 7, 15, 31, 31, 95, 255, 511, 1023], [0, 1, 2, 3, 4, 5, 6, 7, 8, 9, 10], [(0, 1), (5, 2)], .none⟩
def f92r6 : List AOp := [
  ⟨(some 6), .none, .mv (.c .nils)⟩,
  ⟨(some 7), .none, .mv (.c (.int .i64 8))⟩]
def f92r7 : List AOp := [
  ⟨(some 8), .none, .alloc [.nils]⟩]
def f92r8 : List AOp := [
  ⟨(some 29), .none, .load1 (.t 3)⟩,
  ⟨(some 30), .none, .nilck (.t 29)⟩,
  ⟨(some 31), .none, .faddr 4 (.t 30)⟩,
  ⟨(some 32), .none, .load1 (.t 31)⟩,
  ⟨(some 33), .none, .len .slice (.t 32)⟩,
  ⟨(some 34), .none, .mkfn 179 [] [(.t 3), (.t 4)]⟩,
  ⟨(some 35), .none, .call 178 [(.t 33), (.t 34)]⟩,
  ⟨(some 36), .none, .bin .sub .num (.t 35) (.c (.int .i64 1))⟩,
  ⟨(some 9), .none, .mv (.t 36)⟩]
def f92r9 : List AOp := [
  ⟨(some 37), .none, .mv (.t 9)⟩,
  ⟨(some 38), .none, .mx [(.t 37), (.c (.int .i64 0))]⟩,
  ⟨(some 9), .none, .mv (.t 38)⟩]
def f92r10 : List AOp := [
  ⟨(some 39), .none, .mv (.t 9)⟩,
  ⟨(some 40), .none, .load1 (.t 3)⟩,
  ⟨(some 41), .none, .nilck (.t 40)⟩,
  ⟨(some 42), .none, .faddr 4 (.t 41)⟩,
  ⟨(some 43), .none, .load1 (.t 42)⟩,
  ⟨(some 44), .none, .len .slice (.t 43)⟩,
  ⟨(some 45), .none, .bin .lss .num (.t 39) (.t 44)⟩]
def f92r12 : List AOp := [
  ⟨(some 48), .none, .load1 (.t 3)⟩,
  ⟨(some 49), .none, .nilck (.t 48)⟩,
  ⟨(some 50), .none, .faddr 4 (.t 49)⟩,
  ⟨(some 51), .none, .load1 (.t 50)⟩,
  ⟨(some 52), .none, .mv (.t 9)⟩,
  ⟨(some 53), .none, .iaddr 1 (.t 51) (.t 52)⟩,
  ⟨(some 54), .none, .load1 (.t 53)⟩,
  ⟨(some 10), .none, .mv (.t 54)⟩]
def f92r13 : DR := ⟨[
  ⟨(some 55), .none, .load1 (.t 3)⟩,
  ⟨(some 56), .none, .mv (.t 10)⟩,
  ⟨(some 57), .none, .mv (.t 10)⟩,
  ⟨(some 58), .none, .load1 (.t 4)⟩,
  ⟨(some 59), .none, .call 181 [(.t 57), (.t 58)]⟩,
  ⟨(some 60), .none, .mkfn 182 [] [(.t 4), (.t 8), (.t 5)]⟩,
  ⟨(some 61), .none, .call 180 [(.t 55), (.t 56), (.t 59), (.t 60)]⟩,
  ⟨(some 11), .none, .mv (.t 61)⟩],
  [0, 0, 0, 0, 12, 0, 63, 127], [0, 1, 2, 3, 4, 5, 6, 7], [(0, 1)], .none⟩
def f92r14 : List AOp := [
  ⟨(some 62), .none, .mv (.t 11)⟩,
  ⟨(some 63), .none, .un .not (.t 62)⟩]
def f92r11 : List AOp := [
  ⟨(some 46), .none, .mv (.t 9)⟩,
  ⟨(some 47), .none, .bin .add .num (.t 46) (.c (.int .i64 1))⟩,
  ⟨(some 9), .none, .mv (.t 47)⟩]
def f92r15 : List AOp := [
  ⟨(some 64), .none, .load1 (.t 8)⟩,
  ⟨(some 6), .none, .mv (.t 64)⟩,
  ⟨(some 7), .none, .mv (.c (.int .i64 0))⟩]
def f92 : AF := ⟨65, [.tmp 6, .tmp 7], (.seq (.reg f92r0) (.scope (.seq (.block 0 (.seq (.reg f92r1) (.cond (.t 12) (.seq (.reg f92r2) .ret) (.seq (.reg f92r3) (.cond (.t 15) (.seq (.reg f92r4) .ret) (.seq (.dreg f92r5) (.cond (.t 18) (.seq (.reg f92r6) .ret) .skip))))))) (.seq (.reg f92r7) (.seq (.reg f92r8) (.seq .skip (.seq (.seq (.reg f92r9) (.block 1 (.loop (.seq (.seq (.reg f92r10) (.cond (.t 45) .skip (.exit 1))) (.seq (.block 2 (.seq (.reg f92r12) (.seq (.dreg f92r13) (.seq (.reg f92r14) (.cond (.t 63) (.exit 1) .skip))))) (.reg f92r11)))))) (.seq (.reg f92r15) .ret))))))))⟩
/- (*towpath/iso.View).Fate -/
def f93r0 : List AOp := [
  ⟨(some 3), .none, .box (.t 1)⟩,
  ⟨(some 4), .none, .mv (.c (.int .i64 0))⟩]
def f93r1 : List AOp := [
  ⟨(some 7), .none, .mv (.t 0)⟩,
  ⟨(some 8), .none, .bin .eql .ptr (.t 7) (.c .nilp)⟩]
def f93r2 : List AOp := [
  ⟨(some 4), .none, .mv (.c (.int .i64 0))⟩]
def f93r3 : DR := ⟨[
  ⟨(some 10), .none, .mv (.t 0)⟩,
  ⟨(some 11), .none, .nilck (.t 10)⟩,
  ⟨(some 12), .none, .faddr 2 (.t 11)⟩,
  ⟨(some 13), .none, .load1 (.t 12)⟩,
  ⟨(some 14), .none, .faddr 1 (.t 3)⟩,
  ⟨(some 15), .none, .load1 (.t 14)⟩,
  ⟨(some 16), .none, .faddr 2 (.t 3)⟩,
  ⟨(some 17), .none, .load1 (.t 16)⟩,
  ⟨(some 18), .none, .build [(.int .i64 0), (.int .i64 0)] [(0, 1, (.t 15)), (1, 1, (.t 17))]⟩,
  ⟨(some 19), .none, .look (.agg [.num, .num]) (.agg [(.int .i64 0), (.int .i64 0), (.int .i64 0), (.int .i64 0)]) true (.t 13) (.t 18)⟩,
  ⟨(some 9), .none, .mv (.t 19)⟩,
  ⟨(some 20), .none, .ext (.t 9) 0⟩,
  ⟨(some 21), .none, .ext (.t 9) 1⟩,
  ⟨(some 5), .none, .alloc [(.int .i64 0), (.int .i64 0), (.int .i64 0), (.int .i64 0)]⟩,
  ⟨.none, .none, .store 4 (.t 5) (.t 20)⟩,
  ⟨(some 6), .none, .mv (.t 21)⟩],
  [0, 1, 3, 7, 0, 16, 0, 64, 240, 511, 1023, 2047, 2047, 0, 12287, 32767], [0, 1, 2, 3, 4, 5, 6, 7, 8, 9, 10, 11, 12, 13, 14, 15], [(3, 1), (5, 1), (7, 1), (9, 1)], .none⟩
def f93r4 : List AOp := [
  ⟨(some 23), .none, .loadn 7 (.t 3)⟩,
  ⟨(some 24), .none, .call 184 [(.t 23)]⟩,
  ⟨(some 22), .none, .mv (.t 24)⟩]
def f93r5 : List AOp := [
  ⟨(some 4), .none, .mv (.c (.int .i64 3))⟩]
def f93r6 : DR := ⟨[
  ⟨(some 26), .none, .faddr 0 (.t 3)⟩,
  ⟨(some 27), .none, .load1 (.t 26)⟩,
  ⟨(some 28), .none, .mv (.t 0)⟩,
  ⟨(some 29), .none, .call 107 [(.t 28)]⟩,
  ⟨(some 30), .none, .bin .geq .num (.t 27) (.t 29)⟩,
  ⟨(some 25), .none, .mv (.t 30)⟩],
  [0, 1, 0, 4, 15, 31], [0, 1, 2, 3, 4, 5], [(1, 1)], .none⟩
def f93r7 : List AOp := [
  ⟨(some 4), .none, .mv (.c (.int .i64 0))⟩]
def f93r8 : List AOp := [
  ⟨(some 32), .none, .faddr 4 (.t 3)⟩,
  ⟨(some 33), .none, .load1 (.t 32)⟩,
  ⟨(some 34), .none, .bin .eql .num (.t 33) (.c (.int .i64 1))⟩,
  ⟨(some 35), .none, .mv (.t 34)⟩,
  ⟨(some 36), (some (35, true)), .mv (.t 6)⟩,
  ⟨(some 37), .none, .pick (.t 35) (.t 36) (.c (.bool false))⟩,
  ⟨(some 38), .none, .mv (.t 37)⟩,
  ⟨(some 39), (some (38, true)), .faddr 0 (.t 3)⟩,
  ⟨(some 40), (some (38, true)), .load1 (.t 39)⟩,
  ⟨(some 41), (some (38, true)), .faddr 2 (.t 5)⟩,
  ⟨(some 42), (some (38, true)), .load1 (.t 41)⟩,
  ⟨(some 43), (some (38, true)), .bin .geq .num (.t 40) (.t 42)⟩,
  ⟨(some 44), .none, .pick (.t 38) (.t 43) (.c (.bool false))⟩,
  ⟨(some 31), .none, .mv (.t 44)⟩]
def f93r9 : List AOp := [
  ⟨(some 4), .none, .mv (.c (.int .i64 2))⟩]
def f93r10 : List AOp := [
  ⟨(some 4), .none, .mv (.c (.int .i64 1))⟩]
def f93 : AF := ⟨45, [.tmp 4], (.seq (.reg f93r0) (.seq (.seq (.reg f93r1) (.cond (.t 8) (.seq (.reg f93r2) .ret) .skip)) (.seq (.dreg f93r3) (.seq (.block 0 (.seq (.reg f93r4) (.cond (.t 22) (.seq (.reg f93r5) .ret) (.seq (.dreg f93r6) (.cond (.t 25) (.seq (.reg f93r7) .ret) (.seq (.reg f93r8) (.cond (.t 31) (.seq (.reg f93r9) .ret) .skip))))))) (.seq (.reg f93r10) .ret)))))⟩
/- towpath/rec.Flat -/
def f94r0 : List AOp := [
  ⟨(some 2), .none, .mv (.c .nils)⟩]
def f94r1 : List AOp := [
  ⟨(some 3), .none, .mv (.c .nils)⟩]
def f94r2 : List AOp := [
  ⟨(some 8), .none, .mv (.t 0)⟩,
  ⟨(some 9), .none, .len .slice (.t 8)⟩,
  ⟨(some 10), .none, .mv (.c (.int .i64 0))⟩]
def f94r3 : List AOp := [
  ⟨(some 11), .none, .bin .lss .num (.t 10) (.t 9)⟩]
def f94r4 : List AOp := [
  ⟨(some 12), .none, .iaddr 7 (.t 8) (.t 10)⟩,
  ⟨(some 13), .none, .loadn 7 (.t 12)⟩,
  ⟨(some 5), .none, .alloc [(.int .i64 0), (.int .i64 0), (.int .i64 0), (.int .i64 0), (.int .i64 0), (.int .i64 0), .nils]⟩,
  ⟨.none, .none, .store 7 (.t 5) (.t 13)⟩]
def f94r5 : List AOp := [
  ⟨(some 14), .none, .loadn 7 (.t 5)⟩,
  ⟨(some 15), .none, .call 185 [(.t 14)]⟩]
def f94r6 : List AOp := [
  ⟨(some 16), .none, .faddr 6 (.t 5)⟩,
  ⟨(some 17), .none, .load1 (.t 16)⟩,
  ⟨(some 18), .none, .len .slice (.t 17)⟩,
  ⟨(some 19), .none, .mv (.c (.int .i64 0))⟩]
def f94r7 : List AOp := [
  ⟨(some 20), .none, .bin .lss .num (.t 19) (.t 18)⟩]
def f94r8 : List AOp := [
  ⟨(some 21), .none, .mv (.t 19)⟩,
  ⟨(some 22), .none, .iaddr 4 (.t 17) (.t 19)⟩,
  ⟨(some 23), .none, .loadn 4 (.t 22)⟩,
  ⟨(some 7), .none, .alloc [(.str []), (.str []), (.bool false), (.int .i64 0)]⟩,
  ⟨(some 6), .none, .mv (.t 21)⟩,
  ⟨.none, .none, .store 4 (.t 7) (.t 23)⟩]
def f94r9 : List AOp := [
  ⟨(some 24), .none, .mv (.t 3)⟩,
  ⟨(some 25), .none, .faddr 0 (.t 5)⟩,
  ⟨(some 26), .none, .load1 (.t 25)⟩,
  ⟨(some 27), .none, .mv (.t 6)⟩,
  ⟨(some 28), .none, .bin .add .num (.t 26) (.t 27)⟩,
  ⟨(some 29), .none, .loadn 4 (.t 7)⟩,
  ⟨(some 30), .none, .build [(.int .i64 0), (.str []), (.str []), (.bool false), (.int .i64 0)] [(0, 1, (.t 28)), (1, 4, (.t 29))]⟩,
  ⟨(some 31), .none, .bsl false 5 1 [(.int .i64 0), (.str []), (.str []), (.bool false), (.int .i64 0)] [(0, 5, (.t 30))]⟩,
  ⟨(some 32), .none, .app false 5 56 (.t 24) (.t 31)⟩,
  ⟨(some 3), .none, .mv (.t 32)⟩]
def f94r10 : List AOp := [
  ⟨(some 33), .none, .bin .add .num (.t 19) (.c (.int .i64 1))⟩,
  ⟨(some 19), .none, .mv (.t 33)⟩]
def f94r11 : List AOp := [
  ⟨(some 34), .none, .bin .add .num (.t 10) (.c (.int .i64 1))⟩,
  ⟨(some 10), .none, .mv (.t 34)⟩]
def f94r12 : List AOp := [
  ⟨(some 35), .none, .mv (.t 3)⟩,
  ⟨(some 2), .none, .mv (.t 35)⟩]
def f94 : AF := ⟨36, [.tmp 2], (.seq (.reg f94r0) (.seq (.reg f94r1) (.seq (.seq (.reg f94r2) (.block 0 (.loop (.seq (.reg f94r3) (.seq (.cond (.t 11) .skip (.exit 0)) (.seq (.block 1 (.seq (.reg f94r4) (.seq (.seq (.reg f94r5) (.cond (.t 15) (.exit 1) .skip)) (.seq (.reg f94r6) (.block 2 (.loop (.seq (.reg f94r7) (.seq (.cond (.t 20) .skip (.exit 2)) (.seq (.block 3 (.seq (.reg f94r8) (.reg f94r9))) (.reg f94r10)))))))))) (.reg f94r11))))))) (.seq (.reg f94r12) .ret))))⟩
/- towpath/rec.Next -/
def f95r0 : List AOp := [
  ⟨(some 1), .none, .box (.t 0)⟩,
  ⟨(some 2), .none, .mv (.c (.int .i64 0))⟩]
def f95r1 : List AOp := [
  ⟨(some 3), .none, .loadn 7 (.t 1)⟩,
  ⟨(some 4), .none, .call 186 [(.t 3)]⟩,
  ⟨(some 5), .none, .bin .neq .num (.t 4) (.c (.int .i64 0))⟩]
def f95r2 : List AOp := [
  ⟨(some 2), .none, .mv (.c (.int .i64 0))⟩]
def f95r3 : DR := ⟨[
  ⟨(some 6), .none, .faddr 0 (.t 1)⟩,
  ⟨(some 7), .none, .load1 (.t 6)⟩,
  ⟨(some 8), .none, .loadn 7 (.t 1)⟩,
  ⟨(some 9), .none, .call 187 [(.t 8)]⟩,
  ⟨(some 10), .none, .bin .add .num (.t 7) (.t 9)⟩,
  ⟨(some 2), .none, .mv (.t 10)⟩],
  [0, 1, 0, 4, 15, 31], [0, 1, 2, 3, 4, 5], [(1, 1)], .none⟩
def f95 : AF := ⟨11, [.tmp 2], (.seq (.reg f95r0) (.seq (.seq (.reg f95r1) (.cond (.t 5) (.seq (.reg f95r2) .ret) .skip)) (.seq (.dreg f95r3) .ret)))⟩
/- (*towpath/seglog.Log).First -/
def f104r0 : List AOp := [
  ⟨(some 2), .none, .mv (.c (.int .i64 0))⟩]
def f104r1 : List AOp := [
  ⟨(some 3), .none, .mv (.t 0)⟩,
  ⟨(some 4), .none, .bin .eql .ptr (.t 3) (.c .nilp)⟩,
  ⟨(some 5), .none, .mv (.t 4)⟩,
  ⟨(some 6), (some (5, false)), .mv (.t 0)⟩,
  ⟨(some 7), (some (5, false)), .nilck (.t 6)⟩,
  ⟨(some 8), (some (5, false)), .faddr 4 (.t 7)⟩,
  ⟨(some 9), (some (5, false)), .load1 (.t 8)⟩,
  ⟨(some 10), (some (5, false)), .len .slice (.t 9)⟩,
  ⟨(some 11), (some (5, false)), .bin .eql .num (.t 10) (.c (.int .i64 0))⟩,
  ⟨(some 12), .none, .pick (.t 5) (.c (.bool true)) (.t 11)⟩]
def f104r2 : List AOp := [
  ⟨(some 2), .none, .mv (.c (.int .i64 0))⟩]
def f104r3 : List AOp := [
  ⟨(some 13), .none, .mv (.t 0)⟩,
  ⟨(some 14), .none, .nilck (.t 13)⟩,
  ⟨(some 15), .none, .faddr 4 (.t 14)⟩,
  ⟨(some 16), .none, .load1 (.t 15)⟩,
  ⟨(some 17), .none, .iaddr 1 (.t 16) (.c (.int .i64 0))⟩,
  ⟨(some 18), .none, .load1 (.t 17)⟩,
  ⟨(some 19), .none, .nilck (.t 18)⟩,
  ⟨(some 20), .none, .faddr 1 (.t 19)⟩,
  ⟨(some 21), .none, .load1 (.t 20)⟩,
  ⟨(some 2), .none, .mv (.t 21)⟩]
def f104 : AF := ⟨22, [.tmp 2], (.seq (.reg f104r0) (.seq (.seq (.reg f104r1) (.cond (.t 12) (.seq (.reg f104r2) .ret) .skip)) (.seq (.reg f104r3) .ret)))⟩
/- (*towpath/seglog.Log).Next -/
def f105r0 : List AOp := [
  ⟨(some 2), .none, .mv (.c (.int .i64 0))⟩]
def f105r1 : List AOp := [
  ⟨(some 3), .none, .mv (.t 0)⟩,
  ⟨(some 4), .none, .bin .eql .ptr (.t 3) (.c .nilp)⟩,
  ⟨(some 5), .none, .mv (.t 4)⟩,
  ⟨(some 6), (some (5, false)), .mv (.t 0)⟩,
  ⟨(some 7), (some (5, false)), .nilck (.t 6)⟩,
  ⟨(some 8), (some (5, false)), .faddr 4 (.t 7)⟩,
  ⟨(some 9), (some (5, false)), .load1 (.t 8)⟩,
  ⟨(some 10), (some (5, false)), .len .slice (.t 9)⟩,
  ⟨(some 11), (some (5, false)), .bin .eql .num (.t 10) (.c (.int .i64 0))⟩,
  ⟨(some 12), .none, .pick (.t 5) (.c (.bool true)) (.t 11)⟩]
def f105r2 : List AOp := [
  ⟨(some 2), .none, .mv (.c (.int .i64 0))⟩]
def f105r3 : List AOp := [
  ⟨(some 13), .none, .mv (.t 0)⟩,
  ⟨(some 14), .none, .call 205 [(.t 13)]⟩,
  ⟨(some 15), .none, .call 206 [(.t 14)]⟩,
  ⟨(some 2), .none, .mv (.t 15)⟩]
def f105 : AF := ⟨16, [.tmp 2], (.seq (.reg f105r0) (.seq (.seq (.reg f105r1) (.cond (.t 12) (.seq (.reg f105r2) .ret) .skip)) (.seq (.reg f105r3) .ret)))⟩
/- (*towpath/iso.View).Open -/
def f106r0 : List AOp := [
  ⟨(some 2), .none, .mv (.c .nils)⟩]
def f106r1 : List AOp := [
  ⟨(some 6), .none, .mv (.t 0)⟩,
  ⟨(some 7), .none, .bin .eql .ptr (.t 6) (.c .nilp)⟩]
def f106r2 : List AOp := [
  ⟨(some 2), .none, .mv (.c .nils)⟩]
def f106r3 : List AOp := [
  ⟨(some 3), .none, .mv (.c .nils)⟩]
def f106r4 : List AOp := [
  ⟨(some 8), .none, .mv (.t 0)⟩,
  ⟨(some 9), .none, .nilck (.t 8)⟩,
  ⟨(some 10), .none, .faddr 1 (.t 9)⟩,
  ⟨(some 11), .none, .load1 (.t 10)⟩,
  ⟨(some 12), .none, .range (.t 11)⟩]
def f106r5 : List AOp := [
  ⟨(some 13), .none, .next (.t 12)⟩,
  ⟨(some 14), .none, .ext (.t 13) 0⟩]
def f106r6 : List AOp := [
  ⟨(some 15), .none, .entry (.t 12)⟩,
  ⟨(some 16), .none, .ext (.t 15) 1⟩,
  ⟨(some 5), .none, .alloc [(.int .i64 0), (.int .i64 0), (.int .i64 0), (.int .i64 0)]⟩,
  ⟨.none, .none, .store 4 (.t 5) (.t 16)⟩]
def f106r7 : List AOp := [
  ⟨(some 17), .none, .mv (.t 3)⟩,
  ⟨(some 18), .none, .loadn 4 (.t 5)⟩,
  ⟨(some 19), .none, .call 207 [(.t 18)]⟩,
  ⟨(some 20), .none, .bsl false 4 1 [(.int .i64 0), (.int .i64 0), (.int .i64 0), (.int .i64 0)] [(0, 4, (.t 19))]⟩,
  ⟨(some 21), .none, .app false 4 32 (.t 17) (.t 20)⟩,
  ⟨(some 3), .none, .mv (.t 21)⟩]
def f106r8 : List AOp := [
  ⟨(some 22), .none, .mv (.t 3)⟩,
  ⟨(some 23), .none, .call 208 [(.t 22), (.c (.fn 209 [] []))]⟩]
def f106r9 : List AOp := [
  ⟨(some 24), .none, .mv (.t 3)⟩,
  ⟨(some 2), .none, .mv (.t 24)⟩]
def f106 : AF := ⟨25, [.tmp 2], (.seq (.reg f106r0) (.seq (.seq (.reg f106r1) (.cond (.t 7) (.seq (.reg f106r2) .ret) .skip)) (.seq (.reg f106r3) (.seq (.seq (.reg f106r4) (.block 0 (.loop (.seq (.reg f106r5) (.seq (.cond (.t 14) .skip (.exit 0)) (.block 1 (.seq (.reg f106r6) (.reg f106r7)))))))) (.seq (.reg f106r8) (.seq (.reg f106r9) .ret))))))⟩
/- (*towpath/iso.View).Stable -/
def f107r0 : List AOp := [
  ⟨(some 2), .none, .mv (.c (.int .i64 0))⟩]
def f107r1 : List AOp := [
  ⟨(some 6), .none, .mv (.t 0)⟩,
  ⟨(some 7), .none, .bin .eql .ptr (.t 6) (.c .nilp)⟩]
def f107r2 : List AOp := [
  ⟨(some 2), .none, .mv (.c (.int .i64 0))⟩]
def f107r3 : List AOp := [
  ⟨(some 8), .none, .mv (.t 0)⟩,
  ⟨(some 9), .none, .nilck (.t 8)⟩,
  ⟨(some 10), .none, .faddr 0 (.t 9)⟩,
  ⟨(some 11), .none, .load1 (.t 10)⟩,
  ⟨(some 3), .none, .mv (.t 11)⟩]
def f107r4 : List AOp := [
  ⟨(some 12), .none, .mv (.t 0)⟩,
  ⟨(some 13), .none, .nilck (.t 12)⟩,
  ⟨(some 14), .none, .faddr 1 (.t 13)⟩,
  ⟨(some 15), .none, .load1 (.t 14)⟩,
  ⟨(some 16), .none, .range (.t 15)⟩]
def f107r5 : List AOp := [
  ⟨(some 17), .none, .next (.t 16)⟩,
  ⟨(some 18), .none, .ext (.t 17) 0⟩]
def f107r6 : List AOp := [
  ⟨(some 19), .none, .entry (.t 16)⟩,
  ⟨(some 20), .none, .ext (.t 19) 1⟩,
  ⟨(some 5), .none, .alloc [(.int .i64 0), (.int .i64 0), (.int .i64 0), (.int .i64 0)]⟩,
  ⟨.none, .none, .store 4 (.t 5) (.t 20)⟩]
def f107r7 : List AOp := [
  ⟨(some 21), .none, .mv (.t 3)⟩,
  ⟨(some 22), .none, .faddr 2 (.t 5)⟩,
  ⟨(some 23), .none, .load1 (.t 22)⟩,
  ⟨(some 24), .none, .mn [(.t 21), (.t 23)]⟩,
  ⟨(some 3), .none, .mv (.t 24)⟩]
def f107r8 : List AOp := [
  ⟨(some 25), .none, .mv (.t 3)⟩,
  ⟨(some 2), .none, .mv (.t 25)⟩]
def f107 : AF := ⟨26, [.tmp 2], (.seq (.reg f107r0) (.seq (.seq (.reg f107r1) (.cond (.t 7) (.seq (.reg f107r2) .ret) .skip)) (.seq (.reg f107r3) (.seq (.seq (.reg f107r4) (.block 0 (.loop (.seq (.reg f107r5) (.seq (.cond (.t 18) .skip (.exit 0)) (.block 1 (.seq (.reg f107r6) (.reg f107r7)))))))) (.seq (.reg f107r8) .ret)))))⟩
/- (*towpath/compact.Table).Get -/
def f108r0 : List AOp := [
  ⟨(some 4), .none, .alloc [(.int .i64 0), (.str []), (.str []), (.bool false), (.int .i64 0)]⟩,
  ⟨(some 5), .none, .mv (.c (.bool false))⟩]
def f108r1 : List AOp := [
  ⟨(some 8), .none, .mv (.t 0)⟩,
  ⟨(some 9), .none, .bin .eql .ptr (.t 8) (.c .nilp)⟩]
def f108r2 : List AOp := [
  ⟨(some 10), .none, .build [(.int .i64 0), (.str []), (.str []), (.bool false), (.int .i64 0)] []⟩,
  ⟨.none, .none, .store 5 (.t 4) (.t 10)⟩,
  ⟨(some 5), .none, .mv (.c (.bool false))⟩]
def f108r3 : List AOp := [
  ⟨(some 12), .none, .mv (.t 0)⟩,
  ⟨(some 13), .none, .mv (.t 1)⟩,
  ⟨(some 14), .none, .call 211 [(.t 12), (.t 13)]⟩,
  ⟨(some 11), .none, .mv (.t 14)⟩,
  ⟨(some 15), .none, .ext (.t 11) 0⟩,
  ⟨(some 16), .none, .ext (.t 11) 1⟩,
  ⟨(some 6), .none, .mv (.t 15)⟩,
  ⟨(some 7), .none, .mv (.t 16)⟩]
def f108r4 : List AOp := [
  ⟨(some 17), .none, .mv (.t 7)⟩,
  ⟨(some 18), .none, .un .not (.t 17)⟩]
def f108r5 : List AOp := [
  ⟨(some 19), .none, .build [(.int .i64 0), (.str []), (.str []), (.bool false), (.int .i64 0)] []⟩,
  ⟨.none, .none, .store 5 (.t 4) (.t 19)⟩,
  ⟨(some 5), .none, .mv (.c (.bool false))⟩]
def f108r6 : List AOp := [
  ⟨(some 20), .none, .mv (.t 0)⟩,
  ⟨(some 21), .none, .nilck (.t 20)⟩,
  ⟨(some 22), .none, .faddr 1 (.t 21)⟩,
  ⟨(some 23), .none, .load1 (.t 22)⟩,
  ⟨(some 24), .none, .mv (.t 6)⟩,
  ⟨(some 25), .none, .iaddr 5 (.t 23) (.t 24)⟩,
  ⟨(some 26), .none, .loadn 5 (.t 25)⟩,
  ⟨.none, .none, .store 5 (.t 4) (.t 26)⟩,
  ⟨(some 5), .none, .mv (.c (.bool true))⟩]
def f108 : AF := ⟨27, [.celln 4 5, .tmp 5], (.seq (.reg f108r0) (.seq (.seq (.reg f108r1) (.cond (.t 9) (.seq (.reg f108r2) .ret) .skip)) (.seq (.reg f108r3) (.seq (.seq (.reg f108r4) (.cond (.t 18) (.seq (.reg f108r5) .ret) .skip)) (.seq (.reg f108r6) .ret)))))⟩
/- (*towpath/compact.Table).Apply -/
def f109r0 : List AOp := [
  ⟨(some 4), .none, .mv (.c (.int .i64 0))⟩]
def f109r1 : List AOp := [
  ⟨(some 8), .none, .mv (.t 0)⟩,
  ⟨(some 9), .none, .bin .eql .ptr (.t 8) (.c .nilp)⟩,
  ⟨(some 7), .none, .mv (.t 9)⟩]
def f109r2 : List AOp := [
  ⟨(some 4), .none, .mv (.c (.int .i64 1))⟩]
def f109r3 : List AOp := [
  ⟨(some 11), .none, .mv (.t 0)⟩,
  ⟨(some 12), .none, .nilck (.t 11)⟩,
  ⟨(some 13), .none, .faddr 0 (.t 12)⟩,
  ⟨(some 14), .none, .load1 (.t 13)⟩,
  ⟨(some 15), .none, .mv (.t 1)⟩,
  ⟨(some 16), .none, .call 200 [(.t 14), (.t 15)]⟩,
  ⟨(some 17), .none, .un .not (.t 16)⟩,
  ⟨(some 18), .none, .mv (.t 17)⟩,
  ⟨(some 19), (some (18, false)), .mv (.t 1)⟩,
  ⟨(some 20), (some (18, false)), .len .slice (.t 19)⟩,
  ⟨(some 21), (some (18, false)), .bin .gtr .num (.t 20) (.c (.int .i64 0))⟩,
  ⟨(some 22), (some (18, false)), .mv (.t 21)⟩,
  ⟨(some 23), (some (22, true)), .mv (.t 1)⟩,
  ⟨(some 24), (some (22, true)), .mv (.t 1)⟩,
  ⟨(some 25), (some (22, true)), .len .slice (.t 24)⟩,
  ⟨(some 26), (some (22, true)), .bin .sub .num (.t 25) (.c (.int .i64 1))⟩,
  ⟨(some 27), (some (22, true)), .iaddr 5 (.t 23) (.t 26)⟩,
  ⟨(some 28), (some (22, true)), .faddr 0 (.t 27)⟩,
  ⟨(some 29), (some (22, true)), .load1 (.t 28)⟩,
  ⟨(some 30), (some (22, true)), .bin .gtr .num (.t 29) (.c (.int .i64 1099511627776))⟩,
  ⟨(some 31), (some (18, false)), .pick (.t 22) (.t 30) (.c (.bool false))⟩,
  ⟨(some 32), .none, .pick (.t 18) (.c (.bool true)) (.t 31)⟩,
  ⟨(some 10), .none, .mv (.t 32)⟩]
def f109r4 : List AOp := [
  ⟨(some 4), .none, .mv (.c (.int .i64 8))⟩]
def f109r5 : List AOp := [
  ⟨(some 33), .none, .mv (.t 1)⟩,
  ⟨(some 34), .none, .len .slice (.t 33)⟩,
  ⟨(some 35), .none, .mv (.c (.int .i64 0))⟩]
def f109r6 : List AOp := [
  ⟨(some 36), .none, .bin .lss .num (.t 35) (.t 34)⟩]
def f109r7 : List AOp := [
  ⟨(some 37), .none, .iaddr 5 (.t 33) (.t 35)⟩,
  ⟨(some 38), .none, .loadn 5 (.t 37)⟩,
  ⟨(some 6), .none, .alloc [(.int .i64 0), (.str []), (.str []), (.bool false), (.int .i64 0)]⟩,
  ⟨.none, .none, .store 5 (.t 6) (.t 38)⟩]
def f109r8 : List AOp := [
  ⟨(some 39), .none, .mv (.t 0)⟩,
  ⟨(some 40), .none, .loadn 5 (.t 6)⟩,
  ⟨(some 41), .none, .call 212 [(.t 39), (.t 40)]⟩]
def f109r9 : List AOp := [
  ⟨(some 42), .none, .bin .add .num (.t 35) (.c (.int .i64 1))⟩,
  ⟨(some 35), .none, .mv (.t 42)⟩]
def f109r10 : List AOp := [
  ⟨(some 4), .none, .mv (.c (.int .i64 0))⟩]
def f109 : AF := ⟨43, [.tmp 4], (.seq (.reg f109r0) (.seq (.block 0 (.seq (.reg f109r1) (.cond (.t 7) (.seq (.reg f109r2) .ret) (.seq (.reg f109r3) (.cond (.t 10) (.seq (.reg f109r4) .ret) .skip))))) (.seq (.seq (.reg f109r5) (.block 1 (.loop (.seq (.reg f109r6) (.seq (.cond (.t 36) .skip (.exit 1)) (.seq (.block 2 (.seq (.reg f109r7) (.reg f109r8))) (.reg f109r9))))))) (.seq (.reg f109r10) .ret))))⟩
/- (*towpath/offsets.Offsets).read -/
def f132r0 : DR := ⟨[
  ⟨(some 10), .none, .mv (.t 0)⟩,
  ⟨(some 11), .none, .nilck (.t 10)⟩,
  ⟨(some 12), .none, .faddr 0 (.t 11)⟩,
  ⟨(some 13), .none, .load1 (.t 12)⟩,
  ⟨(some 14), .none, .mv (.t 0)⟩,
  ⟨(some 15), .none, .nilck (.t 14)⟩,
  ⟨(some 16), .none, .faddr 1 (.t 15)⟩,
  ⟨(some 17), .none, .load1 (.t 16)⟩,
  ⟨(some 18), .none, .call 25 [(.t 13), (.t 17), (.c (.int .i64 1099511627776)), (.c (.bool true))]⟩,
  ⟨(some 9), .none, .mv (.t 18)⟩,
  ⟨(some 19), .none, .ext (.t 9) 0⟩,
  ⟨(some 20), .none, .ext (.t 9) 1⟩,
  ⟨(some 21), .none, .ext (.t 9) 2⟩,
  ⟨(some 2), .none, .mv (.t 19)⟩,
  ⟨(some 3), .none, .mv (.t 20)⟩,
  ⟨(some 4), .none, .mv (.t 21)⟩],
  [0, 1, 3, 7, 0, 16, 48, 112, 255, 511, 1023, 1023, 1023, 2047, 12287, 32767], [0, 1, 2, 3, 4, 5, 6, 7, 8, 9, 10, 11, 12, 13, 14, 15], [], .none⟩
def f132r1 : List AOp := [
  ⟨(some 22), .none, .mv (.t 4)⟩,
  ⟨(some 23), .none, .bin .neq .num (.t 22) (.c (.int .i64 0))⟩]
def f132r2 : List AOp := [
  ⟨(some 24), .none, .mv (.t 2)⟩,
  ⟨(some 25), .none, .len .slice (.t 24)⟩,
  ⟨(some 26), .none, .mv (.c (.int .i64 0))⟩]
def f132r3 : List AOp := [
  ⟨(some 27), .none, .bin .lss .num (.t 26) (.t 25)⟩]
def f132r4 : List AOp := [
  ⟨(some 28), .none, .iaddr 5 (.t 24) (.t 26)⟩,
  ⟨(some 29), .none, .loadn 5 (.t 28)⟩,
  ⟨(some 6), .none, .alloc [(.int .i64 0), (.str []), (.str []), (.bool false), (.int .i64 0)]⟩,
  ⟨.none, .none, .store 5 (.t 6) (.t 29)⟩]
def f132r5 : List AOp := [
  ⟨(some 31), .none, .faddr 1 (.t 6)⟩,
  ⟨(some 32), .none, .loadn 4 (.t 31)⟩,
  ⟨(some 33), .none, .call 18 [(.t 32)]⟩,
  ⟨(some 30), .none, .mv (.t 33)⟩,
  ⟨(some 34), .none, .ext (.t 30) 0⟩,
  ⟨(some 35), .none, .ext (.t 30) 1⟩,
  ⟨(some 7), .none, .alloc [(.int .i64 0), (.int .i64 0), (.int .i64 0), (.int .i64 0)]⟩,
  ⟨.none, .none, .store 4 (.t 7) (.t 34)⟩,
  ⟨(some 8), .none, .mv (.t 35)⟩]
def f132r6 : List AOp := [
  ⟨(some 36), .none, .mv (.t 8)⟩,
  ⟨(some 37), .none, .bin .eql .num (.t 36) (.c (.int .i64 0))⟩]
def f132r7 : DR := ⟨[
  ⟨(some 38), .none, .mv (.t 0)⟩,
  ⟨(some 39), .none, .nilck (.t 38)⟩,
  ⟨(some 40), .none, .faddr 2 (.t 39)⟩,
  ⟨(some 41), .none, .load1 (.t 40)⟩,
  ⟨(some 42), .none, .loadn 5 (.t 6)⟩,
  ⟨(some 43), .none, .bsl false 5 1 [(.int .i64 0), (.str []), (.str []), (.bool false), (.int .i64 0)] [(0, 5, (.t 42))]⟩,
  ⟨(some 44), .none, .call 109 [(.t 41), (.t 43)]⟩],
  [0, 1, 3, 7, 0, 16, 63], [0, 1, 2, 3, 4, 5, 6], [], .none⟩
def f132r8 : List AOp := [
  ⟨(some 45), .none, .bin .add .num (.t 26) (.c (.int .i64 1))⟩,
  ⟨(some 26), .none, .mv (.t 45)⟩]
def f132r9 : List AOp := [
  ⟨(some 46), .none, .mv (.t 0)⟩,
  ⟨(some 47), .none, .mv (.t 3)⟩,
  ⟨(some 48), .none, .nilck (.t 46)⟩,
  ⟨(some 49), .none, .faddr 1 (.t 48)⟩,
  ⟨.none, .none, .store 1 (.t 49) (.t 47)⟩]
def f132 : AF := ⟨50, [], (.seq (.dreg f132r0) (.seq (.seq (.reg f132r1) (.cond (.t 23) .ret .skip)) (.seq (.seq (.reg f132r2) (.block 0 (.loop (.seq (.reg f132r3) (.seq (.cond (.t 27) .skip (.exit 0)) (.seq (.block 1 (.seq (.reg f132r4) (.seq (.reg f132r5) (.seq (.reg f132r6) (.cond (.t 37) (.dreg f132r7) .skip))))) (.reg f132r8))))))) (.reg f132r9))))⟩
/- towpath/offsets.ended -/
def f134r0 : List AOp := [
  ⟨(some 2), .none, .box (.t 0)⟩,
  ⟨(some 4), .none, .mv (.c (.bool false))⟩]
def f134r1 : List AOp := [
  ⟨(some 5), .none, .mv (.t 1)⟩,
  ⟨(some 6), .none, .mkfn 225 [] [(.t 2)]⟩,
  ⟨(some 7), .none, .call 224 [(.t 5), (.t 6)]⟩,
  ⟨(some 4), .none, .mv (.t 7)⟩]
def f134 : AF := ⟨8, [.tmp 4], (.seq (.reg f134r0) (.seq (.reg f134r1) .ret))⟩
/- towpath/seglog.Prefix -/
def f135r0 : List AOp := [
  ⟨(some 2), .none, .mv (.c (.bool false))⟩]
def f135r1 : List AOp := [
  ⟨(some 5), .none, .mv (.t 0)⟩,
  ⟨(some 6), .none, .len .str (.t 5)⟩,
  ⟨(some 7), .none, .bin .lss .num (.t 6) (.c (.int .i64 1))⟩,
  ⟨(some 8), .none, .mv (.t 7)⟩,
  ⟨(some 9), (some (8, false)), .mv (.t 0)⟩,
  ⟨(some 10), (some (8, false)), .len .str (.t 9)⟩,
  ⟨(some 11), (some (8, false)), .bin .gtr .num (.t 10) (.c (.int .i64 8))⟩,
  ⟨(some 12), .none, .pick (.t 8) (.c (.bool true)) (.t 11)⟩]
def f135r2 : List AOp := [
  ⟨(some 2), .none, .mv (.c (.bool false))⟩]
def f135r3 : List AOp := [
  ⟨(some 13), .none, .mv (.t 0)⟩,
  ⟨(some 14), .none, .conv .toBytes (.t 13)⟩,
  ⟨(some 15), .none, .len .slice (.t 14)⟩,
  ⟨(some 16), .none, .mv (.c (.int .i64 0))⟩]
def f135r4 : List AOp := [
  ⟨(some 17), .none, .bin .lss .num (.t 16) (.t 15)⟩]
def f135r5 : List AOp := [
  ⟨(some 18), .none, .iaddr 1 (.t 14) (.t 16)⟩,
  ⟨(some 19), .none, .load1 (.t 18)⟩,
  ⟨(some 4), .none, .mv (.t 19)⟩]
def f135r6 : List AOp := [
  ⟨(some 20), .none, .mv (.t 4)⟩,
  ⟨(some 21), .none, .bin .geq .num (.t 20) (.c (.int .u8 97))⟩,
  ⟨(some 22), .none, .mv (.t 21)⟩,
  ⟨(some 23), (some (22, true)), .mv (.t 4)⟩,
  ⟨(some 24), (some (22, true)), .bin .leq .num (.t 23) (.c (.int .u8 122))⟩,
  ⟨(some 25), .none, .pick (.t 22) (.t 24) (.c (.bool false))⟩,
  ⟨(some 26), .none, .mv (.t 25)⟩,
  ⟨(some 27), (some (26, false)), .mv (.t 4)⟩,
  ⟨(some 28), (some (26, false)), .bin .geq .num (.t 27) (.c (.int .u8 48))⟩,
  ⟨(some 29), (some (26, false)), .mv (.t 28)⟩,
  ⟨(some 30), (some (29, true)), .mv (.t 4)⟩,
  ⟨(some 31), (some (29, true)), .bin .leq .num (.t 30) (.c (.int .u8 57))⟩,
  ⟨(some 32), (some (26, false)), .pick (.t 29) (.t 31) (.c (.bool false))⟩,
  ⟨(some 33), .none, .pick (.t 26) (.c (.bool true)) (.t 32)⟩,
  ⟨(some 34), .none, .un .not (.t 33)⟩]
def f135r7 : List AOp := [
  ⟨(some 2), .none, .mv (.c (.bool false))⟩]
def f135r8 : List AOp := [
  ⟨(some 35), .none, .bin .add .num (.t 16) (.c (.int .i64 1))⟩,
  ⟨(some 16), .none, .mv (.t 35)⟩]
def f135r9 : List AOp := [
  ⟨(some 2), .none, .mv (.c (.bool true))⟩]
def f135 : AF := ⟨36, [.tmp 2], (.seq (.reg f135r0) (.seq (.seq (.reg f135r1) (.cond (.t 12) (.seq (.reg f135r2) .ret) .skip)) (.seq (.seq (.reg f135r3) (.block 0 (.loop (.seq (.reg f135r4) (.seq (.cond (.t 17) .skip (.exit 0)) (.seq (.block 1 (.seq (.reg f135r5) (.seq (.reg f135r6) (.cond (.t 34) (.seq (.reg f135r7) .ret) .skip)))) (.reg f135r8))))))) (.seq (.reg f135r9) .ret))))⟩
/- towpath/seglog.may -/
def f136r0 : List AOp := [
  ⟨(some 1), .none, .box (.t 0)⟩,
  ⟨(some 2), .none, .mv (.c (.bool false))⟩]
def f136r1 : List AOp := [
  ⟨(some 3), .none, .faddr 0 (.t 1)⟩,
  ⟨(some 4), .none, .load1 (.t 3)⟩,
  ⟨(some 5), .none, .bin .geq .num (.t 4) (.c (.int .i64 64))⟩,
  ⟨(some 6), .none, .mv (.t 5)⟩,
  ⟨(some 7), (some (6, true)), .faddr 0 (.t 1)⟩,
  ⟨(some 8), (some (6, true)), .load1 (.t 7)⟩,
  ⟨(some 9), (some (6, true)), .bin .leq .num (.t 8) (.c (.int .i64 4194304))⟩,
  ⟨(some 10), .none, .pick (.t 6) (.t 9) (.c (.bool false))⟩,
  ⟨(some 11), .none, .mv (.t 10)⟩,
  ⟨(some 12), (some (11, true)), .faddr 1 (.t 1)⟩,
  ⟨(some 13), (some (11, true)), .load1 (.t 12)⟩,
  ⟨(some 14), (some (11, true)), .bin .geq .num (.t 13) (.c (.int .i64 1))⟩,
  ⟨(some 15), .none, .pick (.t 11) (.t 14) (.c (.bool false))⟩,
  ⟨(some 16), .none, .mv (.t 15)⟩,
  ⟨(some 17), (some (16, true)), .faddr 1 (.t 1)⟩,
  ⟨(some 18), (some (16, true)), .load1 (.t 17)⟩,
  ⟨(some 19), (some (16, true)), .bin .leq .num (.t 18) (.c (.int .i64 4194304))⟩,
  ⟨(some 20), .none, .pick (.t 16) (.t 19) (.c (.bool false))⟩,
  ⟨(some 2), .none, .mv (.t 20)⟩]
def f136 : AF := ⟨21, [.tmp 2], (.seq (.reg f136r0) (.seq (.reg f136r1) .ret))⟩
/- (*towpath/disk.Disk).Gone -/
def f137r0 : List AOp := [
  ⟨(some 2), .none, .mv (.c (.bool false))⟩]
def f137r1 : List AOp := [
  ⟨(some 3), .none, .mv (.t 0)⟩,
  ⟨(some 4), .none, .bin .eql .ptr (.t 3) (.c .nilp)⟩,
  ⟨(some 5), .none, .mv (.t 4)⟩,
  ⟨(some 6), (some (5, false)), .mv (.t 0)⟩,
  ⟨(some 7), (some (5, false)), .nilck (.t 6)⟩,
  ⟨(some 8), (some (5, false)), .faddr 0 (.t 7)⟩,
  ⟨(some 9), (some (5, false)), .faddr 1 (.t 8)⟩,
  ⟨(some 10), (some (5, false)), .load1 (.t 9)⟩,
  ⟨(some 11), .none, .pick (.t 5) (.c (.bool true)) (.t 10)⟩,
  ⟨(some 2), .none, .mv (.t 11)⟩]
def f137 : AF := ⟨12, [.tmp 2], (.seq (.reg f137r0) (.seq (.reg f137r1) .ret))⟩
/- (*towpath/seglog.Log).files -/
def f138r0 : List AOp := [
  ⟨(some 2), .none, .mv (.c .nils)⟩,
  ⟨(some 3), .none, .mv (.c (.int .i64 0))⟩]
def f138r1 : List AOp := [
  ⟨(some 4), .none, .mv (.c .nils)⟩]
def f138r2 : DR := ⟨[
  ⟨(some 12), .none, .mv (.t 0)⟩,
  ⟨(some 13), .none, .nilck (.t 12)⟩,
  ⟨(some 14), .none, .faddr 0 (.t 13)⟩,
  ⟨(some 15), .none, .load1 (.t 14)⟩,
  ⟨(some 16), .none, .mv (.t 0)⟩,
  ⟨(some 17), .none, .nilck (.t 16)⟩,
  ⟨(some 18), .none, .faddr 1 (.t 17)⟩,
  ⟨(some 19), .none, .load1 (.t 18)⟩,
  ⟨(some 20), .none, .bin .add .str (.t 19) (.c (.str [45]))⟩,
  ⟨(some 21), .none, .call 226 [(.t 15), (.t 20)]⟩,
  ⟨(some 22), .none, .len .slice (.t 21)⟩,
  ⟨(some 23), .none, .mv (.c (.int .i64 0))⟩],
  [0, 1, 3, 7, 0, 16, 48, 112, 240, 511, 1023, 0], [0, 1, 2, 3, 4, 5, 6, 7, 8, 9, 10, 11], [], .none⟩
def f138r3 : List AOp := [
  ⟨(some 24), .none, .bin .lss .num (.t 23) (.t 22)⟩]
def f138r4 : List AOp := [
  ⟨(some 25), .none, .iaddr 1 (.t 21) (.t 23)⟩,
  ⟨(some 26), .none, .load1 (.t 25)⟩,
  ⟨(some 6), .none, .mv (.t 26)⟩]
def f138r5 : List AOp := [
  ⟨(some 28), .none, .mv (.t 0)⟩,
  ⟨(some 29), .none, .mv (.t 6)⟩,
  ⟨(some 30), .none, .call 227 [(.t 28), (.t 29), (.c (.str [46, 108, 111, 103]))]⟩,
  ⟨(some 27), .none, .mv (.t 30)⟩,
  ⟨(some 31), .none, .ext (.t 27) 0⟩,
  ⟨(some 32), .none, .ext (.t 27) 1⟩,
  ⟨(some 7), .none, .mv (.t 31)⟩,
  ⟨(some 8), .none, .mv (.t 32)⟩]
def f138r6 : List AOp := [
  ⟨(some 33), .none, .mv (.t 8)⟩]
def f138r7 : List AOp := [
  ⟨(some 34), .none, .mv (.t 4)⟩,
  ⟨(some 35), .none, .mv (.t 7)⟩,
  ⟨(some 36), .none, .bsl false 1 1 [(.int .i64 0)] [(0, 1, (.t 35))]⟩,
  ⟨(some 37), .none, .app false 1 8 (.t 34) (.t 36)⟩,
  ⟨(some 4), .none, .mv (.t 37)⟩]
def f138r8 : List AOp := [
  ⟨(some 39), .none, .mv (.t 0)⟩,
  ⟨(some 40), .none, .mv (.t 6)⟩,
  ⟨(some 41), .none, .call 227 [(.t 39), (.t 40), (.c (.str [46, 110, 101, 119]))]⟩,
  ⟨(some 38), .none, .mv (.t 41)⟩,
  ⟨(some 42), .none, .ext (.t 38) 0⟩,
  ⟨(some 43), .none, .ext (.t 38) 1⟩,
  ⟨(some 9), .none, .mv (.t 42)⟩,
  ⟨(some 10), .none, .mv (.t 43)⟩]
def f138r9 : List AOp := [
  ⟨(some 44), .none, .mv (.t 10)⟩]
def f138r10 : List AOp := [
  ⟨(some 45), .none, .mv (.t 0)⟩,
  ⟨(some 46), .none, .nilck (.t 45)⟩,
  ⟨(some 47), .none, .faddr 0 (.t 46)⟩,
  ⟨(some 48), .none, .load1 (.t 47)⟩,
  ⟨(some 49), .none, .mv (.t 6)⟩,
  ⟨(some 50), .none, .call 65 [(.t 48), (.t 49)]⟩,
  ⟨(some 11), .none, .mv (.t 50)⟩]
def f138r11 : List AOp := [
  ⟨(some 51), .none, .mv (.t 11)⟩,
  ⟨(some 52), .none, .bin .neq .num (.t 51) (.c (.int .i64 0))⟩]
def f138r12 : List AOp := [
  ⟨(some 53), .none, .mv (.t 11)⟩,
  ⟨(some 2), .none, .mv (.c .nils)⟩,
  ⟨(some 3), .none, .mv (.t 53)⟩]
def f138r13 : List AOp := [
  ⟨(some 54), .none, .bin .add .num (.t 23) (.c (.int .i64 1))⟩,
  ⟨(some 23), .none, .mv (.t 54)⟩]
def f138r14 : List AOp := [
  ⟨(some 55), .none, .mv (.t 4)⟩,
  ⟨(some 2), .none, .mv (.t 55)⟩,
  ⟨(some 3), .none, .mv (.c (.int .i64 0))⟩]
def f138 : AF := ⟨56, [.tmp 2, .tmp 3], (.seq (.reg f138r0) (.seq (.reg f138r1) (.seq (.seq (.dreg f138r2) (.block 0 (.loop (.seq (.reg f138r3) (.seq (.cond (.t 24) .skip (.exit 0)) (.seq (.block 1 (.seq (.reg f138r4) (.seq (.seq (.reg f138r5) (.seq (.reg f138r6) (.cond (.t 33) (.reg f138r7) .skip))) (.seq (.reg f138r8) (.seq (.reg f138r9) (.cond (.t 44) (.seq (.reg f138r10) (.seq (.reg f138r11) (.cond (.t 52) (.seq (.reg f138r12) .ret) .skip))) .skip)))))) (.reg f138r13))))))) (.seq (.reg f138r14) .ret))))⟩
/- (*towpath/seglog.Log).name -/
def f139r0 : List AOp := [
  ⟨(some 6), .none, .mv (.c (.str []))⟩]
def f139r1 : List AOp := [
  ⟨(some 9), .none, .mksl 1 1 [(.int .u8 0)] (.c (.int .i64 11)) (.c (.int .i64 11))⟩,
  ⟨(some 7), .none, .mv (.t 9)⟩]
def f139r2 : List AOp := [
  ⟨(some 8), .none, .mv (.c (.int .i64 10))⟩]
def f139r3 : List AOp := [
  ⟨(some 10), .none, .mv (.t 8)⟩,
  ⟨(some 11), .none, .bin .geq .num (.t 10) (.c (.int .i64 0))⟩]
def f139r5 : List AOp := [
  ⟨(some 14), .none, .mv (.t 7)⟩,
  ⟨(some 15), .none, .mv (.t 8)⟩,
  ⟨(some 16), .none, .mv (.t 1)⟩,
  ⟨(some 17), .none, .bin .and .num (.t 16) (.c (.int .i64 15))⟩,
  ⟨(some 18), .none, .sidx (.c (.str [48, 49, 50, 51, 52, 53, 54, 55, 56, 57, 97, 98, 99, 100, 101, 102])) (.t 17)⟩,
  ⟨(some 19), .none, .iaddr 1 (.t 14) (.t 15)⟩,
  ⟨.none, .none, .store 1 (.t 19) (.t 18)⟩]
def f139r6 : List AOp := [
  ⟨(some 20), .none, .mv (.t 1)⟩,
  ⟨(some 21), .none, .bin .shr .num (.t 20) (.c (.int .u64 4))⟩,
  ⟨(some 1), .none, .mv (.t 21)⟩]
def f139r4 : List AOp := [
  ⟨(some 12), .none, .mv (.t 8)⟩,
  ⟨(some 13), .none, .bin .sub .num (.t 12) (.c (.int .i64 1))⟩,
  ⟨(some 8), .none, .mv (.t 13)⟩]
def f139r7 : DR := ⟨[
  ⟨(some 22), .none, .mv (.t 0)⟩,
  ⟨(some 23), .none, .nilck (.t 22)⟩,
  ⟨(some 24), .none, .faddr 1 (.t 23)⟩,
  ⟨(some 25), .none, .load1 (.t 24)⟩,
  ⟨(some 26), .none, .bin .add .str (.t 25) (.c (.str [45]))⟩,
  ⟨(some 27), .none, .mv (.t 7)⟩,
  ⟨(some 28), .none, .conv .toStr (.t 27)⟩,
  ⟨(some 29), .none, .bin .add .str (.t 26) (.t 28)⟩,
  ⟨(some 30), .none, .mv (.t 2)⟩,
  ⟨(some 31), .none, .bin .add .str (.t 29) (.t 30)⟩,
  ⟨(some 6), .none, .mv (.t 31)⟩],
  [0, 1, 3, 7, 15, 0, 32, 127, 0, 511, 1023], [0, 1, 2, 3, 4, 5, 6, 7, 8, 9, 10], [], .none⟩
def f139 : AF := ⟨32, [.tmp 6], (.seq (.reg f139r0) (.seq (.reg f139r1) (.seq (.seq (.reg f139r2) (.block 0 (.loop (.seq (.seq (.reg f139r3) (.cond (.t 11) .skip (.exit 0))) (.seq (.block 1 (.seq (.reg f139r5) (.reg f139r6))) (.reg f139r4)))))) (.seq (.dreg f139r7) .ret))))⟩
/- (*towpath/disk.Disk).at -/
def f142r0 : List AOp := [
  ⟨(some 4), .none, .alloc [.nils, (.int .i64 0)]⟩]
def f142r1 : List AOp := [
  ⟨(some 5), .none, .mv (.t 0)⟩,
  ⟨(some 6), .none, .bin .eql .ptr (.t 5) (.c .nilp)⟩,
  ⟨(some 7), .none, .mv (.t 6)⟩,
  ⟨(some 8), (some (7, false)), .mv (.t 0)⟩,
  ⟨(some 9), (some (7, false)), .nilck (.t 8)⟩,
  ⟨(some 10), (some (7, false)), .faddr 4 (.t 9)⟩,
  ⟨(some 11), (some (7, false)), .load1 (.t 10)⟩,
  ⟨(some 12), (some (7, false)), .mv (.t 1)⟩,
  ⟨(some 13), (some (7, false)), .look .str .nilp false (.t 11) (.t 12)⟩,
  ⟨(some 14), (some (7, false)), .bin .eql .ptr (.t 13) (.c .nilp)⟩,
  ⟨(some 15), .none, .pick (.t 7) (.c (.bool true)) (.t 14)⟩]
def f142r2 : List AOp := [
  ⟨(some 16), .none, .build [.nils, (.int .i64 0)] []⟩,
  ⟨.none, .none, .store 2 (.t 4) (.t 16)⟩]
def f142r3 : List AOp := [
  ⟨(some 17), .none, .mv (.t 0)⟩,
  ⟨(some 18), .none, .nilck (.t 17)⟩,
  ⟨(some 19), .none, .faddr 4 (.t 18)⟩,
  ⟨(some 20), .none, .load1 (.t 19)⟩,
  ⟨(some 21), .none, .mv (.t 1)⟩,
  ⟨(some 22), .none, .look .str .nilp false (.t 20) (.t 21)⟩,
  ⟨(some 23), .none, .nilck (.t 22)⟩,
  ⟨(some 24), .none, .loadn 2 (.t 23)⟩,
  ⟨.none, .none, .store 2 (.t 4) (.t 24)⟩]
def f142 : AF := ⟨25, [.celln 4 2], (.seq (.reg f142r0) (.seq (.seq (.reg f142r1) (.cond (.t 15) (.seq (.reg f142r2) .ret) .skip)) (.seq (.reg f142r3) .ret)))⟩
/- (*towpath/disk.Disk).Read -/
def f143r0 : List AOp := [
  ⟨(some 4), .none, .mv (.c .nils)⟩,
  ⟨(some 5), .none, .mv (.c (.int .i64 0))⟩]
def f143r1 : List AOp := [
  ⟨(some 7), .none, .mv (.t 0)⟩,
  ⟨(some 8), .none, .bin .eql .ptr (.t 7) (.c .nilp)⟩]
def f143r2 : List AOp := [
  ⟨(some 4), .none, .mv (.c .nils)⟩,
  ⟨(some 5), .none, .mv (.c (.int .i64 1))⟩]
def f143r3 : List AOp := [
  ⟨(some 9), .none, .mv (.t 0)⟩,
  ⟨(some 10), .none, .nilck (.t 9)⟩,
  ⟨(some 11), .none, .faddr 4 (.t 10)⟩,
  ⟨(some 12), .none, .load1 (.t 11)⟩,
  ⟨(some 13), .none, .mv (.t 1)⟩,
  ⟨(some 14), .none, .look .str .nilp false (.t 12) (.t 13)⟩,
  ⟨(some 6), .none, .mv (.t 14)⟩]
def f143r4 : List AOp := [
  ⟨(some 15), .none, .mv (.t 6)⟩,
  ⟨(some 16), .none, .bin .eql .ptr (.t 15) (.c .nilp)⟩]
def f143r5 : List AOp := [
  ⟨(some 4), .none, .mv (.c .nils)⟩,
  ⟨(some 5), .none, .mv (.c (.int .i64 3))⟩]
def f143r6 : List AOp := [
  ⟨(some 17), .none, .mv (.t 6)⟩,
  ⟨(some 18), .none, .nilck (.t 17)⟩,
  ⟨(some 19), .none, .faddr 0 (.t 18)⟩,
  ⟨(some 20), .none, .load1 (.t 19)⟩,
  ⟨(some 21), .none, .call 165 [(.t 20)]⟩,
  ⟨(some 4), .none, .mv (.t 21)⟩,
  ⟨(some 5), .none, .mv (.c (.int .i64 0))⟩]
def f143 : AF := ⟨22, [.tmp 4, .tmp 5], (.seq (.reg f143r0) (.seq (.seq (.reg f143r1) (.cond (.t 8) (.seq (.reg f143r2) .ret) .skip)) (.seq (.reg f143r3) (.seq (.seq (.reg f143r4) (.cond (.t 16) (.seq (.reg f143r5) .ret) .skip)) (.seq (.reg f143r6) .ret)))))⟩
/- (*towpath/disk.Disk).may -/
def f144r0 : List AOp := [
  ⟨(some 2), .none, .mv (.c (.int .i64 0))⟩]
def f144r1 : List AOp := [
  ⟨(some 4), .none, .mv (.t 0)⟩,
  ⟨(some 5), .none, .bin .eql .ptr (.t 4) (.c .nilp)⟩,
  ⟨(some 3), .none, .mv (.t 5)⟩]
def f144r2 : List AOp := [
  ⟨(some 2), .none, .mv (.c (.int .i64 1))⟩]
def f144r3 : List AOp := [
  ⟨(some 7), .none, .mv (.t 0)⟩,
  ⟨(some 8), .none, .nilck (.t 7)⟩,
  ⟨(some 9), .none, .faddr 0 (.t 8)⟩,
  ⟨(some 10), .none, .faddr 1 (.t 9)⟩,
  ⟨(some 11), .none, .load1 (.t 10)⟩,
  ⟨(some 6), .none, .mv (.t 11)⟩]
def f144r4 : List AOp := [
  ⟨(some 2), .none, .mv (.c (.int .i64 9))⟩]
def f144r5 : List AOp := [
  ⟨(some 2), .none, .mv (.c (.int .i64 0))⟩]
def f144 : AF := ⟨12, [.tmp 2], (.seq (.reg f144r0) (.seq (.block 0 (.seq (.reg f144r1) (.cond (.t 3) (.seq (.reg f144r2) .ret) (.seq (.reg f144r3) (.cond (.t 6) (.seq (.reg f144r4) .ret) .skip))))) (.seq (.reg f144r5) .ret)))⟩
/- (*towpath/disk.power).spend -/
def f146r0 : List AOp := [
  ⟨(some 2), .none, .mv (.t 0)⟩,
  ⟨(some 3), .none, .nilck (.t 2)⟩,
  ⟨(some 4), .none, .faddr 0 (.t 3)⟩,
  ⟨(some 5), .none, .load1 (.t 4)⟩,
  ⟨(some 6), .none, .bin .gtr .num (.t 5) (.c (.int .i64 0))⟩]
def f146r1 : List AOp := [
  ⟨(some 7), .none, .mv (.t 0)⟩,
  ⟨(some 8), .none, .nilck (.t 7)⟩,
  ⟨(some 9), .none, .faddr 0 (.t 8)⟩,
  ⟨(some 10), .none, .load1 (.t 9)⟩,
  ⟨(some 11), .none, .bin .sub .num (.t 10) (.c (.int .i64 1))⟩,
  ⟨(some 12), .none, .nilck (.t 7)⟩,
  ⟨(some 13), .none, .faddr 0 (.t 12)⟩,
  ⟨.none, .none, .store 1 (.t 13) (.t 11)⟩]
def f146r2 : List AOp := [
  ⟨(some 14), .none, .mv (.t 0)⟩,
  ⟨(some 15), .none, .mv (.t 0)⟩,
  ⟨(some 16), .none, .nilck (.t 15)⟩,
  ⟨(some 17), .none, .faddr 0 (.t 16)⟩,
  ⟨(some 18), .none, .load1 (.t 17)⟩,
  ⟨(some 19), .none, .bin .eql .num (.t 18) (.c (.int .i64 0))⟩,
  ⟨(some 20), .none, .nilck (.t 14)⟩,
  ⟨(some 21), .none, .faddr 1 (.t 20)⟩,
  ⟨.none, .none, .store 1 (.t 21) (.t 19)⟩]
def f146 : AF := ⟨22, [], (.seq (.reg f146r0) (.cond (.t 6) (.seq (.reg f146r1) (.reg f146r2)) .skip))⟩
/- towpath/dedup.New -/
def f147r0 : List AOp := [
  ⟨(some 2), .none, .mv (.c .nilp)⟩,
  ⟨(some 3), .none, .mv (.c (.int .i64 0))⟩]
def f147r1 : List AOp := [
  ⟨(some 4), .none, .mv (.t 0)⟩,
  ⟨(some 5), .none, .bin .lss .num (.t 4) (.c (.int .i64 1))⟩,
  ⟨(some 6), .none, .mv (.t 5)⟩,
  ⟨(some 7), (some (6, false)), .mv (.t 0)⟩,
  ⟨(some 8), (some (6, false)), .bin .gtr .num (.t 7) (.c (.int .i64 4096))⟩,
  ⟨(some 9), .none, .pick (.t 6) (.c (.bool true)) (.t 8)⟩]
def f147r2 : List AOp := [
  ⟨(some 2), .none, .mv (.c .nilp)⟩,
  ⟨(some 3), .none, .mv (.c (.int .i64 2))⟩]
def f147r3 : List AOp := [
  ⟨(some 10), .none, .mv (.t 0)⟩,
  ⟨(some 11), .none, .mkmap⟩,
  ⟨(some 12), .none, .build [(.int .i64 0), (.int .i64 0), .nilm] [(0, 1, (.t 10)), (2, 1, (.t 11))]⟩,
  ⟨(some 13), .none, .box (.t 12)⟩,
  ⟨(some 2), .none, .mv (.t 13)⟩,
  ⟨(some 3), .none, .mv (.c (.int .i64 0))⟩]
def f147 : AF := ⟨14, [.tmp 2, .tmp 3], (.seq (.reg f147r0) (.seq (.seq (.reg f147r1) (.cond (.t 9) (.seq (.reg f147r2) .ret) .skip)) (.seq (.reg f147r3) .ret)))⟩
/- towpath/iso.New -/
def f148r0 : List AOp := [
  ⟨(some 0), .none, .mv (.c .nilp)⟩]
def f148r1 : List AOp := [
  ⟨(some 1), .none, .mkmap⟩,
  ⟨(some 2), .none, .mkmap⟩,
  ⟨(some 3), .none, .build [(.int .i64 0), .nilm, .nilm] [(1, 1, (.t 1)), (2, 1, (.t 2))]⟩,
  ⟨(some 4), .none, .box (.t 3)⟩,
  ⟨(some 0), .none, .mv (.t 4)⟩]
def f148 : AF := ⟨5, [.tmp 0], (.seq (.reg f148r0) (.seq (.reg f148r1) .ret))⟩
/- (*towpath/part.Part).snap -/
def f149r0 : List AOp := [
  ⟨(some 2), .none, .mv (.c (.str []))⟩]
def f149r1 : List AOp := [
  ⟨(some 3), .none, .mv (.t 0)⟩,
  ⟨(some 4), .none, .nilck (.t 3)⟩,
  ⟨(some 5), .none, .faddr 0 (.t 4)⟩,
  ⟨(some 6), .none, .faddr 2 (.t 5)⟩,
  ⟨(some 7), .none, .load1 (.t 6)⟩,
  ⟨(some 8), .none, .bin .add .str (.t 7) (.c (.str [46, 115, 110, 97, 112]))⟩,
  ⟨(some 2), .none, .mv (.t 8)⟩]
def f149 : AF := ⟨9, [.tmp 2], (.seq (.reg f149r0) (.seq (.reg f149r1) .ret))⟩
/- towpath/frame.Open -/
def f150r0 : List AOp := [
  ⟨(some 2), .none, .mv (.c .nils)⟩,
  ⟨(some 3), .none, .mv (.c (.bool false))⟩]
def f150r1 : List AOp := [
  ⟨(some 8), .none, .mv (.t 0)⟩,
  ⟨(some 9), .none, .call 228 [(.t 8)]⟩,
  ⟨(some 7), .none, .mv (.t 9)⟩,
  ⟨(some 10), .none, .ext (.t 7) 0⟩,
  ⟨(some 11), .none, .ext (.t 7) 1⟩,
  ⟨(some 12), .none, .ext (.t 7) 2⟩,
  ⟨(some 4), .none, .mv (.t 10)⟩,
  ⟨(some 5), .none, .mv (.t 11)⟩,
  ⟨(some 6), .none, .mv (.t 12)⟩]
def f150r2 : List AOp := [
  ⟨(some 13), .none, .mv (.t 6)⟩,
  ⟨(some 14), .none, .un .not (.t 13)⟩,
  ⟨(some 15), .none, .mv (.t 14)⟩,
  ⟨(some 16), (some (15, false)), .mv (.t 5)⟩,
  ⟨(some 17), (some (15, false)), .mv (.t 0)⟩,
  ⟨(some 18), (some (15, false)), .len .slice (.t 17)⟩,
  ⟨(some 19), (some (15, false)), .bin .neq .num (.t 16) (.t 18)⟩,
  ⟨(some 20), .none, .pick (.t 15) (.c (.bool true)) (.t 19)⟩]
def f150r3 : List AOp := [
  ⟨(some 2), .none, .mv (.c .nils)⟩,
  ⟨(some 3), .none, .mv (.c (.bool false))⟩]
def f150r4 : List AOp := [
  ⟨(some 21), .none, .mv (.t 4)⟩,
  ⟨(some 2), .none, .mv (.t 21)⟩,
  ⟨(some 3), .none, .mv (.c (.bool true))⟩]
def f150 : AF := ⟨22, [.tmp 2, .tmp 3], (.seq (.reg f150r0) (.seq (.reg f150r1) (.seq (.seq (.reg f150r2) (.cond (.t 20) (.seq (.reg f150r3) .ret) .skip)) (.seq (.reg f150r4) .ret))))⟩
/- (*towpath/wire.Reader).Text -/
def f151r0 : List AOp := [
  ⟨(some 4), .none, .mv (.c (.str []))⟩]
def f151r1 : List AOp := [
  ⟨(some 7), .none, .mv (.t 0)⟩,
  ⟨(some 8), .none, .call 166 [(.t 7)]⟩,
  ⟨(some 9), .none, .un .not (.t 8)⟩]
def f151r2 : List AOp := [
  ⟨(some 4), .none, .mv (.c (.str []))⟩]
def f151r3 : List AOp := [
  ⟨(some 10), .none, .mv (.t 0)⟩,
  ⟨(some 11), .none, .nilck (.t 10)⟩,
  ⟨(some 12), .none, .faddr 0 (.t 11)⟩,
  ⟨(some 13), .none, .faddr 1 (.t 12)⟩,
  ⟨(some 14), .none, .load1 (.t 13)⟩,
  ⟨(some 5), .none, .mv (.t 14)⟩]
def f151r4 : List AOp := [
  ⟨(some 15), .none, .mv (.t 0)⟩,
  ⟨(some 16), .none, .nilck (.t 15)⟩,
  ⟨(some 17), .none, .faddr 0 (.t 16)⟩,
  ⟨(some 18), .none, .call 167 [(.t 17)]⟩,
  ⟨(some 6), .none, .mv (.t 18)⟩]
def f151r6 : List AOp := [
  ⟨(some 27), .none, .mv (.t 0)⟩,
  ⟨(some 28), .none, .nilck (.t 27)⟩,
  ⟨(some 29), .none, .faddr 0 (.t 28)⟩,
  ⟨(some 30), .none, .faddr 2 (.t 29)⟩,
  ⟨(some 31), .none, .load1 (.t 30)⟩,
  ⟨(some 32), .none, .bin .neq .num (.t 31) (.c (.int .i64 0))⟩,
  ⟨(some 26), .none, .mv (.t 32)⟩]
def f151r7 : List AOp := [
  ⟨(some 34), .none, .mv (.t 6)⟩,
  ⟨(some 35), .none, .mv (.t 1)⟩,
  ⟨(some 36), .none, .mx [(.t 35), (.c (.int .i64 0))]⟩,
  ⟨(some 37), .none, .conv (.int .u64) (.t 36)⟩,
  ⟨(some 38), .none, .bin .gtr .num (.t 34) (.t 37)⟩,
  ⟨(some 33), .none, .mv (.t 38)⟩]
def f151r8 : List AOp := [
  ⟨(some 39), .none, .mv (.t 0)⟩,
  ⟨(some 40), .none, .nilck (.t 39)⟩,
  ⟨(some 41), .none, .faddr 0 (.t 40)⟩,
  ⟨(some 42), .none, .call 169 [(.t 41), (.c (.int .i64 7))]⟩]
def f151r9 : List AOp := [
  ⟨(some 44), .none, .mv (.t 6)⟩,
  ⟨(some 45), .none, .mv (.t 0)⟩,
  ⟨(some 46), .none, .nilck (.t 45)⟩,
  ⟨(some 47), .none, .faddr 0 (.t 46)⟩,
  ⟨(some 48), .none, .call 168 [(.t 47)]⟩,
  ⟨(some 49), .none, .conv (.int .u64) (.t 48)⟩,
  ⟨(some 50), .none, .bin .gtr .num (.t 44) (.t 49)⟩,
  ⟨(some 43), .none, .mv (.t 50)⟩]
def f151r10 : List AOp := [
  ⟨(some 51), .none, .mv (.t 0)⟩,
  ⟨(some 52), .none, .nilck (.t 51)⟩,
  ⟨(some 53), .none, .faddr 0 (.t 52)⟩,
  ⟨(some 54), .none, .call 169 [(.t 53), (.c (.int .i64 6))]⟩]
def f151r5 : List AOp := [
  ⟨(some 19), .none, .mv (.t 0)⟩,
  ⟨(some 20), .none, .nilck (.t 19)⟩,
  ⟨(some 21), .none, .faddr 0 (.t 20)⟩,
  ⟨(some 22), .none, .mv (.t 6)⟩,
  ⟨(some 23), .none, .conv (.int .i64) (.t 22)⟩,
  ⟨(some 24), .none, .call 235 [(.t 21), (.t 23)]⟩,
  ⟨(some 25), .none, .conv .toStr (.t 24)⟩,
  ⟨(some 4), .none, .mv (.t 25)⟩]
def f151r11 : List AOp := [
  ⟨(some 55), .none, .mv (.t 0)⟩,
  ⟨(some 56), .none, .mv (.t 5)⟩,
  ⟨(some 57), .none, .nilck (.t 55)⟩,
  ⟨(some 58), .none, .faddr 0 (.t 57)⟩,
  ⟨(some 59), .none, .faddr 1 (.t 58)⟩,
  ⟨.none, .none, .store 1 (.t 59) (.t 56)⟩]
def f151r12 : List AOp := [
  ⟨(some 4), .none, .mv (.c (.str []))⟩]
def f151 : AF := ⟨60, [.tmp 4], (.seq (.reg f151r0) (.seq (.seq (.reg f151r1) (.cond (.t 9) (.seq (.reg f151r2) .ret) .skip)) (.seq (.reg f151r3) (.seq (.reg f151r4) (.seq (.block 0 (.seq (.reg f151r6) (.cond (.t 26) .skip (.seq (.reg f151r7) (.cond (.t 33) (.reg f151r8) (.seq (.reg f151r9) (.cond (.t 43) (.reg f151r10) (.seq (.reg f151r5) .ret)))))))) (.seq (.reg f151r11) (.seq (.reg f151r12) .ret)))))))⟩
/- (*towpath/dedup.Table).Take -/
def f156r0 : List AOp := [
  ⟨(some 3), .none, .box (.t 1)⟩,
  ⟨(some 4), .none, .mv (.c (.int .i64 0))⟩]
def f156r1 : List AOp := [
  ⟨(some 11), .none, .mv (.t 0)⟩,
  ⟨(some 12), .none, .loadn 7 (.t 3)⟩,
  ⟨(some 13), .none, .call 176 [(.t 11), (.t 12)]⟩,
  ⟨(some 10), .none, .mv (.t 13)⟩,
  ⟨(some 14), .none, .ext (.t 10) 0⟩,
  ⟨(some 15), .none, .ext (.t 10) 1⟩,
  ⟨(some 5), .none, .alloc [(.bool false), (.int .i64 0)]⟩,
  ⟨.none, .none, .store 2 (.t 5) (.t 14)⟩,
  ⟨(some 6), .none, .mv (.t 15)⟩]
def f156r2 : List AOp := [
  ⟨(some 17), .none, .mv (.t 6)⟩,
  ⟨(some 18), .none, .bin .neq .num (.t 17) (.c (.int .i64 0))⟩,
  ⟨(some 16), .none, .mv (.t 18)⟩]
def f156r3 : List AOp := [
  ⟨(some 19), .none, .mv (.t 6)⟩,
  ⟨(some 4), .none, .mv (.t 19)⟩]
def f156r4 : List AOp := [
  ⟨(some 21), .none, .faddr 0 (.t 5)⟩,
  ⟨(some 22), .none, .load1 (.t 21)⟩,
  ⟨(some 20), .none, .mv (.t 22)⟩]
def f156r5 : List AOp := [
  ⟨(some 4), .none, .mv (.c (.int .i64 4))⟩]
def f156r6 : DR := ⟨[
  ⟨(some 24), .none, .faddr 0 (.t 3)⟩,
  ⟨(some 25), .none, .load1 (.t 24)⟩,
  ⟨(some 26), .none, .mv (.t 0)⟩,
  ⟨(some 27), .none, .nilck (.t 26)⟩,
  ⟨(some 28), .none, .faddr 1 (.t 27)⟩,
  ⟨(some 29), .none, .load1 (.t 28)⟩,
  ⟨(some 30), .none, .bin .lss .num (.t 25) (.t 29)⟩,
  ⟨(some 23), .none, .mv (.t 30)⟩],
  [0, 1, 0, 4, 12, 28, 63, 127], [0, 1, 2, 3, 4, 5, 6, 7], [], .none⟩
def f156r7 : List AOp := [
  ⟨(some 4), .none, .mv (.c (.int .i64 8))⟩]
def f156r8 : List AOp := [
  ⟨(some 31), .none, .mv (.t 0)⟩,
  ⟨(some 32), .none, .loadn 7 (.t 3)⟩,
  ⟨(some 33), .none, .call 95 [(.t 32)]⟩,
  ⟨(some 34), .none, .nilck (.t 31)⟩,
  ⟨(some 35), .none, .faddr 1 (.t 34)⟩,
  ⟨.none, .none, .store 1 (.t 35) (.t 33)⟩]
def f156r9 : List AOp := [
  ⟨(some 36), .none, .faddr 1 (.t 3)⟩,
  ⟨(some 37), .none, .load1 (.t 36)⟩,
  ⟨(some 38), .none, .bin .eql .num (.t 37) (.c (.int .i64 0))⟩]
def f156r10 : List AOp := [
  ⟨(some 4), .none, .mv (.c (.int .i64 0))⟩]
def f156r11 : List AOp := [
  ⟨(some 40), .none, .mv (.t 0)⟩,
  ⟨(some 41), .none, .faddr 1 (.t 3)⟩,
  ⟨(some 42), .none, .load1 (.t 41)⟩,
  ⟨(some 43), .none, .call 243 [(.t 40), (.t 42)]⟩,
  ⟨(some 39), .none, .mv (.t 43)⟩,
  ⟨(some 44), .none, .ext (.t 39) 0⟩,
  ⟨(some 45), .none, .ext (.t 39) 1⟩,
  ⟨(some 7), .none, .alloc [(.int .i64 0), (.int .i64 0), (.int .i64 0), (.int .i64 0), (.int .i64 0), (.int .i64 0), (.int .i64 0)]⟩,
  ⟨.none, .none, .store 7 (.t 7) (.t 44)⟩,
  ⟨(some 8), .none, .mv (.t 45)⟩]
def f156r12 : List AOp := [
  ⟨(some 46), .none, .faddr 5 (.t 3)⟩,
  ⟨(some 47), .none, .load1 (.t 46)⟩,
  ⟨(some 9), .none, .mv (.t 47)⟩]
def f156r13 : List AOp := [
  ⟨(some 48), .none, .mv (.t 8)⟩]
def f156r14 : List AOp := [
  ⟨(some 49), .none, .mv (.t 9)⟩,
  ⟨(some 50), .none, .faddr 6 (.t 7)⟩,
  ⟨(some 51), .none, .load1 (.t 50)⟩,
  ⟨(some 52), .none, .mx [(.t 49), (.t 51)]⟩,
  ⟨(some 9), .none, .mv (.t 52)⟩]
def f156r15 : List AOp := [
  ⟨(some 53), .none, .faddr 4 (.t 3)⟩,
  ⟨(some 54), .none, .load1 (.t 53)⟩]
def f156r16 : List AOp := [
  ⟨(some 56), .none, .bin .eql .num (.t 54) (.c (.int .i64 2))⟩,
  ⟨(some 55), .none, .mv (.t 56)⟩]
def f156r17 : List AOp := [
  ⟨(some 57), .none, .bin .eql .num (.t 54) (.c (.int .i64 3))⟩,
  ⟨(some 55), .none, .mv (.t 57)⟩]
def f156r18 : List AOp := [
  ⟨(some 59), .none, .bin .eql .num (.t 54) (.c (.int .i64 1))⟩,
  ⟨(some 58), .none, .mv (.t 59)⟩]
def f156r19 : DR := ⟨[
  ⟨(some 60), .none, .mv (.t 0)⟩,
  ⟨(some 61), .none, .nilck (.t 60)⟩,
  ⟨(some 62), .none, .faddr 2 (.t 61)⟩,
  ⟨(some 63), .none, .load1 (.t 62)⟩,
  ⟨(some 64), .none, .faddr 1 (.t 3)⟩,
  ⟨(some 65), .none, .load1 (.t 64)⟩,
  ⟨(some 66), .none, .faddr 1 (.t 3)⟩,
  ⟨(some 67), .none, .load1 (.t 66)⟩,
  ⟨(some 68), .none, .faddr 2 (.t 3)⟩,
  ⟨(some 69), .none, .load1 (.t 68)⟩,
  ⟨(some 70), .none, .bin .add .num (.t 69) (.c (.int .i64 1))⟩,
  ⟨(some 71), .none, .mv (.t 9)⟩,
  ⟨(some 72), .none, .build [(.int .i64 0), (.int .i64 0), (.int .i64 0), (.int .i64 0), (.int .i64 0), (.int .i64 0), (.int .i64 0)] [(0, 1, (.t 67)), (1, 1, (.t 70)), (5, 1, (.c (.int .i64 (-1)))), (6, 1, (.t 71))]⟩,
  ⟨.none, .none, .mapup .num (.t 63) (.t 65) (.t 72)⟩],
  [0, 1, 3, 7, 0, 16, 0, 64, 0, 256, 768, 0, 4032, 8191], [0, 1, 2, 3, 4, 5, 6, 7, 8, 9, 10, 11, 12, 13], [], .none⟩
def f156r20 : List AOp := [
  ⟨(some 4), .none, .mv (.c (.int .i64 0))⟩]
def f156r21 : List AOp := [
  ⟨(some 73), .none, .loadn 7 (.t 7)⟩,
  ⟨(some 74), .none, .call 189 [(.t 73)]⟩,
  ⟨(some 75), .none, .un .not (.t 74)⟩]
def f156r22 : List AOp := [
  ⟨(some 76), .none, .faddr 0 (.t 3)⟩,
  ⟨(some 77), .none, .load1 (.t 76)⟩,
  ⟨(some 78), .none, .faddr 5 (.t 7)⟩,
  ⟨.none, .none, .store 1 (.t 78) (.t 77)⟩]
def f156r23 : DR := ⟨[
  ⟨(some 79), .none, .mv (.t 0)⟩,
  ⟨(some 80), .none, .nilck (.t 79)⟩,
  ⟨(some 81), .none, .faddr 2 (.t 80)⟩,
  ⟨(some 82), .none, .load1 (.t 81)⟩,
  ⟨(some 83), .none, .faddr 1 (.t 3)⟩,
  ⟨(some 84), .none, .load1 (.t 83)⟩,
  ⟨(some 85), .none, .faddr 1 (.t 3)⟩,
  ⟨(some 86), .none, .load1 (.t 85)⟩,
  ⟨(some 87), .none, .faddr 2 (.t 3)⟩,
  ⟨(some 88), .none, .load1 (.t 87)⟩,
  ⟨(some 89), .none, .faddr 3 (.t 3)⟩,
  ⟨(some 90), .none, .load1 (.t 89)⟩,
  ⟨(some 91), .none, .faddr 6 (.t 3)⟩,
  ⟨(some 92), .none, .load1 (.t 91)⟩,
  ⟨(some 93), .none, .len .slice (.t 92)⟩,
  ⟨(some 94), .none, .faddr 0 (.t 3)⟩,
  ⟨(some 95), .none, .load1 (.t 94)⟩,
  ⟨(some 96), .none, .faddr 5 (.t 7)⟩,
  ⟨(some 97), .none, .load1 (.t 96)⟩,
  ⟨(some 98), .none, .mv (.t 9)⟩,
  ⟨(some 99), .none, .build [(.int .i64 0), (.int .i64 0), (.int .i64 0), (.int .i64 0), (.int .i64 0), (.int .i64 0), (.int .i64 0)] [(0, 1, (.t 86)), (1, 1, (.t 88)), (2, 1, (.t 90)), (3, 1, (.t 93)), (4, 1, (.t 95)), (5, 1, (.t 97)), (6, 1, (.t 98))]⟩,
  ⟨.none, .none, .mapup .num (.t 82) (.t 84) (.t 99)⟩],
  [0, 1, 3, 7, 0, 16, 0, 64, 0, 256, 0, 1024, 0, 4096, 12288, 0, 32768, 0, 131072, 0, 1048512, 2097151], [0, 1, 2, 3, 4, 5, 6, 7, 8, 9, 10, 11, 12, 13, 14, 15, 16, 17, 18, 19, 20, 21], [], .none⟩
def f156r24 : List AOp := [
  ⟨(some 4), .none, .mv (.c (.int .i64 0))⟩]
def f156 : AF := ⟨100, [.tmp 4], (.seq (.reg f156r0) (.seq (.reg f156r1) (.seq (.block 0 (.seq (.reg f156r2) (.cond (.t 16) (.seq (.reg f156r3) .ret) (.seq (.reg f156r4) (.cond (.t 20) (.seq (.reg f156r5) .ret) (.seq (.dreg f156r6) (.cond (.t 23) (.seq (.reg f156r7) .ret) .skip))))))) (.seq (.reg f156r8) (.seq (.seq (.reg f156r9) (.cond (.t 38) (.seq (.reg f156r10) .ret) .skip)) (.seq (.reg f156r11) (.seq (.reg f156r12) (.seq (.seq (.reg f156r13) (.cond (.t 48) (.reg f156r14) .skip)) (.seq (.seq (.reg f156r15) (.block 1 (.seq (.block 4 (.seq (.block 3 (.seq (.block 2 (.seq (.seq (.seq (.seq (.reg f156r16) (.cond (.t 55) .skip (.reg f156r17))) (.cond (.t 55) (.exit 2) .skip)) (.seq (.reg f156r18) (.cond (.t 58) (.exit 3) .skip))) (.exit 4))) (.seq (.seq (.dreg f156r19) (.seq (.reg f156r20) .ret)) (.exit 1)))) (.seq (.reg f156r21) (.cond (.t 75) (.reg f156r22) .skip)))) (.seq (.dreg f156r23) (.exit 1))))) (.seq (.reg f156r24) .ret))))))))))⟩
/- (*towpath/iso.View).Take -/
def f157r0 : List AOp := [
  ⟨(some 3), .none, .box (.t 1)⟩,
  ⟨(some 4), .none, .mv (.c (.int .i64 0))⟩]
def f157r1 : List AOp := [
  ⟨(some 8), .none, .mv (.t 0)⟩,
  ⟨(some 9), .none, .loadn 7 (.t 3)⟩,
  ⟨(some 10), .none, .call 177 [(.t 8), (.t 9)]⟩,
  ⟨(some 5), .none, .mv (.t 10)⟩]
def f157r2 : List AOp := [
  ⟨(some 11), .none, .mv (.t 5)⟩,
  ⟨(some 12), .none, .bin .neq .num (.t 11) (.c (.int .i64 0))⟩]
def f157r3 : List AOp := [
  ⟨(some 13), .none, .mv (.t 5)⟩,
  ⟨(some 4), .none, .mv (.t 13)⟩]
def f157r4 : List AOp := [
  ⟨(some 14), .none, .mv (.t 0)⟩,
  ⟨(some 15), .none, .loadn 7 (.t 3)⟩,
  ⟨(some 16), .none, .call 95 [(.t 15)]⟩,
  ⟨(some 17), .none, .nilck (.t 14)⟩,
  ⟨(some 18), .none, .faddr 0 (.t 17)⟩,
  ⟨.none, .none, .store 1 (.t 18) (.t 16)⟩]
def f157r5 : DR := ⟨[
  ⟨(some 20), .none, .mv (.t 0)⟩,
  ⟨(some 21), .none, .nilck (.t 20)⟩,
  ⟨(some 22), .none, .faddr 1 (.t 21)⟩,
  ⟨(some 23), .none, .load1 (.t 22)⟩,
  ⟨(some 24), .none, .faddr 1 (.t 3)⟩,
  ⟨(some 25), .none, .load1 (.t 24)⟩,
  ⟨(some 26), .none, .look .num (.agg [(.int .i64 0), (.int .i64 0), (.int .i64 0), (.int .i64 0)]) true (.t 23) (.t 25)⟩,
  ⟨(some 19), .none, .mv (.t 26)⟩,
  ⟨(some 27), .none, .ext (.t 19) 0⟩,
  ⟨(some 28), .none, .ext (.t 19) 1⟩,
  ⟨(some 6), .none, .alloc [(.int .i64 0), (.int .i64 0), (.int .i64 0), (.int .i64 0)]⟩,
  ⟨.none, .none, .store 4 (.t 6) (.t 27)⟩,
  ⟨(some 7), .none, .mv (.t 28)⟩],
  [0, 1, 3, 7, 0, 16, 63, 127, 255, 255, 0, 1535, 4095], [0, 1, 2, 3, 4, 5, 6, 7, 8, 9, 10, 11, 12], [(3, 1), (5, 1), (6, 1)], .none⟩
def f157r6 : List AOp := [
  ⟨(some 30), .none, .faddr 4 (.t 3)⟩,
  ⟨(some 31), .none, .load1 (.t 30)⟩,
  ⟨(some 32), .none, .bin .eql .num (.t 31) (.c (.int .i64 1))⟩,
  ⟨(some 33), .none, .mv (.t 32)⟩,
  ⟨(some 34), (some (33, true)), .mv (.t 7)⟩,
  ⟨(some 35), (some (33, true)), .un .not (.t 34)⟩,
  ⟨(some 36), .none, .pick (.t 33) (.t 35) (.c (.bool false))⟩,
  ⟨(some 29), .none, .mv (.t 36)⟩]
def f157r7 : DR := ⟨[
  ⟨(some 37), .none, .mv (.t 0)⟩,
  ⟨(some 38), .none, .nilck (.t 37)⟩,
  ⟨(some 39), .none, .faddr 1 (.t 38)⟩,
  ⟨(some 40), .none, .load1 (.t 39)⟩,
  ⟨(some 41), .none, .faddr 1 (.t 3)⟩,
  ⟨(some 42), .none, .load1 (.t 41)⟩,
  ⟨(some 43), .none, .faddr 1 (.t 3)⟩,
  ⟨(some 44), .none, .load1 (.t 43)⟩,
  ⟨(some 45), .none, .faddr 2 (.t 3)⟩,
  ⟨(some 46), .none, .load1 (.t 45)⟩,
  ⟨(some 47), .none, .build [(.int .i64 0), (.int .i64 0)] [(0, 1, (.t 44)), (1, 1, (.t 46))]⟩,
  ⟨(some 48), .none, .faddr 0 (.t 3)⟩,
  ⟨(some 49), .none, .load1 (.t 48)⟩,
  ⟨(some 50), .none, .build [(.int .i64 0), (.int .i64 0), (.int .i64 0), (.int .i64 0)] [(0, 2, (.t 47)), (2, 1, (.t 49)), (3, 1, (.c (.int .i64 (-1))))]⟩,
  ⟨.none, .none, .mapup .num (.t 40) (.t 42) (.t 50)⟩],
  [0, 1, 3, 7, 0, 16, 0, 64, 0, 256, 960, 0, 2048, 8128, 16383], [0, 1, 2, 3, 4, 5, 6, 7, 8, 9, 10, 11, 12, 13, 14], [], .none⟩
def f157r8 : List AOp := [
  ⟨(some 52), .none, .loadn 7 (.t 3)⟩,
  ⟨(some 53), .none, .call 184 [(.t 52)]⟩,
  ⟨(some 54), .none, .mv (.t 53)⟩,
  ⟨(some 55), (some (54, true)), .mv (.t 7)⟩,
  ⟨(some 56), .none, .pick (.t 54) (.t 55) (.c (.bool false))⟩,
  ⟨(some 51), .none, .mv (.t 56)⟩]
def f157r9 : DR := ⟨[
  ⟨(some 57), .none, .mv (.t 0)⟩,
  ⟨(some 58), .none, .nilck (.t 57)⟩,
  ⟨(some 59), .none, .faddr 1 (.t 58)⟩,
  ⟨(some 60), .none, .load1 (.t 59)⟩,
  ⟨(some 61), .none, .faddr 1 (.t 3)⟩,
  ⟨(some 62), .none, .load1 (.t 61)⟩,
  ⟨.none, .none, .mapdel .num (.t 60) (.t 62)⟩],
  [0, 1, 3, 7, 0, 16, 63], [0, 1, 2, 3, 4, 5, 6], [], .none⟩
def f157r10 : List AOp := [
  ⟨(some 63), .none, .faddr 4 (.t 3)⟩,
  ⟨(some 64), .none, .load1 (.t 63)⟩,
  ⟨(some 65), .none, .bin .eql .num (.t 64) (.c (.int .i64 3))⟩]
def f157r11 : List AOp := [
  ⟨(some 66), .none, .faddr 0 (.t 3)⟩,
  ⟨(some 67), .none, .load1 (.t 66)⟩,
  ⟨(some 68), .none, .faddr 3 (.t 6)⟩,
  ⟨.none, .none, .store 1 (.t 68) (.t 67)⟩]
def f157r12 : DR := ⟨[
  ⟨(some 69), .none, .mv (.t 0)⟩,
  ⟨(some 70), .none, .nilck (.t 69)⟩,
  ⟨(some 71), .none, .faddr 2 (.t 70)⟩,
  ⟨(some 72), .none, .load1 (.t 71)⟩,
  ⟨(some 73), .none, .faddr 0 (.t 6)⟩,
  ⟨(some 74), .none, .loadn 2 (.t 73)⟩,
  ⟨(some 75), .none, .loadn 4 (.t 6)⟩,
  ⟨.none, .none, .mapup (.agg [.num, .num]) (.t 72) (.t 74) (.t 75)⟩],
  [0, 1, 3, 7, 0, 16, 0, 127], [0, 1, 2, 3, 4, 5, 6, 7], [], .none⟩
def f157r13 : List AOp := [
  ⟨(some 4), .none, .mv (.c (.int .i64 0))⟩]
def f157 : AF := ⟨76, [.tmp 4], (.seq (.reg f157r0) (.seq (.seq (.reg f157r1) (.seq (.reg f157r2) (.cond (.t 12) (.seq (.reg f157r3) .ret) .skip))) (.seq (.reg f157r4) (.seq (.dreg f157r5) (.seq (.block 0 (.seq (.reg f157r6) (.cond (.t 29) (.dreg f157r7) (.seq (.reg f157r8) (.cond (.t 51) (.seq (.dreg f157r9) (.seq (.reg f157r10) (.cond (.t 65) (.seq (.reg f157r11) (.dreg f157r12)) .skip))) .skip))))) (.seq (.reg f157r13) .ret))))))⟩
/- bytes.Clone -/
def f165r0 : List AOp := [
  ⟨(some 2), .none, .mv (.c .nils)⟩]
def f165r1 : List AOp := [
  ⟨(some 3), .none, .mv (.t 0)⟩,
  ⟨(some 4), .none, .bin .eql .slice (.t 3) (.c .nils)⟩]
def f165r2 : List AOp := [
  ⟨(some 2), .none, .mv (.c .nils)⟩]
def f165r3 : List AOp := [
  ⟨(some 5), .none, .bsl false 1 0 [(.int .u8 0)] []⟩,
  ⟨(some 6), .none, .mv (.t 0)⟩,
  ⟨(some 7), .none, .app false 1 1 (.t 5) (.t 6)⟩,
  ⟨(some 2), .none, .mv (.t 7)⟩]
def f165 : AF := ⟨8, [.tmp 2], (.seq (.reg f165r0) (.seq (.seq (.reg f165r1) (.cond (.t 4) (.seq (.reg f165r2) .ret) .skip)) (.seq (.reg f165r3) .ret)))⟩
/- (*towpath/wire.Reader).good -/
def f166r0 : List AOp := [
  ⟨(some 2), .none, .mv (.c (.bool false))⟩]
def f166r1 : List AOp := [
  ⟨(some 3), .none, .mv (.t 0)⟩,
  ⟨(some 4), .none, .bin .neq .ptr (.t 3) (.c .nilp)⟩,
  ⟨(some 5), .none, .mv (.t 4)⟩,
  ⟨(some 6), (some (5, true)), .mv (.t 0)⟩,
  ⟨(some 7), (some (5, true)), .nilck (.t 6)⟩,
  ⟨(some 8), (some (5, true)), .faddr 0 (.t 7)⟩,
  ⟨(some 9), (some (5, true)), .faddr 2 (.t 8)⟩,
  ⟨(some 10), (some (5, true)), .load1 (.t 9)⟩,
  ⟨(some 11), (some (5, true)), .bin .eql .num (.t 10) (.c (.int .i64 0))⟩,
  ⟨(some 12), .none, .pick (.t 5) (.t 11) (.c (.bool false))⟩,
  ⟨(some 2), .none, .mv (.t 12)⟩]
def f166 : AF := ⟨13, [.tmp 2], (.seq (.reg f166r0) (.seq (.reg f166r1) .ret))⟩
/- (*towpath/wire.place).uint -/
def f167r0 : List AOp := [
  ⟨(some 2), .none, .mv (.c (.int .u64 0))⟩]
def f167r1 : List AOp := [
  ⟨(some 3), .none, .mv (.c (.int .u64 0))⟩]
def f167r2 : List AOp := [
  ⟨(some 4), .none, .mv (.c (.int .i64 0))⟩]
def f167r3 : List AOp := [
  ⟨(some 6), .none, .mv (.t 4)⟩,
  ⟨(some 7), .none, .bin .lss .num (.t 6) (.c (.int .i64 10))⟩]
def f167r5 : List AOp := [
  ⟨(some 10), .none, .mv (.t 4)⟩,
  ⟨(some 11), .none, .mv (.t 0)⟩,
  ⟨(some 12), .none, .call 168 [(.t 11)]⟩,
  ⟨(some 13), .none, .bin .geq .num (.t 10) (.t 12)⟩]
def f167r6 : DR := ⟨[
  ⟨(some 14), .none, .mv (.t 0)⟩,
  ⟨(some 15), .none, .nilck (.t 14)⟩,
  ⟨(some 16), .none, .faddr 0 (.t 15)⟩,
  ⟨(some 17), .none, .load1 (.t 16)⟩,
  ⟨(some 18), .none, .mv (.t 0)⟩,
  ⟨(some 19), .none, .nilck (.t 18)⟩,
  ⟨(some 20), .none, .faddr 1 (.t 19)⟩,
  ⟨(some 21), .none, .load1 (.t 20)⟩,
  ⟨(some 22), .none, .mv (.t 4)⟩,
  ⟨(some 23), .none, .bin .add .num (.t 21) (.t 22)⟩,
  ⟨(some 24), .none, .iaddr 1 (.t 17) (.t 23)⟩,
  ⟨(some 25), .none, .load1 (.t 24)⟩,
  ⟨(some 5), .none, .mv (.t 25)⟩],
  [0, 1, 3, 7, 0, 16, 48, 112, 0, 496, 1023, 2047, 4095], [0, 1, 2, 3, 4, 5, 6, 7, 8, 9, 10, 11, 12], [], .none⟩
def f167r7 : List AOp := [
  ⟨(some 26), .none, .mv (.t 4)⟩,
  ⟨(some 27), .none, .bin .eql .num (.t 26) (.c (.int .i64 9))⟩,
  ⟨(some 28), .none, .mv (.t 27)⟩,
  ⟨(some 29), (some (28, true)), .mv (.t 5)⟩,
  ⟨(some 30), (some (28, true)), .bin .gtr .num (.t 29) (.c (.int .u8 1))⟩,
  ⟨(some 31), .none, .pick (.t 28) (.t 30) (.c (.bool false))⟩]
def f167r8 : List AOp := [
  ⟨(some 32), .none, .mv (.t 3)⟩,
  ⟨(some 33), .none, .mv (.t 5)⟩,
  ⟨(some 34), .none, .bin .and .num (.t 33) (.c (.int .u8 127))⟩,
  ⟨(some 35), .none, .conv (.int .u64) (.t 34)⟩,
  ⟨(some 36), .none, .mv (.t 4)⟩,
  ⟨(some 37), .none, .bin .mul .num (.c (.int .i64 7)) (.t 36)⟩,
  ⟨(some 38), .none, .bin .shl .num (.t 35) (.t 37)⟩,
  ⟨(some 39), .none, .bin .or .num (.t 32) (.t 38)⟩,
  ⟨(some 3), .none, .mv (.t 39)⟩]
def f167r9 : List AOp := [
  ⟨(some 40), .none, .mv (.t 5)⟩,
  ⟨(some 41), .none, .bin .geq .num (.t 40) (.c (.int .u8 128))⟩]
def f167r10 : List AOp := [
  ⟨(some 42), .none, .mv (.t 5)⟩,
  ⟨(some 43), .none, .bin .eql .num (.t 42) (.c (.int .u8 0))⟩,
  ⟨(some 44), .none, .mv (.t 43)⟩,
  ⟨(some 45), (some (44, true)), .mv (.t 4)⟩,
  ⟨(some 46), (some (44, true)), .bin .gtr .num (.t 45) (.c (.int .i64 0))⟩,
  ⟨(some 47), .none, .pick (.t 44) (.t 46) (.c (.bool false))⟩]
def f167r11 : List AOp := [
  ⟨(some 48), .none, .mv (.t 0)⟩,
  ⟨(some 49), .none, .nilck (.t 48)⟩,
  ⟨(some 50), .none, .faddr 1 (.t 49)⟩,
  ⟨(some 51), .none, .load1 (.t 50)⟩,
  ⟨(some 52), .none, .mv (.t 4)⟩,
  ⟨(some 53), .none, .bin .add .num (.t 52) (.c (.int .i64 1))⟩,
  ⟨(some 54), .none, .bin .add .num (.t 51) (.t 53)⟩,
  ⟨(some 55), .none, .nilck (.t 48)⟩,
  ⟨(some 56), .none, .faddr 1 (.t 55)⟩,
  ⟨.none, .none, .store 1 (.t 56) (.t 54)⟩]
def f167r12 : List AOp := [
  ⟨(some 57), .none, .mv (.t 3)⟩,
  ⟨(some 2), .none, .mv (.t 57)⟩]
def f167r4 : List AOp := [
  ⟨(some 8), .none, .mv (.t 4)⟩,
  ⟨(some 9), .none, .bin .add .num (.t 8) (.c (.int .i64 1))⟩,
  ⟨(some 4), .none, .mv (.t 9)⟩]
def f167r13 : List AOp := [
  ⟨(some 58), .none, .mv (.t 0)⟩,
  ⟨(some 59), .none, .call 169 [(.t 58), (.c (.int .i64 6))]⟩]
def f167r14 : List AOp := [
  ⟨(some 2), .none, .mv (.c (.int .u64 0))⟩]
def f167 : AF := ⟨60, [.tmp 2], (.seq (.reg f167r0) (.seq (.reg f167r1) (.seq (.seq (.reg f167r2) (.block 0 (.loop (.seq (.seq (.reg f167r3) (.cond (.t 7) .skip (.exit 0))) (.seq (.block 1 (.seq (.seq (.reg f167r5) (.cond (.t 13) (.exit 0) .skip)) (.seq (.dreg f167r6) (.seq (.seq (.reg f167r7) (.cond (.t 31) (.exit 0) .skip)) (.seq (.reg f167r8) (.seq (.seq (.reg f167r9) (.cond (.t 41) (.exit 1) .skip)) (.seq (.seq (.reg f167r10) (.cond (.t 47) (.exit 0) .skip)) (.seq (.reg f167r11) (.seq (.reg f167r12) .ret))))))))) (.reg f167r4)))))) (.seq (.reg f167r13) (.seq (.reg f167r14) .ret)))))⟩
/- (*towpath/wire.place).left -/
def f168r0 : List AOp := [
  ⟨(some 2), .none, .mv (.c (.int .i64 0))⟩]
def f168r1 : DR := ⟨[
  ⟨(some 3), .none, .mv (.t 0)⟩,
  ⟨(some 4), .none, .nilck (.t 3)⟩,
  ⟨(some 5), .none, .faddr 0 (.t 4)⟩,
  ⟨(some 6), .none, .load1 (.t 5)⟩,
  ⟨(some 7), .none, .len .slice (.t 6)⟩,
  ⟨(some 8), .none, .mv (.t 0)⟩,
  ⟨(some 9), .none, .nilck (.t 8)⟩,
  ⟨(some 10), .none, .faddr 1 (.t 9)⟩,
  ⟨(some 11), .none, .load1 (.t 10)⟩,
  ⟨(some 12), .none, .bin .sub .num (.t 7) (.t 11)⟩,
  ⟨(some 2), .none, .mv (.t 12)⟩],
  [0, 1, 3, 7, 15, 0, 32, 96, 224, 511, 1023], [0, 1, 2, 3, 4, 5, 6, 7, 8, 9, 10], [], .none⟩
def f168 : AF := ⟨13, [.tmp 2], (.seq (.reg f168r0) (.seq (.dreg f168r1) .ret))⟩
/- towpath/compact.New -/
def f172r0 : List AOp := [
  ⟨(some 0), .none, .mv (.c .nilp)⟩]
def f172r1 : List AOp := [
  ⟨(some 1), .none, .build [(.int .i64 0), .nils] []⟩,
  ⟨(some 2), .none, .box (.t 1)⟩,
  ⟨(some 0), .none, .mv (.t 2)⟩]
def f172 : AF := ⟨3, [.tmp 0], (.seq (.reg f172r0) (.seq (.reg f172r1) .ret))⟩
/- (*towpath/seglog.Log).Append -/
def f173r0 : List AOp := [
  ⟨(some 4), .none, .mv (.c (.int .i64 0))⟩,
  ⟨(some 5), .none, .mv (.c (.int .i64 0))⟩]
def f173r1 : List AOp := [
  ⟨(some 18), .none, .mv (.t 0)⟩,
  ⟨(some 19), .none, .bin .eql .ptr (.t 18) (.c .nilp)⟩]
def f173r2 : List AOp := [
  ⟨(some 4), .none, .mv (.c (.int .i64 0))⟩,
  ⟨(some 5), .none, .mv (.c (.int .i64 1))⟩]
def f173r3 : List AOp := [
  ⟨(some 20), .none, .mv (.t 1)⟩,
  ⟨(some 21), .none, .len .slice (.t 20)⟩,
  ⟨(some 22), .none, .bin .eql .num (.t 21) (.c (.int .i64 0))⟩]
def f173r4 : List AOp := [
  ⟨(some 4), .none, .mv (.c (.int .i64 0))⟩,
  ⟨(some 5), .none, .mv (.c (.int .i64 3))⟩]
def f173r5 : List AOp := [
  ⟨(some 24), .none, .mv (.t 0)⟩,
  ⟨(some 25), .none, .mv (.t 1)⟩,
  ⟨(some 26), .none, .call 247 [(.t 24), (.t 25)]⟩,
  ⟨(some 23), .none, .mv (.t 26)⟩,
  ⟨(some 27), .none, .ext (.t 23) 0⟩,
  ⟨(some 28), .none, .ext (.t 23) 1⟩,
  ⟨(some 29), .none, .ext (.t 23) 2⟩,
  ⟨(some 6), .none, .mv (.t 27)⟩,
  ⟨(some 7), .none, .mv (.t 28)⟩,
  ⟨(some 8), .none, .mv (.t 29)⟩]
def f173r6 : List AOp := [
  ⟨(some 30), .none, .mv (.t 8)⟩,
  ⟨(some 31), .none, .bin .neq .num (.t 30) (.c (.int .i64 0))⟩]
def f173r7 : List AOp := [
  ⟨(some 32), .none, .mv (.t 8)⟩,
  ⟨(some 4), .none, .mv (.c (.int .i64 0))⟩,
  ⟨(some 5), .none, .mv (.t 32)⟩]
def f173r8 : List AOp := [
  ⟨(some 9), .none, .mv (.c (.int .i64 0))⟩]
def f173r9 : List AOp := [
  ⟨(some 33), .none, .mv (.t 7)⟩,
  ⟨(some 34), .none, .len .slice (.t 33)⟩,
  ⟨(some 35), .none, .mv (.c (.int .i64 0))⟩]
def f173r10 : List AOp := [
  ⟨(some 36), .none, .bin .lss .num (.t 35) (.t 34)⟩]
def f173r11 : List AOp := [
  ⟨(some 37), .none, .iaddr 1 (.t 33) (.t 35)⟩,
  ⟨(some 38), .none, .load1 (.t 37)⟩,
  ⟨(some 11), .none, .mv (.t 38)⟩]
def f173r12 : List AOp := [
  ⟨(some 39), .none, .mv (.t 9)⟩,
  ⟨(some 40), .none, .mv (.t 11)⟩,
  ⟨(some 41), .none, .len .slice (.t 40)⟩,
  ⟨(some 42), .none, .bin .add .num (.t 39) (.t 41)⟩,
  ⟨(some 9), .none, .mv (.t 42)⟩]
def f173r13 : List AOp := [
  ⟨(some 43), .none, .bin .add .num (.t 35) (.c (.int .i64 1))⟩,
  ⟨(some 35), .none, .mv (.t 43)⟩]
def f173r14 : List AOp := [
  ⟨(some 44), .none, .mv (.t 0)⟩,
  ⟨(some 45), .none, .call 205 [(.t 44)]⟩,
  ⟨(some 12), .none, .mv (.t 45)⟩]
def f173r15 : List AOp := [
  ⟨(some 46), .none, .mv (.t 0)⟩,
  ⟨(some 47), .none, .mv (.t 9)⟩,
  ⟨(some 48), .none, .call 248 [(.t 46), (.t 47)]⟩,
  ⟨(some 49), .none, .un .not (.t 48)⟩]
def f173r16 : List AOp := [
  ⟨(some 50), .none, .mv (.t 0)⟩,
  ⟨(some 51), .none, .call 174 [(.t 50)]⟩,
  ⟨(some 13), .none, .mv (.t 51)⟩]
def f173r17 : List AOp := [
  ⟨(some 52), .none, .mv (.t 13)⟩,
  ⟨(some 53), .none, .bin .neq .num (.t 52) (.c (.int .i64 0))⟩]
def f173r18 : List AOp := [
  ⟨(some 54), .none, .mv (.t 13)⟩,
  ⟨(some 4), .none, .mv (.c (.int .i64 0))⟩,
  ⟨(some 5), .none, .mv (.t 54)⟩]
def f173r19 : List AOp := [
  ⟨(some 55), .none, .mv (.t 0)⟩,
  ⟨(some 56), .none, .mv (.t 0)⟩,
  ⟨(some 57), .none, .call 105 [(.t 56)]⟩,
  ⟨(some 58), .none, .call 230 [(.t 55), (.t 57), (.c (.int .i64 0))]⟩,
  ⟨(some 12), .none, .mv (.t 58)⟩]
def f173r20 : DR := ⟨[
  ⟨(some 59), .none, .mv (.t 0)⟩,
  ⟨(some 60), .none, .nilck (.t 59)⟩,
  ⟨(some 61), .none, .faddr 0 (.t 60)⟩,
  ⟨(some 62), .none, .load1 (.t 61)⟩,
  ⟨(some 63), .none, .mv (.t 0)⟩,
  ⟨(some 64), .none, .mv (.t 12)⟩,
  ⟨(some 65), .none, .nilck (.t 64)⟩,
  ⟨(some 66), .none, .faddr 1 (.t 65)⟩,
  ⟨(some 67), .none, .load1 (.t 66)⟩,
  ⟨(some 68), .none, .call 139 [(.t 63), (.t 67), (.c (.str [46, 108, 111, 103]))]⟩,
  ⟨(some 69), .none, .mv (.t 12)⟩,
  ⟨(some 70), .none, .nilck (.t 69)⟩,
  ⟨(some 71), .none, .faddr 1 (.t 70)⟩,
  ⟨(some 72), .none, .load1 (.t 71)⟩,
  ⟨(some 73), .none, .call 249 [(.t 72), (.c (.int .i64 0))]⟩,
  ⟨(some 74), .none, .bsl false 1 1 [.nils] [(0, 1, (.t 73))]⟩,
  ⟨(some 75), .none, .mv (.t 7)⟩,
  ⟨(some 76), .none, .app false 1 24 (.t 74) (.t 75)⟩,
  ⟨(some 77), .none, .call 195 [(.t 62), (.t 68), (.t 76)]⟩,
  ⟨(some 14), .none, .mv (.t 77)⟩],
  [0, 1, 3, 7, 0, 0, 32, 96, 224, 496, 0, 1024, 3072, 7168, 16368, 32752, 0, 131056, 262143, 524287], [0, 1, 2, 3, 4, 5, 6, 7, 8, 9, 10, 11, 12, 13, 14, 15, 16, 17, 18, 19], [(3, 1), (3, 2), (3, 3), (13, 0)], .none⟩
def f173r21 : List AOp := [
  ⟨(some 78), .none, .mv (.t 14)⟩,
  ⟨(some 79), .none, .bin .neq .num (.t 78) (.c (.int .i64 0))⟩]
def f173r22 : List AOp := [
  ⟨(some 80), .none, .mv (.t 14)⟩,
  ⟨(some 4), .none, .mv (.c (.int .i64 0))⟩,
  ⟨(some 5), .none, .mv (.t 80)⟩]
def f173r23 : List AOp := [
  ⟨(some 81), .none, .mv (.t 0)⟩,
  ⟨(some 82), .none, .mv (.t 12)⟩,
  ⟨(some 83), .none, .call 233 [(.t 81), (.t 82)]⟩]
def f173r24 : DR := ⟨[
  ⟨(some 84), .none, .mv (.t 0)⟩,
  ⟨(some 85), .none, .nilck (.t 84)⟩,
  ⟨(some 86), .none, .faddr 0 (.t 85)⟩,
  ⟨(some 87), .none, .load1 (.t 86)⟩,
  ⟨(some 88), .none, .mv (.t 0)⟩,
  ⟨(some 89), .none, .mv (.t 12)⟩,
  ⟨(some 90), .none, .nilck (.t 89)⟩,
  ⟨(some 91), .none, .faddr 1 (.t 90)⟩,
  ⟨(some 92), .none, .load1 (.t 91)⟩,
  ⟨(some 93), .none, .call 139 [(.t 88), (.t 92), (.c (.str [46, 108, 111, 103]))]⟩,
  ⟨(some 94), .none, .mv (.t 7)⟩,
  ⟨(some 95), .none, .call 195 [(.t 87), (.t 93), (.t 94)]⟩,
  ⟨(some 15), .none, .mv (.t 95)⟩],
  [0, 1, 3, 7, 0, 0, 32, 96, 224, 496, 0, 2047, 4095], [0, 1, 2, 3, 4, 5, 6, 7, 8, 9, 10, 11, 12], [(3, 1)], .none⟩
def f173r25 : List AOp := [
  ⟨(some 96), .none, .mv (.t 15)⟩,
  ⟨(some 97), .none, .bin .neq .num (.t 96) (.c (.int .i64 0))⟩]
def f173r26 : List AOp := [
  ⟨(some 98), .none, .mv (.t 15)⟩,
  ⟨(some 4), .none, .mv (.c (.int .i64 0))⟩,
  ⟨(some 5), .none, .mv (.t 98)⟩]
def f173r27 : List AOp := [
  ⟨(some 99), .none, .mv (.t 6)⟩,
  ⟨(some 100), .none, .len .slice (.t 99)⟩,
  ⟨(some 101), .none, .mv (.c (.int .i64 0))⟩]
def f173r28 : List AOp := [
  ⟨(some 102), .none, .bin .lss .num (.t 101) (.t 100)⟩]
def f173r29 : List AOp := [
  ⟨(some 103), .none, .mv (.t 101)⟩,
  ⟨(some 104), .none, .iaddr 7 (.t 99) (.t 101)⟩,
  ⟨(some 105), .none, .loadn 7 (.t 104)⟩,
  ⟨(some 17), .none, .alloc [(.int .i64 0), (.int .i64 0), (.int .i64 0), (.int .i64 0), (.int .i64 0), (.int .i64 0), .nils]⟩,
  ⟨(some 16), .none, .mv (.t 103)⟩,
  ⟨.none, .none, .store 7 (.t 17) (.t 105)⟩]
def f173r30 : DR := ⟨[
  ⟨(some 106), .none, .mv (.t 12)⟩,
  ⟨(some 107), .none, .loadn 7 (.t 17)⟩,
  ⟨(some 108), .none, .mv (.t 7)⟩,
  ⟨(some 109), .none, .mv (.t 16)⟩,
  ⟨(some 110), .none, .iaddr 1 (.t 108) (.t 109)⟩,
  ⟨(some 111), .none, .load1 (.t 110)⟩,
  ⟨(some 112), .none, .len .slice (.t 111)⟩,
  ⟨(some 113), .none, .call 232 [(.t 106), (.t 107), (.t 112)]⟩],
  [0, 0, 0, 0, 12, 28, 60, 127], [0, 1, 2, 3, 4, 5, 6, 7], [], .none⟩
def f173r31 : List AOp := [
  ⟨(some 114), .none, .bin .add .num (.t 101) (.c (.int .i64 1))⟩,
  ⟨(some 101), .none, .mv (.t 114)⟩]
def f173r32 : List AOp := [
  ⟨(some 115), .none, .mv (.t 6)⟩,
  ⟨(some 116), .none, .iaddr 7 (.t 115) (.c (.int .i64 0))⟩,
  ⟨(some 117), .none, .faddr 0 (.t 116)⟩,
  ⟨(some 118), .none, .load1 (.t 117)⟩,
  ⟨(some 4), .none, .mv (.t 118)⟩,
  ⟨(some 5), .none, .mv (.c (.int .i64 0))⟩]
def f173 : AF := ⟨119, [.tmp 4, .tmp 5], (.seq (.reg f173r0) (.seq (.seq (.reg f173r1) (.cond (.t 19) (.seq (.reg f173r2) .ret) .skip)) (.seq (.seq (.reg f173r3) (.cond (.t 22) (.seq (.reg f173r4) .ret) .skip)) (.seq (.reg f173r5) (.seq (.seq (.reg f173r6) (.cond (.t 31) (.seq (.reg f173r7) .ret) .skip)) (.seq (.reg f173r8) (.seq (.seq (.reg f173r9) (.block 0 (.loop (.seq (.reg f173r10) (.seq (.cond (.t 36) .skip (.exit 0)) (.seq (.block 1 (.seq (.reg f173r11) (.reg f173r12))) (.reg f173r13))))))) (.seq (.reg f173r14) (.seq (.seq (.reg f173r15) (.cond (.t 49) (.seq (.seq (.reg f173r16) (.seq (.reg f173r17) (.cond (.t 53) (.seq (.reg f173r18) .ret) .skip))) (.seq (.reg f173r19) (.seq (.seq (.dreg f173r20) (.seq (.reg f173r21) (.cond (.t 79) (.seq (.reg f173r22) .ret) .skip))) (.reg f173r23)))) (.seq (.dreg f173r24) (.seq (.reg f173r25) (.cond (.t 97) (.seq (.reg f173r26) .ret) .skip))))) (.seq (.seq (.reg f173r27) (.block 2 (.loop (.seq (.reg f173r28) (.seq (.cond (.t 102) .skip (.exit 2)) (.seq (.block 3 (.seq (.reg f173r29) (.dreg f173r30))) (.reg f173r31))))))) (.seq (.reg f173r32) .ret)))))))))))⟩
/- (*towpath/seglog.Log).Sync -/
def f174r0 : List AOp := [
  ⟨(some 2), .none, .mv (.c (.int .i64 0))⟩]
def f174r1 : List AOp := [
  ⟨(some 4), .none, .mv (.t 0)⟩,
  ⟨(some 5), .none, .bin .eql .ptr (.t 4) (.c .nilp)⟩]
def f174r2 : List AOp := [
  ⟨(some 2), .none, .mv (.c (.int .i64 1))⟩]
def f174r3 : List AOp := [
  ⟨(some 6), .none, .mv (.t 0)⟩,
  ⟨(some 7), .none, .call 205 [(.t 6)]⟩,
  ⟨(some 3), .none, .mv (.t 7)⟩]
def f174r4 : List AOp := [
  ⟨(some 8), .none, .mv (.t 3)⟩,
  ⟨(some 9), .none, .bin .neq .ptr (.t 8) (.c .nilp)⟩]
def f174r5 : DR := ⟨[
  ⟨(some 10), .none, .mv (.t 0)⟩,
  ⟨(some 11), .none, .nilck (.t 10)⟩,
  ⟨(some 12), .none, .faddr 0 (.t 11)⟩,
  ⟨(some 13), .none, .load1 (.t 12)⟩,
  ⟨(some 14), .none, .mv (.t 0)⟩,
  ⟨(some 15), .none, .mv (.t 3)⟩,
  ⟨(some 16), .none, .nilck (.t 15)⟩,
  ⟨(some 17), .none, .faddr 1 (.t 16)⟩,
  ⟨(some 18), .none, .load1 (.t 17)⟩,
  ⟨(some 19), .none, .call 139 [(.t 14), (.t 18), (.c (.str [46, 108, 111, 103]))]⟩,
  ⟨(some 20), .none, .bsl false 1 1 [(.str [])] [(0, 1, (.t 19))]⟩,
  ⟨(some 21), .none, .call 196 [(.t 13), (.t 20)]⟩,
  ⟨(some 2), .none, .mv (.t 21)⟩],
  [0, 1, 3, 7, 0, 0, 32, 96, 224, 496, 1008, 2047, 4095], [0, 1, 2, 3, 4, 5, 6, 7, 8, 9, 10, 11, 12], [(3, 1)], .none⟩
def f174r6 : List AOp := [
  ⟨(some 2), .none, .mv (.c (.int .i64 0))⟩]
def f174 : AF := ⟨22, [.tmp 2], (.seq (.reg f174r0) (.seq (.seq (.reg f174r1) (.cond (.t 5) (.seq (.reg f174r2) .ret) .skip)) (.seq (.seq (.reg f174r3) (.seq (.reg f174r4) (.cond (.t 9) (.seq (.dreg f174r5) .ret) .skip))) (.seq (.reg f174r6) .ret))))⟩
/- towpath/rec.Copy -/
def f175r0 : List AOp := [
  ⟨(some 1), .none, .box (.t 0)⟩,
  ⟨(some 2), .none, .alloc [(.int .i64 0), (.int .i64 0), (.int .i64 0), (.int .i64 0), (.int .i64 0), (.int .i64 0), .nils]⟩]
def f175r1 : List AOp := [
  ⟨(some 3), .none, .faddr 6 (.t 1)⟩,
  ⟨(some 4), .none, .load1 (.t 3)⟩,
  ⟨(some 5), .none, .app false 4 48 (.c .nils) (.t 4)⟩,
  ⟨(some 6), .none, .faddr 6 (.t 1)⟩,
  ⟨.none, .none, .store 1 (.t 6) (.t 5)⟩]
def f175r2 : List AOp := [
  ⟨(some 7), .none, .loadn 7 (.t 1)⟩,
  ⟨.none, .none, .store 7 (.t 2) (.t 7)⟩]
def f175 : AF := ⟨8, [.celln 2 7], (.seq (.reg f175r0) (.seq (.reg f175r1) (.seq (.reg f175r2) .ret)))⟩
/- (*towpath/dedup.Table).Judge -/
def f176r0 : List AOp := [
  ⟨(some 3), .none, .box (.t 1)⟩,
  ⟨(some 4), .none, .alloc [(.bool false), (.int .i64 0)]⟩,
  ⟨(some 5), .none, .mv (.c (.int .i64 0))⟩]
def f176r1 : List AOp := [
  ⟨(some 11), .none, .mv (.t 0)⟩,
  ⟨(some 12), .none, .bin .eql .ptr (.t 11) (.c .nilp)⟩]
def f176r2 : List AOp := [
  ⟨(some 13), .none, .build [(.bool false), (.int .i64 0)] []⟩,
  ⟨.none, .none, .store 2 (.t 4) (.t 13)⟩,
  ⟨(some 5), .none, .mv (.c (.int .i64 1))⟩]
def f176r3 : List AOp := [
  ⟨(some 14), .none, .loadn 7 (.t 3)⟩,
  ⟨(some 15), .none, .call 186 [(.t 14)]⟩,
  ⟨(some 6), .none, .mv (.t 15)⟩]
def f176r4 : List AOp := [
  ⟨(some 16), .none, .mv (.t 6)⟩,
  ⟨(some 17), .none, .bin .neq .num (.t 16) (.c (.int .i64 0))⟩,
  ⟨(some 18), .none, .mv (.t 17)⟩,
  ⟨(some 19), (some (18, false)), .faddr 1 (.t 3)⟩,
  ⟨(some 20), (some (18, false)), .load1 (.t 19)⟩,
  ⟨(some 21), (some (18, false)), .bin .eql .num (.t 20) (.c (.int .i64 0))⟩,
  ⟨(some 22), .none, .pick (.t 18) (.c (.bool true)) (.t 21)⟩]
def f176r5 : List AOp := [
  ⟨(some 23), .none, .build [(.bool false), (.int .i64 0)] []⟩,
  ⟨(some 24), .none, .mv (.t 6)⟩,
  ⟨.none, .none, .store 2 (.t 4) (.t 23)⟩,
  ⟨(some 5), .none, .mv (.t 24)⟩]
def f176r6 : List AOp := [
  ⟨(some 26), .none, .mv (.t 0)⟩,
  ⟨(some 27), .none, .faddr 1 (.t 3)⟩,
  ⟨(some 28), .none, .load1 (.t 27)⟩,
  ⟨(some 29), .none, .call 243 [(.t 26), (.t 28)]⟩,
  ⟨(some 25), .none, .mv (.t 29)⟩,
  ⟨(some 30), .none, .ext (.t 25) 0⟩,
  ⟨(some 31), .none, .ext (.t 25) 1⟩,
  ⟨(some 7), .none, .alloc [(.int .i64 0), (.int .i64 0), (.int .i64 0), (.int .i64 0), (.int .i64 0), (.int .i64 0), (.int .i64 0)]⟩,
  ⟨.none, .none, .store 7 (.t 7) (.t 30)⟩,
  ⟨(some 8), .none, .mv (.t 31)⟩]
def f176r7 : List AOp := [
  ⟨(some 32), .none, .faddr 2 (.t 3)⟩,
  ⟨(some 33), .none, .load1 (.t 32)⟩,
  ⟨(some 34), .none, .faddr 1 (.t 7)⟩,
  ⟨(some 35), .none, .load1 (.t 34)⟩,
  ⟨(some 36), .none, .bin .lss .num (.t 33) (.t 35)⟩]
def f176r8 : List AOp := [
  ⟨(some 37), .none, .loadn 7 (.t 3)⟩,
  ⟨(some 38), .none, .call 250 [(.t 37)]⟩]
def f176r9 : List AOp := [
  ⟨(some 39), .none, .build [(.bool false), (.int .i64 0)] [(0, 1, (.c (.bool true))), (1, 1, (.c (.int .i64 (-1))))]⟩,
  ⟨.none, .none, .store 2 (.t 4) (.t 39)⟩,
  ⟨(some 5), .none, .mv (.c (.int .i64 0))⟩]
def f176r10 : List AOp := [
  ⟨(some 40), .none, .build [(.bool false), (.int .i64 0)] []⟩,
  ⟨.none, .none, .store 2 (.t 4) (.t 40)⟩,
  ⟨(some 5), .none, .mv (.c (.int .i64 20))⟩]
def f176r11 : List AOp := [
  ⟨(some 41), .none, .loadn 7 (.t 3)⟩,
  ⟨(some 42), .none, .call 250 [(.t 41)]⟩,
  ⟨(some 43), .none, .un .not (.t 42)⟩]
def f176r12 : List AOp := [
  ⟨(some 45), .none, .loadn 7 (.t 7)⟩,
  ⟨(some 46), .none, .loadn 7 (.t 3)⟩,
  ⟨(some 47), .none, .call 251 [(.t 45), (.t 46)]⟩,
  ⟨(some 44), .none, .mv (.t 47)⟩,
  ⟨(some 48), .none, .ext (.t 44) 0⟩,
  ⟨(some 49), .none, .ext (.t 44) 1⟩,
  ⟨(some 9), .none, .alloc [(.bool false), (.int .i64 0)]⟩,
  ⟨.none, .none, .store 2 (.t 9) (.t 48)⟩,
  ⟨(some 10), .none, .mv (.t 49)⟩]
def f176r13 : List AOp := [
  ⟨(some 50), .none, .mv (.t 10)⟩]
def f176r14 : List AOp := [
  ⟨(some 51), .none, .loadn 2 (.t 9)⟩,
  ⟨.none, .none, .store 2 (.t 4) (.t 51)⟩,
  ⟨(some 5), .none, .mv (.c (.int .i64 0))⟩]
def f176r15 : List AOp := [
  ⟨(some 52), .none, .build [(.bool false), (.int .i64 0)] []⟩,
  ⟨(some 53), .none, .mv (.t 0)⟩,
  ⟨(some 54), .none, .loadn 7 (.t 7)⟩,
  ⟨(some 55), .none, .mv (.t 8)⟩,
  ⟨(some 56), .none, .loadn 7 (.t 3)⟩,
  ⟨(some 57), .none, .call 252 [(.t 53), (.t 54), (.t 55), (.t 56)]⟩,
  ⟨.none, .none, .store 2 (.t 4) (.t 52)⟩,
  ⟨(some 5), .none, .mv (.t 57)⟩]
def f176 : AF := ⟨58, [.celln 4 2, .tmp 5], (.seq (.reg f176r0) (.seq (.seq (.reg f176r1) (.cond (.t 12) (.seq (.reg f176r2) .ret) .skip)) (.seq (.seq (.reg f176r3) (.seq (.reg f176r4) (.cond (.t 22) (.seq (.reg f176r5) .ret) .skip))) (.seq (.reg f176r6) (.seq (.seq (.reg f176r7) (.cond (.t 36) (.seq (.seq (.reg f176r8) (.cond (.t 38) (.seq (.reg f176r9) .ret) .skip)) (.seq (.reg f176r10) .ret)) .skip)) (.seq (.seq (.reg f176r11) (.cond (.t 43) (.seq (.reg f176r12) (.seq (.reg f176r13) (.cond (.t 50) (.seq (.reg f176r14) .ret) .skip))) .skip)) (.seq (.reg f176r15) .ret)))))))⟩
/- (*towpath/iso.View).May -/
def f177r0 : List AOp := [
  ⟨(some 3), .none, .box (.t 1)⟩,
  ⟨(some 4), .none, .mv (.c (.int .i64 0))⟩]
def f177r1 : List AOp := [
  ⟨(some 6), .none, .mv (.t 0)⟩,
  ⟨(some 7), .none, .bin .eql .ptr (.t 6) (.c .nilp)⟩]
def f177r2 : List AOp := [
  ⟨(some 4), .none, .mv (.c (.int .i64 1))⟩]
def f177r3 : List AOp := [
  ⟨(some 8), .none, .loadn 7 (.t 3)⟩,
  ⟨(some 9), .none, .call 186 [(.t 8)]⟩,
  ⟨(some 5), .none, .mv (.t 9)⟩]
def f177r4 : List AOp := [
  ⟨(some 10), .none, .mv (.t 5)⟩,
  ⟨(some 11), .none, .bin .neq .num (.t 10) (.c (.int .i64 0))⟩]
def f177r5 : List AOp := [
  ⟨(some 12), .none, .mv (.t 5)⟩,
  ⟨(some 4), .none, .mv (.t 12)⟩]
def f177r6 : DR := ⟨[
  ⟨(some 14), .none, .faddr 0 (.t 3)⟩,
  ⟨(some 15), .none, .load1 (.t 14)⟩,
  ⟨(some 16), .none, .mv (.t 0)⟩,
  ⟨(some 17), .none, .nilck (.t 16)⟩,
  ⟨(some 18), .none, .faddr 0 (.t 17)⟩,
  ⟨(some 19), .none, .load1 (.t 18)⟩,
  ⟨(some 20), .none, .bin .lss .num (.t 15) (.t 19)⟩,
  ⟨(some 13), .none, .mv (.t 20)⟩],
  [0, 1, 0, 4, 12, 28, 63, 127], [0, 1, 2, 3, 4, 5, 6, 7], [], .none⟩
def f177r7 : List AOp := [
  ⟨(some 4), .none, .mv (.c (.int .i64 8))⟩]
def f177r8 : List AOp := [
  ⟨(some 22), .none, .faddr 4 (.t 3)⟩,
  ⟨(some 23), .none, .load1 (.t 22)⟩,
  ⟨(some 24), .none, .bin .neq .num (.t 23) (.c (.int .i64 0))⟩,
  ⟨(some 21), .none, .mv (.t 24)⟩]
def f177r9 : List AOp := [
  ⟨(some 25), .none, .mv (.t 0)⟩,
  ⟨(some 26), .none, .loadn 7 (.t 3)⟩,
  ⟨(some 27), .none, .call 253 [(.t 25), (.t 26)]⟩,
  ⟨(some 4), .none, .mv (.t 27)⟩]
def f177r10 : List AOp := [
  ⟨(some 4), .none, .mv (.c (.int .i64 0))⟩]
def f177 : AF := ⟨28, [.tmp 4], (.seq (.reg f177r0) (.seq (.seq (.reg f177r1) (.cond (.t 7) (.seq (.reg f177r2) .ret) .skip)) (.seq (.seq (.reg f177r3) (.seq (.reg f177r4) (.cond (.t 11) (.seq (.reg f177r5) .ret) .skip))) (.seq (.block 0 (.seq (.dreg f177r6) (.cond (.t 13) (.seq (.reg f177r7) .ret) (.seq (.reg f177r8) (.cond (.t 21) (.seq (.reg f177r9) .ret) .skip))))) (.seq (.reg f177r10) .ret)))))⟩
/- sort.Search -/
def f178r0 : List AOp := [
  ⟨(some 4), .none, .mv (.c (.int .i64 0))⟩]
def f178r1 : List AOp := [
  ⟨(some 8), .none, .mv (.t 0)⟩,
  ⟨(some 5), .none, .mv (.c (.int .i64 0))⟩,
  ⟨(some 6), .none, .mv (.t 8)⟩]
def f178r2 : List AOp := [
  ⟨(some 9), .none, .mv (.t 5)⟩,
  ⟨(some 10), .none, .mv (.t 6)⟩,
  ⟨(some 11), .none, .bin .lss .num (.t 9) (.t 10)⟩]
def f178r3 : List AOp := [
  ⟨(some 12), .none, .mv (.t 5)⟩,
  ⟨(some 13), .none, .mv (.t 6)⟩,
  ⟨(some 14), .none, .bin .add .num (.t 12) (.t 13)⟩,
  ⟨(some 15), .none, .conv (.int .u64) (.t 14)⟩,
  ⟨(some 16), .none, .bin .shr .num (.t 15) (.c (.int .u64 1))⟩,
  ⟨(some 17), .none, .conv (.int .i64) (.t 16)⟩,
  ⟨(some 7), .none, .mv (.t 17)⟩]
def f178r4 : List AOp := [
  ⟨(some 18), .none, .mv (.t 1)⟩,
  ⟨(some 19), .none, .mv (.t 7)⟩,
  ⟨(some 20), .none, .callv (.t 18) [(.t 19)]⟩,
  ⟨(some 21), .none, .un .not (.t 20)⟩]
def f178r5 : List AOp := [
  ⟨(some 22), .none, .mv (.t 7)⟩,
  ⟨(some 23), .none, .bin .add .num (.t 22) (.c (.int .i64 1))⟩,
  ⟨(some 5), .none, .mv (.t 23)⟩]
def f178r6 : List AOp := [
  ⟨(some 24), .none, .mv (.t 7)⟩,
  ⟨(some 6), .none, .mv (.t 24)⟩]
def f178r7 : List AOp := [
  ⟨(some 25), .none, .mv (.t 5)⟩,
  ⟨(some 4), .none, .mv (.t 25)⟩]
def f178 : AF := ⟨26, [.tmp 4], (.seq (.reg f178r0) (.seq (.reg f178r1) (.seq (.block 0 (.loop (.seq (.seq (.reg f178r2) (.cond (.t 11) .skip (.exit 0))) (.block 1 (.seq (.reg f178r3) (.seq (.reg f178r4) (.cond (.t 21) (.reg f178r5) (.reg f178r6)))))))) (.seq (.reg f178r7) .ret))))⟩
/- (*towpath/seglog.Log).Read$1 -/
def f179r0 : List AOp := [
  ⟨(some 4), .none, .mv (.c (.bool false))⟩]
def f179r1 : DR := ⟨[
  ⟨(some 5), .none, .load1 (.t 1)⟩,
  ⟨(some 6), .none, .nilck (.t 5)⟩,
  ⟨(some 7), .none, .faddr 4 (.t 6)⟩,
  ⟨(some 8), .none, .load1 (.t 7)⟩,
  ⟨(some 9), .none, .mv (.t 0)⟩,
  ⟨(some 10), .none, .iaddr 1 (.t 8) (.t 9)⟩,
  ⟨(some 11), .none, .load1 (.t 10)⟩,
  ⟨(some 12), .none, .nilck (.t 11)⟩,
  ⟨(some 13), .none, .faddr 1 (.t 12)⟩,
  ⟨(some 14), .none, .load1 (.t 13)⟩,
  ⟨(some 15), .none, .load1 (.t 2)⟩,
  ⟨(some 16), .none, .bin .gtr .num (.t 14) (.t 15)⟩,
  ⟨(some 4), .none, .mv (.t 16)⟩],
  [0, 1, 3, 7, 0, 31, 63, 127, 255, 511, 0, 2047, 4095], [0, 1, 2, 3, 4, 5, 6, 7, 8, 9, 10, 11, 12], [], .none⟩
def f179 : AF := ⟨17, [.tmp 4], (.seq (.reg f179r0) (.seq (.dreg f179r1) .ret))⟩
/- (*towpath/seglog.Log).walk -/
def f180r0 : List AOp := [
  ⟨(some 8), .none, .mv (.c (.bool false))⟩]
def f180r1 : DR := ⟨[
  ⟨(some 18), .none, .mv (.t 0)⟩,
  ⟨(some 19), .none, .nilck (.t 18)⟩,
  ⟨(some 20), .none, .faddr 0 (.t 19)⟩,
  ⟨(some 21), .none, .load1 (.t 20)⟩,
  ⟨(some 22), .none, .mv (.t 0)⟩,
  ⟨(some 23), .none, .mv (.t 1)⟩,
  ⟨(some 24), .none, .nilck (.t 23)⟩,
  ⟨(some 25), .none, .faddr 1 (.t 24)⟩,
  ⟨(some 26), .none, .load1 (.t 25)⟩,
  ⟨(some 27), .none, .call 139 [(.t 22), (.t 26), (.c (.str [46, 108, 111, 103]))]⟩,
  ⟨(some 28), .none, .call 143 [(.t 21), (.t 27)]⟩,
  ⟨(some 17), .none, .mv (.t 28)⟩,
  ⟨(some 29), .none, .ext (.t 17) 0⟩,
  ⟨(some 30), .none, .ext (.t 17) 1⟩,
  ⟨(some 9), .none, .mv (.t 29)⟩,
  ⟨(some 10), .none, .mv (.t 30)⟩],
  [0, 1, 3, 7, 0, 0, 32, 96, 224, 496, 1023, 2047, 4095, 4095, 8191, 32767], [0, 1, 2, 3, 4, 5, 6, 7, 8, 9, 10, 11, 12, 13, 14, 15], [(3, 1)], .none⟩
def f180r2 : List AOp := [
  ⟨(some 31), .none, .mv (.t 2)⟩,
  ⟨(some 11), .none, .mv (.t 31)⟩]
def f180r3 : List AOp := [
  ⟨(some 32), .none, .mv (.t 11)⟩,
  ⟨(some 33), .none, .mv (.t 9)⟩,
  ⟨(some 34), .none, .len .slice (.t 33)⟩,
  ⟨(some 35), .none, .bin .lss .num (.t 32) (.t 34)⟩,
  ⟨(some 36), .none, .mv (.t 35)⟩,
  ⟨(some 37), (some (36, true)), .mv (.t 11)⟩,
  ⟨(some 38), (some (36, true)), .mv (.t 1)⟩,
  ⟨(some 39), (some (36, true)), .nilck (.t 38)⟩,
  ⟨(some 40), (some (36, true)), .faddr 5 (.t 39)⟩,
  ⟨(some 41), (some (36, true)), .load1 (.t 40)⟩,
  ⟨(some 42), (some (36, true)), .bin .lss .num (.t 37) (.t 41)⟩,
  ⟨(some 43), .none, .pick (.t 36) (.t 42) (.c (.bool false))⟩]
def f180r4 : List AOp := [
  ⟨(some 45), .none, .mv (.t 9)⟩,
  ⟨(some 46), .none, .mv (.t 11)⟩,
  ⟨(some 47), .none, .slc 1 (.t 45) (some (.t 46)) .none .none⟩,
  ⟨(some 48), .none, .call 228 [(.t 47)]⟩,
  ⟨(some 44), .none, .mv (.t 48)⟩,
  ⟨(some 49), .none, .ext (.t 44) 0⟩,
  ⟨(some 50), .none, .ext (.t 44) 1⟩,
  ⟨(some 51), .none, .ext (.t 44) 2⟩,
  ⟨(some 12), .none, .mv (.t 49)⟩,
  ⟨(some 13), .none, .mv (.t 50)⟩,
  ⟨(some 14), .none, .mv (.t 51)⟩]
def f180r5 : List AOp := [
  ⟨(some 52), .none, .mv (.t 14)⟩,
  ⟨(some 53), .none, .un .not (.t 52)⟩]
def f180r6 : List AOp := [
  ⟨(some 8), .none, .mv (.c (.bool true))⟩]
def f180r7 : List AOp := [
  ⟨(some 55), .none, .mv (.t 12)⟩,
  ⟨(some 56), .none, .call 231 [(.t 55)]⟩,
  ⟨(some 54), .none, .mv (.t 56)⟩,
  ⟨(some 57), .none, .ext (.t 54) 0⟩,
  ⟨(some 58), .none, .ext (.t 54) 1⟩,
  ⟨(some 15), .none, .alloc [(.int .i64 0), (.int .i64 0), (.int .i64 0), (.int .i64 0), (.int .i64 0), (.int .i64 0), .nils]⟩,
  ⟨.none, .none, .store 7 (.t 15) (.t 57)⟩,
  ⟨(some 16), .none, .mv (.t 58)⟩]
def f180r8 : List AOp := [
  ⟨(some 59), .none, .mv (.t 16)⟩,
  ⟨(some 60), .none, .bin .neq .num (.t 59) (.c (.int .i64 0))⟩,
  ⟨(some 61), .none, .mv (.t 60)⟩,
  ⟨(some 62), (some (61, false)), .mv (.t 3)⟩,
  ⟨(some 63), (some (61, false)), .loadn 7 (.t 15)⟩,
  ⟨(some 64), (some (61, false)), .callv (.t 62) [(.t 63)]⟩,
  ⟨(some 65), (some (61, false)), .un .not (.t 64)⟩,
  ⟨(some 66), .none, .pick (.t 61) (.c (.bool true)) (.t 65)⟩]
def f180r9 : List AOp := [
  ⟨(some 8), .none, .mv (.c (.bool false))⟩]
def f180r10 : List AOp := [
  ⟨(some 67), .none, .mv (.t 11)⟩,
  ⟨(some 68), .none, .mv (.t 13)⟩,
  ⟨(some 69), .none, .bin .add .num (.t 67) (.t 68)⟩,
  ⟨(some 11), .none, .mv (.t 69)⟩]
def f180r11 : List AOp := [
  ⟨(some 8), .none, .mv (.c (.bool true))⟩]
def f180 : AF := ⟨70, [.tmp 8], (.seq (.reg f180r0) (.seq (.dreg f180r1) (.seq (.seq (.reg f180r2) (.block 0 (.loop (.seq (.seq (.reg f180r3) (.cond (.t 43) .skip (.exit 0))) (.block 1 (.seq (.reg f180r4) (.seq (.seq (.reg f180r5) (.cond (.t 53) (.seq (.reg f180r6) .ret) .skip)) (.seq (.reg f180r7) (.seq (.seq (.reg f180r8) (.cond (.t 66) (.seq (.reg f180r9) .ret) .skip)) (.reg f180r10)))))))))) (.seq (.reg f180r11) .ret))))⟩
/- (*towpath/seglog.segment).from -/
def f181r0 : List AOp := [
  ⟨(some 4), .none, .mv (.c (.int .i64 0))⟩]
def f181r1 : List AOp := [
  ⟨(some 8), .none, .mv (.t 0)⟩,
  ⟨(some 9), .none, .nilck (.t 8)⟩,
  ⟨(some 10), .none, .faddr 0 (.t 9)⟩,
  ⟨(some 11), .none, .load1 (.t 10)⟩,
  ⟨(some 12), .none, .mv (.t 1)⟩,
  ⟨(some 13), .none, .call 254 [(.t 11), (.t 12)]⟩,
  ⟨(some 7), .none, .mv (.t 13)⟩,
  ⟨(some 14), .none, .ext (.t 7) 0⟩,
  ⟨(some 15), .none, .ext (.t 7) 1⟩,
  ⟨(some 5), .none, .alloc [(.int .i64 0), (.int .i64 0), (.int .i64 0)]⟩,
  ⟨.none, .none, .store 3 (.t 5) (.t 14)⟩,
  ⟨(some 6), .none, .mv (.t 15)⟩]
def f181r2 : List AOp := [
  ⟨(some 16), .none, .mv (.t 6)⟩]
def f181r3 : List AOp := [
  ⟨(some 17), .none, .faddr 1 (.t 5)⟩,
  ⟨(some 18), .none, .load1 (.t 17)⟩,
  ⟨(some 4), .none, .mv (.t 18)⟩]
def f181r4 : DR := ⟨[
  ⟨(some 19), .none, .mv (.t 0)⟩,
  ⟨(some 20), .none, .nilck (.t 19)⟩,
  ⟨(some 21), .none, .faddr 1 (.t 20)⟩,
  ⟨(some 22), .none, .load1 (.t 21)⟩,
  ⟨(some 23), .none, .mv (.t 0)⟩,
  ⟨(some 24), .none, .nilck (.t 23)⟩,
  ⟨(some 25), .none, .faddr 2 (.t 24)⟩,
  ⟨(some 26), .none, .load1 (.t 25)⟩,
  ⟨(some 27), .none, .call 249 [(.t 22), (.t 26)]⟩,
  ⟨(some 28), .none, .len .slice (.t 27)⟩,
  ⟨(some 4), .none, .mv (.t 28)⟩],
  [0, 1, 3, 7, 0, 16, 48, 112, 255, 511, 1023], [0, 1, 2, 3, 4, 5, 6, 7, 8, 9, 10], [], .none⟩
def f181 : AF := ⟨29, [.tmp 4], (.seq (.reg f181r0) (.seq (.seq (.reg f181r1) (.seq (.reg f181r2) (.cond (.t 16) (.seq (.reg f181r3) .ret) .skip))) (.seq (.dreg f181r4) .ret)))⟩
/- (*towpath/seglog.Log).Read$2 -/
def f182r0 : List AOp := [
  ⟨(some 4), .none, .box (.t 0)⟩,
  ⟨(some 5), .none, .mv (.c (.bool false))⟩]
def f182r1 : List AOp := [
  ⟨(some 9), .none, .loadn 7 (.t 4)⟩,
  ⟨(some 10), .none, .load1 (.t 1)⟩,
  ⟨(some 11), .none, .call 183 [(.t 9), (.t 10)]⟩,
  ⟨(some 8), .none, .mv (.t 11)⟩,
  ⟨(some 12), .none, .ext (.t 8) 0⟩,
  ⟨(some 13), .none, .ext (.t 8) 1⟩,
  ⟨(some 6), .none, .alloc [(.int .i64 0), (.int .i64 0), (.int .i64 0), (.int .i64 0), (.int .i64 0), (.int .i64 0), .nils]⟩,
  ⟨.none, .none, .store 7 (.t 6) (.t 12)⟩,
  ⟨(some 7), .none, .mv (.t 13)⟩]
def f182r2 : List AOp := [
  ⟨(some 14), .none, .mv (.t 7)⟩]
def f182r3 : List AOp := [
  ⟨(some 15), .none, .load1 (.t 2)⟩,
  ⟨(some 16), .none, .loadn 7 (.t 6)⟩,
  ⟨(some 17), .none, .bsl false 7 1 [(.int .i64 0), (.int .i64 0), (.int .i64 0), (.int .i64 0), (.int .i64 0), (.int .i64 0), .nils] [(0, 7, (.t 16))]⟩,
  ⟨(some 18), .none, .app false 7 72 (.t 15) (.t 17)⟩,
  ⟨.none, .none, .store 1 (.t 2) (.t 18)⟩]
def f182r4 : List AOp := [
  ⟨(some 19), .none, .load1 (.t 2)⟩,
  ⟨(some 20), .none, .len .slice (.t 19)⟩,
  ⟨(some 21), .none, .load1 (.t 3)⟩,
  ⟨(some 22), .none, .bin .lss .num (.t 20) (.t 21)⟩,
  ⟨(some 5), .none, .mv (.t 22)⟩]
def f182 : AF := ⟨23, [.tmp 5], (.seq (.reg f182r0) (.seq (.seq (.reg f182r1) (.seq (.reg f182r2) (.cond (.t 14) (.reg f182r3) .skip))) (.seq (.reg f182r4) .ret)))⟩
/- towpath/rec.From -/
def f183r0 : List AOp := [
  ⟨(some 2), .none, .box (.t 0)⟩,
  ⟨(some 4), .none, .alloc [(.int .i64 0), (.int .i64 0), (.int .i64 0), (.int .i64 0), (.int .i64 0), (.int .i64 0), .nils]⟩,
  ⟨(some 5), .none, .mv (.c (.bool false))⟩]
def f183r1 : List AOp := [
  ⟨(some 7), .none, .loadn 7 (.t 2)⟩,
  ⟨(some 8), .none, .call 186 [(.t 7)]⟩,
  ⟨(some 9), .none, .bin .neq .num (.t 8) (.c (.int .i64 0))⟩,
  ⟨(some 10), .none, .mv (.t 9)⟩,
  ⟨(some 11), (some (10, false)), .mv (.t 1)⟩,
  ⟨(some 12), (some (10, false)), .loadn 7 (.t 2)⟩,
  ⟨(some 13), (some (10, false)), .call 95 [(.t 12)]⟩,
  ⟨(some 14), (some (10, false)), .bin .geq .num (.t 11) (.t 13)⟩,
  ⟨(some 15), .none, .pick (.t 10) (.c (.bool true)) (.t 14)⟩,
  ⟨(some 6), .none, .mv (.t 15)⟩]
def f183r2 : List AOp := [
  ⟨(some 16), .none, .build [(.int .i64 0), (.int .i64 0), (.int .i64 0), (.int .i64 0), (.int .i64 0), (.int .i64 0), .nils] []⟩,
  ⟨.none, .none, .store 7 (.t 4) (.t 16)⟩,
  ⟨(some 5), .none, .mv (.c (.bool false))⟩]
def f183r3 : List AOp := [
  ⟨(some 18), .none, .loadn 7 (.t 2)⟩,
  ⟨(some 19), .none, .call 185 [(.t 18)]⟩,
  ⟨(some 20), .none, .mv (.t 19)⟩,
  ⟨(some 21), (some (20, false)), .mv (.t 1)⟩,
  ⟨(some 22), (some (20, false)), .faddr 0 (.t 2)⟩,
  ⟨(some 23), (some (20, false)), .load1 (.t 22)⟩,
  ⟨(some 24), (some (20, false)), .bin .leq .num (.t 21) (.t 23)⟩,
  ⟨(some 25), .none, .pick (.t 20) (.c (.bool true)) (.t 24)⟩,
  ⟨(some 17), .none, .mv (.t 25)⟩]
def f183r4 : List AOp := [
  ⟨(some 26), .none, .loadn 7 (.t 2)⟩,
  ⟨(some 27), .none, .call 175 [(.t 26)]⟩,
  ⟨.none, .none, .store 7 (.t 4) (.t 27)⟩,
  ⟨(some 5), .none, .mv (.c (.bool true))⟩]
def f183r5 : List AOp := [
  ⟨(some 28), .none, .loadn 7 (.t 2)⟩,
  ⟨(some 29), .none, .mv (.t 1)⟩,
  ⟨(some 30), .none, .faddr 0 (.t 2)⟩,
  ⟨(some 31), .none, .load1 (.t 30)⟩,
  ⟨(some 32), .none, .bin .sub .num (.t 29) (.t 31)⟩,
  ⟨(some 33), .none, .faddr 6 (.t 2)⟩,
  ⟨(some 34), .none, .load1 (.t 33)⟩,
  ⟨(some 35), .none, .len .slice (.t 34)⟩,
  ⟨(some 36), .none, .call 255 [(.t 28), (.t 32), (.t 35)]⟩,
  ⟨.none, .none, .store 7 (.t 4) (.t 36)⟩,
  ⟨(some 5), .none, .mv (.c (.bool true))⟩]
def f183 : AF := ⟨37, [.celln 4 7, .tmp 5], (.seq (.reg f183r0) (.seq (.block 0 (.seq (.reg f183r1) (.cond (.t 6) (.seq (.reg f183r2) .ret) (.seq (.reg f183r3) (.cond (.t 17) (.seq (.reg f183r4) .ret) .skip))))) (.seq (.reg f183r5) .ret)))⟩
/- towpath/iso.mark -/
def f184r0 : List AOp := [
  ⟨(some 1), .none, .box (.t 0)⟩,
  ⟨(some 2), .none, .mv (.c (.bool false))⟩]
def f184r1 : List AOp := [
  ⟨(some 3), .none, .faddr 4 (.t 1)⟩,
  ⟨(some 4), .none, .load1 (.t 3)⟩,
  ⟨(some 5), .none, .bin .eql .num (.t 4) (.c (.int .i64 2))⟩,
  ⟨(some 6), .none, .mv (.t 5)⟩,
  ⟨(some 7), (some (6, false)), .faddr 4 (.t 1)⟩,
  ⟨(some 8), (some (6, false)), .load1 (.t 7)⟩,
  ⟨(some 9), (some (6, false)), .bin .eql .num (.t 8) (.c (.int .i64 3))⟩,
  ⟨(some 10), .none, .pick (.t 6) (.c (.bool true)) (.t 9)⟩,
  ⟨(some 2), .none, .mv (.t 10)⟩]
def f184 : AF := ⟨11, [.tmp 2], (.seq (.reg f184r0) (.seq (.reg f184r1) .ret))⟩
/- towpath/rec.mark -/
def f185r0 : List AOp := [
  ⟨(some 1), .none, .box (.t 0)⟩,
  ⟨(some 2), .none, .mv (.c (.bool false))⟩]
def f185r1 : List AOp := [
  ⟨(some 3), .none, .faddr 4 (.t 1)⟩,
  ⟨(some 4), .none, .load1 (.t 3)⟩,
  ⟨(some 5), .none, .bin .eql .num (.t 4) (.c (.int .i64 2))⟩,
  ⟨(some 6), .none, .mv (.t 5)⟩,
  ⟨(some 7), (some (6, false)), .faddr 4 (.t 1)⟩,
  ⟨(some 8), (some (6, false)), .load1 (.t 7)⟩,
  ⟨(some 9), (some (6, false)), .bin .eql .num (.t 8) (.c (.int .i64 3))⟩,
  ⟨(some 10), .none, .pick (.t 6) (.c (.bool true)) (.t 9)⟩,
  ⟨(some 2), .none, .mv (.t 10)⟩]
def f185 : AF := ⟨11, [.tmp 2], (.seq (.reg f185r0) (.seq (.reg f185r1) .ret))⟩
/- towpath/rec.Valid -/
def f186r0 : List AOp := [
  ⟨(some 1), .none, .box (.t 0)⟩,
  ⟨(some 2), .none, .mv (.c (.int .i64 0))⟩]
def f186r1 : List AOp := [
  ⟨(some 8), .none, .loadn 7 (.t 1)⟩,
  ⟨(some 9), .none, .call 256 [(.t 8)]⟩,
  ⟨(some 10), .none, .un .not (.t 9)⟩,
  ⟨(some 11), .none, .mv (.t 10)⟩,
  ⟨(some 12), (some (11, false)), .loadn 7 (.t 1)⟩,
  ⟨(some 13), (some (11, false)), .call 257 [(.t 12)]⟩,
  ⟨(some 14), (some (11, false)), .un .not (.t 13)⟩,
  ⟨(some 15), .none, .pick (.t 11) (.c (.bool true)) (.t 14)⟩,
  ⟨(some 7), .none, .mv (.t 15)⟩]
def f186r2 : List AOp := [
  ⟨(some 2), .none, .mv (.c (.int .i64 2))⟩]
def f186r3 : List AOp := [
  ⟨(some 17), .none, .faddr 6 (.t 1)⟩,
  ⟨(some 18), .none, .load1 (.t 17)⟩,
  ⟨(some 19), .none, .len .slice (.t 18)⟩,
  ⟨(some 20), .none, .bin .gtr .num (.t 19) (.c (.int .i64 64))⟩,
  ⟨(some 16), .none, .mv (.t 20)⟩]
def f186r4 : List AOp := [
  ⟨(some 2), .none, .mv (.c (.int .i64 7))⟩]
def f186r5 : List AOp := [
  ⟨(some 21), .none, .faddr 6 (.t 1)⟩,
  ⟨(some 22), .none, .load1 (.t 21)⟩,
  ⟨(some 23), .none, .len .slice (.t 22)⟩,
  ⟨(some 24), .none, .mv (.c (.int .i64 0))⟩]
def f186r6 : List AOp := [
  ⟨(some 25), .none, .bin .lss .num (.t 24) (.t 23)⟩]
def f186r7 : List AOp := [
  ⟨(some 26), .none, .iaddr 4 (.t 22) (.t 24)⟩,
  ⟨(some 27), .none, .loadn 4 (.t 26)⟩,
  ⟨(some 4), .none, .alloc [(.str []), (.str []), (.bool false), (.int .i64 0)]⟩,
  ⟨.none, .none, .store 4 (.t 4) (.t 27)⟩]
def f186r8 : List AOp := [
  ⟨(some 28), .none, .loadn 4 (.t 4)⟩,
  ⟨(some 29), .none, .call 258 [(.t 28)]⟩,
  ⟨(some 5), .none, .mv (.t 29)⟩]
def f186r9 : List AOp := [
  ⟨(some 30), .none, .mv (.t 5)⟩,
  ⟨(some 31), .none, .bin .neq .num (.t 30) (.c (.int .i64 0))⟩]
def f186r10 : List AOp := [
  ⟨(some 32), .none, .mv (.t 5)⟩,
  ⟨(some 2), .none, .mv (.t 32)⟩]
def f186r11 : List AOp := [
  ⟨(some 33), .none, .bin .add .num (.t 24) (.c (.int .i64 1))⟩,
  ⟨(some 24), .none, .mv (.t 33)⟩]
def f186r12 : List AOp := [
  ⟨(some 34), .none, .loadn 7 (.t 1)⟩,
  ⟨(some 35), .none, .call 187 [(.t 34)]⟩,
  ⟨(some 36), .none, .bin .sub .num (.t 35) (.c (.int .i64 1))⟩,
  ⟨(some 6), .none, .mv (.t 36)⟩]
def f186r13 : List AOp := [
  ⟨(some 37), .none, .faddr 0 (.t 1)⟩,
  ⟨(some 38), .none, .load1 (.t 37)⟩,
  ⟨(some 39), .none, .mv (.t 6)⟩,
  ⟨(some 40), .none, .bin .sub .num (.c (.int .i64 1099511627776)) (.t 39)⟩,
  ⟨(some 41), .none, .bin .gtr .num (.t 38) (.t 40)⟩,
  ⟨(some 42), .none, .mv (.t 41)⟩,
  ⟨(some 43), (some (42, false)), .faddr 1 (.t 1)⟩,
  ⟨(some 44), (some (42, false)), .load1 (.t 43)⟩,
  ⟨(some 45), (some (42, false)), .bin .gtr .num (.t 44) (.c (.int .i64 0))⟩,
  ⟨(some 46), (some (42, false)), .mv (.t 45)⟩,
  ⟨(some 47), (some (46, true)), .loadn 7 (.t 1)⟩,
  ⟨(some 48), (some (46, true)), .call 185 [(.t 47)]⟩,
  ⟨(some 49), (some (46, true)), .un .not (.t 48)⟩,
  ⟨(some 50), (some (42, false)), .pick (.t 46) (.t 49) (.c (.bool false))⟩,
  ⟨(some 51), (some (42, false)), .mv (.t 50)⟩,
  ⟨(some 52), (some (51, true)), .faddr 3 (.t 1)⟩,
  ⟨(some 53), (some (51, true)), .load1 (.t 52)⟩,
  ⟨(some 54), (some (51, true)), .mv (.t 6)⟩,
  ⟨(some 55), (some (51, true)), .bin .sub .num (.c (.int .i64 2147483647)) (.t 54)⟩,
  ⟨(some 56), (some (51, true)), .bin .gtr .num (.t 53) (.t 55)⟩,
  ⟨(some 57), (some (42, false)), .pick (.t 51) (.t 56) (.c (.bool false))⟩,
  ⟨(some 58), .none, .pick (.t 42) (.c (.bool true)) (.t 57)⟩]
def f186r14 : List AOp := [
  ⟨(some 2), .none, .mv (.c (.int .i64 24))⟩]
def f186r15 : List AOp := [
  ⟨(some 2), .none, .mv (.c (.int .i64 0))⟩]
def f186 : AF := ⟨59, [.tmp 2], (.seq (.reg f186r0) (.seq (.block 0 (.seq (.reg f186r1) (.cond (.t 7) (.seq (.reg f186r2) .ret) (.seq (.reg f186r3) (.cond (.t 16) (.seq (.reg f186r4) .ret) .skip))))) (.seq (.seq (.reg f186r5) (.block 1 (.loop (.seq (.reg f186r6) (.seq (.cond (.t 25) .skip (.exit 1)) (.seq (.block 2 (.seq (.reg f186r7) (.seq (.reg f186r8) (.seq (.reg f186r9) (.cond (.t 31) (.seq (.reg f186r10) .ret) .skip))))) (.reg f186r11))))))) (.seq (.reg f186r12) (.seq (.seq (.reg f186r13) (.cond (.t 58) (.seq (.reg f186r14) .ret) .skip)) (.seq (.reg f186r15) .ret))))))⟩
/- towpath/rec.Span -/
def f187r0 : List AOp := [
  ⟨(some 1), .none, .box (.t 0)⟩,
  ⟨(some 2), .none, .mv (.c (.int .i64 0))⟩]
def f187r1 : List AOp := [
  ⟨(some 3), .none, .loadn 7 (.t 1)⟩,
  ⟨(some 4), .none, .call 185 [(.t 3)]⟩]
def f187r2 : List AOp := [
  ⟨(some 2), .none, .mv (.c (.int .i64 1))⟩]
def f187r3 : List AOp := [
  ⟨(some 5), .none, .faddr 6 (.t 1)⟩,
  ⟨(some 6), .none, .load1 (.t 5)⟩,
  ⟨(some 7), .none, .len .slice (.t 6)⟩,
  ⟨(some 2), .none, .mv (.t 7)⟩]
def f187 : AF := ⟨8, [.tmp 2], (.seq (.reg f187r0) (.seq (.seq (.reg f187r1) (.cond (.t 4) (.seq (.reg f187r2) .ret) .skip)) (.seq (.reg f187r3) .ret)))⟩
/- (towpath/dedup.Row).open -/
def f189r0 : List AOp := [
  ⟨(some 1), .none, .box (.t 0)⟩,
  ⟨(some 2), .none, .mv (.c (.bool false))⟩]
def f189r1 : List AOp := [
  ⟨(some 3), .none, .faddr 5 (.t 1)⟩,
  ⟨(some 4), .none, .load1 (.t 3)⟩,
  ⟨(some 5), .none, .bin .geq .num (.t 4) (.c (.int .i64 0))⟩,
  ⟨(some 2), .none, .mv (.t 5)⟩]
def f189 : AF := ⟨6, [.tmp 2], (.seq (.reg f189r0) (.seq (.reg f189r1) .ret))⟩
/- towpath/frame.Seal -/
def f193r0 : List AOp := [
  ⟨(some 2), .none, .mv (.c .nils)⟩]
def f193r1 : List AOp := [
  ⟨(some 3), .none, .mv (.c (.int .i64 0))⟩]
def f193r2 : List AOp := [
  ⟨(some 9), .none, .mv (.t 0)⟩,
  ⟨(some 10), .none, .len .slice (.t 9)⟩,
  ⟨(some 11), .none, .mv (.c (.int .i64 0))⟩]
def f193r3 : List AOp := [
  ⟨(some 12), .none, .bin .lss .num (.t 11) (.t 10)⟩]
def f193r4 : List AOp := [
  ⟨(some 13), .none, .iaddr 1 (.t 9) (.t 11)⟩,
  ⟨(some 14), .none, .load1 (.t 13)⟩,
  ⟨(some 5), .none, .mv (.t 14)⟩]
def f193r5 : List AOp := [
  ⟨(some 15), .none, .mv (.t 3)⟩,
  ⟨(some 16), .none, .mv (.t 5)⟩,
  ⟨(some 17), .none, .len .slice (.t 16)⟩,
  ⟨(some 18), .none, .bin .add .num (.t 15) (.t 17)⟩,
  ⟨(some 3), .none, .mv (.t 18)⟩]
def f193r6 : List AOp := [
  ⟨(some 19), .none, .mv (.t 3)⟩,
  ⟨(some 20), .none, .bin .gtr .num (.t 19) (.c (.int .i64 262144))⟩]
def f193r7 : List AOp := [
  ⟨(some 2), .none, .mv (.c .nils)⟩]
def f193r8 : List AOp := [
  ⟨(some 21), .none, .bin .add .num (.t 11) (.c (.int .i64 1))⟩,
  ⟨(some 11), .none, .mv (.t 21)⟩]
def f193r9 : List AOp := [
  ⟨(some 22), .none, .mv (.t 3)⟩,
  ⟨(some 23), .none, .bin .add .num (.t 22) (.c (.int .i64 8))⟩,
  ⟨(some 24), .none, .mksl 1 1 [(.int .u8 0)] (.c (.int .i64 0)) (.t 23)⟩,
  ⟨(some 6), .none, .mv (.t 24)⟩]
def f193r10 : List AOp := [
  ⟨(some 25), .none, .mv (.t 6)⟩,
  ⟨(some 26), .none, .mv (.t 3)⟩,
  ⟨(some 27), .none, .conv (.int .u32) (.t 26)⟩,
  ⟨(some 28), .none, .call 264 [(.t 27)]⟩,
  ⟨(some 29), .none, .app false 1 1 (.t 25) (.t 28)⟩,
  ⟨(some 6), .none, .mv (.t 29)⟩]
def f193r11 : List AOp := [
  ⟨(some 30), .none, .mv (.t 0)⟩,
  ⟨(some 31), .none, .len .slice (.t 30)⟩,
  ⟨(some 32), .none, .mv (.c (.int .i64 0))⟩]
def f193r12 : List AOp := [
  ⟨(some 33), .none, .bin .lss .num (.t 32) (.t 31)⟩]
def f193r13 : List AOp := [
  ⟨(some 34), .none, .iaddr 1 (.t 30) (.t 32)⟩,
  ⟨(some 35), .none, .load1 (.t 34)⟩,
  ⟨(some 8), .none, .mv (.t 35)⟩]
def f193r14 : List AOp := [
  ⟨(some 36), .none, .mv (.t 6)⟩,
  ⟨(some 37), .none, .mv (.t 8)⟩,
  ⟨(some 38), .none, .app false 1 1 (.t 36) (.t 37)⟩,
  ⟨(some 6), .none, .mv (.t 38)⟩]
def f193r15 : List AOp := [
  ⟨(some 39), .none, .bin .add .num (.t 32) (.c (.int .i64 1))⟩,
  ⟨(some 32), .none, .mv (.t 39)⟩]
def f193r16 : List AOp := [
  ⟨(some 40), .none, .mv (.t 6)⟩,
  ⟨(some 41), .none, .mv (.t 6)⟩,
  ⟨(some 42), .none, .bsl false 1 1 [.nils] [(0, 1, (.t 41))]⟩,
  ⟨(some 43), .none, .call 265 [(.t 42)]⟩,
  ⟨(some 44), .none, .call 264 [(.t 43)]⟩,
  ⟨(some 45), .none, .app false 1 1 (.t 40) (.t 44)⟩,
  ⟨(some 2), .none, .mv (.t 45)⟩]
def f193 : AF := ⟨46, [.tmp 2], (.seq (.reg f193r0) (.seq (.reg f193r1) (.seq (.seq (.reg f193r2) (.block 0 (.loop (.seq (.reg f193r3) (.seq (.cond (.t 12) .skip (.exit 0)) (.seq (.block 1 (.seq (.reg f193r4) (.seq (.reg f193r5) (.seq (.reg f193r6) (.cond (.t 20) (.seq (.reg f193r7) .ret) .skip))))) (.reg f193r8))))))) (.seq (.reg f193r9) (.seq (.reg f193r10) (.seq (.seq (.reg f193r11) (.block 2 (.loop (.seq (.reg f193r12) (.seq (.cond (.t 33) .skip (.exit 2)) (.seq (.block 3 (.seq (.reg f193r13) (.reg f193r14))) (.reg f193r15))))))) (.seq (.reg f193r16) .ret)))))))⟩
/- towpath/wire.Text -/
def f194r0 : List AOp := [
  ⟨(some 2), .none, .mv (.c .nils)⟩]
def f194r1 : List AOp := [
  ⟨(some 3), .none, .mv (.t 0)⟩,
  ⟨(some 4), .none, .len .str (.t 3)⟩,
  ⟨(some 5), .none, .conv (.int .u64) (.t 4)⟩,
  ⟨(some 6), .none, .call 78 [(.t 5)]⟩,
  ⟨(some 7), .none, .mv (.t 0)⟩,
  ⟨(some 8), .none, .app false 1 1 (.t 6) (.t 7)⟩,
  ⟨(some 2), .none, .mv (.t 8)⟩]
def f194 : AF := ⟨9, [.tmp 2], (.seq (.reg f194r0) (.seq (.reg f194r1) .ret))⟩
/- (*towpath/disk.Disk).Append -/
def f195r0 : List AOp := [
  ⟨(some 6), .none, .mv (.c (.int .i64 0))⟩]
def f195r1 : List AOp := [
  ⟨(some 16), .none, .mv (.t 0)⟩,
  ⟨(some 17), .none, .call 144 [(.t 16)]⟩,
  ⟨(some 7), .none, .mv (.t 17)⟩]
def f195r2 : List AOp := [
  ⟨(some 18), .none, .mv (.t 7)⟩,
  ⟨(some 19), .none, .bin .neq .num (.t 18) (.c (.int .i64 0))⟩]
def f195r3 : List AOp := [
  ⟨(some 20), .none, .mv (.t 7)⟩,
  ⟨(some 6), .none, .mv (.t 20)⟩]
def f195r4 : List AOp := [
  ⟨(some 21), .none, .mv (.t 1)⟩,
  ⟨(some 22), .none, .call 266 [(.t 21)]⟩,
  ⟨(some 23), .none, .un .not (.t 22)⟩]
def f195r5 : List AOp := [
  ⟨(some 6), .none, .mv (.c (.int .i64 2))⟩]
def f195r6 : List AOp := [
  ⟨(some 8), .none, .mv (.c (.int .i64 0))⟩]
def f195r7 : List AOp := [
  ⟨(some 24), .none, .mv (.t 2)⟩,
  ⟨(some 25), .none, .len .slice (.t 24)⟩,
  ⟨(some 26), .none, .mv (.c (.int .i64 0))⟩]
def f195r8 : List AOp := [
  ⟨(some 27), .none, .bin .lss .num (.t 26) (.t 25)⟩]
def f195r9 : List AOp := [
  ⟨(some 28), .none, .iaddr 1 (.t 24) (.t 26)⟩,
  ⟨(some 29), .none, .load1 (.t 28)⟩,
  ⟨(some 10), .none, .mv (.t 29)⟩]
def f195r10 : List AOp := [
  ⟨(some 30), .none, .mv (.t 10)⟩,
  ⟨(some 31), .none, .len .slice (.t 30)⟩,
  ⟨(some 32), .none, .mv (.t 0)⟩,
  ⟨(some 33), .none, .call 267 [(.t 32)]⟩,
  ⟨(some 34), .none, .mv (.t 8)⟩,
  ⟨(some 35), .none, .bin .sub .num (.t 33) (.t 34)⟩,
  ⟨(some 36), .none, .bin .gtr .num (.t 31) (.t 35)⟩]
def f195r11 : List AOp := [
  ⟨(some 6), .none, .mv (.c (.int .i64 5))⟩]
def f195r12 : List AOp := [
  ⟨(some 37), .none, .mv (.t 8)⟩,
  ⟨(some 38), .none, .mv (.t 10)⟩,
  ⟨(some 39), .none, .len .slice (.t 38)⟩,
  ⟨(some 40), .none, .bin .add .num (.t 37) (.t 39)⟩,
  ⟨(some 8), .none, .mv (.t 40)⟩]
def f195r13 : List AOp := [
  ⟨(some 41), .none, .bin .add .num (.t 26) (.c (.int .i64 1))⟩,
  ⟨(some 26), .none, .mv (.t 41)⟩]
def f195r14 : List AOp := [
  ⟨(some 43), .none, .mv (.t 0)⟩,
  ⟨(some 44), .none, .nilck (.t 43)⟩,
  ⟨(some 45), .none, .faddr 4 (.t 44)⟩,
  ⟨(some 46), .none, .load1 (.t 45)⟩,
  ⟨(some 47), .none, .mv (.t 1)⟩,
  ⟨(some 48), .none, .look .str .nilp true (.t 46) (.t 47)⟩,
  ⟨(some 42), .none, .mv (.t 48)⟩,
  ⟨(some 49), .none, .ext (.t 42) 0⟩,
  ⟨(some 50), .none, .ext (.t 42) 1⟩,
  ⟨(some 11), .none, .mv (.t 49)⟩,
  ⟨(some 12), .none, .mv (.t 50)⟩]
def f195r15 : List AOp := [
  ⟨(some 51), .none, .mv (.t 12)⟩,
  ⟨(some 52), .none, .un .not (.t 51)⟩]
def f195r16 : List AOp := [
  ⟨(some 53), .none, .mv (.t 0)⟩,
  ⟨(some 54), .none, .nilck (.t 53)⟩,
  ⟨(some 55), .none, .faddr 4 (.t 54)⟩,
  ⟨(some 56), .none, .load1 (.t 55)⟩,
  ⟨(some 57), .none, .len .map (.t 56)⟩,
  ⟨(some 58), .none, .bin .geq .num (.t 57) (.c (.int .i64 128))⟩]
def f195r17 : List AOp := [
  ⟨(some 6), .none, .mv (.c (.int .i64 5))⟩]
def f195r18 : List AOp := [
  ⟨(some 59), .none, .build [.nils, (.int .i64 0)] []⟩,
  ⟨(some 60), .none, .box (.t 59)⟩,
  ⟨(some 11), .none, .mv (.t 60)⟩]
def f195r19 : List AOp := [
  ⟨(some 61), .none, .mv (.t 0)⟩,
  ⟨(some 62), .none, .nilck (.t 61)⟩,
  ⟨(some 63), .none, .faddr 4 (.t 62)⟩,
  ⟨(some 64), .none, .load1 (.t 63)⟩,
  ⟨(some 65), .none, .mv (.t 1)⟩,
  ⟨(some 66), .none, .mv (.t 11)⟩,
  ⟨.none, .none, .mapup .str (.t 64) (.t 65) (.t 66)⟩]
def f195r20 : List AOp := [
  ⟨(some 67), .none, .mv (.t 2)⟩,
  ⟨(some 68), .none, .len .slice (.t 67)⟩,
  ⟨(some 69), .none, .mv (.c (.int .i64 0))⟩]
def f195r21 : List AOp := [
  ⟨(some 70), .none, .bin .lss .num (.t 69) (.t 68)⟩]
def f195r22 : List AOp := [
  ⟨(some 71), .none, .iaddr 1 (.t 67) (.t 69)⟩,
  ⟨(some 72), .none, .load1 (.t 71)⟩,
  ⟨(some 14), .none, .mv (.t 72)⟩]
def f195r23 : List AOp := [
  ⟨(some 73), .none, .mv (.t 11)⟩,
  ⟨(some 74), .none, .nilck (.t 73)⟩,
  ⟨(some 75), .none, .faddr 0 (.t 74)⟩,
  ⟨(some 76), .none, .load1 (.t 75)⟩,
  ⟨(some 77), .none, .mv (.t 14)⟩,
  ⟨(some 78), .none, .app false 1 1 (.t 76) (.t 77)⟩,
  ⟨(some 15), .none, .mv (.t 78)⟩]
def f195r24 : List AOp := [
  ⟨(some 79), .none, .mv (.t 11)⟩,
  ⟨(some 80), .none, .mv (.t 15)⟩,
  ⟨(some 81), .none, .nilck (.t 79)⟩,
  ⟨(some 82), .none, .faddr 0 (.t 81)⟩,
  ⟨.none, .none, .store 1 (.t 82) (.t 80)⟩]
def f195r25 : List AOp := [
  ⟨(some 83), .none, .bin .add .num (.t 69) (.c (.int .i64 1))⟩,
  ⟨(some 69), .none, .mv (.t 83)⟩]
def f195r26 : List AOp := [
  ⟨(some 84), .none, .mv (.t 0)⟩,
  ⟨(some 85), .none, .nilck (.t 84)⟩,
  ⟨(some 86), .none, .faddr 3 (.t 85)⟩,
  ⟨(some 87), .none, .load1 (.t 86)⟩,
  ⟨(some 88), .none, .mv (.t 8)⟩,
  ⟨(some 89), .none, .bin .add .num (.t 87) (.t 88)⟩,
  ⟨(some 90), .none, .nilck (.t 84)⟩,
  ⟨(some 91), .none, .faddr 3 (.t 90)⟩,
  ⟨.none, .none, .store 1 (.t 91) (.t 89)⟩]
def f195r27 : List AOp := [
  ⟨(some 92), .none, .mv (.t 0)⟩,
  ⟨(some 93), .none, .nilck (.t 92)⟩,
  ⟨(some 94), .none, .faddr 0 (.t 93)⟩,
  ⟨(some 95), .none, .call 146 [(.t 94)]⟩]
def f195r28 : List AOp := [
  ⟨(some 6), .none, .mv (.c (.int .i64 0))⟩]
def f195 : AF := ⟨96, [.tmp 6], (.seq (.reg f195r0) (.seq (.seq (.reg f195r1) (.seq (.reg f195r2) (.cond (.t 19) (.seq (.reg f195r3) .ret) .skip))) (.seq (.seq (.reg f195r4) (.cond (.t 23) (.seq (.reg f195r5) .ret) .skip)) (.seq (.reg f195r6) (.seq (.seq (.reg f195r7) (.block 0 (.loop (.seq (.reg f195r8) (.seq (.cond (.t 27) .skip (.exit 0)) (.seq (.block 1 (.seq (.reg f195r9) (.seq (.seq (.reg f195r10) (.cond (.t 36) (.seq (.reg f195r11) .ret) .skip)) (.reg f195r12)))) (.reg f195r13))))))) (.seq (.reg f195r14) (.seq (.seq (.reg f195r15) (.cond (.t 52) (.seq (.seq (.reg f195r16) (.cond (.t 58) (.seq (.reg f195r17) .ret) .skip)) (.seq (.reg f195r18) (.reg f195r19))) .skip)) (.seq (.seq (.reg f195r20) (.block 2 (.loop (.seq (.reg f195r21) (.seq (.cond (.t 70) .skip (.exit 2)) (.seq (.block 3 (.seq (.reg f195r22) (.seq (.reg f195r23) (.reg f195r24)))) (.reg f195r25))))))) (.seq (.reg f195r26) (.seq (.reg f195r27) (.seq (.reg f195r28) .ret)))))))))))⟩
/- (*towpath/disk.Disk).Sync -/
def f196r0 : List AOp := [
  ⟨(some 4), .none, .mv (.c (.int .i64 0))⟩]
def f196r1 : List AOp := [
  ⟨(some 11), .none, .mv (.t 0)⟩,
  ⟨(some 12), .none, .call 144 [(.t 11)]⟩,
  ⟨(some 5), .none, .mv (.t 12)⟩]
def f196r2 : List AOp := [
  ⟨(some 13), .none, .mv (.t 5)⟩,
  ⟨(some 14), .none, .bin .neq .num (.t 13) (.c (.int .i64 0))⟩]
def f196r3 : List AOp := [
  ⟨(some 15), .none, .mv (.t 5)⟩,
  ⟨(some 4), .none, .mv (.t 15)⟩]
def f196r4 : List AOp := [
  ⟨(some 16), .none, .mv (.t 1)⟩,
  ⟨(some 17), .none, .len .slice (.t 16)⟩,
  ⟨(some 18), .none, .mv (.c (.int .i64 0))⟩]
def f196r5 : List AOp := [
  ⟨(some 19), .none, .bin .lss .num (.t 18) (.t 17)⟩]
def f196r6 : List AOp := [
  ⟨(some 20), .none, .iaddr 1 (.t 16) (.t 18)⟩,
  ⟨(some 21), .none, .load1 (.t 20)⟩,
  ⟨(some 7), .none, .mv (.t 21)⟩]
def f196r7 : List AOp := [
  ⟨(some 22), .none, .mv (.t 0)⟩,
  ⟨(some 23), .none, .nilck (.t 22)⟩,
  ⟨(some 24), .none, .faddr 4 (.t 23)⟩,
  ⟨(some 25), .none, .load1 (.t 24)⟩,
  ⟨(some 26), .none, .mv (.t 7)⟩,
  ⟨(some 27), .none, .look .str .nilp false (.t 25) (.t 26)⟩,
  ⟨(some 28), .none, .bin .eql .ptr (.t 27) (.c .nilp)⟩]
def f196r8 : List AOp := [
  ⟨(some 4), .none, .mv (.c (.int .i64 3))⟩]
def f196r9 : List AOp := [
  ⟨(some 29), .none, .bin .add .num (.t 18) (.c (.int .i64 1))⟩,
  ⟨(some 18), .none, .mv (.t 29)⟩]
def f196r10 : List AOp := [
  ⟨(some 30), .none, .mv (.t 1)⟩,
  ⟨(some 31), .none, .len .slice (.t 30)⟩,
  ⟨(some 32), .none, .bin .eql .num (.t 31) (.c (.int .i64 0))⟩]
def f196r11 : List AOp := [
  ⟨(some 33), .none, .mv (.t 0)⟩,
  ⟨(some 34), .none, .call 226 [(.t 33), (.c (.str []))]⟩,
  ⟨(some 1), .none, .mv (.t 34)⟩]
def f196r12 : List AOp := [
  ⟨(some 35), .none, .mv (.t 1)⟩,
  ⟨(some 36), .none, .len .slice (.t 35)⟩,
  ⟨(some 37), .none, .mv (.c (.int .i64 0))⟩]
def f196r13 : List AOp := [
  ⟨(some 38), .none, .bin .lss .num (.t 37) (.t 36)⟩]
def f196r14 : List AOp := [
  ⟨(some 39), .none, .iaddr 1 (.t 35) (.t 37)⟩,
  ⟨(some 40), .none, .load1 (.t 39)⟩,
  ⟨(some 9), .none, .mv (.t 40)⟩]
def f196r15 : List AOp := [
  ⟨(some 41), .none, .mv (.t 0)⟩,
  ⟨(some 42), .none, .nilck (.t 41)⟩,
  ⟨(some 43), .none, .faddr 4 (.t 42)⟩,
  ⟨(some 44), .none, .load1 (.t 43)⟩,
  ⟨(some 45), .none, .mv (.t 9)⟩,
  ⟨(some 46), .none, .look .str .nilp false (.t 44) (.t 45)⟩,
  ⟨(some 10), .none, .mv (.t 46)⟩]
def f196r16 : List AOp := [
  ⟨(some 47), .none, .mv (.t 10)⟩,
  ⟨(some 48), .none, .mv (.t 10)⟩,
  ⟨(some 49), .none, .nilck (.t 48)⟩,
  ⟨(some 50), .none, .faddr 0 (.t 49)⟩,
  ⟨(some 51), .none, .load1 (.t 50)⟩,
  ⟨(some 52), .none, .len .slice (.t 51)⟩,
  ⟨(some 53), .none, .nilck (.t 47)⟩,
  ⟨(some 54), .none, .faddr 1 (.t 53)⟩,
  ⟨.none, .none, .store 1 (.t 54) (.t 52)⟩]
def f196r17 : List AOp := [
  ⟨(some 55), .none, .bin .add .num (.t 37) (.c (.int .i64 1))⟩,
  ⟨(some 37), .none, .mv (.t 55)⟩]
def f196r18 : List AOp := [
  ⟨(some 56), .none, .mv (.t 0)⟩,
  ⟨(some 57), .none, .nilck (.t 56)⟩,
  ⟨(some 58), .none, .faddr 0 (.t 57)⟩,
  ⟨(some 59), .none, .call 146 [(.t 58)]⟩]
def f196r19 : List AOp := [
  ⟨(some 4), .none, .mv (.c (.int .i64 0))⟩]
def f196 : AF := ⟨60, [.tmp 4], (.seq (.reg f196r0) (.seq (.seq (.reg f196r1) (.seq (.reg f196r2) (.cond (.t 14) (.seq (.reg f196r3) .ret) .skip))) (.seq (.seq (.reg f196r4) (.block 0 (.loop (.seq (.reg f196r5) (.seq (.cond (.t 19) .skip (.exit 0)) (.seq (.block 1 (.seq (.reg f196r6) (.seq (.reg f196r7) (.cond (.t 28) (.seq (.reg f196r8) .ret) .skip)))) (.reg f196r9))))))) (.seq (.seq (.reg f196r10) (.cond (.t 32) (.reg f196r11) .skip)) (.seq (.seq (.reg f196r12) (.block 2 (.loop (.seq (.reg f196r13) (.seq (.cond (.t 38) .skip (.exit 2)) (.seq (.block 3 (.seq (.reg f196r14) (.seq (.reg f196r15) (.reg f196r16)))) (.reg f196r17))))))) (.seq (.reg f196r18) (.seq (.reg f196r19) .ret)))))))⟩
/- towpath/compact.rise -/
def f200r0 : List AOp := [
  ⟨(some 4), .none, .mv (.c (.bool false))⟩]
def f200r1 : List AOp := [
  ⟨(some 7), .none, .mv (.t 1)⟩,
  ⟨(some 8), .none, .len .slice (.t 7)⟩,
  ⟨(some 9), .none, .mv (.c (.int .i64 0))⟩]
def f200r2 : List AOp := [
  ⟨(some 10), .none, .bin .lss .num (.t 9) (.t 8)⟩]
def f200r3 : List AOp := [
  ⟨(some 11), .none, .mv (.t 9)⟩,
  ⟨(some 12), .none, .iaddr 5 (.t 7) (.t 9)⟩,
  ⟨(some 13), .none, .loadn 5 (.t 12)⟩,
  ⟨(some 6), .none, .alloc [(.int .i64 0), (.str []), (.str []), (.bool false), (.int .i64 0)]⟩,
  ⟨(some 5), .none, .mv (.t 11)⟩,
  ⟨.none, .none, .store 5 (.t 6) (.t 13)⟩]
def f200r4 : DR := ⟨[
  ⟨(some 14), .none, .mv (.t 5)⟩,
  ⟨(some 15), .none, .bin .eql .num (.t 14) (.c (.int .i64 0))⟩,
  ⟨(some 16), .none, .mv (.t 15)⟩,
  ⟨(some 17), (some (16, true)), .faddr 0 (.t 6)⟩,
  ⟨(some 18), (some (16, true)), .load1 (.t 17)⟩,
  ⟨(some 19), (some (16, true)), .mv (.t 0)⟩,
  ⟨(some 20), (some (16, true)), .bin .lss .num (.t 18) (.t 19)⟩,
  ⟨(some 21), .none, .pick (.t 16) (.t 20) (.c (.bool false))⟩,
  ⟨(some 22), .none, .mv (.t 21)⟩,
  ⟨(some 23), (some (22, false)), .mv (.t 5)⟩,
  ⟨(some 24), (some (22, false)), .bin .gtr .num (.t 23) (.c (.int .i64 0))⟩,
  ⟨(some 25), (some (22, false)), .mv (.t 24)⟩,
  ⟨(some 26), (some (25, true)), .faddr 0 (.t 6)⟩,
  ⟨(some 27), (some (25, true)), .load1 (.t 26)⟩,
  ⟨(some 28), (some (25, true)), .mv (.t 1)⟩,
  ⟨(some 29), (some (25, true)), .mv (.t 5)⟩,
  ⟨(some 30), (some (25, true)), .bin .sub .num (.t 29) (.c (.int .i64 1))⟩,
  ⟨(some 31), (some (25, true)), .iaddr 5 (.t 28) (.t 30)⟩,
  ⟨(some 32), (some (25, true)), .faddr 0 (.t 31)⟩,
  ⟨(some 33), (some (25, true)), .load1 (.t 32)⟩,
  ⟨(some 34), (some (25, true)), .bin .leq .num (.t 27) (.t 33)⟩,
  ⟨(some 35), (some (22, false)), .pick (.t 25) (.t 34) (.c (.bool false))⟩,
  ⟨(some 36), .none, .pick (.t 22) (.c (.bool true)) (.t 35)⟩],
  [0, 1, 3, 7, 15, 7, 63, 127, 255, 511, 1023, 2047, 4095, 8191, 4095, 4095, 36863, 118783, 249855, 511999, 1048575, 2097151, 4194303], [0, 1, 2, 3, 4, 5, 6, 7, 8, 9, 10, 11, 12, 13, 14, 15, 16, 17, 18, 19, 20, 21, 22], [], .none⟩
def f200r5 : List AOp := [
  ⟨(some 4), .none, .mv (.c (.bool false))⟩]
def f200r6 : List AOp := [
  ⟨(some 37), .none, .bin .add .num (.t 9) (.c (.int .i64 1))⟩,
  ⟨(some 9), .none, .mv (.t 37)⟩]
def f200r7 : List AOp := [
  ⟨(some 4), .none, .mv (.c (.bool true))⟩]
def f200 : AF := ⟨38, [.tmp 4], (.seq (.reg f200r0) (.seq (.seq (.reg f200r1) (.block 0 (.loop (.seq (.reg f200r2) (.seq (.cond (.t 10) .skip (.exit 0)) (.seq (.block 1 (.seq (.reg f200r3) (.seq (.dreg f200r4) (.cond (.t 36) (.seq (.reg f200r5) .ret) .skip)))) (.reg f200r6))))))) (.seq (.reg f200r7) .ret)))⟩
/- (*towpath/seglog.Log).last -/
def f205r0 : List AOp := [
  ⟨(some 2), .none, .mv (.c .nilp)⟩]
def f205r1 : List AOp := [
  ⟨(some 3), .none, .mv (.t 0)⟩,
  ⟨(some 4), .none, .nilck (.t 3)⟩,
  ⟨(some 5), .none, .faddr 4 (.t 4)⟩,
  ⟨(some 6), .none, .load1 (.t 5)⟩,
  ⟨(some 7), .none, .len .slice (.t 6)⟩,
  ⟨(some 8), .none, .bin .eql .num (.t 7) (.c (.int .i64 0))⟩]
def f205r2 : List AOp := [
  ⟨(some 2), .none, .mv (.c .nilp)⟩]
def f205r3 : DR := ⟨[
  ⟨(some 9), .none, .mv (.t 0)⟩,
  ⟨(some 10), .none, .nilck (.t 9)⟩,
  ⟨(some 11), .none, .faddr 4 (.t 10)⟩,
  ⟨(some 12), .none, .load1 (.t 11)⟩,
  ⟨(some 13), .none, .mv (.t 0)⟩,
  ⟨(some 14), .none, .nilck (.t 13)⟩,
  ⟨(some 15), .none, .faddr 4 (.t 14)⟩,
  ⟨(some 16), .none, .load1 (.t 15)⟩,
  ⟨(some 17), .none, .len .slice (.t 16)⟩,
  ⟨(some 18), .none, .bin .sub .num (.t 17) (.c (.int .i64 1))⟩,
  ⟨(some 19), .none, .iaddr 1 (.t 12) (.t 18)⟩,
  ⟨(some 20), .none, .load1 (.t 19)⟩,
  ⟨(some 2), .none, .mv (.t 20)⟩],
  [0, 1, 3, 7, 0, 16, 48, 112, 240, 496, 1023, 2047, 4095], [0, 1, 2, 3, 4, 5, 6, 7, 8, 9, 10, 11, 12], [], .none⟩
def f205 : AF := ⟨21, [.tmp 2], (.seq (.reg f205r0) (.seq (.seq (.reg f205r1) (.cond (.t 8) (.seq (.reg f205r2) .ret) .skip)) (.seq (.dreg f205r3) .ret)))⟩
/- (*towpath/seglog.segment).reach -/
def f206r0 : List AOp := [
  ⟨(some 2), .none, .mv (.c (.int .i64 0))⟩]
def f206r1 : DR := ⟨[
  ⟨(some 3), .none, .mv (.t 0)⟩,
  ⟨(some 4), .none, .nilck (.t 3)⟩,
  ⟨(some 5), .none, .faddr 1 (.t 4)⟩,
  ⟨(some 6), .none, .load1 (.t 5)⟩,
  ⟨(some 7), .none, .mv (.t 0)⟩,
  ⟨(some 8), .none, .nilck (.t 7)⟩,
  ⟨(some 9), .none, .faddr 2 (.t 8)⟩,
  ⟨(some 10), .none, .load1 (.t 9)⟩,
  ⟨(some 11), .none, .mv (.t 0)⟩,
  ⟨(some 12), .none, .nilck (.t 11)⟩,
  ⟨(some 13), .none, .faddr 3 (.t 12)⟩,
  ⟨(some 14), .none, .load1 (.t 13)⟩,
  ⟨(some 15), .none, .mx [(.t 6), (.t 10), (.t 14)]⟩,
  ⟨(some 2), .none, .mv (.t 15)⟩],
  [0, 1, 3, 7, 0, 16, 48, 112, 0, 256, 768, 1792, 4095, 8191], [0, 1, 2, 3, 4, 5, 6, 7, 8, 9, 10, 11, 12, 13], [], .none⟩
def f206 : AF := ⟨16, [.tmp 2], (.seq (.reg f206r0) (.seq (.dreg f206r1) .ret))⟩
/- slices.SortFunc[[]towpath/iso.Txn,towpath/iso.Txn] -/
def f208r0 : List AOp := [
  ⟨(some 5), .none, .mv (.t 0)⟩,
  ⟨(some 6), .none, .len .slice (.t 5)⟩,
  ⟨(some 4), .none, .mv (.t 6)⟩]
def f208r1 : List AOp := [
  ⟨(some 7), .none, .mv (.t 0)⟩,
  ⟨(some 8), .none, .mv (.t 4)⟩,
  ⟨(some 9), .none, .mv (.t 4)⟩,
  ⟨(some 10), .none, .conv (.int .u64) (.t 9)⟩,
  ⟨(some 11), .none, .call 220 [(.t 10)]⟩,
  ⟨(some 12), .none, .mv (.t 1)⟩,
  ⟨(some 13), .none, .call 269 [(.t 7), (.c (.int .i64 0)), (.t 8), (.t 11), (.t 12)]⟩]
def f208 : AF := ⟨14, [], (.seq (.reg f208r0) (.reg f208r1))⟩
/- (*towpath/compact.Table).at -/
def f211r0 : List AOp := [
  ⟨(some 4), .none, .mv (.c (.int .i64 0))⟩,
  ⟨(some 5), .none, .mv (.c (.bool false))⟩]
def f211r1 : List AOp := [
  ⟨(some 7), .none, .mv (.t 0)⟩,
  ⟨(some 8), .none, .mv (.t 1)⟩,
  ⟨(some 9), .none, .call 213 [(.t 7), (.t 8)]⟩,
  ⟨(some 6), .none, .mv (.t 9)⟩]
def f211r2 : DR := ⟨[
  ⟨(some 10), .none, .mv (.t 6)⟩,
  ⟨(some 11), .none, .mv (.t 6)⟩,
  ⟨(some 12), .none, .mv (.t 0)⟩,
  ⟨(some 13), .none, .nilck (.t 12)⟩,
  ⟨(some 14), .none, .faddr 1 (.t 13)⟩,
  ⟨(some 15), .none, .load1 (.t 14)⟩,
  ⟨(some 16), .none, .len .slice (.t 15)⟩,
  ⟨(some 17), .none, .bin .lss .num (.t 11) (.t 16)⟩,
  ⟨(some 18), .none, .mv (.t 17)⟩,
  ⟨(some 19), (some (18, true)), .mv (.t 0)⟩,
  ⟨(some 20), (some (18, true)), .nilck (.t 19)⟩,
  ⟨(some 21), (some (18, true)), .faddr 1 (.t 20)⟩,
  ⟨(some 22), (some (18, true)), .load1 (.t 21)⟩,
  ⟨(some 23), (some (18, true)), .mv (.t 6)⟩,
  ⟨(some 24), (some (18, true)), .iaddr 5 (.t 22) (.t 23)⟩,
  ⟨(some 25), (some (18, true)), .faddr 1 (.t 24)⟩,
  ⟨(some 26), (some (18, true)), .faddr 0 (.t 25)⟩,
  ⟨(some 27), (some (18, true)), .load1 (.t 26)⟩,
  ⟨(some 28), (some (18, true)), .mv (.t 1)⟩,
  ⟨(some 29), (some (18, true)), .bin .eql .str (.t 27) (.t 28)⟩,
  ⟨(some 30), .none, .pick (.t 18) (.t 29) (.c (.bool false))⟩,
  ⟨(some 4), .none, .mv (.t 10)⟩,
  ⟨(some 5), .none, .mv (.t 30)⟩],
  [0, 0, 0, 4, 12, 28, 60, 126, 254, 510, 1022, 2046, 4094, 510, 16382, 32766, 65534, 131070, 510, 524286, 1048574, 511, 4194303], [0, 1, 2, 3, 4, 5, 6, 7, 8, 9, 10, 11, 12, 13, 14, 15, 16, 17, 18, 19, 20, 21, 22], [], .none⟩
def f211 : AF := ⟨31, [.tmp 4, .tmp 5], (.seq (.reg f211r0) (.seq (.reg f211r1) (.seq (.dreg f211r2) .ret)))⟩
/- (*towpath/compact.Table).set -/
def f212r0 : List AOp := [
  ⟨(some 3), .none, .box (.t 1)⟩]
def f212r1 : List AOp := [
  ⟨(some 7), .none, .mv (.t 0)⟩,
  ⟨(some 8), .none, .faddr 1 (.t 3)⟩,
  ⟨(some 9), .none, .faddr 0 (.t 8)⟩,
  ⟨(some 10), .none, .load1 (.t 9)⟩,
  ⟨(some 11), .none, .call 211 [(.t 7), (.t 10)]⟩,
  ⟨(some 6), .none, .mv (.t 11)⟩,
  ⟨(some 12), .none, .ext (.t 6) 0⟩,
  ⟨(some 13), .none, .ext (.t 6) 1⟩,
  ⟨(some 4), .none, .mv (.t 12)⟩,
  ⟨(some 5), .none, .mv (.t 13)⟩]
def f212r2 : List AOp := [
  ⟨(some 15), .none, .mv (.t 5)⟩,
  ⟨(some 16), .none, .mv (.t 15)⟩,
  ⟨(some 17), (some (16, true)), .faddr 1 (.t 3)⟩,
  ⟨(some 18), (some (16, true)), .faddr 2 (.t 17)⟩,
  ⟨(some 19), (some (16, true)), .load1 (.t 18)⟩,
  ⟨(some 20), .none, .pick (.t 16) (.t 19) (.c (.bool false))⟩,
  ⟨(some 14), .none, .mv (.t 20)⟩]
def f212r3 : List AOp := [
  ⟨(some 21), .none, .mv (.t 0)⟩,
  ⟨(some 22), .none, .mv (.t 0)⟩,
  ⟨(some 23), .none, .nilck (.t 22)⟩,
  ⟨(some 24), .none, .faddr 1 (.t 23)⟩,
  ⟨(some 25), .none, .load1 (.t 24)⟩,
  ⟨(some 26), .none, .mv (.t 4)⟩,
  ⟨(some 27), .none, .mv (.t 4)⟩,
  ⟨(some 28), .none, .bin .add .num (.t 27) (.c (.int .i64 1))⟩,
  ⟨(some 29), .none, .call 271 [(.t 25), (.t 26), (.t 28)]⟩,
  ⟨(some 30), .none, .nilck (.t 21)⟩,
  ⟨(some 31), .none, .faddr 1 (.t 30)⟩,
  ⟨.none, .none, .store 1 (.t 31) (.t 29)⟩]
def f212r4 : List AOp := [
  ⟨(some 33), .none, .mv (.t 5)⟩,
  ⟨(some 32), .none, .mv (.t 33)⟩]
def f212r5 : DR := ⟨[
  ⟨(some 34), .none, .mv (.t 0)⟩,
  ⟨(some 35), .none, .nilck (.t 34)⟩,
  ⟨(some 36), .none, .faddr 1 (.t 35)⟩,
  ⟨(some 37), .none, .load1 (.t 36)⟩,
  ⟨(some 38), .none, .mv (.t 4)⟩,
  ⟨(some 39), .none, .loadn 5 (.t 3)⟩,
  ⟨(some 40), .none, .iaddr 5 (.t 37) (.t 38)⟩,
  ⟨.none, .none, .store 5 (.t 40) (.t 39)⟩],
  [0, 1, 3, 7, 0, 0, 63, 127], [0, 1, 2, 3, 4, 5, 6, 7], [], .none⟩
def f212r6 : List AOp := [
  ⟨(some 42), .none, .faddr 1 (.t 3)⟩,
  ⟨(some 43), .none, .faddr 2 (.t 42)⟩,
  ⟨(some 44), .none, .load1 (.t 43)⟩,
  ⟨(some 45), .none, .un .not (.t 44)⟩,
  ⟨(some 41), .none, .mv (.t 45)⟩]
def f212r7 : DR := ⟨[
  ⟨(some 46), .none, .mv (.t 0)⟩,
  ⟨(some 47), .none, .mv (.t 0)⟩,
  ⟨(some 48), .none, .nilck (.t 47)⟩,
  ⟨(some 49), .none, .faddr 1 (.t 48)⟩,
  ⟨(some 50), .none, .load1 (.t 49)⟩,
  ⟨(some 51), .none, .mv (.t 4)⟩,
  ⟨(some 52), .none, .loadn 5 (.t 3)⟩,
  ⟨(some 53), .none, .bsl false 5 1 [(.int .i64 0), (.str []), (.str []), (.bool false), (.int .i64 0)] [(0, 5, (.t 52))]⟩,
  ⟨(some 54), .none, .call 272 [(.t 50), (.t 51), (.t 53)]⟩,
  ⟨(some 55), .none, .nilck (.t 46)⟩,
  ⟨(some 56), .none, .faddr 1 (.t 55)⟩,
  ⟨.none, .none, .store 1 (.t 56) (.t 54)⟩],
  [0, 0, 2, 6, 14, 0, 0, 64, 254, 511, 1023, 2047], [0, 1, 2, 3, 4, 5, 6, 7, 8, 9, 10, 11], [], .none⟩
def f212r8 : List AOp := [
  ⟨(some 57), .none, .mv (.t 0)⟩,
  ⟨(some 58), .none, .faddr 0 (.t 3)⟩,
  ⟨(some 59), .none, .load1 (.t 58)⟩,
  ⟨(some 60), .none, .bin .add .num (.t 59) (.c (.int .i64 1))⟩,
  ⟨(some 61), .none, .nilck (.t 57)⟩,
  ⟨(some 62), .none, .faddr 0 (.t 61)⟩,
  ⟨.none, .none, .store 1 (.t 62) (.t 60)⟩]
def f212 : AF := ⟨63, [], (.seq (.reg f212r0) (.seq (.reg f212r1) (.seq (.block 0 (.seq (.reg f212r2) (.cond (.t 14) (.reg f212r3) (.seq (.reg f212r4) (.cond (.t 32) (.dreg f212r5) (.seq (.reg f212r6) (.cond (.t 41) (.dreg f212r7) .skip))))))) (.reg f212r8))))⟩
/- (*towpath/compact.Table).from -/
def f213r0 : List AOp := [
  ⟨(some 2), .none, .box (.t 0)⟩,
  ⟨(some 3), .none, .box (.t 1)⟩,
  ⟨(some 4), .none, .mv (.c (.int .i64 0))⟩]
def f213r1 : List AOp := [
  ⟨(some 5), .none, .load1 (.t 2)⟩,
  ⟨(some 6), .none, .nilck (.t 5)⟩,
  ⟨(some 7), .none, .faddr 1 (.t 6)⟩,
  ⟨(some 8), .none, .load1 (.t 7)⟩,
  ⟨(some 9), .none, .len .slice (.t 8)⟩,
  ⟨(some 10), .none, .mkfn 273 [] [(.t 2), (.t 3)]⟩,
  ⟨(some 11), .none, .call 178 [(.t 9), (.t 10)]⟩,
  ⟨(some 4), .none, .mv (.t 11)⟩]
def f213 : AF := ⟨12, [.tmp 4], (.seq (.reg f213r0) (.seq (.reg f213r1) .ret))⟩
/- math/bits.Len -/
def f220r0 : List AOp := [
  ⟨(some 2), .none, .mv (.c (.int .i64 0))⟩]
def f220r1 : List AOp := [
  ⟨(some 3), .none, .mv (.t 0)⟩,
  ⟨(some 4), .none, .conv (.int .u32) (.t 3)⟩,
  ⟨(some 5), .none, .call 287 [(.t 4)]⟩,
  ⟨(some 2), .none, .mv (.t 5)⟩]
def f220r2 : List AOp := [
  ⟨(some 6), .none, .mv (.t 0)⟩,
  ⟨(some 7), .none, .call 288 [(.t 6)]⟩,
  ⟨(some 2), .none, .mv (.t 7)⟩]
def f220 : AF := ⟨8, [.tmp 2], (.seq (.reg f220r0) (.seq (.cond (.c (.bool false)) (.seq (.reg f220r1) .ret) .skip) (.seq (.reg f220r2) .ret)))⟩
/- slices.ContainsFunc[[]towpath/api.Batch,towpath/api.Batch] -/
def f224r0 : List AOp := [
  ⟨(some 4), .none, .mv (.c (.bool false))⟩]
def f224r1 : List AOp := [
  ⟨(some 5), .none, .mv (.t 0)⟩,
  ⟨(some 6), .none, .mv (.t 1)⟩,
  ⟨(some 7), .none, .call 290 [(.t 5), (.t 6)]⟩,
  ⟨(some 8), .none, .bin .geq .num (.t 7) (.c (.int .i64 0))⟩,
  ⟨(some 4), .none, .mv (.t 8)⟩]
def f224 : AF := ⟨9, [.tmp 4], (.seq (.reg f224r0) (.seq (.reg f224r1) .ret))⟩
/- (*towpath/disk.Disk).Names -/
def f226r0 : List AOp := [
  ⟨(some 3), .none, .box (.t 1)⟩,
  ⟨(some 4), .none, .mv (.c .nils)⟩]
def f226r1 : List AOp := [
  ⟨(some 7), .none, .mv (.t 0)⟩,
  ⟨(some 8), .none, .bin .eql .ptr (.t 7) (.c .nilp)⟩]
def f226r2 : List AOp := [
  ⟨(some 4), .none, .mv (.c .nils)⟩]
def f226r3 : List AOp := [
  ⟨(some 5), .none, .alloc [.nils]⟩]
def f226r4 : List AOp := [
  ⟨(some 9), .none, .mv (.t 0)⟩,
  ⟨(some 10), .none, .nilck (.t 9)⟩,
  ⟨(some 11), .none, .faddr 4 (.t 10)⟩,
  ⟨(some 12), .none, .load1 (.t 11)⟩,
  ⟨(some 13), .none, .call 291 [(.t 12)]⟩]
def f226r8 : List AOp := [
  ⟨(some 22), .none, .load1 (.t 5)⟩,
  ⟨(some 23), .none, .call 293 [(.t 22)]⟩]
def f226r9 : List AOp := [
  ⟨(some 24), .none, .load1 (.t 5)⟩,
  ⟨(some 4), .none, .mv (.t 24)⟩]
def f226 : AR := ⟨25, [.tmp 4], [(.reg f226r0), (.seq (.reg f226r1) (.cond (.t 8) (.seq (.reg f226r2) .ret) .skip)), (.reg f226r3), (.reg f226r4)], (.t 13), (.seq (.reg f226r8) (.seq (.reg f226r9) .ret))⟩
/- towpath/frame.First -/
def f228r0 : List AOp := [
  ⟨(some 2), .none, .mv (.c .nils)⟩,
  ⟨(some 3), .none, .mv (.c (.int .i64 0))⟩,
  ⟨(some 4), .none, .mv (.c (.bool false))⟩]
def f228r1 : List AOp := [
  ⟨(some 7), .none, .mv (.t 0)⟩,
  ⟨(some 8), .none, .len .slice (.t 7)⟩,
  ⟨(some 9), .none, .bin .lss .num (.t 8) (.c (.int .i64 8))⟩]
def f228r2 : List AOp := [
  ⟨(some 2), .none, .mv (.c .nils)⟩,
  ⟨(some 3), .none, .mv (.c (.int .i64 0))⟩,
  ⟨(some 4), .none, .mv (.c (.bool false))⟩]
def f228r3 : List AOp := [
  ⟨(some 10), .none, .mv (.t 0)⟩,
  ⟨(some 11), .none, .call 294 [(.t 10)]⟩,
  ⟨(some 5), .none, .mv (.t 11)⟩]
def f228r4 : List AOp := [
  ⟨(some 12), .none, .mv (.t 5)⟩,
  ⟨(some 13), .none, .bin .gtr .num (.t 12) (.c (.int .u32 262144))⟩,
  ⟨(some 14), .none, .mv (.t 13)⟩,
  ⟨(some 15), (some (14, false)), .mv (.t 5)⟩,
  ⟨(some 16), (some (14, false)), .conv (.int .i64) (.t 15)⟩,
  ⟨(some 17), (some (14, false)), .mv (.t 0)⟩,
  ⟨(some 18), (some (14, false)), .len .slice (.t 17)⟩,
  ⟨(some 19), (some (14, false)), .bin .sub .num (.t 18) (.c (.int .i64 8))⟩,
  ⟨(some 20), (some (14, false)), .bin .gtr .num (.t 16) (.t 19)⟩,
  ⟨(some 21), .none, .pick (.t 14) (.c (.bool true)) (.t 20)⟩]
def f228r5 : List AOp := [
  ⟨(some 2), .none, .mv (.c .nils)⟩,
  ⟨(some 3), .none, .mv (.c (.int .i64 0))⟩,
  ⟨(some 4), .none, .mv (.c (.bool false))⟩]
def f228r6 : List AOp := [
  ⟨(some 22), .none, .mv (.t 5)⟩,
  ⟨(some 23), .none, .conv (.int .i64) (.t 22)⟩,
  ⟨(some 24), .none, .bin .add .num (.t 23) (.c (.int .i64 4))⟩,
  ⟨(some 6), .none, .mv (.t 24)⟩]
def f228r7 : DR := ⟨[
  ⟨(some 25), .none, .mv (.t 0)⟩,
  ⟨(some 26), .none, .mv (.t 6)⟩,
  ⟨(some 27), .none, .slc 1 (.t 25) (some (.t 26)) .none .none⟩,
  ⟨(some 28), .none, .call 294 [(.t 27)]⟩,
  ⟨(some 29), .none, .mv (.t 0)⟩,
  ⟨(some 30), .none, .mv (.t 6)⟩,
  ⟨(some 31), .none, .slc 1 (.t 29) .none (some (.t 30)) .none⟩,
  ⟨(some 32), .none, .bsl false 1 1 [.nils] [(0, 1, (.t 31))]⟩,
  ⟨(some 33), .none, .call 265 [(.t 32)]⟩,
  ⟨(some 34), .none, .bin .neq .num (.t 28) (.t 33)⟩],
  [0, 0, 3, 7, 0, 0, 48, 112, 255, 511], [0, 1, 2, 3, 4, 5, 6, 7, 8, 9], [], .none⟩
def f228r8 : List AOp := [
  ⟨(some 2), .none, .mv (.c .nils)⟩,
  ⟨(some 3), .none, .mv (.c (.int .i64 0))⟩,
  ⟨(some 4), .none, .mv (.c (.bool false))⟩]
def f228r9 : List AOp := [
  ⟨(some 35), .none, .mv (.t 0)⟩,
  ⟨(some 36), .none, .mv (.t 6)⟩,
  ⟨(some 37), .none, .slc 1 (.t 35) (some (.c (.int .i64 4))) (some (.t 36)) .none⟩,
  ⟨(some 38), .none, .call 165 [(.t 37)]⟩,
  ⟨(some 39), .none, .mv (.t 6)⟩,
  ⟨(some 40), .none, .bin .add .num (.t 39) (.c (.int .i64 4))⟩,
  ⟨(some 2), .none, .mv (.t 38)⟩,
  ⟨(some 3), .none, .mv (.t 40)⟩,
  ⟨(some 4), .none, .mv (.c (.bool true))⟩]
def f228 : AF := ⟨41, [.tmp 2, .tmp 3, .tmp 4], (.seq (.reg f228r0) (.seq (.seq (.reg f228r1) (.cond (.t 9) (.seq (.reg f228r2) .ret) .skip)) (.seq (.reg f228r3) (.seq (.seq (.reg f228r4) (.cond (.t 21) (.seq (.reg f228r5) .ret) .skip)) (.seq (.reg f228r6) (.seq (.seq (.dreg f228r7) (.cond (.t 34) (.seq (.reg f228r8) .ret) .skip)) (.seq (.reg f228r9) .ret)))))))⟩
/- (*towpath/seglog.Log).segment -/
def f230r0 : List AOp := [
  ⟨(some 6), .none, .mv (.c .nilp)⟩]
def f230r1 : List AOp := [
  ⟨(some 10), .none, .mv (.t 0)⟩,
  ⟨(some 11), .none, .nilck (.t 10)⟩,
  ⟨(some 12), .none, .faddr 2 (.t 11)⟩,
  ⟨(some 13), .none, .faddr 1 (.t 12)⟩,
  ⟨(some 14), .none, .load1 (.t 13)⟩,
  ⟨(some 15), .none, .call 296 [(.t 14)]⟩,
  ⟨(some 9), .none, .mv (.t 15)⟩,
  ⟨(some 16), .none, .ext (.t 9) 0⟩,
  ⟨(some 17), .none, .ext (.t 9) 1⟩,
  ⟨(some 7), .none, .mv (.t 16)⟩,
  ⟨(some 8), .none, .mv (.t 17)⟩]
def f230r2 : List AOp := [
  ⟨(some 18), .none, .mv (.t 7)⟩,
  ⟨(some 19), .none, .mv (.t 1)⟩,
  ⟨(some 20), .none, .mv (.t 2)⟩,
  ⟨(some 21), .none, .mv (.t 1)⟩,
  ⟨(some 22), .none, .mv (.t 2)⟩,
  ⟨(some 23), .none, .call 249 [(.t 21), (.t 22)]⟩,
  ⟨(some 24), .none, .len .slice (.t 23)⟩,
  ⟨(some 25), .none, .build [.nilp, (.int .i64 0), (.int .i64 0), (.int .i64 0), (.int .i64 0), (.int .i64 0)] [(0, 1, (.t 18)), (1, 1, (.t 19)), (2, 1, (.t 20)), (4, 1, (.c (.int .i64 (-1)))), (5, 1, (.t 24))]⟩,
  ⟨(some 26), .none, .box (.t 25)⟩,
  ⟨(some 6), .none, .mv (.t 26)⟩]
def f230 : AF := ⟨27, [.tmp 6], (.seq (.reg f230r0) (.seq (.reg f230r1) (.seq (.reg f230r2) .ret)))⟩
/- towpath/rec.Decode -/
def f231r0 : List AOp := [
  ⟨(some 2), .none, .alloc [(.int .i64 0), (.int .i64 0), (.int .i64 0), (.int .i64 0), (.int .i64 0), (.int .i64 0), .nils]⟩,
  ⟨(some 3), .none, .mv (.c (.int .i64 0))⟩]
def f231r1 : List AOp := [
  ⟨(some 12), .none, .build [(.int .i64 0), (.int .i64 0), (.int .i64 0), (.int .i64 0), (.int .i64 0), (.int .i64 0), .nils] []⟩,
  ⟨(some 4), .none, .alloc [(.int .i64 0), (.int .i64 0), (.int .i64 0), (.int .i64 0), (.int .i64 0), (.int .i64 0), .nils]⟩,
  ⟨.none, .none, .store 7 (.t 4) (.t 12)⟩]
def f231r2 : List AOp := [
  ⟨(some 13), .none, .mv (.t 0)⟩,
  ⟨(some 14), .none, .call 82 [(.t 13)]⟩,
  ⟨(some 5), .none, .mv (.t 14)⟩]
def f231r3 : List AOp := [
  ⟨(some 15), .none, .mv (.t 5)⟩,
  ⟨(some 16), .none, .call 295 [(.t 15)]⟩,
  ⟨(some 17), .none, .bin .neq .num (.t 16) (.c (.int .i64 1))⟩]
def f231r4 : List AOp := [
  ⟨(some 18), .none, .loadn 7 (.t 4)⟩,
  ⟨.none, .none, .store 7 (.t 2) (.t 18)⟩,
  ⟨(some 3), .none, .mv (.c (.int .i64 6))⟩]
end Go.AM.P
