import Derived.Test.YthbkgikjaiaigaaGreatAx8Fp0
import Derived.Test.YthbkgikjaiaigaaGreatAmRng
namespace Go.AM.P
set_option linter.all false
def f231r5 : List AOp := [
  ⟨(some 19), .none, .mv (.t 5)⟩,
  ⟨(some 20), .none, .call 295 [(.t 19)]⟩,
  ⟨(some 21), .none, .mv (.t 5)⟩,
  ⟨(some 22), .none, .call 297 [(.t 21), (.c (.int .i64 1099511627776))]⟩,
  ⟨(some 23), .none, .mv (.t 5)⟩,
  ⟨(some 24), .none, .call 297 [(.t 23), (.c (.int .i64 1048576))]⟩,
  ⟨(some 25), .none, .build [(.int .i64 0), (.int .i64 0), (.int .i64 0), (.int .i64 0), (.int .i64 0), (.int .i64 0), .nils] [(4, 1, (.t 20)), (0, 1, (.t 22)), (1, 1, (.t 24))]⟩,
  ⟨(some 6), .none, .alloc [(.int .i64 0), (.int .i64 0), (.int .i64 0), (.int .i64 0), (.int .i64 0), (.int .i64 0), .nils]⟩,
  ⟨.none, .none, .store 7 (.t 6) (.t 25)⟩]
def f231r6 : List AOp := [
  ⟨(some 26), .none, .faddr 1 (.t 6)⟩,
  ⟨(some 27), .none, .load1 (.t 26)⟩,
  ⟨(some 28), .none, .bin .gtr .num (.t 27) (.c (.int .i64 0))⟩]
def f231r7 : List AOp := [
  ⟨(some 29), .none, .mv (.t 5)⟩,
  ⟨(some 30), .none, .call 297 [(.t 29), (.c (.int .i64 32767))]⟩,
  ⟨(some 31), .none, .faddr 2 (.t 6)⟩,
  ⟨.none, .none, .store 1 (.t 31) (.t 30)⟩]
def f231r8 : List AOp := [
  ⟨(some 32), .none, .loadn 7 (.t 6)⟩,
  ⟨(some 33), .none, .call 185 [(.t 32)]⟩,
  ⟨(some 34), .none, .un .not (.t 33)⟩]
def f231r9 : List AOp := [
  ⟨(some 35), .none, .mv (.t 5)⟩,
  ⟨(some 36), .none, .call 297 [(.t 35), (.c (.int .i64 2147483647))]⟩,
  ⟨(some 37), .none, .faddr 3 (.t 6)⟩,
  ⟨.none, .none, .store 1 (.t 37) (.t 36)⟩]
def f231r10 : List AOp := [
  ⟨(some 38), .none, .mv (.t 5)⟩,
  ⟨(some 39), .none, .call 297 [(.t 38), (.c (.int .i64 1099511627776))]⟩,
  ⟨(some 40), .none, .faddr 5 (.t 6)⟩,
  ⟨.none, .none, .store 1 (.t 40) (.t 39)⟩]
def f231r11 : List AOp := [
  ⟨(some 41), .none, .mv (.t 5)⟩,
  ⟨(some 42), .none, .call 238 [(.t 41)]⟩,
  ⟨(some 43), .none, .bin .neq .num (.t 42) (.c (.int .i64 0))⟩,
  ⟨(some 44), .none, .mv (.t 43)⟩,
  ⟨(some 45), (some (44, false)), .faddr 5 (.t 6)⟩,
  ⟨(some 46), (some (44, false)), .load1 (.t 45)⟩,
  ⟨(some 47), (some (44, false)), .bin .gtr .num (.t 46) (.c (.int .i64 1099511627776))⟩,
  ⟨(some 48), .none, .pick (.t 44) (.c (.bool true)) (.t 47)⟩]
def f231r12 : List AOp := [
  ⟨(some 49), .none, .loadn 7 (.t 4)⟩,
  ⟨.none, .none, .store 7 (.t 2) (.t 49)⟩,
  ⟨(some 3), .none, .mv (.c (.int .i64 6))⟩]
def f231r13 : List AOp := [
  ⟨(some 50), .none, .loadn 7 (.t 6)⟩,
  ⟨(some 51), .none, .call 185 [(.t 50)]⟩,
  ⟨(some 52), .none, .un .not (.t 51)⟩]
def f231r14 : List AOp := [
  ⟨(some 53), .none, .mv (.t 5)⟩,
  ⟨(some 54), .none, .call 297 [(.t 53), (.c (.int .i64 64))]⟩,
  ⟨(some 7), .none, .mv (.t 54)⟩]
def f231r15 : List AOp := [
  ⟨(some 55), .none, .mv (.t 7)⟩,
  ⟨(some 56), .none, .bin .gtr .num (.t 55) (.c (.int .i64 64))⟩]
def f231r16 : List AOp := [
  ⟨(some 57), .none, .loadn 7 (.t 4)⟩,
  ⟨.none, .none, .store 7 (.t 2) (.t 57)⟩,
  ⟨(some 3), .none, .mv (.c (.int .i64 6))⟩]
def f231r17 : List AOp := [
  ⟨(some 8), .none, .mv (.c (.str []))⟩]
def f231r18 : List AOp := [
  ⟨(some 58), .none, .mv (.t 7)⟩,
  ⟨(some 59), .none, .mv (.c (.int .i64 0))⟩]
def f231r19 : List AOp := [
  ⟨(some 60), .none, .bin .lss .num (.t 59) (.t 58)⟩]
def f231r20 : List AOp := [
  ⟨(some 62), .none, .mv (.t 5)⟩,
  ⟨(some 63), .none, .faddr 5 (.t 6)⟩,
  ⟨(some 64), .none, .load1 (.t 63)⟩,
  ⟨(some 65), .none, .mv (.t 8)⟩,
  ⟨(some 66), .none, .call 298 [(.t 62), (.t 64), (.t 65)]⟩,
  ⟨(some 61), .none, .mv (.t 66)⟩,
  ⟨(some 67), .none, .ext (.t 61) 0⟩,
  ⟨(some 68), .none, .ext (.t 61) 1⟩,
  ⟨(some 9), .none, .alloc [(.str []), (.str []), (.bool false), (.int .i64 0)]⟩,
  ⟨.none, .none, .store 4 (.t 9) (.t 67)⟩,
  ⟨(some 10), .none, .mv (.t 68)⟩]
def f231r21 : List AOp := [
  ⟨(some 69), .none, .mv (.t 10)⟩,
  ⟨(some 70), .none, .un .not (.t 69)⟩]
def f231r22 : List AOp := [
  ⟨(some 71), .none, .loadn 7 (.t 4)⟩,
  ⟨.none, .none, .store 7 (.t 2) (.t 71)⟩,
  ⟨(some 3), .none, .mv (.c (.int .i64 6))⟩]
def f231r23 : List AOp := [
  ⟨(some 72), .none, .faddr 6 (.t 6)⟩,
  ⟨(some 73), .none, .load1 (.t 72)⟩,
  ⟨(some 74), .none, .loadn 4 (.t 9)⟩,
  ⟨(some 75), .none, .bsl false 4 1 [(.str []), (.str []), (.bool false), (.int .i64 0)] [(0, 4, (.t 74))]⟩,
  ⟨(some 76), .none, .app false 4 48 (.t 73) (.t 75)⟩,
  ⟨(some 11), .none, .mv (.t 76)⟩]
def f231r24 : List AOp := [
  ⟨(some 77), .none, .mv (.t 11)⟩,
  ⟨(some 78), .none, .faddr 6 (.t 6)⟩,
  ⟨.none, .none, .store 1 (.t 78) (.t 77)⟩]
def f231r25 : List AOp := [
  ⟨(some 79), .none, .faddr 0 (.t 9)⟩,
  ⟨(some 80), .none, .load1 (.t 79)⟩,
  ⟨(some 8), .none, .mv (.t 80)⟩]
def f231r26 : List AOp := [
  ⟨(some 81), .none, .bin .add .num (.t 59) (.c (.int .i64 1))⟩,
  ⟨(some 59), .none, .mv (.t 81)⟩]
def f231r27 : List AOp := [
  ⟨(some 82), .none, .mv (.t 5)⟩,
  ⟨(some 83), .none, .call 84 [(.t 82)]⟩,
  ⟨(some 84), .none, .bin .neq .num (.t 83) (.c (.int .i64 0))⟩,
  ⟨(some 85), .none, .mv (.t 84)⟩,
  ⟨(some 86), (some (85, false)), .loadn 7 (.t 6)⟩,
  ⟨(some 87), (some (85, false)), .call 186 [(.t 86)]⟩,
  ⟨(some 88), (some (85, false)), .bin .neq .num (.t 87) (.c (.int .i64 0))⟩,
  ⟨(some 89), .none, .pick (.t 85) (.c (.bool true)) (.t 88)⟩]
def f231r28 : List AOp := [
  ⟨(some 90), .none, .loadn 7 (.t 4)⟩,
  ⟨.none, .none, .store 7 (.t 2) (.t 90)⟩,
  ⟨(some 3), .none, .mv (.c (.int .i64 6))⟩]
def f231r29 : List AOp := [
  ⟨(some 91), .none, .loadn 7 (.t 6)⟩,
  ⟨.none, .none, .store 7 (.t 2) (.t 91)⟩,
  ⟨(some 3), .none, .mv (.c (.int .i64 0))⟩]
def f231 : AF := ⟨92, [.celln 2 7, .tmp 3], (.seq (.reg f231r0) (.seq (.reg f231r1) (.seq (.reg f231r2) (.seq (.seq (.reg f231r3) (.cond (.t 17) (.seq (.reg f231r4) .ret) .skip)) (.seq (.reg f231r5) (.seq (.seq (.reg f231r6) (.cond (.t 28) (.seq (.reg f231r7) (.seq (.reg f231r8) (.cond (.t 34) (.reg f231r9) .skip))) .skip)) (.seq (.reg f231r10) (.seq (.seq (.reg f231r11) (.cond (.t 48) (.seq (.reg f231r12) .ret) .skip)) (.seq (.seq (.reg f231r13) (.cond (.t 52) (.seq (.reg f231r14) (.seq (.seq (.reg f231r15) (.cond (.t 56) (.seq (.reg f231r16) .ret) .skip)) (.seq (.reg f231r17) (.seq (.reg f231r18) (.block 0 (.loop (.seq (.reg f231r19) (.seq (.cond (.t 60) .skip (.exit 0)) (.seq (.block 1 (.seq (.reg f231r20) (.seq (.seq (.reg f231r21) (.cond (.t 70) (.seq (.reg f231r22) .ret) .skip)) (.seq (.reg f231r23) (.seq (.reg f231r24) (.reg f231r25)))))) (.reg f231r26)))))))))) .skip)) (.seq (.seq (.reg f231r27) (.cond (.t 89) (.seq (.reg f231r28) .ret) .skip)) (.seq (.reg f231r29) .ret)))))))))))⟩
/- (*towpath/seglog.segment).take -/
def f232r0 : List AOp := [
  ⟨(some 4), .none, .box (.t 1)⟩]
def f232r1 : List AOp := [
  ⟨(some 7), .none, .loadn 7 (.t 4)⟩,
  ⟨(some 8), .none, .call 299 [(.t 7)]⟩,
  ⟨(some 6), .none, .mv (.t 8)⟩]
def f232r2 : DR := ⟨[
  ⟨(some 9), .none, .mv (.t 0)⟩,
  ⟨(some 10), .none, .nilck (.t 9)⟩,
  ⟨(some 11), .none, .faddr 0 (.t 10)⟩,
  ⟨(some 12), .none, .load1 (.t 11)⟩,
  ⟨(some 13), .none, .faddr 0 (.t 4)⟩,
  ⟨(some 14), .none, .load1 (.t 13)⟩,
  ⟨(some 15), .none, .mv (.t 0)⟩,
  ⟨(some 16), .none, .nilck (.t 15)⟩,
  ⟨(some 17), .none, .faddr 5 (.t 16)⟩,
  ⟨(some 18), .none, .load1 (.t 17)⟩,
  ⟨(some 19), .none, .mv (.t 6)⟩,
  ⟨(some 20), .none, .call 300 [(.t 12), (.t 14), (.t 18), (.t 19)]⟩],
  [0, 1, 3, 7, 0, 16, 0, 64, 192, 448, 0, 2047], [0, 1, 2, 3, 4, 5, 6, 7, 8, 9, 10, 11], [], .none⟩
def f232r3 : List AOp := [
  ⟨(some 21), .none, .mv (.t 0)⟩,
  ⟨(some 22), .none, .loadn 7 (.t 4)⟩,
  ⟨(some 23), .none, .call 95 [(.t 22)]⟩,
  ⟨(some 24), .none, .nilck (.t 21)⟩,
  ⟨(some 25), .none, .faddr 3 (.t 24)⟩,
  ⟨.none, .none, .store 1 (.t 25) (.t 23)⟩]
def f232r4 : List AOp := [
  ⟨(some 26), .none, .mv (.t 0)⟩,
  ⟨(some 27), .none, .mv (.t 0)⟩,
  ⟨(some 28), .none, .nilck (.t 27)⟩,
  ⟨(some 29), .none, .faddr 4 (.t 28)⟩,
  ⟨(some 30), .none, .load1 (.t 29)⟩,
  ⟨(some 31), .none, .mv (.t 6)⟩,
  ⟨(some 32), .none, .mx [(.t 30), (.t 31)]⟩,
  ⟨(some 33), .none, .nilck (.t 26)⟩,
  ⟨(some 34), .none, .faddr 4 (.t 33)⟩,
  ⟨.none, .none, .store 1 (.t 34) (.t 32)⟩]
def f232r5 : List AOp := [
  ⟨(some 35), .none, .mv (.t 0)⟩,
  ⟨(some 36), .none, .nilck (.t 35)⟩,
  ⟨(some 37), .none, .faddr 5 (.t 36)⟩,
  ⟨(some 38), .none, .load1 (.t 37)⟩,
  ⟨(some 39), .none, .mv (.t 2)⟩,
  ⟨(some 40), .none, .bin .add .num (.t 38) (.t 39)⟩,
  ⟨(some 41), .none, .nilck (.t 35)⟩,
  ⟨(some 42), .none, .faddr 5 (.t 41)⟩,
  ⟨.none, .none, .store 1 (.t 42) (.t 40)⟩]
def f232 : AF := ⟨43, [], (.seq (.reg f232r0) (.seq (.reg f232r1) (.seq (.dreg f232r2) (.seq (.reg f232r3) (.seq (.reg f232r4) (.reg f232r5))))))⟩
/- (*towpath/seglog.Log).put -/
def f233r0 : List AOp := [
  ⟨(some 5), .none, .mv (.t 0)⟩,
  ⟨(some 6), .none, .nilck (.t 5)⟩,
  ⟨(some 7), .none, .faddr 4 (.t 6)⟩,
  ⟨(some 8), .none, .load1 (.t 7)⟩,
  ⟨(some 9), .none, .mv (.t 1)⟩,
  ⟨(some 10), .none, .bsl false 1 1 [.nilp] [(0, 1, (.t 9))]⟩,
  ⟨(some 11), .none, .app false 1 8 (.t 8) (.t 10)⟩,
  ⟨(some 4), .none, .mv (.t 11)⟩]
def f233r1 : List AOp := [
  ⟨(some 12), .none, .mv (.t 0)⟩,
  ⟨(some 13), .none, .mv (.t 4)⟩,
  ⟨(some 14), .none, .nilck (.t 12)⟩,
  ⟨(some 15), .none, .faddr 4 (.t 14)⟩,
  ⟨.none, .none, .store 1 (.t 15) (.t 13)⟩]
def f233 : AF := ⟨16, [], (.seq (.reg f233r0) (.reg f233r1))⟩
/- (*towpath/wire.place).take -/
def f235r0 : List AOp := [
  ⟨(some 4), .none, .mv (.c .nils)⟩]
def f235r1 : List AOp := [
  ⟨(some 5), .none, .mv (.t 0)⟩,
  ⟨(some 6), .none, .nilck (.t 5)⟩,
  ⟨(some 7), .none, .faddr 1 (.t 6)⟩,
  ⟨(some 8), .none, .load1 (.t 7)⟩,
  ⟨(some 9), .none, .mv (.t 1)⟩,
  ⟨(some 10), .none, .bin .add .num (.t 8) (.t 9)⟩,
  ⟨(some 11), .none, .nilck (.t 5)⟩,
  ⟨(some 12), .none, .faddr 1 (.t 11)⟩,
  ⟨.none, .none, .store 1 (.t 12) (.t 10)⟩]
def f235r2 : DR := ⟨[
  ⟨(some 13), .none, .mv (.t 0)⟩,
  ⟨(some 14), .none, .nilck (.t 13)⟩,
  ⟨(some 15), .none, .faddr 0 (.t 14)⟩,
  ⟨(some 16), .none, .load1 (.t 15)⟩,
  ⟨(some 17), .none, .mv (.t 0)⟩,
  ⟨(some 18), .none, .nilck (.t 17)⟩,
  ⟨(some 19), .none, .faddr 1 (.t 18)⟩,
  ⟨(some 20), .none, .load1 (.t 19)⟩,
  ⟨(some 21), .none, .mv (.t 1)⟩,
  ⟨(some 22), .none, .bin .sub .num (.t 20) (.t 21)⟩,
  ⟨(some 23), .none, .mv (.t 0)⟩,
  ⟨(some 24), .none, .nilck (.t 23)⟩,
  ⟨(some 25), .none, .faddr 1 (.t 24)⟩,
  ⟨(some 26), .none, .load1 (.t 25)⟩,
  ⟨(some 27), .none, .slc 1 (.t 16) (some (.t 22)) (some (.t 26)) .none⟩,
  ⟨(some 4), .none, .mv (.t 27)⟩],
  [0, 1, 3, 7, 0, 16, 48, 112, 0, 496, 0, 1024, 3072, 7168, 16383, 32767], [0, 1, 2, 3, 4, 5, 6, 7, 8, 9, 10, 11, 12, 13, 14, 15], [], .none⟩
def f235 : AF := ⟨28, [.tmp 4], (.seq (.reg f235r0) (.seq (.reg f235r1) (.seq (.dreg f235r2) .ret)))⟩
/- (*towpath/wire.Reader).Within -/
def f237r0 : List AOp := [
  ⟨(some 6), .none, .mv (.c (.int .i64 0))⟩]
def f237r1 : List AOp := [
  ⟨(some 9), .none, .mv (.t 0)⟩,
  ⟨(some 10), .none, .call 166 [(.t 9)]⟩,
  ⟨(some 11), .none, .un .not (.t 10)⟩]
def f237r2 : List AOp := [
  ⟨(some 6), .none, .mv (.c (.int .i64 0))⟩]
def f237r3 : List AOp := [
  ⟨(some 12), .none, .mv (.t 0)⟩,
  ⟨(some 13), .none, .nilck (.t 12)⟩,
  ⟨(some 14), .none, .faddr 0 (.t 13)⟩,
  ⟨(some 15), .none, .faddr 1 (.t 14)⟩,
  ⟨(some 16), .none, .load1 (.t 15)⟩,
  ⟨(some 7), .none, .mv (.t 16)⟩]
def f237r4 : List AOp := [
  ⟨(some 17), .none, .mv (.t 0)⟩,
  ⟨(some 18), .none, .call 301 [(.t 17)]⟩,
  ⟨(some 8), .none, .mv (.t 18)⟩]
def f237r5 : List AOp := [
  ⟨(some 19), .none, .mv (.t 0)⟩,
  ⟨(some 20), .none, .nilck (.t 19)⟩,
  ⟨(some 21), .none, .faddr 0 (.t 20)⟩,
  ⟨(some 22), .none, .faddr 2 (.t 21)⟩,
  ⟨(some 23), .none, .load1 (.t 22)⟩,
  ⟨(some 24), .none, .bin .eql .num (.t 23) (.c (.int .i64 0))⟩,
  ⟨(some 25), .none, .mv (.t 24)⟩,
  ⟨(some 26), (some (25, true)), .mv (.t 8)⟩,
  ⟨(some 27), (some (25, true)), .mv (.t 1)⟩,
  ⟨(some 28), (some (25, true)), .bin .lss .num (.t 26) (.t 27)⟩,
  ⟨(some 29), (some (25, true)), .mv (.t 28)⟩,
  ⟨(some 30), (some (29, false)), .mv (.t 8)⟩,
  ⟨(some 31), (some (29, false)), .mv (.t 2)⟩,
  ⟨(some 32), (some (29, false)), .bin .gtr .num (.t 30) (.t 31)⟩,
  ⟨(some 33), (some (25, true)), .pick (.t 29) (.c (.bool true)) (.t 32)⟩,
  ⟨(some 34), .none, .pick (.t 25) (.t 33) (.c (.bool false))⟩]
def f237r6 : List AOp := [
  ⟨(some 35), .none, .mv (.t 0)⟩,
  ⟨(some 36), .none, .mv (.t 7)⟩,
  ⟨(some 37), .none, .nilck (.t 35)⟩,
  ⟨(some 38), .none, .faddr 0 (.t 37)⟩,
  ⟨(some 39), .none, .faddr 1 (.t 38)⟩,
  ⟨.none, .none, .store 1 (.t 39) (.t 36)⟩]
def f237r7 : List AOp := [
  ⟨(some 40), .none, .mv (.t 0)⟩,
  ⟨(some 41), .none, .nilck (.t 40)⟩,
  ⟨(some 42), .none, .faddr 0 (.t 41)⟩,
  ⟨(some 43), .none, .call 169 [(.t 42), (.c (.int .i64 8))]⟩]
def f237r8 : List AOp := [
  ⟨(some 44), .none, .mv (.t 0)⟩,
  ⟨(some 45), .none, .nilck (.t 44)⟩,
  ⟨(some 46), .none, .faddr 0 (.t 45)⟩,
  ⟨(some 47), .none, .faddr 2 (.t 46)⟩,
  ⟨(some 48), .none, .load1 (.t 47)⟩,
  ⟨(some 49), .none, .bin .neq .num (.t 48) (.c (.int .i64 0))⟩]
def f237r9 : List AOp := [
  ⟨(some 6), .none, .mv (.c (.int .i64 0))⟩]
def f237r10 : List AOp := [
  ⟨(some 50), .none, .mv (.t 8)⟩,
  ⟨(some 6), .none, .mv (.t 50)⟩]
def f237 : AF := ⟨51, [.tmp 6], (.seq (.reg f237r0) (.seq (.seq (.reg f237r1) (.cond (.t 11) (.seq (.reg f237r2) .ret) .skip)) (.seq (.reg f237r3) (.seq (.reg f237r4) (.seq (.seq (.reg f237r5) (.cond (.t 34) (.seq (.reg f237r6) (.reg f237r7)) .skip)) (.seq (.seq (.reg f237r8) (.cond (.t 49) (.seq (.reg f237r9) .ret) .skip)) (.seq (.reg f237r10) .ret)))))))⟩
/- (*towpath/wire.Reader).Err -/
def f238r0 : List AOp := [
  ⟨(some 2), .none, .mv (.c (.int .i64 0))⟩]
def f238r1 : List AOp := [
  ⟨(some 3), .none, .mv (.t 0)⟩,
  ⟨(some 4), .none, .bin .eql .ptr (.t 3) (.c .nilp)⟩]
def f238r2 : List AOp := [
  ⟨(some 2), .none, .mv (.c (.int .i64 1))⟩]
def f238r3 : List AOp := [
  ⟨(some 5), .none, .mv (.t 0)⟩,
  ⟨(some 6), .none, .nilck (.t 5)⟩,
  ⟨(some 7), .none, .faddr 0 (.t 6)⟩,
  ⟨(some 8), .none, .faddr 2 (.t 7)⟩,
  ⟨(some 9), .none, .load1 (.t 8)⟩,
  ⟨(some 2), .none, .mv (.t 9)⟩]
def f238 : AF := ⟨10, [.tmp 2], (.seq (.reg f238r0) (.seq (.seq (.reg f238r1) (.cond (.t 4) (.seq (.reg f238r2) .ret) .skip)) (.seq (.reg f238r3) .ret)))⟩
/- (*towpath/dedup.Table).row -/
def f243r0 : List AOp := [
  ⟨(some 4), .none, .alloc [(.int .i64 0), (.int .i64 0), (.int .i64 0), (.int .i64 0), (.int .i64 0), (.int .i64 0), (.int .i64 0)]⟩,
  ⟨(some 5), .none, .mv (.c (.bool false))⟩]
def f243r1 : List AOp := [
  ⟨(some 9), .none, .mv (.t 0)⟩,
  ⟨(some 10), .none, .nilck (.t 9)⟩,
  ⟨(some 11), .none, .faddr 2 (.t 10)⟩,
  ⟨(some 12), .none, .load1 (.t 11)⟩,
  ⟨(some 13), .none, .mv (.t 1)⟩,
  ⟨(some 14), .none, .look .num (.agg [(.int .i64 0), (.int .i64 0), (.int .i64 0), (.int .i64 0), (.int .i64 0), (.int .i64 0), (.int .i64 0)]) true (.t 12) (.t 13)⟩,
  ⟨(some 8), .none, .mv (.t 14)⟩,
  ⟨(some 15), .none, .ext (.t 8) 0⟩,
  ⟨(some 16), .none, .ext (.t 8) 1⟩,
  ⟨(some 6), .none, .alloc [(.int .i64 0), (.int .i64 0), (.int .i64 0), (.int .i64 0), (.int .i64 0), (.int .i64 0), (.int .i64 0)]⟩,
  ⟨.none, .none, .store 7 (.t 6) (.t 15)⟩,
  ⟨(some 7), .none, .mv (.t 16)⟩]
def f243r2 : List AOp := [
  ⟨(some 17), .none, .mv (.t 7)⟩,
  ⟨(some 18), .none, .un .not (.t 17)⟩]
def f243r3 : List AOp := [
  ⟨(some 19), .none, .mv (.t 1)⟩,
  ⟨(some 20), .none, .build [(.int .i64 0), (.int .i64 0), (.int .i64 0), (.int .i64 0), (.int .i64 0), (.int .i64 0), (.int .i64 0)] [(0, 1, (.t 19)), (1, 1, (.c (.int .i64 (-1)))), (5, 1, (.c (.int .i64 (-1))))]⟩,
  ⟨.none, .none, .store 7 (.t 4) (.t 20)⟩,
  ⟨(some 5), .none, .mv (.c (.bool false))⟩]
def f243r4 : List AOp := [
  ⟨(some 21), .none, .loadn 7 (.t 6)⟩,
  ⟨.none, .none, .store 7 (.t 4) (.t 21)⟩,
  ⟨(some 5), .none, .mv (.c (.bool true))⟩]
def f243 : AF := ⟨22, [.celln 4 7, .tmp 5], (.seq (.reg f243r0) (.seq (.reg f243r1) (.seq (.seq (.reg f243r2) (.cond (.t 18) (.seq (.reg f243r3) .ret) .skip)) (.seq (.reg f243r4) .ret))))⟩
/- (*towpath/seglog.Log).placed -/
def f247r0 : List AOp := [
  ⟨(some 4), .none, .mv (.c .nils)⟩,
  ⟨(some 5), .none, .mv (.c .nils)⟩,
  ⟨(some 6), .none, .mv (.c (.int .i64 0))⟩]
def f247r1 : List AOp := [
  ⟨(some 14), .none, .mv (.t 0)⟩,
  ⟨(some 15), .none, .call 105 [(.t 14)]⟩,
  ⟨(some 7), .none, .mv (.t 15)⟩]
def f247r2 : List AOp := [
  ⟨(some 8), .none, .mv (.c .nils)⟩]
def f247r3 : List AOp := [
  ⟨(some 9), .none, .mv (.c .nils)⟩]
def f247r4 : List AOp := [
  ⟨(some 16), .none, .mv (.t 1)⟩,
  ⟨(some 17), .none, .len .slice (.t 16)⟩,
  ⟨(some 18), .none, .mv (.c (.int .i64 0))⟩]
def f247r5 : List AOp := [
  ⟨(some 19), .none, .bin .lss .num (.t 18) (.t 17)⟩]
def f247r6 : List AOp := [
  ⟨(some 20), .none, .iaddr 7 (.t 16) (.t 18)⟩,
  ⟨(some 21), .none, .loadn 7 (.t 20)⟩,
  ⟨(some 11), .none, .alloc [(.int .i64 0), (.int .i64 0), (.int .i64 0), (.int .i64 0), (.int .i64 0), (.int .i64 0), .nils]⟩,
  ⟨.none, .none, .store 7 (.t 11) (.t 21)⟩]
def f247r7 : List AOp := [
  ⟨(some 22), .none, .mv (.t 7)⟩,
  ⟨(some 23), .none, .faddr 0 (.t 11)⟩,
  ⟨.none, .none, .store 1 (.t 23) (.t 22)⟩]
def f247r8 : List AOp := [
  ⟨(some 25), .none, .loadn 7 (.t 11)⟩,
  ⟨(some 26), .none, .call 268 [(.t 25)]⟩,
  ⟨(some 24), .none, .mv (.t 26)⟩,
  ⟨(some 27), .none, .ext (.t 24) 0⟩,
  ⟨(some 28), .none, .ext (.t 24) 1⟩,
  ⟨(some 12), .none, .mv (.t 27)⟩,
  ⟨(some 13), .none, .mv (.t 28)⟩]
def f247r9 : List AOp := [
  ⟨(some 29), .none, .mv (.t 13)⟩,
  ⟨(some 30), .none, .bin .neq .num (.t 29) (.c (.int .i64 0))⟩]
def f247r10 : List AOp := [
  ⟨(some 31), .none, .mv (.t 13)⟩,
  ⟨(some 4), .none, .mv (.c .nils)⟩,
  ⟨(some 5), .none, .mv (.c .nils)⟩,
  ⟨(some 6), .none, .mv (.t 31)⟩]
def f247r11 : List AOp := [
  ⟨(some 32), .none, .mv (.t 8)⟩,
  ⟨(some 33), .none, .loadn 7 (.t 11)⟩,
  ⟨(some 34), .none, .bsl false 7 1 [(.int .i64 0), (.int .i64 0), (.int .i64 0), (.int .i64 0), (.int .i64 0), (.int .i64 0), .nils] [(0, 7, (.t 33))]⟩,
  ⟨(some 35), .none, .app false 7 72 (.t 32) (.t 34)⟩,
  ⟨(some 8), .none, .mv (.t 35)⟩]
def f247r12 : List AOp := [
  ⟨(some 36), .none, .mv (.t 9)⟩,
  ⟨(some 37), .none, .mv (.t 12)⟩,
  ⟨(some 38), .none, .bsl false 1 1 [.nils] [(0, 1, (.t 37))]⟩,
  ⟨(some 39), .none, .call 193 [(.t 38)]⟩,
  ⟨(some 40), .none, .bsl false 1 1 [.nils] [(0, 1, (.t 39))]⟩,
  ⟨(some 41), .none, .app false 1 24 (.t 36) (.t 40)⟩,
  ⟨(some 9), .none, .mv (.t 41)⟩]
def f247r13 : List AOp := [
  ⟨(some 42), .none, .loadn 7 (.t 11)⟩,
  ⟨(some 43), .none, .call 95 [(.t 42)]⟩,
  ⟨(some 7), .none, .mv (.t 43)⟩]
def f247r14 : List AOp := [
  ⟨(some 44), .none, .bin .add .num (.t 18) (.c (.int .i64 1))⟩,
  ⟨(some 18), .none, .mv (.t 44)⟩]
def f247r15 : List AOp := [
  ⟨(some 45), .none, .mv (.t 8)⟩,
  ⟨(some 46), .none, .mv (.t 9)⟩,
  ⟨(some 4), .none, .mv (.t 45)⟩,
  ⟨(some 5), .none, .mv (.t 46)⟩,
  ⟨(some 6), .none, .mv (.c (.int .i64 0))⟩]
def f247 : AF := ⟨47, [.tmp 4, .tmp 5, .tmp 6], (.seq (.reg f247r0) (.seq (.reg f247r1) (.seq (.reg f247r2) (.seq (.reg f247r3) (.seq (.seq (.reg f247r4) (.block 0 (.loop (.seq (.reg f247r5) (.seq (.cond (.t 19) .skip (.exit 0)) (.seq (.block 1 (.seq (.reg f247r6) (.seq (.reg f247r7) (.seq (.reg f247r8) (.seq (.seq (.reg f247r9) (.cond (.t 30) (.seq (.reg f247r10) .ret) .skip)) (.seq (.reg f247r11) (.seq (.reg f247r12) (.reg f247r13)))))))) (.reg f247r14))))))) (.seq (.reg f247r15) .ret))))))⟩
/- (*towpath/seglog.Log).fits -/
def f248r0 : List AOp := [
  ⟨(some 4), .none, .mv (.c (.bool false))⟩]
def f248r1 : List AOp := [
  ⟨(some 6), .none, .mv (.t 0)⟩,
  ⟨(some 7), .none, .call 205 [(.t 6)]⟩,
  ⟨(some 5), .none, .mv (.t 7)⟩]
def f248r2 : DR := ⟨[
  ⟨(some 8), .none, .mv (.t 5)⟩,
  ⟨(some 9), .none, .bin .neq .ptr (.t 8) (.c .nilp)⟩,
  ⟨(some 10), .none, .mv (.t 9)⟩,
  ⟨(some 11), (some (10, true)), .mv (.t 5)⟩,
  ⟨(some 12), (some (10, true)), .nilck (.t 11)⟩,
  ⟨(some 13), (some (10, true)), .faddr 3 (.t 12)⟩,
  ⟨(some 14), (some (10, true)), .load1 (.t 13)⟩,
  ⟨(some 15), (some (10, true)), .bin .eql .num (.t 14) (.c (.int .i64 0))⟩,
  ⟨(some 16), (some (10, true)), .mv (.t 15)⟩,
  ⟨(some 17), (some (16, false)), .mv (.t 5)⟩,
  ⟨(some 18), (some (16, false)), .nilck (.t 17)⟩,
  ⟨(some 19), (some (16, false)), .faddr 5 (.t 18)⟩,
  ⟨(some 20), (some (16, false)), .load1 (.t 19)⟩,
  ⟨(some 21), (some (16, false)), .mv (.t 1)⟩,
  ⟨(some 22), (some (16, false)), .bin .add .num (.t 20) (.t 21)⟩,
  ⟨(some 23), (some (16, false)), .mv (.t 0)⟩,
  ⟨(some 24), (some (16, false)), .nilck (.t 23)⟩,
  ⟨(some 25), (some (16, false)), .faddr 2 (.t 24)⟩,
  ⟨(some 26), (some (16, false)), .faddr 0 (.t 25)⟩,
  ⟨(some 27), (some (16, false)), .load1 (.t 26)⟩,
  ⟨(some 28), (some (16, false)), .bin .leq .num (.t 22) (.t 27)⟩,
  ⟨(some 29), (some (10, true)), .pick (.t 16) (.c (.bool true)) (.t 28)⟩,
  ⟨(some 30), .none, .pick (.t 10) (.t 29) (.c (.bool false))⟩,
  ⟨(some 4), .none, .mv (.t 30)⟩],
  [0, 1, 3, 7, 15, 31, 63, 127, 255, 511, 1023, 2047, 4095, 511, 16383, 511, 33279, 98815, 229887, 492031, 1048575, 2097151, 4194303, 8388607], [0, 1, 2, 3, 4, 5, 6, 7, 8, 9, 10, 11, 12, 13, 14, 15, 16, 17, 18, 19, 20, 21, 22, 23], [], .none⟩
def f248 : AF := ⟨31, [.tmp 4], (.seq (.reg f248r0) (.seq (.reg f248r1) (.seq (.dreg f248r2) .ret)))⟩
/- towpath/seglog.head -/
def f249r0 : List AOp := [
  ⟨(some 4), .none, .mv (.c .nils)⟩]
def f249r1 : List AOp := [
  ⟨(some 5), .none, .bsl false 1 1 [(.int .u8 0)] [(0, 1, (.c (.int .u8 83)))]⟩,
  ⟨(some 6), .none, .mv (.t 0)⟩,
  ⟨(some 7), .none, .conv (.int .u64) (.t 6)⟩,
  ⟨(some 8), .none, .call 78 [(.t 7)]⟩,
  ⟨(some 9), .none, .mv (.t 1)⟩,
  ⟨(some 10), .none, .conv (.int .u64) (.t 9)⟩,
  ⟨(some 11), .none, .call 78 [(.t 10)]⟩,
  ⟨(some 12), .none, .bsl false 1 3 [.nils] [(0, 1, (.t 5)), (1, 1, (.t 8)), (2, 1, (.t 11))]⟩,
  ⟨(some 13), .none, .call 193 [(.t 12)]⟩,
  ⟨(some 4), .none, .mv (.t 13)⟩]
def f249 : AF := ⟨14, [.tmp 4], (.seq (.reg f249r0) (.seq (.reg f249r1) .ret))⟩
/- towpath/dedup.mark -/
def f250r0 : List AOp := [
  ⟨(some 1), .none, .box (.t 0)⟩,
  ⟨(some 2), .none, .mv (.c (.bool false))⟩]
def f250r1 : List AOp := [
  ⟨(some 3), .none, .faddr 4 (.t 1)⟩,
  ⟨(some 4), .none, .load1 (.t 3)⟩,
  ⟨(some 5), .none, .bin .eql .num (.t 4) (.c (.int .i64 2))⟩,
  ⟨(some 6), .none, .mv (.t 5)⟩,
  ⟨(some 7), (some (6, false)), .faddr 4 (.t 1)⟩,
  ⟨(some 8), (some (6, false)), .load1 (.t 7)⟩,
  ⟨(some 9), (some (6, false)), .bin .eql .num (.t 8) (.c (.int .i64 3))⟩,
  ⟨(some 10), .none, .pick (.t 6) (.c (.bool true)) (.t 9)⟩,
  ⟨(some 2), .none, .mv (.t 10)⟩]
def f250 : AF := ⟨11, [.tmp 2], (.seq (.reg f250r0) (.seq (.reg f250r1) .ret))⟩
/- towpath/dedup.again -/
def f251r0 : List AOp := [
  ⟨(some 2), .none, .box (.t 0)⟩,
  ⟨(some 3), .none, .box (.t 1)⟩,
  ⟨(some 4), .none, .alloc [(.bool false), (.int .i64 0)]⟩,
  ⟨(some 5), .none, .mv (.c (.bool false))⟩]
def f251r1 : DR := ⟨[
  ⟨(some 6), .none, .faddr 2 (.t 3)⟩,
  ⟨(some 7), .none, .load1 (.t 6)⟩,
  ⟨(some 8), .none, .faddr 1 (.t 2)⟩,
  ⟨(some 9), .none, .load1 (.t 8)⟩,
  ⟨(some 10), .none, .bin .neq .num (.t 7) (.t 9)⟩,
  ⟨(some 11), .none, .mv (.t 10)⟩,
  ⟨(some 12), (some (11, false)), .faddr 3 (.t 3)⟩,
  ⟨(some 13), (some (11, false)), .load1 (.t 12)⟩,
  ⟨(some 14), (some (11, false)), .faddr 6 (.t 3)⟩,
  ⟨(some 15), (some (11, false)), .load1 (.t 14)⟩,
  ⟨(some 16), (some (11, false)), .len .slice (.t 15)⟩,
  ⟨(some 17), (some (11, false)), .bin .add .num (.t 13) (.t 16)⟩,
  ⟨(some 18), (some (11, false)), .loadn 7 (.t 2)⟩,
  ⟨(some 19), (some (11, false)), .call 302 [(.t 18)]⟩,
  ⟨(some 20), (some (11, false)), .bin .gtr .num (.t 17) (.t 19)⟩,
  ⟨(some 21), .none, .pick (.t 11) (.c (.bool true)) (.t 20)⟩],
  [0, 1, 0, 4, 15, 31, 63, 127, 63, 319, 831, 2047, 63, 4159, 16383, 32767], [0, 1, 2, 3, 4, 5, 6, 7, 8, 9, 10, 11, 12, 13, 14, 15], [(7, 1), (9, 1)], .none⟩
def f251r2 : List AOp := [
  ⟨(some 22), .none, .build [(.bool false), (.int .i64 0)] []⟩,
  ⟨.none, .none, .store 2 (.t 4) (.t 22)⟩,
  ⟨(some 5), .none, .mv (.c (.bool false))⟩]
def f251r3 : List AOp := [
  ⟨(some 23), .none, .faddr 3 (.t 3)⟩,
  ⟨(some 24), .none, .load1 (.t 23)⟩,
  ⟨(some 25), .none, .faddr 2 (.t 2)⟩,
  ⟨(some 26), .none, .load1 (.t 25)⟩,
  ⟨(some 27), .none, .bin .eql .num (.t 24) (.t 26)⟩,
  ⟨(some 28), .none, .mv (.t 27)⟩,
  ⟨(some 29), (some (28, true)), .faddr 6 (.t 3)⟩,
  ⟨(some 30), (some (28, true)), .load1 (.t 29)⟩,
  ⟨(some 31), (some (28, true)), .len .slice (.t 30)⟩,
  ⟨(some 32), (some (28, true)), .faddr 3 (.t 2)⟩,
  ⟨(some 33), (some (28, true)), .load1 (.t 32)⟩,
  ⟨(some 34), (some (28, true)), .bin .eql .num (.t 31) (.t 33)⟩,
  ⟨(some 35), .none, .pick (.t 28) (.t 34) (.c (.bool false))⟩]
def f251r4 : List AOp := [
  ⟨(some 36), .none, .faddr 4 (.t 2)⟩,
  ⟨(some 37), .none, .load1 (.t 36)⟩,
  ⟨(some 38), .none, .build [(.bool false), (.int .i64 0)] [(0, 1, (.c (.bool true))), (1, 1, (.t 37))]⟩,
  ⟨.none, .none, .store 2 (.t 4) (.t 38)⟩,
  ⟨(some 5), .none, .mv (.c (.bool true))⟩]
def f251r5 : List AOp := [
  ⟨(some 39), .none, .build [(.bool false), (.int .i64 0)] [(0, 1, (.c (.bool true))), (1, 1, (.c (.int .i64 (-1))))]⟩,
  ⟨.none, .none, .store 2 (.t 4) (.t 39)⟩,
  ⟨(some 5), .none, .mv (.c (.bool true))⟩]
def f251 : AF := ⟨40, [.celln 4 2, .tmp 5], (.seq (.reg f251r0) (.seq (.seq (.dreg f251r1) (.cond (.t 21) (.seq (.reg f251r2) .ret) .skip)) (.seq (.seq (.reg f251r3) (.cond (.t 35) (.seq (.reg f251r4) .ret) .skip)) (.seq (.reg f251r5) .ret))))⟩
/- (*towpath/dedup.Table).fresh -/
def f252r0 : List AOp := [
  ⟨(some 5), .none, .box (.t 1)⟩,
  ⟨(some 7), .none, .box (.t 3)⟩,
  ⟨(some 8), .none, .mv (.c (.int .i64 0))⟩]
def f252r1 : List AOp := [
  ⟨(some 10), .none, .loadn 7 (.t 5)⟩,
  ⟨(some 11), .none, .call 302 [(.t 10)]⟩,
  ⟨(some 9), .none, .mv (.t 11)⟩]
def f252r2 : List AOp := [
  ⟨(some 12), .none, .faddr 2 (.t 7)⟩,
  ⟨(some 13), .none, .load1 (.t 12)⟩,
  ⟨(some 14), .none, .faddr 1 (.t 5)⟩,
  ⟨(some 15), .none, .load1 (.t 14)⟩,
  ⟨(some 16), .none, .bin .gtr .num (.t 13) (.t 15)⟩]
def f252r3 : List AOp := [
  ⟨(some 9), .none, .mv (.c (.int .i64 0))⟩]
def f252r4 : List AOp := [
  ⟨(some 18), .none, .loadn 7 (.t 5)⟩,
  ⟨(some 19), .none, .call 189 [(.t 18)]⟩,
  ⟨(some 20), .none, .mv (.t 19)⟩,
  ⟨(some 21), (some (20, true)), .faddr 2 (.t 7)⟩,
  ⟨(some 22), (some (20, true)), .load1 (.t 21)⟩,
  ⟨(some 23), (some (20, true)), .faddr 1 (.t 5)⟩,
  ⟨(some 24), (some (20, true)), .load1 (.t 23)⟩,
  ⟨(some 25), (some (20, true)), .bin .gtr .num (.t 22) (.t 24)⟩,
  ⟨(some 26), (some (20, true)), .mv (.t 25)⟩,
  ⟨(some 27), (some (26, false)), .faddr 4 (.t 7)⟩,
  ⟨(some 28), (some (26, false)), .load1 (.t 27)⟩,
  ⟨(some 29), (some (26, false)), .bin .eql .num (.t 28) (.c (.int .i64 0))⟩,
  ⟨(some 30), (some (20, true)), .pick (.t 26) (.c (.bool true)) (.t 29)⟩,
  ⟨(some 31), .none, .pick (.t 20) (.t 30) (.c (.bool false))⟩,
  ⟨(some 17), .none, .mv (.t 31)⟩]
def f252r5 : List AOp := [
  ⟨(some 8), .none, .mv (.c (.int .i64 22))⟩]
def f252r6 : List AOp := [
  ⟨(some 33), .none, .loadn 7 (.t 7)⟩,
  ⟨(some 34), .none, .call 250 [(.t 33)]⟩,
  ⟨(some 35), .none, .un .not (.t 34)⟩,
  ⟨(some 36), .none, .mv (.t 35)⟩,
  ⟨(some 37), (some (36, true)), .faddr 3 (.t 7)⟩,
  ⟨(some 38), (some (36, true)), .load1 (.t 37)⟩,
  ⟨(some 39), (some (36, true)), .mv (.t 9)⟩,
  ⟨(some 40), (some (36, true)), .bin .neq .num (.t 38) (.t 39)⟩,
  ⟨(some 41), .none, .pick (.t 36) (.t 40) (.c (.bool false))⟩,
  ⟨(some 32), .none, .mv (.t 41)⟩]
def f252r7 : List AOp := [
  ⟨(some 8), .none, .mv (.c (.int .i64 21))⟩]
def f252r8 : DR := ⟨[
  ⟨(some 43), .none, .mv (.t 2)⟩,
  ⟨(some 44), .none, .un .not (.t 43)⟩,
  ⟨(some 45), .none, .mv (.t 44)⟩,
  ⟨(some 46), (some (45, true)), .mv (.t 0)⟩,
  ⟨(some 47), (some (45, true)), .nilck (.t 46)⟩,
  ⟨(some 48), (some (45, true)), .faddr 2 (.t 47)⟩,
  ⟨(some 49), (some (45, true)), .load1 (.t 48)⟩,
  ⟨(some 50), (some (45, true)), .len .map (.t 49)⟩,
  ⟨(some 51), (some (45, true)), .mv (.t 0)⟩,
  ⟨(some 52), (some (45, true)), .nilck (.t 51)⟩,
  ⟨(some 53), (some (45, true)), .faddr 0 (.t 52)⟩,
  ⟨(some 54), (some (45, true)), .load1 (.t 53)⟩,
  ⟨(some 55), (some (45, true)), .bin .geq .num (.t 50) (.t 54)⟩,
  ⟨(some 56), .none, .pick (.t 45) (.t 55) (.c (.bool false))⟩,
  ⟨(some 42), .none, .mv (.t 56)⟩],
  [0, 1, 3, 7, 15, 31, 63, 127, 7, 263, 775, 1799, 4095, 8191, 16383], [0, 1, 2, 3, 4, 5, 6, 7, 8, 9, 10, 11, 12, 13, 14], [], .none⟩
def f252r9 : List AOp := [
  ⟨(some 8), .none, .mv (.c (.int .i64 5))⟩]
def f252r10 : List AOp := [
  ⟨(some 8), .none, .mv (.c (.int .i64 0))⟩]
def f252 : AF := ⟨57, [.tmp 8], (.seq (.reg f252r0) (.seq (.reg f252r1) (.seq (.seq (.reg f252r2) (.cond (.t 16) (.reg f252r3) .skip)) (.seq (.block 0 (.seq (.reg f252r4) (.cond (.t 17) (.seq (.reg f252r5) .ret) (.seq (.reg f252r6) (.cond (.t 32) (.seq (.reg f252r7) .ret) (.seq (.dreg f252r8) (.cond (.t 42) (.seq (.reg f252r9) .ret) .skip))))))) (.seq (.reg f252r10) .ret)))))⟩
/- (*towpath/iso.View).may -/
def f253r0 : List AOp := [
  ⟨(some 3), .none, .box (.t 1)⟩,
  ⟨(some 4), .none, .mv (.c (.int .i64 0))⟩]
def f253r1 : List AOp := [
  ⟨(some 10), .none, .faddr 1 (.t 3)⟩,
  ⟨(some 11), .none, .load1 (.t 10)⟩,
  ⟨(some 12), .none, .faddr 2 (.t 3)⟩,
  ⟨(some 13), .none, .load1 (.t 12)⟩,
  ⟨(some 14), .none, .build [(.int .i64 0), (.int .i64 0)] [(0, 1, (.t 11)), (1, 1, (.t 13))]⟩,
  ⟨(some 5), .none, .alloc [(.int .i64 0), (.int .i64 0)]⟩,
  ⟨.none, .none, .store 2 (.t 5) (.t 14)⟩]
def f253r2 : DR := ⟨[
  ⟨(some 16), .none, .mv (.t 0)⟩,
  ⟨(some 17), .none, .nilck (.t 16)⟩,
  ⟨(some 18), .none, .faddr 2 (.t 17)⟩,
  ⟨(some 19), .none, .load1 (.t 18)⟩,
  ⟨(some 20), .none, .loadn 2 (.t 5)⟩,
  ⟨(some 21), .none, .look (.agg [.num, .num]) (.agg [(.int .i64 0), (.int .i64 0), (.int .i64 0), (.int .i64 0)]) true (.t 19) (.t 20)⟩,
  ⟨(some 15), .none, .mv (.t 21)⟩,
  ⟨(some 22), .none, .ext (.t 15) 0⟩,
  ⟨(some 23), .none, .ext (.t 15) 1⟩,
  ⟨(some 6), .none, .alloc [(.int .i64 0), (.int .i64 0), (.int .i64 0), (.int .i64 0)]⟩,
  ⟨.none, .none, .store 4 (.t 6) (.t 22)⟩,
  ⟨(some 7), .none, .mv (.t 23)⟩],
  [0, 1, 3, 7, 0, 31, 63, 127, 127, 0, 767, 2047], [0, 1, 2, 3, 4, 5, 6, 7, 8, 9, 10, 11], [(3, 1), (4, 1), (5, 1)], .none⟩
def f253r3 : DR := ⟨[
  ⟨(some 25), .none, .mv (.t 0)⟩,
  ⟨(some 26), .none, .nilck (.t 25)⟩,
  ⟨(some 27), .none, .faddr 1 (.t 26)⟩,
  ⟨(some 28), .none, .load1 (.t 27)⟩,
  ⟨(some 29), .none, .faddr 1 (.t 3)⟩,
  ⟨(some 30), .none, .load1 (.t 29)⟩,
  ⟨(some 31), .none, .look .num (.agg [(.int .i64 0), (.int .i64 0), (.int .i64 0), (.int .i64 0)]) true (.t 28) (.t 30)⟩,
  ⟨(some 24), .none, .mv (.t 31)⟩,
  ⟨(some 32), .none, .ext (.t 24) 0⟩,
  ⟨(some 33), .none, .ext (.t 24) 1⟩,
  ⟨(some 8), .none, .alloc [(.int .i64 0), (.int .i64 0), (.int .i64 0), (.int .i64 0)]⟩,
  ⟨.none, .none, .store 4 (.t 8) (.t 32)⟩,
  ⟨(some 9), .none, .mv (.t 33)⟩],
  [0, 1, 3, 7, 0, 16, 63, 127, 255, 255, 0, 1535, 4095], [0, 1, 2, 3, 4, 5, 6, 7, 8, 9, 10, 11, 12], [(3, 1), (5, 1), (6, 1)], .none⟩
def f253r4 : List AOp := [
  ⟨(some 35), .none, .mv (.t 7)⟩,
  ⟨(some 34), .none, .mv (.t 35)⟩]
def f253r5 : List AOp := [
  ⟨(some 4), .none, .mv (.c (.int .i64 20))⟩]
def f253r6 : List AOp := [
  ⟨(some 37), .none, .mv (.t 9)⟩,
  ⟨(some 38), .none, .mv (.t 37)⟩,
  ⟨(some 39), (some (38, true)), .faddr 0 (.t 8)⟩,
  ⟨(some 40), (some (38, true)), .loadn 2 (.t 39)⟩,
  ⟨(some 41), (some (38, true)), .loadn 2 (.t 5)⟩,
  ⟨(some 42), (some (38, true)), .bin .neq (.agg [.num, .num]) (.t 40) (.t 41)⟩,
  ⟨(some 43), .none, .pick (.t 38) (.t 42) (.c (.bool false))⟩,
  ⟨(some 36), .none, .mv (.t 43)⟩]
def f253r7 : List AOp := [
  ⟨(some 4), .none, .mv (.c (.int .i64 22))⟩]
def f253r8 : List AOp := [
  ⟨(some 45), .none, .faddr 4 (.t 3)⟩,
  ⟨(some 46), .none, .load1 (.t 45)⟩,
  ⟨(some 47), .none, .bin .eql .num (.t 46) (.c (.int .i64 1))⟩,
  ⟨(some 48), .none, .mv (.t 47)⟩,
  ⟨(some 49), (some (48, true)), .mv (.t 9)⟩,
  ⟨(some 50), (some (48, true)), .un .not (.t 49)⟩,
  ⟨(some 51), .none, .pick (.t 48) (.t 50) (.c (.bool false))⟩,
  ⟨(some 52), .none, .mv (.t 51)⟩,
  ⟨(some 53), (some (52, true)), .mv (.t 0)⟩,
  ⟨(some 54), (some (52, true)), .nilck (.t 53)⟩,
  ⟨(some 55), (some (52, true)), .faddr 1 (.t 54)⟩,
  ⟨(some 56), (some (52, true)), .load1 (.t 55)⟩,
  ⟨(some 57), (some (52, true)), .len .map (.t 56)⟩,
  ⟨(some 58), (some (52, true)), .bin .geq .num (.t 57) (.c (.int .i64 1024))⟩,
  ⟨(some 59), .none, .pick (.t 52) (.t 58) (.c (.bool false))⟩,
  ⟨(some 44), .none, .mv (.t 59)⟩]
def f253r9 : List AOp := [
  ⟨(some 4), .none, .mv (.c (.int .i64 5))⟩]
def f253r10 : List AOp := [
  ⟨(some 61), .none, .faddr 4 (.t 3)⟩,
  ⟨(some 62), .none, .load1 (.t 61)⟩,
  ⟨(some 63), .none, .bin .eql .num (.t 62) (.c (.int .i64 3))⟩,
  ⟨(some 64), .none, .mv (.t 63)⟩,
  ⟨(some 65), (some (64, true)), .mv (.t 9)⟩,
  ⟨(some 66), .none, .pick (.t 64) (.t 65) (.c (.bool false))⟩,
  ⟨(some 67), .none, .mv (.t 66)⟩,
  ⟨(some 68), (some (67, true)), .mv (.t 0)⟩,
  ⟨(some 69), (some (67, true)), .nilck (.t 68)⟩,
  ⟨(some 70), (some (67, true)), .faddr 2 (.t 69)⟩,
  ⟨(some 71), (some (67, true)), .load1 (.t 70)⟩,
  ⟨(some 72), (some (67, true)), .len .map (.t 71)⟩,
  ⟨(some 73), (some (67, true)), .bin .geq .num (.t 72) (.c (.int .i64 4096))⟩,
  ⟨(some 74), .none, .pick (.t 67) (.t 73) (.c (.bool false))⟩,
  ⟨(some 60), .none, .mv (.t 74)⟩]
def f253r11 : List AOp := [
  ⟨(some 4), .none, .mv (.c (.int .i64 5))⟩]
def f253r12 : List AOp := [
  ⟨(some 4), .none, .mv (.c (.int .i64 0))⟩]
def f253 : AF := ⟨75, [.tmp 4], (.seq (.reg f253r0) (.seq (.reg f253r1) (.seq (.dreg f253r2) (.seq (.dreg f253r3) (.seq (.block 0 (.seq (.reg f253r4) (.cond (.t 34) (.seq (.reg f253r5) .ret) (.seq (.reg f253r6) (.cond (.t 36) (.seq (.reg f253r7) .ret) (.seq (.reg f253r8) (.cond (.t 44) (.seq (.reg f253r9) .ret) (.seq (.reg f253r10) (.cond (.t 60) (.seq (.reg f253r11) .ret) .skip))))))))) (.seq (.reg f253r12) .ret))))))⟩
/- (*towpath/index.Index).Find -/
def f254r0 : List AOp := [
  ⟨(some 2), .none, .box (.t 0)⟩,
  ⟨(some 3), .none, .box (.t 1)⟩,
  ⟨(some 4), .none, .alloc [(.int .i64 0), (.int .i64 0), (.int .i64 0)]⟩,
  ⟨(some 5), .none, .mv (.c (.bool false))⟩]
def f254r1 : List AOp := [
  ⟨(some 6), .none, .load1 (.t 2)⟩,
  ⟨(some 7), .none, .bin .eql .ptr (.t 6) (.c .nilp)⟩]
def f254r2 : List AOp := [
  ⟨(some 8), .none, .build [(.int .i64 0), (.int .i64 0), (.int .i64 0)] []⟩,
  ⟨.none, .none, .store 3 (.t 4) (.t 8)⟩,
  ⟨(some 5), .none, .mv (.c (.bool false))⟩]
def f254r3 : DR := ⟨[
  ⟨(some 9), .none, .load1 (.t 2)⟩,
  ⟨(some 10), .none, .load1 (.t 2)⟩,
  ⟨(some 11), .none, .nilck (.t 10)⟩,
  ⟨(some 12), .none, .faddr 4 (.t 11)⟩,
  ⟨(some 13), .none, .load1 (.t 12)⟩,
  ⟨(some 14), .none, .len .slice (.t 13)⟩,
  ⟨(some 15), .none, .mkfn 307 [] [(.t 2), (.t 3)]⟩,
  ⟨(some 16), .none, .call 178 [(.t 14), (.t 15)]⟩,
  ⟨(some 17), .none, .bin .sub .num (.t 16) (.c (.int .i64 1))⟩,
  ⟨(some 18), .none, .call 306 [(.t 9), (.t 17)]⟩,
  ⟨(some 19), .none, .ext (.t 18) 0⟩,
  ⟨(some 20), .none, .ext (.t 18) 1⟩,
  ⟨.none, .none, .store 3 (.t 4) (.t 19)⟩,
  ⟨(some 5), .none, .mv (.t 20)⟩],
  [0, 0, 2, 6, 14, 30, 0, 126, 254, 511, 1023, 1023, 4095, 8191], [0, 1, 2, 3, 4, 5, 6, 7, 8, 9, 10, 11, 12, 13], [(0, 1)], .none⟩
def f254 : AF := ⟨21, [.celln 4 3, .tmp 5], (.seq (.reg f254r0) (.seq (.seq (.reg f254r1) (.cond (.t 7) (.seq (.reg f254r2) .ret) .skip)) (.seq (.dreg f254r3) .ret)))⟩
/- towpath/rec.numbers -/
def f256r0 : List AOp := [
  ⟨(some 1), .none, .box (.t 0)⟩,
  ⟨(some 2), .none, .mv (.c (.bool false))⟩]
def f256r1 : List AOp := [
  ⟨(some 3), .none, .faddr 4 (.t 1)⟩,
  ⟨(some 4), .none, .load1 (.t 3)⟩,
  ⟨(some 5), .none, .bin .geq .num (.t 4) (.c (.int .i64 0))⟩,
  ⟨(some 6), .none, .mv (.t 5)⟩,
  ⟨(some 7), (some (6, true)), .faddr 4 (.t 1)⟩,
  ⟨(some 8), (some (6, true)), .load1 (.t 7)⟩,
  ⟨(some 9), (some (6, true)), .bin .leq .num (.t 8) (.c (.int .i64 3))⟩,
  ⟨(some 10), .none, .pick (.t 6) (.t 9) (.c (.bool false))⟩,
  ⟨(some 11), .none, .mv (.t 10)⟩,
  ⟨(some 12), (some (11, true)), .faddr 0 (.t 1)⟩,
  ⟨(some 13), (some (11, true)), .load1 (.t 12)⟩,
  ⟨(some 14), (some (11, true)), .call 308 [(.t 13), (.c (.int .i64 0)), (.c (.int .i64 1099511627776))]⟩,
  ⟨(some 15), .none, .pick (.t 11) (.t 14) (.c (.bool false))⟩,
  ⟨(some 16), .none, .mv (.t 15)⟩,
  ⟨(some 17), (some (16, true)), .faddr 1 (.t 1)⟩,
  ⟨(some 18), (some (16, true)), .load1 (.t 17)⟩,
  ⟨(some 19), (some (16, true)), .call 308 [(.t 18), (.c (.int .i64 0)), (.c (.int .i64 1048576))]⟩,
  ⟨(some 20), .none, .pick (.t 16) (.t 19) (.c (.bool false))⟩,
  ⟨(some 21), .none, .mv (.t 20)⟩,
  ⟨(some 22), (some (21, true)), .faddr 2 (.t 1)⟩,
  ⟨(some 23), (some (21, true)), .load1 (.t 22)⟩,
  ⟨(some 24), (some (21, true)), .bin .geq .num (.t 23) (.c (.int .i64 0))⟩,
  ⟨(some 25), .none, .pick (.t 21) (.t 24) (.c (.bool false))⟩,
  ⟨(some 26), .none, .mv (.t 25)⟩,
  ⟨(some 27), (some (26, true)), .faddr 2 (.t 1)⟩,
  ⟨(some 28), (some (26, true)), .load1 (.t 27)⟩,
  ⟨(some 29), (some (26, true)), .bin .leq .num (.t 28) (.c (.int .i64 32767))⟩,
  ⟨(some 30), .none, .pick (.t 26) (.t 29) (.c (.bool false))⟩,
  ⟨(some 31), .none, .mv (.t 30)⟩,
  ⟨(some 32), (some (31, true)), .faddr 3 (.t 1)⟩,
  ⟨(some 33), (some (31, true)), .load1 (.t 32)⟩,
  ⟨(some 34), (some (31, true)), .bin .geq .num (.t 33) (.c (.int .i64 0))⟩,
  ⟨(some 35), .none, .pick (.t 31) (.t 34) (.c (.bool false))⟩,
  ⟨(some 36), .none, .mv (.t 35)⟩,
  ⟨(some 37), (some (36, true)), .faddr 3 (.t 1)⟩,
  ⟨(some 38), (some (36, true)), .load1 (.t 37)⟩,
  ⟨(some 39), (some (36, true)), .bin .leq .num (.t 38) (.c (.int .i64 2147483647))⟩,
  ⟨(some 40), .none, .pick (.t 36) (.t 39) (.c (.bool false))⟩,
  ⟨(some 41), .none, .mv (.t 40)⟩,
  ⟨(some 42), (some (41, true)), .faddr 5 (.t 1)⟩,
  ⟨(some 43), (some (41, true)), .load1 (.t 42)⟩,
  ⟨(some 44), (some (41, true)), .call 308 [(.t 43), (.c (.int .i64 0)), (.c (.int .i64 1099511627776))]⟩,
  ⟨(some 45), .none, .pick (.t 41) (.t 44) (.c (.bool false))⟩,
  ⟨(some 2), .none, .mv (.t 45)⟩]
def f256 : AF := ⟨46, [.tmp 2], (.seq (.reg f256r0) (.seq (.reg f256r1) .ret))⟩
/- towpath/rec.fits -/
def f257r0 : List AOp := [
  ⟨(some 1), .none, .box (.t 0)⟩,
  ⟨(some 2), .none, .mv (.c (.bool false))⟩]
def f257r1 : List AOp := [
  ⟨(some 3), .none, .faddr 1 (.t 1)⟩,
  ⟨(some 4), .none, .load1 (.t 3)⟩,
  ⟨(some 5), .none, .bin .eql .num (.t 4) (.c (.int .i64 0))⟩,
  ⟨(some 6), .none, .mv (.t 5)⟩,
  ⟨(some 7), (some (6, true)), .faddr 4 (.t 1)⟩,
  ⟨(some 8), (some (6, true)), .load1 (.t 7)⟩,
  ⟨(some 9), (some (6, true)), .bin .neq .num (.t 8) (.c (.int .i64 0))⟩,
  ⟨(some 10), (some (6, true)), .mv (.t 9)⟩,
  ⟨(some 11), (some (10, false)), .faddr 2 (.t 1)⟩,
  ⟨(some 12), (some (10, false)), .load1 (.t 11)⟩,
  ⟨(some 13), (some (10, false)), .bin .neq .num (.t 12) (.c (.int .i64 0))⟩,
  ⟨(some 14), (some (6, true)), .pick (.t 10) (.c (.bool true)) (.t 13)⟩,
  ⟨(some 15), (some (6, true)), .mv (.t 14)⟩,
  ⟨(some 16), (some (15, false)), .faddr 3 (.t 1)⟩,
  ⟨(some 17), (some (15, false)), .load1 (.t 16)⟩,
  ⟨(some 18), (some (15, false)), .bin .neq .num (.t 17) (.c (.int .i64 0))⟩,
  ⟨(some 19), (some (6, true)), .pick (.t 15) (.c (.bool true)) (.t 18)⟩,
  ⟨(some 20), .none, .pick (.t 6) (.t 19) (.c (.bool false))⟩]
def f257r2 : List AOp := [
  ⟨(some 2), .none, .mv (.c (.bool false))⟩]
def f257r3 : List AOp := [
  ⟨(some 21), .none, .loadn 7 (.t 1)⟩,
  ⟨(some 22), .none, .call 185 [(.t 21)]⟩]
def f257r4 : List AOp := [
  ⟨(some 23), .none, .faddr 3 (.t 1)⟩,
  ⟨(some 24), .none, .load1 (.t 23)⟩,
  ⟨(some 25), .none, .bin .eql .num (.t 24) (.c (.int .i64 0))⟩,
  ⟨(some 26), .none, .mv (.t 25)⟩,
  ⟨(some 27), (some (26, true)), .faddr 6 (.t 1)⟩,
  ⟨(some 28), (some (26, true)), .load1 (.t 27)⟩,
  ⟨(some 29), (some (26, true)), .len .slice (.t 28)⟩,
  ⟨(some 30), (some (26, true)), .bin .eql .num (.t 29) (.c (.int .i64 0))⟩,
  ⟨(some 31), .none, .pick (.t 26) (.t 30) (.c (.bool false))⟩,
  ⟨(some 2), .none, .mv (.t 31)⟩]
def f257r5 : List AOp := [
  ⟨(some 32), .none, .faddr 6 (.t 1)⟩,
  ⟨(some 33), .none, .load1 (.t 32)⟩,
  ⟨(some 34), .none, .len .slice (.t 33)⟩,
  ⟨(some 35), .none, .bin .gtr .num (.t 34) (.c (.int .i64 0))⟩,
  ⟨(some 2), .none, .mv (.t 35)⟩]
def f257 : AF := ⟨36, [.tmp 2], (.seq (.reg f257r0) (.seq (.seq (.reg f257r1) (.cond (.t 20) (.seq (.reg f257r2) .ret) .skip)) (.seq (.seq (.reg f257r3) (.cond (.t 22) (.seq (.reg f257r4) .ret) .skip)) (.seq (.reg f257r5) .ret))))⟩
/- towpath/rec.record -/
def f258r0 : List AOp := [
  ⟨(some 1), .none, .box (.t 0)⟩,
  ⟨(some 2), .none, .mv (.c (.int .i64 0))⟩]
def f258r1 : List AOp := [
  ⟨(some 4), .none, .faddr 0 (.t 1)⟩,
  ⟨(some 5), .none, .load1 (.t 4)⟩,
  ⟨(some 6), .none, .len .str (.t 5)⟩,
  ⟨(some 7), .none, .bin .gtr .num (.t 6) (.c (.int .i64 1024))⟩,
  ⟨(some 8), .none, .mv (.t 7)⟩,
  ⟨(some 9), (some (8, false)), .faddr 1 (.t 1)⟩,
  ⟨(some 10), (some (8, false)), .load1 (.t 9)⟩,
  ⟨(some 11), (some (8, false)), .len .str (.t 10)⟩,
  ⟨(some 12), (some (8, false)), .bin .gtr .num (.t 11) (.c (.int .i64 1024))⟩,
  ⟨(some 13), .none, .pick (.t 8) (.c (.bool true)) (.t 12)⟩,
  ⟨(some 3), .none, .mv (.t 13)⟩]
def f258r2 : List AOp := [
  ⟨(some 2), .none, .mv (.c (.int .i64 7))⟩]
def f258r3 : List AOp := [
  ⟨(some 15), .none, .faddr 3 (.t 1)⟩,
  ⟨(some 16), .none, .load1 (.t 15)⟩,
  ⟨(some 17), .none, .call 308 [(.t 16), (.c (.int .i64 0)), (.c (.int .i64 1099511627776))]⟩,
  ⟨(some 18), .none, .un .not (.t 17)⟩,
  ⟨(some 19), .none, .mv (.t 18)⟩,
  ⟨(some 20), (some (19, false)), .faddr 2 (.t 1)⟩,
  ⟨(some 21), (some (19, false)), .load1 (.t 20)⟩,
  ⟨(some 22), (some (19, false)), .mv (.t 21)⟩,
  ⟨(some 23), (some (22, true)), .faddr 1 (.t 1)⟩,
  ⟨(some 24), (some (22, true)), .load1 (.t 23)⟩,
  ⟨(some 25), (some (22, true)), .bin .neq .str (.t 24) (.c (.str []))⟩,
  ⟨(some 26), (some (19, false)), .pick (.t 22) (.t 25) (.c (.bool false))⟩,
  ⟨(some 27), .none, .pick (.t 19) (.c (.bool true)) (.t 26)⟩,
  ⟨(some 14), .none, .mv (.t 27)⟩]
def f258r4 : List AOp := [
  ⟨(some 2), .none, .mv (.c (.int .i64 2))⟩]
def f258r5 : List AOp := [
  ⟨(some 2), .none, .mv (.c (.int .i64 0))⟩]
def f258 : AF := ⟨28, [.tmp 2], (.seq (.reg f258r0) (.seq (.block 0 (.seq (.reg f258r1) (.cond (.t 3) (.seq (.reg f258r2) .ret) (.seq (.reg f258r3) (.cond (.t 14) (.seq (.reg f258r4) .ret) .skip))))) (.seq (.reg f258r5) .ret)))⟩
/- towpath/wire.Int -/
def f262r0 : List AOp := [
  ⟨(some 2), .none, .mv (.c .nils)⟩]
def f262r1 : List AOp := [
  ⟨(some 3), .none, .mv (.t 0)⟩,
  ⟨(some 4), .none, .conv (.int .u64) (.t 3)⟩,
  ⟨(some 5), .none, .bin .shl .num (.t 4) (.c (.int .u64 1))⟩,
  ⟨(some 6), .none, .mv (.t 0)⟩,
  ⟨(some 7), .none, .bin .shr .num (.t 6) (.c (.int .u64 63))⟩,
  ⟨(some 8), .none, .conv (.int .u64) (.t 7)⟩,
  ⟨(some 9), .none, .bin .xor .num (.t 5) (.t 8)⟩,
  ⟨(some 10), .none, .call 78 [(.t 9)]⟩,
  ⟨(some 2), .none, .mv (.t 10)⟩]
def f262 : AF := ⟨11, [.tmp 2], (.seq (.reg f262r0) (.seq (.reg f262r1) .ret))⟩
/- towpath/frame.four -/
def f264r0 : List AOp := [
  ⟨(some 2), .none, .mv (.c .nils)⟩]
def f264r1 : List AOp := [
  ⟨(some 3), .none, .mv (.t 0)⟩,
  ⟨(some 4), .none, .conv (.int .u8) (.t 3)⟩,
  ⟨(some 5), .none, .mv (.t 0)⟩,
  ⟨(some 6), .none, .bin .shr .num (.t 5) (.c (.int .u64 8))⟩,
  ⟨(some 7), .none, .conv (.int .u8) (.t 6)⟩,
  ⟨(some 8), .none, .mv (.t 0)⟩,
  ⟨(some 9), .none, .bin .shr .num (.t 8) (.c (.int .u64 16))⟩,
  ⟨(some 10), .none, .conv (.int .u8) (.t 9)⟩,
  ⟨(some 11), .none, .mv (.t 0)⟩,
  ⟨(some 12), .none, .bin .shr .num (.t 11) (.c (.int .u64 24))⟩,
  ⟨(some 13), .none, .conv (.int .u8) (.t 12)⟩,
  ⟨(some 14), .none, .bsl false 1 4 [(.int .u8 0)] [(0, 1, (.t 4)), (1, 1, (.t 7)), (2, 1, (.t 10)), (3, 1, (.t 13))]⟩,
  ⟨(some 2), .none, .mv (.t 14)⟩]
def f264 : AF := ⟨15, [.tmp 2], (.seq (.reg f264r0) (.seq (.reg f264r1) .ret))⟩
/- towpath/frame.Sum -/
def f265r0 : List AOp := [
  ⟨(some 2), .none, .mv (.c (.int .u32 0))⟩]
def f265r1 : List AOp := [
  ⟨(some 3), .none, .mv (.t 0)⟩,
  ⟨(some 4), .none, .call 323 [(.c (.int .u32 0)), (.t 3)]⟩,
  ⟨(some 2), .none, .mv (.t 4)⟩]
def f265 : AF := ⟨5, [.tmp 2], (.seq (.reg f265r0) (.seq (.reg f265r1) .ret))⟩
/- towpath/disk.Name -/
def f266r0 : List AOp := [
  ⟨(some 2), .none, .mv (.c (.bool false))⟩]
def f266r1 : List AOp := [
  ⟨(some 7), .none, .mv (.t 0)⟩,
  ⟨(some 8), .none, .len .str (.t 7)⟩,
  ⟨(some 9), .none, .bin .lss .num (.t 8) (.c (.int .i64 1))⟩,
  ⟨(some 10), .none, .mv (.t 9)⟩,
  ⟨(some 11), (some (10, false)), .mv (.t 0)⟩,
  ⟨(some 12), (some (10, false)), .len .str (.t 11)⟩,
  ⟨(some 13), (some (10, false)), .bin .gtr .num (.t 12) (.c (.int .i64 24))⟩,
  ⟨(some 14), .none, .pick (.t 10) (.c (.bool true)) (.t 13)⟩]
def f266r2 : List AOp := [
  ⟨(some 2), .none, .mv (.c (.bool false))⟩]
def f266r3 : List AOp := [
  ⟨(some 15), .none, .mv (.t 0)⟩,
  ⟨(some 16), .none, .conv .toBytes (.t 15)⟩,
  ⟨(some 17), .none, .len .slice (.t 16)⟩,
  ⟨(some 18), .none, .mv (.c (.int .i64 0))⟩]
def f266r4 : List AOp := [
  ⟨(some 19), .none, .bin .lss .num (.t 18) (.t 17)⟩]
def f266r5 : List AOp := [
  ⟨(some 20), .none, .iaddr 1 (.t 16) (.t 18)⟩,
  ⟨(some 21), .none, .load1 (.t 20)⟩,
  ⟨(some 4), .none, .mv (.t 21)⟩]
def f266r6 : List AOp := [
  ⟨(some 22), .none, .mv (.t 4)⟩,
  ⟨(some 23), .none, .bin .geq .num (.t 22) (.c (.int .u8 97))⟩,
  ⟨(some 24), .none, .mv (.t 23)⟩,
  ⟨(some 25), (some (24, true)), .mv (.t 4)⟩,
  ⟨(some 26), (some (24, true)), .bin .leq .num (.t 25) (.c (.int .u8 122))⟩,
  ⟨(some 27), .none, .pick (.t 24) (.t 26) (.c (.bool false))⟩,
  ⟨(some 28), .none, .mv (.t 4)⟩,
  ⟨(some 29), .none, .bin .geq .num (.t 28) (.c (.int .u8 48))⟩,
  ⟨(some 30), .none, .mv (.t 29)⟩,
  ⟨(some 31), (some (30, true)), .mv (.t 4)⟩,
  ⟨(some 32), (some (30, true)), .bin .leq .num (.t 31) (.c (.int .u8 57))⟩,
  ⟨(some 33), .none, .pick (.t 30) (.t 32) (.c (.bool false))⟩,
  ⟨(some 5), .none, .mv (.t 27)⟩,
  ⟨(some 6), .none, .mv (.t 33)⟩]
def f266r7 : List AOp := [
  ⟨(some 34), .none, .mv (.t 5)⟩,
  ⟨(some 35), .none, .un .not (.t 34)⟩,
  ⟨(some 36), .none, .mv (.t 35)⟩,
  ⟨(some 37), (some (36, true)), .mv (.t 6)⟩,
  ⟨(some 38), (some (36, true)), .un .not (.t 37)⟩,
  ⟨(some 39), .none, .pick (.t 36) (.t 38) (.c (.bool false))⟩,
  ⟨(some 40), .none, .mv (.t 39)⟩,
  ⟨(some 41), (some (40, true)), .mv (.t 4)⟩,
  ⟨(some 42), (some (40, true)), .bin .neq .num (.t 41) (.c (.int .u8 46))⟩,
  ⟨(some 43), .none, .pick (.t 40) (.t 42) (.c (.bool false))⟩,
  ⟨(some 44), .none, .mv (.t 43)⟩,
  ⟨(some 45), (some (44, true)), .mv (.t 4)⟩,
  ⟨(some 46), (some (44, true)), .bin .neq .num (.t 45) (.c (.int .u8 45))⟩,
  ⟨(some 47), .none, .pick (.t 44) (.t 46) (.c (.bool false))⟩]
def f266r8 : List AOp := [
  ⟨(some 2), .none, .mv (.c (.bool false))⟩]
def f266r9 : List AOp := [
  ⟨(some 48), .none, .bin .add .num (.t 18) (.c (.int .i64 1))⟩,
  ⟨(some 18), .none, .mv (.t 48)⟩]
def f266r10 : List AOp := [
  ⟨(some 2), .none, .mv (.c (.bool true))⟩]
def f266 : AF := ⟨49, [.tmp 2], (.seq (.reg f266r0) (.seq (.seq (.reg f266r1) (.cond (.t 14) (.seq (.reg f266r2) .ret) .skip)) (.seq (.seq (.reg f266r3) (.block 0 (.loop (.seq (.reg f266r4) (.seq (.cond (.t 19) .skip (.exit 0)) (.seq (.block 1 (.seq (.reg f266r5) (.seq (.reg f266r6) (.seq (.reg f266r7) (.cond (.t 47) (.seq (.reg f266r8) .ret) .skip))))) (.reg f266r9))))))) (.seq (.reg f266r10) .ret))))⟩
/- (*towpath/disk.Disk).Free -/
def f267r0 : List AOp := [
  ⟨(some 2), .none, .mv (.c (.int .i64 0))⟩]
def f267r1 : List AOp := [
  ⟨(some 3), .none, .mv (.t 0)⟩,
  ⟨(some 4), .none, .bin .eql .ptr (.t 3) (.c .nilp)⟩]
def f267r2 : List AOp := [
  ⟨(some 2), .none, .mv (.c (.int .i64 0))⟩]
def f267r3 : DR := ⟨[
  ⟨(some 5), .none, .mv (.t 0)⟩,
  ⟨(some 6), .none, .nilck (.t 5)⟩,
  ⟨(some 7), .none, .faddr 2 (.t 6)⟩,
  ⟨(some 8), .none, .load1 (.t 7)⟩,
  ⟨(some 9), .none, .mv (.t 0)⟩,
  ⟨(some 10), .none, .nilck (.t 9)⟩,
  ⟨(some 11), .none, .faddr 3 (.t 10)⟩,
  ⟨(some 12), .none, .load1 (.t 11)⟩,
  ⟨(some 13), .none, .bin .sub .num (.t 8) (.t 12)⟩,
  ⟨(some 14), .none, .mx [(.t 13), (.c (.int .i64 0))]⟩,
  ⟨(some 2), .none, .mv (.t 14)⟩],
  [0, 1, 3, 7, 0, 16, 48, 112, 255, 511, 1023], [0, 1, 2, 3, 4, 5, 6, 7, 8, 9, 10], [], .none⟩
def f267 : AF := ⟨15, [.tmp 2], (.seq (.reg f267r0) (.seq (.seq (.reg f267r1) (.cond (.t 4) (.seq (.reg f267r2) .ret) .skip)) (.seq (.dreg f267r3) .ret)))⟩
/- towpath/rec.Encode -/
def f268r0 : List AOp := [
  ⟨(some 1), .none, .box (.t 0)⟩,
  ⟨(some 2), .none, .mv (.c .nils)⟩,
  ⟨(some 3), .none, .mv (.c (.int .i64 0))⟩]
def f268r1 : List AOp := [
  ⟨(some 10), .none, .loadn 7 (.t 1)⟩,
  ⟨(some 11), .none, .call 186 [(.t 10)]⟩,
  ⟨(some 4), .none, .mv (.t 11)⟩]
def f268r2 : List AOp := [
  ⟨(some 12), .none, .mv (.t 4)⟩,
  ⟨(some 13), .none, .bin .neq .num (.t 12) (.c (.int .i64 0))⟩]
def f268r3 : List AOp := [
  ⟨(some 14), .none, .mv (.t 4)⟩,
  ⟨(some 2), .none, .mv (.c .nils)⟩,
  ⟨(some 3), .none, .mv (.t 14)⟩]
def f268r4 : DR := ⟨[
  ⟨(some 15), .none, .faddr 4 (.t 1)⟩,
  ⟨(some 16), .none, .load1 (.t 15)⟩,
  ⟨(some 17), .none, .conv (.int .u8) (.t 16)⟩,
  ⟨(some 18), .none, .bsl false 1 2 [(.int .u8 0)] [(0, 1, (.c (.int .u8 1))), (1, 1, (.t 17))]⟩,
  ⟨(some 19), .none, .faddr 0 (.t 1)⟩,
  ⟨(some 20), .none, .load1 (.t 19)⟩,
  ⟨(some 21), .none, .conv (.int .u64) (.t 20)⟩,
  ⟨(some 22), .none, .call 78 [(.t 21)]⟩,
  ⟨(some 23), .none, .faddr 1 (.t 1)⟩,
  ⟨(some 24), .none, .load1 (.t 23)⟩,
  ⟨(some 25), .none, .conv (.int .u64) (.t 24)⟩,
  ⟨(some 26), .none, .call 78 [(.t 25)]⟩,
  ⟨(some 27), .none, .bsl false 1 3 [.nils] [(0, 1, (.t 18)), (1, 1, (.t 22)), (2, 1, (.t 26))]⟩,
  ⟨(some 28), .none, .call 77 [(.t 27)]⟩,
  ⟨(some 5), .none, .mv (.t 28)⟩],
  [0, 1, 3, 7, 0, 16, 48, 112, 0, 256, 768, 2032, 4095, 8191, 16383], [0, 1, 2, 3, 4, 5, 6, 7, 8, 9, 10, 11, 12, 13, 14], [(1, 1), (1, 2), (9, 0)], .none⟩
def f268r5 : List AOp := [
  ⟨(some 29), .none, .faddr 1 (.t 1)⟩,
  ⟨(some 30), .none, .load1 (.t 29)⟩,
  ⟨(some 31), .none, .bin .gtr .num (.t 30) (.c (.int .i64 0))⟩]
def f268r6 : List AOp := [
  ⟨(some 32), .none, .mv (.t 5)⟩,
  ⟨(some 33), .none, .faddr 2 (.t 1)⟩,
  ⟨(some 34), .none, .load1 (.t 33)⟩,
  ⟨(some 35), .none, .conv (.int .u64) (.t 34)⟩,
  ⟨(some 36), .none, .call 78 [(.t 35)]⟩,
  ⟨(some 37), .none, .app false 1 1 (.t 32) (.t 36)⟩,
  ⟨(some 5), .none, .mv (.t 37)⟩]
def f268r7 : List AOp := [
  ⟨(some 38), .none, .loadn 7 (.t 1)⟩,
  ⟨(some 39), .none, .call 185 [(.t 38)]⟩,
  ⟨(some 40), .none, .un .not (.t 39)⟩]
def f268r8 : List AOp := [
  ⟨(some 41), .none, .mv (.t 5)⟩,
  ⟨(some 42), .none, .faddr 3 (.t 1)⟩,
  ⟨(some 43), .none, .load1 (.t 42)⟩,
  ⟨(some 44), .none, .conv (.int .u64) (.t 43)⟩,
  ⟨(some 45), .none, .call 78 [(.t 44)]⟩,
  ⟨(some 46), .none, .app false 1 1 (.t 41) (.t 45)⟩,
  ⟨(some 5), .none, .mv (.t 46)⟩]
def f268r9 : List AOp := [
  ⟨(some 47), .none, .mv (.t 5)⟩,
  ⟨(some 48), .none, .faddr 5 (.t 1)⟩,
  ⟨(some 49), .none, .load1 (.t 48)⟩,
  ⟨(some 50), .none, .conv (.int .u64) (.t 49)⟩,
  ⟨(some 51), .none, .call 78 [(.t 50)]⟩,
  ⟨(some 52), .none, .app false 1 1 (.t 47) (.t 51)⟩,
  ⟨(some 5), .none, .mv (.t 52)⟩]
def f268r10 : List AOp := [
  ⟨(some 53), .none, .loadn 7 (.t 1)⟩,
  ⟨(some 54), .none, .call 185 [(.t 53)]⟩]
def f268r11 : List AOp := [
  ⟨(some 55), .none, .mv (.t 5)⟩,
  ⟨(some 2), .none, .mv (.t 55)⟩,
  ⟨(some 3), .none, .mv (.c (.int .i64 0))⟩]
def f268r12 : List AOp := [
  ⟨(some 56), .none, .mv (.t 5)⟩,
  ⟨(some 57), .none, .faddr 6 (.t 1)⟩,
  ⟨(some 58), .none, .load1 (.t 57)⟩,
  ⟨(some 59), .none, .len .slice (.t 58)⟩,
  ⟨(some 60), .none, .conv (.int .u64) (.t 59)⟩,
  ⟨(some 61), .none, .call 78 [(.t 60)]⟩,
  ⟨(some 62), .none, .app false 1 1 (.t 56) (.t 61)⟩,
  ⟨(some 5), .none, .mv (.t 62)⟩]
def f268r13 : List AOp := [
  ⟨(some 6), .none, .mv (.c (.str []))⟩]
def f268r14 : List AOp := [
  ⟨(some 63), .none, .faddr 6 (.t 1)⟩,
  ⟨(some 64), .none, .load1 (.t 63)⟩,
  ⟨(some 65), .none, .len .slice (.t 64)⟩,
  ⟨(some 66), .none, .mv (.c (.int .i64 0))⟩]
def f268r15 : List AOp := [
  ⟨(some 67), .none, .bin .lss .num (.t 66) (.t 65)⟩]
def f268r16 : List AOp := [
  ⟨(some 68), .none, .iaddr 4 (.t 64) (.t 66)⟩,
  ⟨(some 69), .none, .loadn 4 (.t 68)⟩,
  ⟨(some 8), .none, .alloc [(.str []), (.str []), (.bool false), (.int .i64 0)]⟩,
  ⟨.none, .none, .store 4 (.t 8) (.t 69)⟩]
def f268r17 : List AOp := [
  ⟨(some 70), .none, .mv (.t 6)⟩,
  ⟨(some 71), .none, .faddr 0 (.t 8)⟩,
  ⟨(some 72), .none, .load1 (.t 71)⟩,
  ⟨(some 73), .none, .call 324 [(.t 70), (.t 72)]⟩,
  ⟨(some 9), .none, .mv (.t 73)⟩]
def f268r18 : DR := ⟨[
  ⟨(some 74), .none, .mv (.t 5)⟩,
  ⟨(some 75), .none, .faddr 3 (.t 8)⟩,
  ⟨(some 76), .none, .load1 (.t 75)⟩,
  ⟨(some 77), .none, .faddr 5 (.t 1)⟩,
  ⟨(some 78), .none, .load1 (.t 77)⟩,
  ⟨(some 79), .none, .bin .sub .num (.t 76) (.t 78)⟩,
  ⟨(some 80), .none, .call 262 [(.t 79)]⟩,
  ⟨(some 81), .none, .faddr 2 (.t 8)⟩,
  ⟨(some 82), .none, .load1 (.t 81)⟩,
  ⟨(some 83), .none, .call 274 [(.t 82)]⟩,
  ⟨(some 84), .none, .mv (.t 9)⟩,
  ⟨(some 85), .none, .conv (.int .u64) (.t 84)⟩,
  ⟨(some 86), .none, .call 78 [(.t 85)]⟩,
  ⟨(some 87), .none, .faddr 0 (.t 8)⟩,
  ⟨(some 88), .none, .load1 (.t 87)⟩,
  ⟨(some 89), .none, .mv (.t 9)⟩,
  ⟨(some 90), .none, .sslc (.t 88) (some (.t 89)) .none⟩,
  ⟨(some 91), .none, .call 194 [(.t 90)]⟩,
  ⟨(some 92), .none, .bsl false 1 4 [.nils] [(0, 1, (.t 80)), (1, 1, (.t 83)), (2, 1, (.t 86)), (3, 1, (.t 91))]⟩,
  ⟨(some 93), .none, .call 77 [(.t 92)]⟩,
  ⟨(some 94), .none, .app false 1 1 (.t 74) (.t 93)⟩,
  ⟨(some 5), .none, .mv (.t 94)⟩],
  [0, 0, 2, 0, 8, 30, 62, 0, 128, 510, 0, 1024, 4094, 0, 8192, 0, 57344, 131070, 262142, 524286, 1048575, 2097151], [0, 1, 2, 3, 4, 5, 6, 7, 8, 9, 10, 11, 12, 13, 14, 15, 16, 17, 18, 19, 20, 21], [(8, 0), (14, 0), (14, 1), (14, 2)], .none⟩
def f268r19 : List AOp := [
  ⟨(some 95), .none, .faddr 2 (.t 8)⟩,
  ⟨(some 96), .none, .load1 (.t 95)⟩,
  ⟨(some 97), .none, .un .not (.t 96)⟩]
def f268r20 : List AOp := [
  ⟨(some 98), .none, .mv (.t 5)⟩,
  ⟨(some 99), .none, .faddr 1 (.t 8)⟩,
  ⟨(some 100), .none, .load1 (.t 99)⟩,
  ⟨(some 101), .none, .call 194 [(.t 100)]⟩,
  ⟨(some 102), .none, .app false 1 1 (.t 98) (.t 101)⟩,
  ⟨(some 5), .none, .mv (.t 102)⟩]
def f268r21 : List AOp := [
  ⟨(some 103), .none, .faddr 0 (.t 8)⟩,
  ⟨(some 104), .none, .load1 (.t 103)⟩,
  ⟨(some 6), .none, .mv (.t 104)⟩]
def f268r22 : List AOp := [
  ⟨(some 105), .none, .bin .add .num (.t 66) (.c (.int .i64 1))⟩,
  ⟨(some 66), .none, .mv (.t 105)⟩]
def f268r23 : List AOp := [
  ⟨(some 106), .none, .mv (.t 5)⟩,
  ⟨(some 2), .none, .mv (.t 106)⟩,
  ⟨(some 3), .none, .mv (.c (.int .i64 0))⟩]
def f268 : AF := ⟨107, [.tmp 2, .tmp 3], (.seq (.reg f268r0) (.seq (.seq (.reg f268r1) (.seq (.reg f268r2) (.cond (.t 13) (.seq (.reg f268r3) .ret) .skip))) (.seq (.dreg f268r4) (.seq (.seq (.reg f268r5) (.cond (.t 31) (.seq (.reg f268r6) (.seq (.reg f268r7) (.cond (.t 40) (.reg f268r8) .skip))) .skip)) (.seq (.reg f268r9) (.seq (.seq (.reg f268r10) (.cond (.t 54) (.seq (.reg f268r11) .ret) .skip)) (.seq (.reg f268r12) (.seq (.reg f268r13) (.seq (.seq (.reg f268r14) (.block 0 (.loop (.seq (.reg f268r15) (.seq (.cond (.t 67) .skip (.exit 0)) (.seq (.block 1 (.seq (.reg f268r16) (.seq (.reg f268r17) (.seq (.dreg f268r18) (.seq (.seq (.reg f268r19) (.cond (.t 97) (.reg f268r20) .skip)) (.reg f268r21)))))) (.reg f268r22))))))) (.seq (.reg f268r23) .ret))))))))))⟩
/- slices.pdqsortCmpFunc[towpath/iso.Txn] -/
def f269r0 : List AOp := [
  ⟨(some 10), .none, .mv (.c (.bool true))⟩]
def f269r1 : List AOp := [
  ⟨(some 11), .none, .mv (.c (.bool true))⟩]
def f269r2 : List AOp := [
  ⟨(some 21), .none, .mv (.t 2)⟩,
  ⟨(some 22), .none, .mv (.t 1)⟩,
  ⟨(some 23), .none, .bin .sub .num (.t 21) (.t 22)⟩,
  ⟨(some 12), .none, .mv (.t 23)⟩]
def f269r3 : List AOp := [
  ⟨(some 24), .none, .mv (.t 12)⟩,
  ⟨(some 25), .none, .bin .leq .num (.t 24) (.c (.int .i64 12))⟩]
def f269r4 : List AOp := [
  ⟨(some 26), .none, .mv (.t 0)⟩,
  ⟨(some 27), .none, .mv (.t 1)⟩,
  ⟨(some 28), .none, .mv (.t 2)⟩,
  ⟨(some 29), .none, .mv (.t 4)⟩,
  ⟨(some 30), .none, .call 325 [(.t 26), (.t 27), (.t 28), (.t 29)]⟩]
def f269r5 : List AOp := [
  ⟨(some 31), .none, .mv (.t 3)⟩,
  ⟨(some 32), .none, .bin .eql .num (.t 31) (.c (.int .i64 0))⟩]
def f269r6 : List AOp := [
  ⟨(some 33), .none, .mv (.t 0)⟩,
  ⟨(some 34), .none, .mv (.t 1)⟩,
  ⟨(some 35), .none, .mv (.t 2)⟩,
  ⟨(some 36), .none, .mv (.t 4)⟩,
  ⟨(some 37), .none, .call 326 [(.t 33), (.t 34), (.t 35), (.t 36)]⟩]
def f269r7 : List AOp := [
  ⟨(some 38), .none, .mv (.t 10)⟩,
  ⟨(some 39), .none, .un .not (.t 38)⟩]
def f269r8 : List AOp := [
  ⟨(some 40), .none, .mv (.t 0)⟩,
  ⟨(some 41), .none, .mv (.t 1)⟩,
  ⟨(some 42), .none, .mv (.t 2)⟩,
  ⟨(some 43), .none, .mv (.t 4)⟩,
  ⟨(some 44), .none, .call 327 [(.t 40), (.t 41), (.t 42), (.t 43)]⟩]
def f269r9 : List AOp := [
  ⟨(some 45), .none, .mv (.t 3)⟩,
  ⟨(some 46), .none, .bin .sub .num (.t 45) (.c (.int .i64 1))⟩,
  ⟨(some 3), .none, .mv (.t 46)⟩]
def f269r10 : List AOp := [
  ⟨(some 48), .none, .mv (.t 0)⟩,
  ⟨(some 49), .none, .mv (.t 1)⟩,
  ⟨(some 50), .none, .mv (.t 2)⟩,
  ⟨(some 51), .none, .mv (.t 4)⟩,
  ⟨(some 52), .none, .call 328 [(.t 48), (.t 49), (.t 50), (.t 51)]⟩,
  ⟨(some 47), .none, .mv (.t 52)⟩,
  ⟨(some 53), .none, .ext (.t 47) 0⟩,
  ⟨(some 54), .none, .ext (.t 47) 1⟩,
  ⟨(some 13), .none, .mv (.t 53)⟩,
  ⟨(some 14), .none, .mv (.t 54)⟩]
def f269r11 : List AOp := [
  ⟨(some 55), .none, .mv (.t 14)⟩,
  ⟨(some 56), .none, .bin .eql .num (.t 55) (.c (.int .i64 2))⟩]
def f269r12 : List AOp := [
  ⟨(some 57), .none, .mv (.t 0)⟩,
  ⟨(some 58), .none, .mv (.t 1)⟩,
  ⟨(some 59), .none, .mv (.t 2)⟩,
  ⟨(some 60), .none, .mv (.t 4)⟩,
  ⟨(some 61), .none, .call 329 [(.t 57), (.t 58), (.t 59), (.t 60)]⟩]
def f269r13 : List AOp := [
  ⟨(some 62), .none, .mv (.t 2)⟩,
  ⟨(some 63), .none, .bin .sub .num (.t 62) (.c (.int .i64 1))⟩,
  ⟨(some 64), .none, .mv (.t 13)⟩,
  ⟨(some 65), .none, .mv (.t 1)⟩,
  ⟨(some 66), .none, .bin .sub .num (.t 64) (.t 65)⟩,
  ⟨(some 67), .none, .bin .sub .num (.t 63) (.t 66)⟩,
  ⟨(some 13), .none, .mv (.t 67)⟩]
def f269r14 : List AOp := [
  ⟨(some 14), .none, .mv (.c (.int .i64 1))⟩]
def f269r15 : List AOp := [
  ⟨(some 68), .none, .mv (.t 10)⟩,
  ⟨(some 69), .none, .mv (.t 68)⟩,
  ⟨(some 70), (some (69, true)), .mv (.t 11)⟩,
  ⟨(some 71), .none, .pick (.t 69) (.t 70) (.c (.bool false))⟩,
  ⟨(some 72), .none, .mv (.t 71)⟩,
  ⟨(some 73), (some (72, true)), .mv (.t 14)⟩,
  ⟨(some 74), (some (72, true)), .bin .eql .num (.t 73) (.c (.int .i64 1))⟩,
  ⟨(some 75), .none, .pick (.t 72) (.t 74) (.c (.bool false))⟩]
def f269r16 : List AOp := [
  ⟨(some 76), .none, .mv (.t 0)⟩,
  ⟨(some 77), .none, .mv (.t 1)⟩,
  ⟨(some 78), .none, .mv (.t 2)⟩,
  ⟨(some 79), .none, .mv (.t 4)⟩,
  ⟨(some 80), .none, .call 330 [(.t 76), (.t 77), (.t 78), (.t 79)]⟩]
def f269r17 : DR := ⟨[
  ⟨(some 81), .none, .mv (.t 1)⟩,
  ⟨(some 82), .none, .bin .gtr .num (.t 81) (.c (.int .i64 0))⟩,
  ⟨(some 83), .none, .mv (.t 82)⟩,
  ⟨(some 84), (some (83, true)), .mv (.t 4)⟩,
  ⟨(some 85), (some (83, true)), .mv (.t 0)⟩,
  ⟨(some 86), (some (83, true)), .mv (.t 1)⟩,
  ⟨(some 87), (some (83, true)), .bin .sub .num (.t 86) (.c (.int .i64 1))⟩,
  ⟨(some 88), (some (83, true)), .iaddr 4 (.t 85) (.t 87)⟩,
  ⟨(some 89), (some (83, true)), .loadn 4 (.t 88)⟩,
  ⟨(some 90), (some (83, true)), .mv (.t 0)⟩,
  ⟨(some 91), (some (83, true)), .mv (.t 13)⟩,
  ⟨(some 92), (some (83, true)), .iaddr 4 (.t 90) (.t 91)⟩,
  ⟨(some 93), (some (83, true)), .loadn 4 (.t 92)⟩,
  ⟨(some 94), (some (83, true)), .callv (.t 84) [(.t 89), (.t 93)]⟩,
  ⟨(some 95), (some (83, true)), .bin .lss .num (.t 94) (.c (.int .i64 0))⟩,
  ⟨(some 96), (some (83, true)), .un .not (.t 95)⟩,
  ⟨(some 97), .none, .pick (.t 83) (.t 96) (.c (.bool false))⟩],
  [0, 1, 3, 7, 7, 7, 39, 119, 247, 7, 7, 1543, 3591, 8191, 16383, 32767, 65535], [0, 1, 2, 3, 4, 5, 6, 7, 8, 9, 10, 11, 12, 13, 14, 15, 16], [], .none⟩
def f269r18 : List AOp := [
  ⟨(some 98), .none, .mv (.t 0)⟩,
  ⟨(some 99), .none, .mv (.t 1)⟩,
  ⟨(some 100), .none, .mv (.t 2)⟩,
  ⟨(some 101), .none, .mv (.t 13)⟩,
  ⟨(some 102), .none, .mv (.t 4)⟩,
  ⟨(some 103), .none, .call 331 [(.t 98), (.t 99), (.t 100), (.t 101), (.t 102)]⟩,
  ⟨(some 15), .none, .mv (.t 103)⟩]
def f269r19 : List AOp := [
  ⟨(some 104), .none, .mv (.t 15)⟩,
  ⟨(some 1), .none, .mv (.t 104)⟩]
def f269r20 : List AOp := [
  ⟨(some 106), .none, .mv (.t 0)⟩,
  ⟨(some 107), .none, .mv (.t 1)⟩,
  ⟨(some 108), .none, .mv (.t 2)⟩,
  ⟨(some 109), .none, .mv (.t 13)⟩,
  ⟨(some 110), .none, .mv (.t 4)⟩,
  ⟨(some 111), .none, .call 332 [(.t 106), (.t 107), (.t 108), (.t 109), (.t 110)]⟩,
  ⟨(some 105), .none, .mv (.t 111)⟩,
  ⟨(some 112), .none, .ext (.t 105) 0⟩,
  ⟨(some 113), .none, .ext (.t 105) 1⟩,
  ⟨(some 16), .none, .mv (.t 112)⟩,
  ⟨(some 17), .none, .mv (.t 113)⟩]
def f269r21 : List AOp := [
  ⟨(some 114), .none, .mv (.t 17)⟩,
  ⟨(some 11), .none, .mv (.t 114)⟩]
def f269r22 : List AOp := [
  ⟨(some 115), .none, .mv (.t 16)⟩,
  ⟨(some 116), .none, .mv (.t 1)⟩,
  ⟨(some 117), .none, .bin .sub .num (.t 115) (.t 116)⟩,
  ⟨(some 118), .none, .mv (.t 2)⟩,
  ⟨(some 119), .none, .mv (.t 16)⟩,
  ⟨(some 120), .none, .bin .sub .num (.t 118) (.t 119)⟩,
  ⟨(some 18), .none, .mv (.t 117)⟩,
  ⟨(some 19), .none, .mv (.t 120)⟩]
def f269r23 : List AOp := [
  ⟨(some 121), .none, .mv (.t 12)⟩,
  ⟨(some 122), .none, .bin .quo .num (.t 121) (.c (.int .i64 8))⟩,
  ⟨(some 20), .none, .mv (.t 122)⟩]
def f269r24 : List AOp := [
  ⟨(some 123), .none, .mv (.t 18)⟩,
  ⟨(some 124), .none, .mv (.t 19)⟩,
  ⟨(some 125), .none, .bin .lss .num (.t 123) (.t 124)⟩]
def f269r25 : List AOp := [
  ⟨(some 126), .none, .mv (.t 18)⟩,
  ⟨(some 127), .none, .mv (.t 20)⟩,
  ⟨(some 128), .none, .bin .geq .num (.t 126) (.t 127)⟩,
  ⟨(some 10), .none, .mv (.t 128)⟩]
def f269r26 : List AOp := [
  ⟨(some 129), .none, .mv (.t 0)⟩,
  ⟨(some 130), .none, .mv (.t 1)⟩,
  ⟨(some 131), .none, .mv (.t 16)⟩,
  ⟨(some 132), .none, .mv (.t 3)⟩,
  ⟨(some 133), .none, .mv (.t 4)⟩,
  ⟨(some 134), .none, .call 269 [(.t 129), (.t 130), (.t 131), (.t 132), (.t 133)]⟩]
def f269r27 : List AOp := [
  ⟨(some 135), .none, .mv (.t 16)⟩,
  ⟨(some 136), .none, .bin .add .num (.t 135) (.c (.int .i64 1))⟩,
  ⟨(some 1), .none, .mv (.t 136)⟩]
def f269r28 : List AOp := [
  ⟨(some 137), .none, .mv (.t 19)⟩,
  ⟨(some 138), .none, .mv (.t 20)⟩,
  ⟨(some 139), .none, .bin .geq .num (.t 137) (.t 138)⟩,
  ⟨(some 10), .none, .mv (.t 139)⟩]
def f269r29 : List AOp := [
  ⟨(some 140), .none, .mv (.t 0)⟩,
  ⟨(some 141), .none, .mv (.t 16)⟩,
  ⟨(some 142), .none, .bin .add .num (.t 141) (.c (.int .i64 1))⟩,
  ⟨(some 143), .none, .mv (.t 2)⟩,
  ⟨(some 144), .none, .mv (.t 3)⟩,
  ⟨(some 145), .none, .mv (.t 4)⟩,
  ⟨(some 146), .none, .call 269 [(.t 140), (.t 142), (.t 143), (.t 144), (.t 145)]⟩]
def f269r30 : List AOp := [
  ⟨(some 147), .none, .mv (.t 16)⟩,
  ⟨(some 2), .none, .mv (.t 147)⟩]
def f269 : AF := ⟨148, [], (.seq (.reg f269r0) (.seq (.reg f269r1) (.block 0 (.loop (.block 1 (.seq (.reg f269r2) (.seq (.seq (.reg f269r3) (.cond (.t 25) (.seq (.reg f269r4) .ret) .skip)) (.seq (.seq (.reg f269r5) (.cond (.t 32) (.seq (.reg f269r6) .ret) .skip)) (.seq (.seq (.reg f269r7) (.cond (.t 39) (.seq (.reg f269r8) (.reg f269r9)) .skip)) (.seq (.reg f269r10) (.seq (.seq (.reg f269r11) (.cond (.t 56) (.seq (.reg f269r12) (.seq (.reg f269r13) (.reg f269r14))) .skip)) (.seq (.seq (.reg f269r15) (.cond (.t 75) (.seq (.reg f269r16) (.cond (.t 80) .ret .skip)) .skip)) (.seq (.seq (.dreg f269r17) (.cond (.t 97) (.seq (.reg f269r18) (.seq (.reg f269r19) (.exit 1))) .skip)) (.seq (.reg f269r20) (.seq (.reg f269r21) (.seq (.reg f269r22) (.seq (.reg f269r23) (.seq (.reg f269r24) (.cond (.t 125) (.seq (.reg f269r25) (.seq (.reg f269r26) (.reg f269r27))) (.seq (.reg f269r28) (.seq (.reg f269r29) (.reg f269r30))))))))))))))))))))))⟩
/- slices.Insert[[]towpath/rec.At,towpath/rec.At] -/
def f272r0 : List AOp := [
  ⟨(some 6), .none, .mv (.c .nils)⟩]
def f272r1 : List AOp := [
  ⟨(some 10), .none, .mv (.t 0)⟩,
  ⟨(some 11), .none, .mv (.t 1)⟩,
  ⟨(some 12), .none, .slc 5 (.t 10) (some (.t 11)) .none .none⟩]
def f272r2 : List AOp := [
  ⟨(some 13), .none, .mv (.t 2)⟩,
  ⟨(some 14), .none, .len .slice (.t 13)⟩,
  ⟨(some 7), .none, .mv (.t 14)⟩]
def f272r3 : List AOp := [
  ⟨(some 15), .none, .mv (.t 7)⟩,
  ⟨(some 16), .none, .bin .eql .num (.t 15) (.c (.int .i64 0))⟩]
def f272r4 : List AOp := [
  ⟨(some 17), .none, .mv (.t 0)⟩,
  ⟨(some 6), .none, .mv (.t 17)⟩]
def f272r5 : List AOp := [
  ⟨(some 18), .none, .mv (.t 0)⟩,
  ⟨(some 19), .none, .len .slice (.t 18)⟩,
  ⟨(some 8), .none, .mv (.t 19)⟩]
def f272r6 : List AOp := [
  ⟨(some 20), .none, .mv (.t 1)⟩,
  ⟨(some 21), .none, .mv (.t 8)⟩,
  ⟨(some 22), .none, .bin .eql .num (.t 20) (.t 21)⟩]
def f272r7 : List AOp := [
  ⟨(some 23), .none, .mv (.t 0)⟩,
  ⟨(some 24), .none, .mv (.t 2)⟩,
  ⟨(some 25), .none, .app false 5 56 (.t 23) (.t 24)⟩,
  ⟨(some 6), .none, .mv (.t 25)⟩]
def f272r8 : List AOp := [
  ⟨(some 26), .none, .mv (.t 8)⟩,
  ⟨(some 27), .none, .mv (.t 7)⟩,
  ⟨(some 28), .none, .bin .add .num (.t 26) (.t 27)⟩,
  ⟨(some 29), .none, .mv (.t 0)⟩,
  ⟨(some 30), .none, .bad⟩,
  ⟨(some 31), .none, .bin .gtr .num (.t 28) (.t 30)⟩]
def f272r9 : List AOp := [
  ⟨(some 32), .none, .mv (.t 0)⟩,
  ⟨(some 33), .none, .mv (.t 1)⟩,
  ⟨(some 34), .none, .slc 5 (.t 32) .none (some (.t 33)) .none⟩,
  ⟨(some 35), .none, .mv (.t 8)⟩,
  ⟨(some 36), .none, .mv (.t 7)⟩,
  ⟨(some 37), .none, .bin .add .num (.t 35) (.t 36)⟩,
  ⟨(some 38), .none, .mv (.t 1)⟩,
  ⟨(some 39), .none, .bin .sub .num (.t 37) (.t 38)⟩,
  ⟨(some 40), .none, .bad⟩,
  ⟨(some 9), .none, .mv (.t 40)⟩]
def f272r10 : List AOp := [
  ⟨(some 41), .none, .mv (.t 9)⟩,
  ⟨(some 42), .none, .mv (.t 1)⟩,
  ⟨(some 43), .none, .slc 5 (.t 41) (some (.t 42)) .none .none⟩,
  ⟨(some 44), .none, .mv (.t 2)⟩,
  ⟨(some 45), .none, .bad⟩]
def f272r11 : DR := ⟨[
  ⟨(some 46), .none, .mv (.t 9)⟩,
  ⟨(some 47), .none, .mv (.t 1)⟩,
  ⟨(some 48), .none, .mv (.t 7)⟩,
  ⟨(some 49), .none, .bin .add .num (.t 47) (.t 48)⟩,
  ⟨(some 50), .none, .slc 5 (.t 46) (some (.t 49)) .none .none⟩,
  ⟨(some 51), .none, .mv (.t 0)⟩,
  ⟨(some 52), .none, .mv (.t 1)⟩,
  ⟨(some 53), .none, .slc 5 (.t 51) (some (.t 52)) .none .none⟩,
  ⟨(some 54), .none, .bad⟩],
  [0, 0, 0, 6, 15, 0, 0, 96, 255], [0, 1, 2, 3, 4, 5, 6, 7, 8], [], .none⟩
def f272r12 : List AOp := [
  ⟨(some 55), .none, .mv (.t 9)⟩,
  ⟨(some 6), .none, .mv (.t 55)⟩]
def f272r13 : List AOp := [
  ⟨(some 56), .none, .mv (.t 0)⟩,
  ⟨(some 57), .none, .mv (.t 8)⟩,
  ⟨(some 58), .none, .mv (.t 7)⟩,
  ⟨(some 59), .none, .bin .add .num (.t 57) (.t 58)⟩,
  ⟨(some 60), .none, .slc 5 (.t 56) .none (some (.t 59)) .none⟩,
  ⟨(some 0), .none, .mv (.t 60)⟩]
def f272r14 : List AOp := [
  ⟨(some 61), .none, .mv (.t 2)⟩,
  ⟨(some 62), .none, .mv (.t 0)⟩,
  ⟨(some 63), .none, .mv (.t 1)⟩,
  ⟨(some 64), .none, .mv (.t 7)⟩,
  ⟨(some 65), .none, .bin .add .num (.t 63) (.t 64)⟩,
  ⟨(some 66), .none, .slc 5 (.t 62) (some (.t 65)) .none .none⟩,
  ⟨(some 67), .none, .call 333 [(.t 61), (.t 66)]⟩,
  ⟨(some 68), .none, .un .not (.t 67)⟩]
def f272r15 : DR := ⟨[
  ⟨(some 69), .none, .mv (.t 0)⟩,
  ⟨(some 70), .none, .mv (.t 1)⟩,
  ⟨(some 71), .none, .mv (.t 7)⟩,
  ⟨(some 72), .none, .bin .add .num (.t 70) (.t 71)⟩,
  ⟨(some 73), .none, .slc 5 (.t 69) (some (.t 72)) .none .none⟩,
  ⟨(some 74), .none, .mv (.t 0)⟩,
  ⟨(some 75), .none, .mv (.t 1)⟩,
  ⟨(some 76), .none, .slc 5 (.t 74) (some (.t 75)) .none .none⟩,
  ⟨(some 77), .none, .bad⟩],
  [0, 0, 0, 6, 15, 0, 0, 96, 255], [0, 1, 2, 3, 4, 5, 6, 7, 8], [], .none⟩
def f272r16 : List AOp := [
  ⟨(some 78), .none, .mv (.t 0)⟩,
  ⟨(some 79), .none, .mv (.t 1)⟩,
  ⟨(some 80), .none, .slc 5 (.t 78) (some (.t 79)) .none .none⟩,
  ⟨(some 81), .none, .mv (.t 2)⟩,
  ⟨(some 82), .none, .bad⟩]
def f272r17 : List AOp := [
  ⟨(some 83), .none, .mv (.t 0)⟩,
  ⟨(some 6), .none, .mv (.t 83)⟩]
def f272r18 : List AOp := [
  ⟨(some 84), .none, .mv (.t 0)⟩,
  ⟨(some 85), .none, .mv (.t 8)⟩,
  ⟨(some 86), .none, .slc 5 (.t 84) (some (.t 85)) .none .none⟩,
  ⟨(some 87), .none, .mv (.t 2)⟩,
  ⟨(some 88), .none, .bad⟩]
def f272r19 : List AOp := [
  ⟨(some 89), .none, .mv (.t 0)⟩,
  ⟨(some 90), .none, .mv (.t 1)⟩,
  ⟨(some 91), .none, .slc 5 (.t 89) (some (.t 90)) .none .none⟩,
  ⟨(some 92), .none, .mv (.t 7)⟩,
  ⟨(some 93), .none, .call 334 [(.t 91), (.t 92)]⟩]
def f272r20 : List AOp := [
  ⟨(some 94), .none, .mv (.t 0)⟩,
  ⟨(some 6), .none, .mv (.t 94)⟩]
def f272 : AF := ⟨95, [.tmp 6], (.seq (.reg f272r0) (.seq (.reg f272r1) (.seq (.reg f272r2) (.seq (.seq (.reg f272r3) (.cond (.t 16) (.seq (.reg f272r4) .ret) .skip)) (.seq (.reg f272r5) (.seq (.seq (.reg f272r6) (.cond (.t 22) (.seq (.reg f272r7) .ret) .skip)) (.seq (.seq (.reg f272r8) (.cond (.t 31) (.seq (.reg f272r9) (.seq (.reg f272r10) (.seq (.dreg f272r11) (.seq (.reg f272r12) .ret)))) .skip)) (.seq (.reg f272r13) (.seq (.seq (.reg f272r14) (.cond (.t 68) (.seq (.dreg f272r15) (.seq (.reg f272r16) (.seq (.reg f272r17) .ret))) .skip)) (.seq (.reg f272r18) (.seq (.reg f272r19) (.seq (.reg f272r20) .ret))))))))))))⟩
/- (*towpath/compact.Table).from$1 -/
def f273r0 : List AOp := [
  ⟨(some 4), .none, .mv (.c (.bool false))⟩]
def f273r1 : DR := ⟨[
  ⟨(some 5), .none, .load1 (.t 1)⟩,
  ⟨(some 6), .none, .nilck (.t 5)⟩,
  ⟨(some 7), .none, .faddr 1 (.t 6)⟩,
  ⟨(some 8), .none, .load1 (.t 7)⟩,
  ⟨(some 9), .none, .mv (.t 0)⟩,
  ⟨(some 10), .none, .iaddr 5 (.t 8) (.t 9)⟩,
  ⟨(some 11), .none, .faddr 1 (.t 10)⟩,
  ⟨(some 12), .none, .faddr 0 (.t 11)⟩,
  ⟨(some 13), .none, .load1 (.t 12)⟩,
  ⟨(some 14), .none, .load1 (.t 2)⟩,
  ⟨(some 15), .none, .bin .geq .str (.t 13) (.t 14)⟩,
  ⟨(some 4), .none, .mv (.t 15)⟩],
  [0, 1, 3, 7, 0, 31, 63, 127, 255, 0, 1023, 2047], [0, 1, 2, 3, 4, 5, 6, 7, 8, 9, 10, 11], [], .none⟩
def f273 : AF := ⟨16, [.tmp 4], (.seq (.reg f273r0) (.seq (.dreg f273r1) .ret))⟩
/- towpath/wire.Flag -/
def f274r0 : List AOp := [
  ⟨(some 2), .none, .mv (.c .nils)⟩]
def f274r1 : List AOp := [
  ⟨(some 3), .none, .mv (.t 0)⟩]
def f274r2 : List AOp := [
  ⟨(some 4), .none, .bsl false 1 1 [(.int .u8 0)] [(0, 1, (.c (.int .u8 1)))]⟩,
  ⟨(some 2), .none, .mv (.t 4)⟩]
def f274r3 : List AOp := [
  ⟨(some 5), .none, .bsl false 1 1 [(.int .u8 0)] [(0, 1, (.c (.int .u8 0)))]⟩,
  ⟨(some 2), .none, .mv (.t 5)⟩]
def f274 : AF := ⟨6, [.tmp 2], (.seq (.reg f274r0) (.seq (.seq (.reg f274r1) (.cond (.t 3) (.seq (.reg f274r2) .ret) .skip)) (.seq (.reg f274r3) .ret)))⟩
/- math/bits.Len64 -/
def f288r0 : List AOp := [
  ⟨(some 2), .none, .mv (.c (.int .i64 0))⟩]
def f288r1 : List AOp := [
  ⟨(some 3), .none, .mv (.t 0)⟩,
  ⟨(some 4), .none, .bin .geq .num (.t 3) (.c (.int .u64 4294967296))⟩]
def f288r2 : List AOp := [
  ⟨(some 5), .none, .mv (.t 0)⟩,
  ⟨(some 6), .none, .bin .shr .num (.t 5) (.c (.int .u64 32))⟩,
  ⟨(some 0), .none, .mv (.t 6)⟩]
def f288r3 : List AOp := [
  ⟨(some 2), .none, .mv (.c (.int .i64 32))⟩]
def f288r4 : List AOp := [
  ⟨(some 7), .none, .mv (.t 0)⟩,
  ⟨(some 8), .none, .bin .geq .num (.t 7) (.c (.int .u64 65536))⟩]
def f288r5 : List AOp := [
  ⟨(some 9), .none, .mv (.t 0)⟩,
  ⟨(some 10), .none, .bin .shr .num (.t 9) (.c (.int .u64 16))⟩,
  ⟨(some 0), .none, .mv (.t 10)⟩]
def f288r6 : List AOp := [
  ⟨(some 11), .none, .mv (.t 2)⟩,
  ⟨(some 12), .none, .bin .add .num (.t 11) (.c (.int .i64 16))⟩,
  ⟨(some 2), .none, .mv (.t 12)⟩]
def f288r7 : List AOp := [
  ⟨(some 13), .none, .mv (.t 0)⟩,
  ⟨(some 14), .none, .bin .geq .num (.t 13) (.c (.int .u64 256))⟩]
def f288r8 : List AOp := [
  ⟨(some 15), .none, .mv (.t 0)⟩,
  ⟨(some 16), .none, .bin .shr .num (.t 15) (.c (.int .u64 8))⟩,
  ⟨(some 0), .none, .mv (.t 16)⟩]
def f288r9 : List AOp := [
  ⟨(some 17), .none, .mv (.t 2)⟩,
  ⟨(some 18), .none, .bin .add .num (.t 17) (.c (.int .i64 8))⟩,
  ⟨(some 2), .none, .mv (.t 18)⟩]
def f288r10 : List AOp := [
  ⟨(some 19), .none, .mv (.t 2)⟩,
  ⟨(some 20), .none, .mv (.t 0)⟩,
  ⟨(some 21), .none, .conv (.int .u8) (.t 20)⟩,
  ⟨(some 22), .none, .sidx (.c (.str [0, 1, 2, 2, 3, 3, 3, 3, 4, 4, 4, 4, 4, 4, 4, 4, 5, 5, 5, 5, 5, 5, 5, 5, 5, 5, 5, 5, 5, 5, 5, 5, 6, 6, 6, 6, 6, 6, 6, 6, 6, 6, 6, 6, 6, 6, 6, 6, 6, 6, 6, 6, 6, 6, 6, 6, 6, 6, 6, 6, 6, 6, 6, 6, 7, 7, 7, 7, 7, 7, 7, 7, 7, 7, 7, 7, 7, 7, 7, 7, 7, 7, 7, 7, 7, 7, 7, 7, 7, 7, 7, 7, 7, 7, 7, 7, 7, 7, 7, 7, 7, 7, 7, 7, 7, 7, 7, 7, 7, 7, 7, 7, 7, 7, 7, 7, 7, 7, 7, 7, 7, 7, 7, 7, 7, 7, 7, 7, 8, 8, 8, 8, 8, 8, 8, 8, 8, 8, 8, 8, 8, 8, 8, 8, 8, 8, 8, 8, 8, 8, 8, 8, 8, 8, 8, 8, 8, 8, 8, 8, 8, 8, 8, 8, 8, 8, 8, 8, 8, 8, 8, 8, 8, 8, 8, 8, 8, 8, 8, 8, 8, 8, 8, 8, 8, 8, 8, 8, 8, 8, 8, 8, 8, 8, 8, 8, 8, 8, 8, 8, 8, 8, 8, 8, 8, 8, 8, 8, 8, 8, 8, 8, 8, 8, 8, 8, 8, 8, 8, 8, 8, 8, 8, 8, 8, 8, 8, 8, 8, 8, 8, 8, 8, 8, 8, 8, 8, 8, 8, 8, 8, 8, 8, 8, 8, 8, 8, 8, 8, 8, 8, 8, 8, 8, 8, 8])) (.t 21)⟩,
  ⟨(some 23), .none, .conv (.int .i64) (.t 22)⟩,
  ⟨(some 24), .none, .bin .add .num (.t 19) (.t 23)⟩,
  ⟨(some 2), .none, .mv (.t 24)⟩]
def f288 : AF := ⟨25, [.tmp 2], (.seq (.reg f288r0) (.seq (.seq (.reg f288r1) (.cond (.t 4) (.seq (.reg f288r2) (.reg f288r3)) .skip)) (.seq (.seq (.reg f288r4) (.cond (.t 8) (.seq (.reg f288r5) (.reg f288r6)) .skip)) (.seq (.seq (.reg f288r7) (.cond (.t 14) (.seq (.reg f288r8) (.reg f288r9)) .skip)) (.seq (.reg f288r10) .ret)))))⟩
/- slices.IndexFunc[[]towpath/api.Batch,towpath/api.Batch] -/
def f290r0 : List AOp := [
  ⟨(some 4), .none, .mv (.c (.int .i64 0))⟩]
def f290r1 : List AOp := [
  ⟨(some 6), .none, .mv (.t 0)⟩,
  ⟨(some 7), .none, .len .slice (.t 6)⟩,
  ⟨(some 8), .none, .mv (.c (.int .i64 0))⟩]
def f290r2 : List AOp := [
  ⟨(some 9), .none, .bin .lss .num (.t 8) (.t 7)⟩]
def f290r3 : List AOp := [
  ⟨(some 10), .none, .mv (.t 8)⟩,
  ⟨(some 5), .none, .mv (.t 10)⟩]
def f290r4 : List AOp := [
  ⟨(some 11), .none, .mv (.t 1)⟩,
  ⟨(some 12), .none, .mv (.t 0)⟩,
  ⟨(some 13), .none, .mv (.t 5)⟩,
  ⟨(some 14), .none, .iaddr 7 (.t 12) (.t 13)⟩,
  ⟨(some 15), .none, .loadn 7 (.t 14)⟩,
  ⟨(some 16), .none, .callv (.t 11) [(.t 15)]⟩]
def f290r5 : List AOp := [
  ⟨(some 17), .none, .mv (.t 5)⟩,
  ⟨(some 4), .none, .mv (.t 17)⟩]
def f290r6 : List AOp := [
  ⟨(some 18), .none, .bin .add .num (.t 8) (.c (.int .i64 1))⟩,
  ⟨(some 8), .none, .mv (.t 18)⟩]
def f290r7 : List AOp := [
  ⟨(some 4), .none, .mv (.c (.int .i64 (-1)))⟩]
def f290 : AF := ⟨19, [.tmp 4], (.seq (.reg f290r0) (.seq (.seq (.reg f290r1) (.block 0 (.loop (.seq (.reg f290r2) (.seq (.cond (.t 9) .skip (.exit 0)) (.seq (.block 1 (.seq (.reg f290r3) (.seq (.reg f290r4) (.cond (.t 16) (.seq (.reg f290r5) .ret) .skip)))) (.reg f290r6))))))) (.seq (.reg f290r7) .ret)))⟩
/- maps.Keys[map[string]*towpath/disk.file,string,*towpath/disk.file] -/
def f291r0 : List AOp := [
  ⟨(some 1), .none, .box (.t 0)⟩,
  ⟨(some 2), .none, .mv (.c .nilf)⟩]
def f291r1 : List AOp := [
  ⟨(some 3), .none, .mkfn 346 [] [(.t 1)]⟩,
  ⟨(some 2), .none, .mv (.t 3)⟩]
def f291 : AF := ⟨4, [.tmp 2], (.seq (.reg f291r0) (.seq (.reg f291r1) .ret))⟩
/- slices.Sort[[]string,string] -/
def f293r0 : List AOp := [
  ⟨(some 3), .none, .mv (.t 0)⟩,
  ⟨(some 4), .none, .len .slice (.t 3)⟩,
  ⟨(some 2), .none, .mv (.t 4)⟩]
def f293r1 : List AOp := [
  ⟨(some 5), .none, .mv (.t 0)⟩,
  ⟨(some 6), .none, .mv (.t 2)⟩,
  ⟨(some 7), .none, .mv (.t 2)⟩,
  ⟨(some 8), .none, .conv (.int .u64) (.t 7)⟩,
  ⟨(some 9), .none, .call 220 [(.t 8)]⟩,
  ⟨(some 10), .none, .call 348 [(.t 5), (.c (.int .i64 0)), (.t 6), (.t 9)]⟩]
def f293 : AF := ⟨11, [], (.seq (.reg f293r0) (.reg f293r1))⟩
/- towpath/frame.number -/
def f294r0 : List AOp := [
  ⟨(some 2), .none, .mv (.c (.int .u32 0))⟩]
def f294r1 : DR := ⟨[
  ⟨(some 3), .none, .mv (.t 0)⟩,
  ⟨(some 4), .none, .iaddr 1 (.t 3) (.c (.int .i64 0))⟩,
  ⟨(some 5), .none, .load1 (.t 4)⟩,
  ⟨(some 6), .none, .conv (.int .u32) (.t 5)⟩,
  ⟨(some 7), .none, .mv (.t 0)⟩,
  ⟨(some 8), .none, .iaddr 1 (.t 7) (.c (.int .i64 1))⟩,
  ⟨(some 9), .none, .load1 (.t 8)⟩,
  ⟨(some 10), .none, .conv (.int .u32) (.t 9)⟩,
  ⟨(some 11), .none, .bin .shl .num (.t 10) (.c (.int .u64 8))⟩,
  ⟨(some 12), .none, .bin .or .num (.t 6) (.t 11)⟩,
  ⟨(some 13), .none, .mv (.t 0)⟩,
  ⟨(some 14), .none, .iaddr 1 (.t 13) (.c (.int .i64 2))⟩,
  ⟨(some 15), .none, .load1 (.t 14)⟩,
  ⟨(some 16), .none, .conv (.int .u32) (.t 15)⟩,
  ⟨(some 17), .none, .bin .shl .num (.t 16) (.c (.int .u64 16))⟩,
  ⟨(some 18), .none, .bin .or .num (.t 12) (.t 17)⟩,
  ⟨(some 19), .none, .mv (.t 0)⟩,
  ⟨(some 20), .none, .iaddr 1 (.t 19) (.c (.int .i64 3))⟩,
  ⟨(some 21), .none, .load1 (.t 20)⟩,
  ⟨(some 22), .none, .conv (.int .u32) (.t 21)⟩,
  ⟨(some 23), .none, .bin .shl .num (.t 22) (.c (.int .u64 24))⟩,
  ⟨(some 24), .none, .bin .or .num (.t 18) (.t 23)⟩,
  ⟨(some 2), .none, .mv (.t 24)⟩],
  [0, 1, 3, 7, 0, 16, 48, 112, 240, 511, 0, 1024, 3072, 7168, 15360, 32767, 0, 65536, 196608, 458752, 983040, 2097151, 4194303], [0, 1, 2, 3, 4, 5, 6, 7, 8, 9, 10, 11, 12, 13, 14, 15, 16, 17, 18, 19, 20, 21, 22], [], .none⟩
def f294 : AF := ⟨25, [.tmp 2], (.seq (.reg f294r0) (.seq (.dreg f294r1) .ret))⟩
/- (*towpath/wire.Reader).Byte -/
def f295r0 : List AOp := [
  ⟨(some 2), .none, .mv (.c (.int .i64 0))⟩]
def f295r1 : List AOp := [
  ⟨(some 3), .none, .mv (.t 0)⟩,
  ⟨(some 4), .none, .call 166 [(.t 3)]⟩,
  ⟨(some 5), .none, .un .not (.t 4)⟩]
def f295r2 : List AOp := [
  ⟨(some 2), .none, .mv (.c (.int .i64 0))⟩]
def f295r3 : List AOp := [
  ⟨(some 6), .none, .mv (.t 0)⟩,
  ⟨(some 7), .none, .nilck (.t 6)⟩,
  ⟨(some 8), .none, .faddr 0 (.t 7)⟩,
  ⟨(some 9), .none, .call 168 [(.t 8)]⟩,
  ⟨(some 10), .none, .bin .eql .num (.t 9) (.c (.int .i64 0))⟩]
def f295r4 : List AOp := [
  ⟨(some 11), .none, .mv (.t 0)⟩,
  ⟨(some 12), .none, .nilck (.t 11)⟩,
  ⟨(some 13), .none, .faddr 0 (.t 12)⟩,
  ⟨(some 14), .none, .call 169 [(.t 13), (.c (.int .i64 6))]⟩]
def f295r5 : List AOp := [
  ⟨(some 2), .none, .mv (.c (.int .i64 0))⟩]
def f295r6 : List AOp := [
  ⟨(some 15), .none, .mv (.t 0)⟩,
  ⟨(some 16), .none, .nilck (.t 15)⟩,
  ⟨(some 17), .none, .faddr 0 (.t 16)⟩,
  ⟨(some 18), .none, .call 235 [(.t 17), (.c (.int .i64 1))]⟩,
  ⟨(some 19), .none, .iaddr 1 (.t 18) (.c (.int .i64 0))⟩,
  ⟨(some 20), .none, .load1 (.t 19)⟩,
  ⟨(some 21), .none, .conv (.int .i64) (.t 20)⟩,
  ⟨(some 2), .none, .mv (.t 21)⟩]
def f295 : AF := ⟨22, [.tmp 2], (.seq (.reg f295r0) (.seq (.seq (.reg f295r1) (.cond (.t 5) (.seq (.reg f295r2) .ret) .skip)) (.seq (.seq (.reg f295r3) (.cond (.t 10) (.seq (.reg f295r4) (.seq (.reg f295r5) .ret)) .skip)) (.seq (.reg f295r6) .ret))))⟩
/- towpath/index.New -/
def f296r0 : List AOp := [
  ⟨(some 2), .none, .mv (.c .nilp)⟩,
  ⟨(some 3), .none, .mv (.c (.int .i64 0))⟩]
def f296r1 : List AOp := [
  ⟨(some 4), .none, .mv (.t 0)⟩,
  ⟨(some 5), .none, .bin .lss .num (.t 4) (.c (.int .i64 1))⟩,
  ⟨(some 6), .none, .mv (.t 5)⟩,
  ⟨(some 7), (some (6, false)), .mv (.t 0)⟩,
  ⟨(some 8), (some (6, false)), .bin .gtr .num (.t 7) (.c (.int .i64 4194304))⟩,
  ⟨(some 9), .none, .pick (.t 6) (.c (.bool true)) (.t 8)⟩]
def f296r2 : List AOp := [
  ⟨(some 2), .none, .mv (.c .nilp)⟩,
  ⟨(some 3), .none, .mv (.c (.int .i64 2))⟩]
def f296r3 : List AOp := [
  ⟨(some 10), .none, .build [(.int .i64 0), (.int .i64 0), (.int .i64 0)] [(0, 1, (.c (.int .i64 (-1)))), (1, 1, (.c (.int .i64 (-1)))), (2, 1, (.c (.int .i64 (-1))))]⟩,
  ⟨(some 11), .none, .mv (.t 0)⟩,
  ⟨(some 12), .none, .build [(.int .i64 0), (.int .i64 0), (.int .i64 0), (.int .i64 0), .nils] [(0, 3, (.t 10)), (3, 1, (.t 11)), (4, 1, (.c .nils))]⟩,
  ⟨(some 13), .none, .box (.t 12)⟩,
  ⟨(some 2), .none, .mv (.t 13)⟩,
  ⟨(some 3), .none, .mv (.c (.int .i64 0))⟩]
def f296 : AF := ⟨14, [.tmp 2, .tmp 3], (.seq (.reg f296r0) (.seq (.seq (.reg f296r1) (.cond (.t 9) (.seq (.reg f296r2) .ret) .skip)) (.seq (.reg f296r3) .ret)))⟩
/- towpath/rec.upto -/
def f297r0 : List AOp := [
  ⟨(some 4), .none, .mv (.c (.int .i64 0))⟩]
def f297r1 : List AOp := [
  ⟨(some 6), .none, .mv (.t 0)⟩,
  ⟨(some 7), .none, .call 83 [(.t 6)]⟩,
  ⟨(some 5), .none, .mv (.t 7)⟩]
def f297r2 : List AOp := [
  ⟨(some 8), .none, .mv (.t 5)⟩,
  ⟨(some 9), .none, .mv (.t 1)⟩,
  ⟨(some 10), .none, .conv (.int .u64) (.t 9)⟩,
  ⟨(some 11), .none, .bin .gtr .num (.t 8) (.t 10)⟩]
def f297r3 : List AOp := [
  ⟨(some 12), .none, .mv (.t 1)⟩,
  ⟨(some 13), .none, .bin .add .num (.t 12) (.c (.int .i64 1))⟩,
  ⟨(some 4), .none, .mv (.t 13)⟩]
def f297r4 : List AOp := [
  ⟨(some 14), .none, .mv (.t 5)⟩,
  ⟨(some 15), .none, .conv (.int .i64) (.t 14)⟩,
  ⟨(some 4), .none, .mv (.t 15)⟩]
def f297 : AF := ⟨16, [.tmp 4], (.seq (.reg f297r0) (.seq (.reg f297r1) (.seq (.seq (.reg f297r2) (.cond (.t 11) (.seq (.reg f297r3) .ret) .skip)) (.seq (.reg f297r4) .ret))))⟩
/- towpath/rec.read -/
def f298r0 : List AOp := [
  ⟨(some 6), .none, .alloc [(.str []), (.str []), (.bool false), (.int .i64 0)]⟩,
  ⟨(some 7), .none, .mv (.c (.bool false))⟩]
def f298r1 : List AOp := [
  ⟨(some 12), .none, .mv (.t 0)⟩,
  ⟨(some 13), .none, .call 237 [(.t 12), (.c (.int .i64 (-1099511627776))), (.c (.int .i64 1099511627776))]⟩,
  ⟨(some 8), .none, .mv (.t 13)⟩]
def f298r2 : List AOp := [
  ⟨(some 14), .none, .mv (.t 1)⟩,
  ⟨(some 15), .none, .mv (.t 8)⟩,
  ⟨(some 16), .none, .bin .add .num (.t 14) (.t 15)⟩,
  ⟨(some 17), .none, .mv (.t 0)⟩,
  ⟨(some 18), .none, .call 344 [(.t 17)]⟩,
  ⟨(some 19), .none, .build [(.str []), (.str []), (.bool false), (.int .i64 0)] [(3, 1, (.t 16)), (2, 1, (.t 18))]⟩,
  ⟨(some 9), .none, .alloc [(.str []), (.str []), (.bool false), (.int .i64 0)]⟩,
  ⟨.none, .none, .store 4 (.t 9) (.t 19)⟩]
def f298r3 : List AOp := [
  ⟨(some 20), .none, .mv (.t 0)⟩,
  ⟨(some 21), .none, .call 297 [(.t 20), (.c (.int .i64 1024))]⟩,
  ⟨(some 10), .none, .mv (.t 21)⟩]
def f298r4 : List AOp := [
  ⟨(some 22), .none, .mv (.t 0)⟩,
  ⟨(some 23), .none, .call 151 [(.t 22), (.c (.int .i64 1024))]⟩,
  ⟨(some 11), .none, .mv (.t 23)⟩]
def f298r5 : List AOp := [
  ⟨(some 24), .none, .mv (.t 10)⟩,
  ⟨(some 25), .none, .mv (.t 2)⟩,
  ⟨(some 26), .none, .len .str (.t 25)⟩,
  ⟨(some 27), .none, .bin .gtr .num (.t 24) (.t 26)⟩]
def f298r6 : List AOp := [
  ⟨(some 28), .none, .loadn 4 (.t 9)⟩,
  ⟨.none, .none, .store 4 (.t 6) (.t 28)⟩,
  ⟨(some 7), .none, .mv (.c (.bool false))⟩]
def f298r7 : List AOp := [
  ⟨(some 29), .none, .mv (.t 2)⟩,
  ⟨(some 30), .none, .mv (.t 10)⟩,
  ⟨(some 31), .none, .sslc (.t 29) .none (some (.t 30))⟩,
  ⟨(some 32), .none, .mv (.t 11)⟩,
  ⟨(some 33), .none, .bin .add .str (.t 31) (.t 32)⟩,
  ⟨(some 34), .none, .faddr 0 (.t 9)⟩,
  ⟨.none, .none, .store 1 (.t 34) (.t 33)⟩]
def f298r8 : List AOp := [
  ⟨(some 35), .none, .faddr 2 (.t 9)⟩,
  ⟨(some 36), .none, .load1 (.t 35)⟩,
  ⟨(some 37), .none, .un .not (.t 36)⟩]
def f298r9 : List AOp := [
  ⟨(some 38), .none, .mv (.t 0)⟩,
  ⟨(some 39), .none, .call 151 [(.t 38), (.c (.int .i64 1024))]⟩,
  ⟨(some 40), .none, .faddr 1 (.t 9)⟩,
  ⟨.none, .none, .store 1 (.t 40) (.t 39)⟩]
def f298r10 : DR := ⟨[
  ⟨(some 41), .none, .loadn 4 (.t 9)⟩,
  ⟨(some 42), .none, .mv (.t 0)⟩,
  ⟨(some 43), .none, .call 238 [(.t 42)]⟩,
  ⟨(some 44), .none, .bin .eql .num (.t 43) (.c (.int .i64 0))⟩,
  ⟨(some 45), .none, .mv (.t 44)⟩,
  ⟨(some 46), (some (45, true)), .mv (.t 2)⟩,
  ⟨(some 47), (some (45, true)), .faddr 0 (.t 9)⟩,
  ⟨(some 48), (some (45, true)), .load1 (.t 47)⟩,
  ⟨(some 49), (some (45, true)), .call 324 [(.t 46), (.t 48)]⟩,
  ⟨(some 50), (some (45, true)), .mv (.t 10)⟩,
  ⟨(some 51), (some (45, true)), .bin .eql .num (.t 49) (.t 50)⟩,
  ⟨(some 52), .none, .pick (.t 45) (.t 51) (.c (.bool false))⟩,
  ⟨.none, .none, .store 4 (.t 6) (.t 41)⟩,
  ⟨(some 7), .none, .mv (.t 52)⟩],
  [0, 0, 2, 6, 14, 30, 30, 94, 254, 30, 1022, 2046, 511, 8191], [0, 1, 2, 3, 4, 5, 6, 7, 8, 9, 10, 11, 12, 13], [(0, 1), (0, 2)], .none⟩
def f298 : AF := ⟨53, [.celln 6 4, .tmp 7], (.seq (.reg f298r0) (.seq (.reg f298r1) (.seq (.reg f298r2) (.seq (.reg f298r3) (.seq (.reg f298r4) (.seq (.seq (.reg f298r5) (.cond (.t 27) (.seq (.reg f298r6) .ret) .skip)) (.seq (.reg f298r7) (.seq (.seq (.reg f298r8) (.cond (.t 37) (.reg f298r9) .skip)) (.seq (.dreg f298r10) .ret)))))))))⟩
/- towpath/seglog.latest -/
def f299r0 : List AOp := [
  ⟨(some 1), .none, .box (.t 0)⟩,
  ⟨(some 2), .none, .mv (.c (.int .i64 0))⟩]
def f299r1 : List AOp := [
  ⟨(some 3), .none, .mv (.c (.int .i64 (-1)))⟩]
def f299r2 : List AOp := [
  ⟨(some 6), .none, .faddr 6 (.t 1)⟩,
  ⟨(some 7), .none, .load1 (.t 6)⟩,
  ⟨(some 8), .none, .len .slice (.t 7)⟩,
  ⟨(some 9), .none, .mv (.c (.int .i64 0))⟩]
def f299r3 : List AOp := [
  ⟨(some 10), .none, .bin .lss .num (.t 9) (.t 8)⟩]
def f299r4 : List AOp := [
  ⟨(some 11), .none, .iaddr 4 (.t 7) (.t 9)⟩,
  ⟨(some 12), .none, .loadn 4 (.t 11)⟩,
  ⟨(some 5), .none, .alloc [(.str []), (.str []), (.bool false), (.int .i64 0)]⟩,
  ⟨.none, .none, .store 4 (.t 5) (.t 12)⟩]
def f299r5 : List AOp := [
  ⟨(some 13), .none, .mv (.t 3)⟩,
  ⟨(some 14), .none, .faddr 3 (.t 5)⟩,
  ⟨(some 15), .none, .load1 (.t 14)⟩,
  ⟨(some 16), .none, .mx [(.t 13), (.t 15)]⟩,
  ⟨(some 3), .none, .mv (.t 16)⟩]
def f299r6 : List AOp := [
  ⟨(some 17), .none, .bin .add .num (.t 9) (.c (.int .i64 1))⟩,
  ⟨(some 9), .none, .mv (.t 17)⟩]
def f299r7 : List AOp := [
  ⟨(some 18), .none, .faddr 6 (.t 1)⟩,
  ⟨(some 19), .none, .load1 (.t 18)⟩,
  ⟨(some 20), .none, .len .slice (.t 19)⟩,
  ⟨(some 21), .none, .bin .eql .num (.t 20) (.c (.int .i64 0))⟩]
def f299r8 : List AOp := [
  ⟨(some 22), .none, .faddr 5 (.t 1)⟩,
  ⟨(some 23), .none, .load1 (.t 22)⟩,
  ⟨(some 3), .none, .mv (.t 23)⟩]
def f299r9 : List AOp := [
  ⟨(some 24), .none, .mv (.t 3)⟩,
  ⟨(some 2), .none, .mv (.t 24)⟩]
def f299 : AF := ⟨25, [.tmp 2], (.seq (.reg f299r0) (.seq (.reg f299r1) (.seq (.seq (.reg f299r2) (.block 0 (.loop (.seq (.reg f299r3) (.seq (.cond (.t 10) .skip (.exit 0)) (.seq (.block 1 (.seq (.reg f299r4) (.reg f299r5))) (.reg f299r6))))))) (.seq (.seq (.reg f299r7) (.cond (.t 21) (.reg f299r8) .skip)) (.seq (.reg f299r9) .ret)))))⟩
/- (*towpath/index.Index).Note -/
def f300r0 : List AOp := [
  ⟨(some 8), .none, .mv (.c (.int .i64 0))⟩]
def f300r1 : List AOp := [
  ⟨(some 12), .none, .mv (.t 0)⟩,
  ⟨(some 13), .none, .bin .eql .ptr (.t 12) (.c .nilp)⟩,
  ⟨(some 11), .none, .mv (.t 13)⟩]
def f300r2 : List AOp := [
  ⟨(some 8), .none, .mv (.c (.int .i64 1))⟩]
def f300r3 : List AOp := [
  ⟨(some 15), .none, .mv (.t 1)⟩,
  ⟨(some 16), .none, .mv (.t 2)⟩,
  ⟨(some 17), .none, .mv (.t 3)⟩,
  ⟨(some 18), .none, .call 349 [(.t 15), (.t 16), (.t 17)]⟩,
  ⟨(some 19), .none, .un .not (.t 18)⟩,
  ⟨(some 14), .none, .mv (.t 19)⟩]
def f300r4 : List AOp := [
  ⟨(some 8), .none, .mv (.c (.int .i64 2))⟩]
def f300r5 : List AOp := [
  ⟨(some 21), .none, .mv (.t 1)⟩,
  ⟨(some 22), .none, .mv (.t 0)⟩,
  ⟨(some 23), .none, .nilck (.t 22)⟩,
  ⟨(some 24), .none, .faddr 0 (.t 23)⟩,
  ⟨(some 25), .none, .faddr 0 (.t 24)⟩,
  ⟨(some 26), .none, .load1 (.t 25)⟩,
  ⟨(some 27), .none, .bin .leq .num (.t 21) (.t 26)⟩,
  ⟨(some 28), .none, .mv (.t 27)⟩,
  ⟨(some 29), (some (28, false)), .mv (.t 2)⟩,
  ⟨(some 30), (some (28, false)), .mv (.t 0)⟩,
  ⟨(some 31), (some (28, false)), .nilck (.t 30)⟩,
  ⟨(some 32), (some (28, false)), .faddr 0 (.t 31)⟩,
  ⟨(some 33), (some (28, false)), .faddr 1 (.t 32)⟩,
  ⟨(some 34), (some (28, false)), .load1 (.t 33)⟩,
  ⟨(some 35), (some (28, false)), .bin .leq .num (.t 29) (.t 34)⟩,
  ⟨(some 36), .none, .pick (.t 28) (.c (.bool true)) (.t 35)⟩,
  ⟨(some 20), .none, .mv (.t 36)⟩]
def f300r6 : List AOp := [
  ⟨(some 8), .none, .mv (.c (.int .i64 21))⟩]
def f300r7 : List AOp := [
  ⟨(some 37), .none, .mv (.t 0)⟩,
  ⟨(some 38), .none, .nilck (.t 37)⟩,
  ⟨(some 39), .none, .faddr 4 (.t 38)⟩,
  ⟨(some 40), .none, .load1 (.t 39)⟩,
  ⟨(some 41), .none, .len .slice (.t 40)⟩,
  ⟨(some 9), .none, .mv (.t 41)⟩]
def f300r8 : DR := ⟨[
  ⟨(some 42), .none, .mv (.t 9)⟩,
  ⟨(some 43), .none, .bin .eql .num (.t 42) (.c (.int .i64 0))⟩,
  ⟨(some 44), .none, .mv (.t 43)⟩,
  ⟨(some 45), (some (44, false)), .mv (.t 2)⟩,
  ⟨(some 46), (some (44, false)), .mv (.t 0)⟩,
  ⟨(some 47), (some (44, false)), .nilck (.t 46)⟩,
  ⟨(some 48), (some (44, false)), .faddr 4 (.t 47)⟩,
  ⟨(some 49), (some (44, false)), .load1 (.t 48)⟩,
  ⟨(some 50), (some (44, false)), .mv (.t 9)⟩,
  ⟨(some 51), (some (44, false)), .bin .sub .num (.t 50) (.c (.int .i64 1))⟩,
  ⟨(some 52), (some (44, false)), .iaddr 3 (.t 49) (.t 51)⟩,
  ⟨(some 53), (some (44, false)), .faddr 1 (.t 52)⟩,
  ⟨(some 54), (some (44, false)), .load1 (.t 53)⟩,
  ⟨(some 55), (some (44, false)), .bin .sub .num (.t 45) (.t 54)⟩,
  ⟨(some 56), (some (44, false)), .mv (.t 0)⟩,
  ⟨(some 57), (some (44, false)), .nilck (.t 56)⟩,
  ⟨(some 58), (some (44, false)), .faddr 3 (.t 57)⟩,
  ⟨(some 59), (some (44, false)), .load1 (.t 58)⟩,
  ⟨(some 60), (some (44, false)), .bin .geq .num (.t 55) (.t 59)⟩,
  ⟨(some 61), .none, .pick (.t 44) (.c (.bool true)) (.t 60)⟩],
  [0, 1, 3, 7, 7, 23, 55, 119, 7, 263, 1015, 2039, 4087, 8191, 7, 16391, 49159, 114695, 262143, 524287], [0, 1, 2, 3, 4, 5, 6, 7, 8, 9, 10, 11, 12, 13, 14, 15, 16, 17, 18, 19], [], .none⟩
def f300r9 : DR := ⟨[
  ⟨(some 62), .none, .mv (.t 0)⟩,
  ⟨(some 63), .none, .nilck (.t 62)⟩,
  ⟨(some 64), .none, .faddr 4 (.t 63)⟩,
  ⟨(some 65), .none, .load1 (.t 64)⟩,
  ⟨(some 66), .none, .mv (.t 1)⟩,
  ⟨(some 67), .none, .mv (.t 2)⟩,
  ⟨(some 68), .none, .mv (.t 0)⟩,
  ⟨(some 69), .none, .nilck (.t 68)⟩,
  ⟨(some 70), .none, .faddr 0 (.t 69)⟩,
  ⟨(some 71), .none, .faddr 2 (.t 70)⟩,
  ⟨(some 72), .none, .load1 (.t 71)⟩,
  ⟨(some 73), .none, .build [(.int .i64 0), (.int .i64 0), (.int .i64 0)] [(0, 1, (.t 66)), (1, 1, (.t 67)), (2, 1, (.t 72))]⟩,
  ⟨(some 74), .none, .bsl false 3 1 [(.int .i64 0), (.int .i64 0), (.int .i64 0)] [(0, 3, (.t 73))]⟩,
  ⟨(some 75), .none, .app false 3 24 (.t 65) (.t 74)⟩,
  ⟨(some 10), .none, .mv (.t 75)⟩],
  [0, 1, 3, 7, 0, 0, 0, 64, 192, 448, 960, 2032, 4080, 8191, 16383], [0, 1, 2, 3, 4, 5, 6, 7, 8, 9, 10, 11, 12, 13, 14], [], .none⟩
def f300r10 : List AOp := [
  ⟨(some 76), .none, .mv (.t 0)⟩,
  ⟨(some 77), .none, .mv (.t 10)⟩,
  ⟨(some 78), .none, .nilck (.t 76)⟩,
  ⟨(some 79), .none, .faddr 4 (.t 78)⟩,
  ⟨.none, .none, .store 1 (.t 79) (.t 77)⟩]
def f300r11 : List AOp := [
  ⟨(some 80), .none, .mv (.t 0)⟩,
  ⟨(some 81), .none, .mv (.t 1)⟩,
  ⟨(some 82), .none, .mv (.t 2)⟩,
  ⟨(some 83), .none, .mv (.t 0)⟩,
  ⟨(some 84), .none, .nilck (.t 83)⟩,
  ⟨(some 85), .none, .faddr 0 (.t 84)⟩,
  ⟨(some 86), .none, .faddr 2 (.t 85)⟩,
  ⟨(some 87), .none, .load1 (.t 86)⟩,
  ⟨(some 88), .none, .mv (.t 3)⟩,
  ⟨(some 89), .none, .mx [(.t 87), (.t 88)]⟩,
  ⟨(some 90), .none, .build [(.int .i64 0), (.int .i64 0), (.int .i64 0)] [(0, 1, (.t 81)), (1, 1, (.t 82)), (2, 1, (.t 89))]⟩,
  ⟨(some 91), .none, .nilck (.t 80)⟩,
  ⟨(some 92), .none, .faddr 0 (.t 91)⟩,
  ⟨.none, .none, .store 3 (.t 92) (.t 90)⟩]
def f300r12 : List AOp := [
  ⟨(some 8), .none, .mv (.c (.int .i64 0))⟩]
def f300 : AF := ⟨93, [.tmp 8], (.seq (.reg f300r0) (.seq (.block 0 (.seq (.reg f300r1) (.cond (.t 11) (.seq (.reg f300r2) .ret) (.seq (.reg f300r3) (.cond (.t 14) (.seq (.reg f300r4) .ret) (.seq (.reg f300r5) (.cond (.t 20) (.seq (.reg f300r6) .ret) .skip))))))) (.seq (.reg f300r7) (.seq (.seq (.dreg f300r8) (.cond (.t 61) (.seq (.dreg f300r9) (.reg f300r10)) .skip)) (.seq (.reg f300r11) (.seq (.reg f300r12) .ret))))))⟩
/- (*towpath/wire.Reader).Int -/
def f301r0 : List AOp := [
  ⟨(some 2), .none, .mv (.c (.int .i64 0))⟩]
def f301r1 : List AOp := [
  ⟨(some 4), .none, .mv (.t 0)⟩,
  ⟨(some 5), .none, .call 83 [(.t 4)]⟩,
  ⟨(some 3), .none, .mv (.t 5)⟩]
def f301r2 : List AOp := [
  ⟨(some 6), .none, .mv (.t 3)⟩,
  ⟨(some 7), .none, .bin .shr .num (.t 6) (.c (.int .u64 1))⟩,
  ⟨(some 8), .none, .conv (.int .i64) (.t 7)⟩,
  ⟨(some 9), .none, .mv (.t 3)⟩,
  ⟨(some 10), .none, .bin .and .num (.t 9) (.c (.int .u64 1))⟩,
  ⟨(some 11), .none, .conv (.int .i64) (.t 10)⟩,
  ⟨(some 12), .none, .un .neg (.t 11)⟩,
  ⟨(some 13), .none, .bin .xor .num (.t 8) (.t 12)⟩,
  ⟨(some 2), .none, .mv (.t 13)⟩]
def f301 : AF := ⟨14, [.tmp 2], (.seq (.reg f301r0) (.seq (.reg f301r1) (.seq (.reg f301r2) .ret)))⟩
/- (towpath/dedup.Row).next -/
def f302r0 : List AOp := [
  ⟨(some 1), .none, .box (.t 0)⟩,
  ⟨(some 2), .none, .mv (.c (.int .i64 0))⟩]
def f302r1 : List AOp := [
  ⟨(some 3), .none, .faddr 2 (.t 1)⟩,
  ⟨(some 4), .none, .load1 (.t 3)⟩,
  ⟨(some 5), .none, .faddr 3 (.t 1)⟩,
  ⟨(some 6), .none, .load1 (.t 5)⟩,
  ⟨(some 7), .none, .bin .add .num (.t 4) (.t 6)⟩,
  ⟨(some 2), .none, .mv (.t 7)⟩]
def f302 : AF := ⟨8, [.tmp 2], (.seq (.reg f302r0) (.seq (.reg f302r1) .ret))⟩
/- (*towpath/index.Index).entry -/
def f306r0 : List AOp := [
  ⟨(some 4), .none, .alloc [(.int .i64 0), (.int .i64 0), (.int .i64 0)]⟩,
  ⟨(some 5), .none, .mv (.c (.bool false))⟩]
def f306r1 : List AOp := [
  ⟨(some 6), .none, .mv (.t 1)⟩,
  ⟨(some 7), .none, .bin .lss .num (.t 6) (.c (.int .i64 0))⟩]
def f306r2 : List AOp := [
  ⟨(some 8), .none, .build [(.int .i64 0), (.int .i64 0), (.int .i64 0)] []⟩,
  ⟨.none, .none, .store 3 (.t 4) (.t 8)⟩,
  ⟨(some 5), .none, .mv (.c (.bool false))⟩]
def f306r3 : List AOp := [
  ⟨(some 9), .none, .mv (.t 0)⟩,
  ⟨(some 10), .none, .nilck (.t 9)⟩,
  ⟨(some 11), .none, .faddr 4 (.t 10)⟩,
  ⟨(some 12), .none, .load1 (.t 11)⟩,
  ⟨(some 13), .none, .mv (.t 1)⟩,
  ⟨(some 14), .none, .iaddr 3 (.t 12) (.t 13)⟩,
  ⟨(some 15), .none, .loadn 3 (.t 14)⟩,
  ⟨.none, .none, .store 3 (.t 4) (.t 15)⟩,
  ⟨(some 5), .none, .mv (.c (.bool true))⟩]
def f306 : AF := ⟨16, [.celln 4 3, .tmp 5], (.seq (.reg f306r0) (.seq (.seq (.reg f306r1) (.cond (.t 7) (.seq (.reg f306r2) .ret) .skip)) (.seq (.reg f306r3) .ret)))⟩
/- (*towpath/index.Index).Find$1 -/
def f307r0 : List AOp := [
  ⟨(some 4), .none, .mv (.c (.bool false))⟩]
def f307r1 : DR := ⟨[
  ⟨(some 5), .none, .load1 (.t 1)⟩,
  ⟨(some 6), .none, .nilck (.t 5)⟩,
  ⟨(some 7), .none, .faddr 4 (.t 6)⟩,
  ⟨(some 8), .none, .load1 (.t 7)⟩,
  ⟨(some 9), .none, .mv (.t 0)⟩,
  ⟨(some 10), .none, .iaddr 3 (.t 8) (.t 9)⟩,
  ⟨(some 11), .none, .faddr 0 (.t 10)⟩,
  ⟨(some 12), .none, .load1 (.t 11)⟩,
  ⟨(some 13), .none, .load1 (.t 2)⟩,
  ⟨(some 14), .none, .bin .gtr .num (.t 12) (.t 13)⟩,
  ⟨(some 4), .none, .mv (.t 14)⟩],
  [0, 1, 3, 7, 0, 31, 63, 127, 0, 511, 1023], [0, 1, 2, 3, 4, 5, 6, 7, 8, 9, 10], [], .none⟩
def f307 : AF := ⟨15, [.tmp 4], (.seq (.reg f307r0) (.seq (.dreg f307r1) .ret))⟩
/- towpath/rec.within -/
def f308r0 : List AOp := [
  ⟨(some 6), .none, .mv (.c (.bool false))⟩]
def f308r1 : List AOp := [
  ⟨(some 7), .none, .mv (.t 0)⟩,
  ⟨(some 8), .none, .mv (.t 1)⟩,
  ⟨(some 9), .none, .bin .geq .num (.t 7) (.t 8)⟩,
  ⟨(some 10), .none, .mv (.t 9)⟩,
  ⟨(some 11), (some (10, true)), .mv (.t 0)⟩,
  ⟨(some 12), (some (10, true)), .mv (.t 2)⟩,
  ⟨(some 13), (some (10, true)), .bin .leq .num (.t 11) (.t 12)⟩,
  ⟨(some 14), .none, .pick (.t 10) (.t 13) (.c (.bool false))⟩,
  ⟨(some 6), .none, .mv (.t 14)⟩]
def f308 : AF := ⟨15, [.tmp 6], (.seq (.reg f308r0) (.seq (.reg f308r1) .ret))⟩
/- towpath/frame.More -/
def f323r0 : List AOp := [
  ⟨(some 4), .none, .mv (.c (.int .u32 0))⟩]
def f323r1 : List AOp := [
  ⟨(some 10), .none, .mv (.t 0)⟩,
  ⟨(some 11), .none, .un .xor (.t 10)⟩,
  ⟨(some 5), .none, .mv (.t 11)⟩]
def f323r2 : List AOp := [
  ⟨(some 12), .none, .mv (.t 1)⟩,
  ⟨(some 13), .none, .len .slice (.t 12)⟩,
  ⟨(some 14), .none, .mv (.c (.int .i64 0))⟩]
def f323r3 : List AOp := [
  ⟨(some 15), .none, .bin .lss .num (.t 14) (.t 13)⟩]
def f323r4 : List AOp := [
  ⟨(some 16), .none, .iaddr 1 (.t 12) (.t 14)⟩,
  ⟨(some 17), .none, .load1 (.t 16)⟩,
  ⟨(some 7), .none, .mv (.t 17)⟩]
def f323r5 : List AOp := [
  ⟨(some 18), .none, .mv (.t 7)⟩,
  ⟨(some 19), .none, .len .slice (.t 18)⟩,
  ⟨(some 20), .none, .mv (.c (.int .i64 0))⟩]
def f323r6 : List AOp := [
  ⟨(some 21), .none, .bin .lss .num (.t 20) (.t 19)⟩]
def f323r7 : List AOp := [
  ⟨(some 22), .none, .iaddr 1 (.t 18) (.t 20)⟩,
  ⟨(some 23), .none, .load1 (.t 22)⟩,
  ⟨(some 9), .none, .mv (.t 23)⟩]
def f323r8 : List AOp := [
  ⟨(some 24), .none, .mv (.t 5)⟩,
  ⟨(some 25), .none, .mv (.t 9)⟩,
  ⟨(some 26), .none, .conv (.int .u32) (.t 25)⟩,
  ⟨(some 27), .none, .bin .xor .num (.t 24) (.t 26)⟩,
  ⟨(some 5), .none, .mv (.t 27)⟩]
def f323r9 : List AOp := [
  ⟨(some 28), .none, .mv (.c (.int .i64 0))⟩]
def f323r10 : List AOp := [
  ⟨(some 29), .none, .bin .lss .num (.t 28) (.c (.int .i64 8))⟩]
def f323r11 : List AOp := [
  ⟨(some 30), .none, .mv (.t 5)⟩,
  ⟨(some 31), .none, .bin .shr .num (.t 30) (.c (.int .u64 1))⟩,
  ⟨(some 32), .none, .mv (.t 5)⟩,
  ⟨(some 33), .none, .bin .and .num (.t 32) (.c (.int .u32 1))⟩,
  ⟨(some 34), .none, .un .neg (.t 33)⟩,
  ⟨(some 35), .none, .bin .and .num (.c (.int .u32 3988292384)) (.t 34)⟩,
  ⟨(some 36), .none, .bin .xor .num (.t 31) (.t 35)⟩,
  ⟨(some 5), .none, .mv (.t 36)⟩]
def f323r12 : List AOp := [
  ⟨(some 37), .none, .bin .add .num (.t 28) (.c (.int .i64 1))⟩,
  ⟨(some 28), .none, .mv (.t 37)⟩]
def f323r13 : List AOp := [
  ⟨(some 38), .none, .bin .add .num (.t 20) (.c (.int .i64 1))⟩,
  ⟨(some 20), .none, .mv (.t 38)⟩]
def f323r14 : List AOp := [
  ⟨(some 39), .none, .bin .add .num (.t 14) (.c (.int .i64 1))⟩,
  ⟨(some 14), .none, .mv (.t 39)⟩]
def f323r15 : List AOp := [
  ⟨(some 40), .none, .mv (.t 5)⟩,
  ⟨(some 41), .none, .un .xor (.t 40)⟩,
  ⟨(some 4), .none, .mv (.t 41)⟩]
def f323 : AF := ⟨42, [.tmp 4], (.seq (.reg f323r0) (.seq (.reg f323r1) (.seq (.seq (.reg f323r2) (.block 0 (.loop (.seq (.reg f323r3) (.seq (.cond (.t 15) .skip (.exit 0)) (.seq (.block 1 (.seq (.reg f323r4) (.seq (.reg f323r5) (.block 2 (.loop (.seq (.reg f323r6) (.seq (.cond (.t 21) .skip (.exit 2)) (.seq (.block 3 (.seq (.reg f323r7) (.seq (.reg f323r8) (.seq (.reg f323r9) (.block 4 (.loop (.seq (.reg f323r10) (.seq (.cond (.t 29) .skip (.exit 4)) (.seq (.block 5 (.reg f323r11)) (.reg f323r12)))))))))) (.reg f323r13))))))))) (.reg f323r14))))))) (.seq (.reg f323r15) .ret))))⟩
/- towpath/rec.alike -/
def f324r0 : List AOp := [
  ⟨(some 4), .none, .mv (.c (.int .i64 0))⟩]
def f324r1 : List AOp := [
  ⟨(some 7), .none, .mv (.t 0)⟩,
  ⟨(some 8), .none, .len .str (.t 7)⟩,
  ⟨(some 9), .none, .mv (.t 1)⟩,
  ⟨(some 10), .none, .len .str (.t 9)⟩,
  ⟨(some 11), .none, .mn [(.t 8), (.t 10)]⟩,
  ⟨(some 5), .none, .mv (.t 11)⟩]
def f324r2 : List AOp := [
  ⟨(some 12), .none, .mv (.t 5)⟩,
  ⟨(some 13), .none, .mv (.c (.int .i64 0))⟩]
def f324r3 : List AOp := [
  ⟨(some 14), .none, .bin .lss .num (.t 13) (.t 12)⟩]
def f324r4 : List AOp := [
  ⟨(some 15), .none, .mv (.t 13)⟩,
  ⟨(some 6), .none, .mv (.t 15)⟩]
def f324r5 : DR := ⟨[
  ⟨(some 16), .none, .mv (.t 0)⟩,
  ⟨(some 17), .none, .mv (.t 6)⟩,
  ⟨(some 18), .none, .sidx (.t 16) (.t 17)⟩,
  ⟨(some 19), .none, .mv (.t 1)⟩,
  ⟨(some 20), .none, .mv (.t 6)⟩,
  ⟨(some 21), .none, .sidx (.t 19) (.t 20)⟩,
  ⟨(some 22), .none, .bin .neq .num (.t 18) (.t 21)⟩],
  [0, 0, 3, 0, 0, 24, 63], [0, 1, 2, 3, 4, 5, 6], [], .none⟩
def f324r6 : List AOp := [
  ⟨(some 23), .none, .mv (.t 6)⟩,
  ⟨(some 4), .none, .mv (.t 23)⟩]
def f324r7 : List AOp := [
  ⟨(some 24), .none, .bin .add .num (.t 13) (.c (.int .i64 1))⟩,
  ⟨(some 13), .none, .mv (.t 24)⟩]
def f324r8 : List AOp := [
  ⟨(some 25), .none, .mv (.t 5)⟩,
  ⟨(some 4), .none, .mv (.t 25)⟩]
def f324 : AF := ⟨26, [.tmp 4], (.seq (.reg f324r0) (.seq (.reg f324r1) (.seq (.seq (.reg f324r2) (.block 0 (.loop (.seq (.reg f324r3) (.seq (.cond (.t 14) .skip (.exit 0)) (.seq (.block 1 (.seq (.reg f324r4) (.seq (.dreg f324r5) (.cond (.t 22) (.seq (.reg f324r6) .ret) .skip)))) (.reg f324r7))))))) (.seq (.reg f324r8) .ret))))⟩
/- slices.insertionSortCmpFunc[towpath/iso.Txn] -/
def f325r0 : List AOp := [
  ⟨(some 10), .none, .mv (.t 1)⟩,
  ⟨(some 11), .none, .bin .add .num (.t 10) (.c (.int .i64 1))⟩,
  ⟨(some 8), .none, .mv (.t 11)⟩]
def f325r1 : List AOp := [
  ⟨(some 12), .none, .mv (.t 8)⟩,
  ⟨(some 13), .none, .mv (.t 2)⟩,
  ⟨(some 14), .none, .bin .lss .num (.t 12) (.t 13)⟩]
def f325r3 : List AOp := [
  ⟨(some 17), .none, .mv (.t 8)⟩,
  ⟨(some 9), .none, .mv (.t 17)⟩]
def f325r4 : DR := ⟨[
  ⟨(some 18), .none, .mv (.t 9)⟩,
  ⟨(some 19), .none, .mv (.t 1)⟩,
  ⟨(some 20), .none, .bin .gtr .num (.t 18) (.t 19)⟩,
  ⟨(some 21), .none, .mv (.t 20)⟩,
  ⟨(some 22), (some (21, true)), .mv (.t 3)⟩,
  ⟨(some 23), (some (21, true)), .mv (.t 0)⟩,
  ⟨(some 24), (some (21, true)), .mv (.t 9)⟩,
  ⟨(some 25), (some (21, true)), .iaddr 4 (.t 23) (.t 24)⟩,
  ⟨(some 26), (some (21, true)), .loadn 4 (.t 25)⟩,
  ⟨(some 27), (some (21, true)), .mv (.t 0)⟩,
  ⟨(some 28), (some (21, true)), .mv (.t 9)⟩,
  ⟨(some 29), (some (21, true)), .bin .sub .num (.t 28) (.c (.int .i64 1))⟩,
  ⟨(some 30), (some (21, true)), .iaddr 4 (.t 27) (.t 29)⟩,
  ⟨(some 31), (some (21, true)), .loadn 4 (.t 30)⟩,
  ⟨(some 32), (some (21, true)), .callv (.t 22) [(.t 26), (.t 31)]⟩,
  ⟨(some 33), (some (21, true)), .bin .lss .num (.t 32) (.c (.int .i64 0))⟩,
  ⟨(some 34), .none, .pick (.t 21) (.t 33) (.c (.bool false))⟩],
  [0, 0, 3, 7, 15, 15, 15, 111, 239, 15, 15, 1039, 3599, 7695, 16383, 32767, 65535], [0, 1, 2, 3, 4, 5, 6, 7, 8, 9, 10, 11, 12, 13, 14, 15, 16], [], .none⟩
def f325r6 : DR := ⟨[
  ⟨(some 37), .none, .mv (.t 0)⟩,
  ⟨(some 38), .none, .mv (.t 9)⟩,
  ⟨(some 39), .none, .mv (.t 0)⟩,
  ⟨(some 40), .none, .mv (.t 9)⟩,
  ⟨(some 41), .none, .bin .sub .num (.t 40) (.c (.int .i64 1))⟩,
  ⟨(some 42), .none, .mv (.t 0)⟩,
  ⟨(some 43), .none, .mv (.t 9)⟩,
  ⟨(some 44), .none, .bin .sub .num (.t 43) (.c (.int .i64 1))⟩,
  ⟨(some 45), .none, .iaddr 4 (.t 42) (.t 44)⟩,
  ⟨(some 46), .none, .loadn 4 (.t 45)⟩,
  ⟨(some 47), .none, .mv (.t 0)⟩,
  ⟨(some 48), .none, .mv (.t 9)⟩,
  ⟨(some 49), .none, .iaddr 4 (.t 47) (.t 48)⟩,
  ⟨(some 50), .none, .loadn 4 (.t 49)⟩,
  ⟨(some 51), .none, .iaddr 4 (.t 37) (.t 38)⟩,
  ⟨.none, .none, .store 4 (.t 51) (.t 46)⟩,
  ⟨(some 52), .none, .iaddr 4 (.t 39) (.t 41)⟩,
  ⟨.none, .none, .store 4 (.t 52) (.t 50)⟩],
  [0, 0, 0, 0, 8, 0, 0, 64, 224, 480, 0, 0, 3072, 7168, 16355, 32739, 65535, 131071], [0, 1, 2, 3, 4, 5, 6, 7, 8, 9, 10, 11, 12, 13, 14, 15, 16, 17], [], .none⟩
def f325r5 : List AOp := [
  ⟨(some 35), .none, .mv (.t 9)⟩,
  ⟨(some 36), .none, .bin .sub .num (.t 35) (.c (.int .i64 1))⟩,
  ⟨(some 9), .none, .mv (.t 36)⟩]
def f325r2 : List AOp := [
  ⟨(some 15), .none, .mv (.t 8)⟩,
  ⟨(some 16), .none, .bin .add .num (.t 15) (.c (.int .i64 1))⟩,
  ⟨(some 8), .none, .mv (.t 16)⟩]
def f325 : AF := ⟨53, [], (.seq (.reg f325r0) (.block 0 (.loop (.seq (.seq (.reg f325r1) (.cond (.t 14) .skip (.exit 0))) (.seq (.block 1 (.seq (.reg f325r3) (.block 2 (.loop (.seq (.seq (.dreg f325r4) (.cond (.t 34) .skip (.exit 2))) (.seq (.block 3 (.dreg f325r6)) (.reg f325r5))))))) (.reg f325r2))))))⟩
/- (*towpath/wire.Reader).Flag -/
def f344r0 : List AOp := [
  ⟨(some 2), .none, .mv (.c (.bool false))⟩]
def f344r1 : List AOp := [
  ⟨(some 3), .none, .mv (.t 0)⟩,
  ⟨(some 4), .none, .call 166 [(.t 3)]⟩,
  ⟨(some 5), .none, .un .not (.t 4)⟩]
def f344r2 : List AOp := [
  ⟨(some 2), .none, .mv (.c (.bool false))⟩]
def f344r3 : DR := ⟨[
  ⟨(some 6), .none, .mv (.t 0)⟩,
  ⟨(some 7), .none, .nilck (.t 6)⟩,
  ⟨(some 8), .none, .faddr 0 (.t 7)⟩,
  ⟨(some 9), .none, .call 168 [(.t 8)]⟩,
  ⟨(some 10), .none, .bin .eql .num (.t 9) (.c (.int .i64 0))⟩,
  ⟨(some 11), .none, .mv (.t 10)⟩,
  ⟨(some 12), (some (11, false)), .mv (.t 0)⟩,
  ⟨(some 13), (some (11, false)), .nilck (.t 12)⟩,
  ⟨(some 14), (some (11, false)), .faddr 0 (.t 13)⟩,
  ⟨(some 15), (some (11, false)), .faddr 0 (.t 14)⟩,
  ⟨(some 16), (some (11, false)), .load1 (.t 15)⟩,
  ⟨(some 17), (some (11, false)), .mv (.t 0)⟩,
  ⟨(some 18), (some (11, false)), .nilck (.t 17)⟩,
  ⟨(some 19), (some (11, false)), .faddr 0 (.t 18)⟩,
  ⟨(some 20), (some (11, false)), .faddr 1 (.t 19)⟩,
  ⟨(some 21), (some (11, false)), .load1 (.t 20)⟩,
  ⟨(some 22), (some (11, false)), .iaddr 1 (.t 16) (.t 21)⟩,
  ⟨(some 23), (some (11, false)), .load1 (.t 22)⟩,
  ⟨(some 24), (some (11, false)), .bin .gtr .num (.t 23) (.c (.int .u8 1))⟩,
  ⟨(some 25), .none, .pick (.t 11) (.c (.bool true)) (.t 24)⟩],
  [0, 1, 3, 7, 15, 31, 63, 127, 255, 511, 1023, 63, 2111, 6207, 14399, 30783, 65535, 131071, 262143, 524287], [0, 1, 2, 3, 4, 5, 6, 7, 8, 9, 10, 11, 12, 13, 14, 15, 16, 17, 18, 19], [], .none⟩
def f344r4 : List AOp := [
  ⟨(some 26), .none, .mv (.t 0)⟩,
  ⟨(some 27), .none, .nilck (.t 26)⟩,
  ⟨(some 28), .none, .faddr 0 (.t 27)⟩,
  ⟨(some 29), .none, .call 169 [(.t 28), (.c (.int .i64 6))]⟩]
def f344r5 : List AOp := [
  ⟨(some 2), .none, .mv (.c (.bool false))⟩]
def f344r6 : List AOp := [
  ⟨(some 30), .none, .mv (.t 0)⟩,
  ⟨(some 31), .none, .nilck (.t 30)⟩,
  ⟨(some 32), .none, .faddr 0 (.t 31)⟩,
  ⟨(some 33), .none, .call 235 [(.t 32), (.c (.int .i64 1))]⟩,
  ⟨(some 34), .none, .iaddr 1 (.t 33) (.c (.int .i64 0))⟩,
  ⟨(some 35), .none, .load1 (.t 34)⟩,
  ⟨(some 36), .none, .bin .eql .num (.t 35) (.c (.int .u8 1))⟩,
  ⟨(some 2), .none, .mv (.t 36)⟩]
def f344 : AF := ⟨37, [.tmp 2], (.seq (.reg f344r0) (.seq (.seq (.reg f344r1) (.cond (.t 5) (.seq (.reg f344r2) .ret) .skip)) (.seq (.seq (.dreg f344r3) (.cond (.t 25) (.seq (.reg f344r4) (.seq (.reg f344r5) .ret)) .skip)) (.seq (.reg f344r6) .ret))))⟩
/- maps.Keys[map[string]*towpath/disk.file,string,*towpath/disk.file]$1 -/
def f346r0 : List AOp := [
  ⟨(some 4), .none, .load1 (.t 1)⟩,
  ⟨(some 5), .none, .range (.t 4)⟩]
def f346r1 : List AOp := [
  ⟨(some 6), .none, .next (.t 5)⟩,
  ⟨(some 7), .none, .ext (.t 6) 0⟩]
def f346r2 : List AOp := [
  ⟨(some 8), .none, .entry (.t 5)⟩,
  ⟨(some 9), .none, .ext (.t 8) 0⟩,
  ⟨(some 3), .none, .mv (.t 9)⟩]
def f346r3 : List AOp := [
  ⟨(some 10), .none, .mv (.t 0)⟩,
  ⟨(some 11), .none, .mv (.t 3)⟩,
  ⟨(some 12), .none, .callv (.t 10) [(.t 11)]⟩,
  ⟨(some 13), .none, .un .not (.t 12)⟩]
def f346 : AF := ⟨14, [], (.seq (.reg f346r0) (.block 0 (.loop (.seq (.reg f346r1) (.seq (.cond (.t 7) .skip (.exit 0)) (.block 1 (.seq (.reg f346r2) (.seq (.reg f346r3) (.cond (.t 13) .ret .skip)))))))))⟩
/- slices.pdqsortOrdered[string] -/
def f348r0 : List AOp := [
  ⟨(some 8), .none, .mv (.c (.bool true))⟩]
def f348r1 : List AOp := [
  ⟨(some 9), .none, .mv (.c (.bool true))⟩]
def f348r2 : List AOp := [
  ⟨(some 19), .none, .mv (.t 2)⟩,
  ⟨(some 20), .none, .mv (.t 1)⟩,
  ⟨(some 21), .none, .bin .sub .num (.t 19) (.t 20)⟩,
  ⟨(some 10), .none, .mv (.t 21)⟩]
def f348r3 : List AOp := [
  ⟨(some 22), .none, .mv (.t 10)⟩,
  ⟨(some 23), .none, .bin .leq .num (.t 22) (.c (.int .i64 12))⟩]
def f348r4 : List AOp := [
  ⟨(some 24), .none, .mv (.t 0)⟩,
  ⟨(some 25), .none, .mv (.t 1)⟩,
  ⟨(some 26), .none, .mv (.t 2)⟩,
  ⟨(some 27), .none, .call 363 [(.t 24), (.t 25), (.t 26)]⟩]
def f348r5 : List AOp := [
  ⟨(some 28), .none, .mv (.t 3)⟩,
  ⟨(some 29), .none, .bin .eql .num (.t 28) (.c (.int .i64 0))⟩]
def f348r6 : List AOp := [
  ⟨(some 30), .none, .mv (.t 0)⟩,
  ⟨(some 31), .none, .mv (.t 1)⟩,
  ⟨(some 32), .none, .mv (.t 2)⟩,
  ⟨(some 33), .none, .call 364 [(.t 30), (.t 31), (.t 32)]⟩]
def f348r7 : List AOp := [
  ⟨(some 34), .none, .mv (.t 8)⟩,
  ⟨(some 35), .none, .un .not (.t 34)⟩]
def f348r8 : List AOp := [
  ⟨(some 36), .none, .mv (.t 0)⟩,
  ⟨(some 37), .none, .mv (.t 1)⟩,
  ⟨(some 38), .none, .mv (.t 2)⟩,
  ⟨(some 39), .none, .call 365 [(.t 36), (.t 37), (.t 38)]⟩]
def f348r9 : List AOp := [
  ⟨(some 40), .none, .mv (.t 3)⟩,
  ⟨(some 41), .none, .bin .sub .num (.t 40) (.c (.int .i64 1))⟩,
  ⟨(some 3), .none, .mv (.t 41)⟩]
def f348r10 : List AOp := [
  ⟨(some 43), .none, .mv (.t 0)⟩,
  ⟨(some 44), .none, .mv (.t 1)⟩,
  ⟨(some 45), .none, .mv (.t 2)⟩,
  ⟨(some 46), .none, .call 366 [(.t 43), (.t 44), (.t 45)]⟩,
  ⟨(some 42), .none, .mv (.t 46)⟩,
  ⟨(some 47), .none, .ext (.t 42) 0⟩,
  ⟨(some 48), .none, .ext (.t 42) 1⟩,
  ⟨(some 11), .none, .mv (.t 47)⟩,
  ⟨(some 12), .none, .mv (.t 48)⟩]
def f348r11 : List AOp := [
  ⟨(some 49), .none, .mv (.t 12)⟩,
  ⟨(some 50), .none, .bin .eql .num (.t 49) (.c (.int .i64 2))⟩]
def f348r12 : List AOp := [
  ⟨(some 51), .none, .mv (.t 0)⟩,
  ⟨(some 52), .none, .mv (.t 1)⟩,
  ⟨(some 53), .none, .mv (.t 2)⟩,
  ⟨(some 54), .none, .call 367 [(.t 51), (.t 52), (.t 53)]⟩]
def f348r13 : List AOp := [
  ⟨(some 55), .none, .mv (.t 2)⟩,
  ⟨(some 56), .none, .bin .sub .num (.t 55) (.c (.int .i64 1))⟩,
  ⟨(some 57), .none, .mv (.t 11)⟩,
  ⟨(some 58), .none, .mv (.t 1)⟩,
  ⟨(some 59), .none, .bin .sub .num (.t 57) (.t 58)⟩,
  ⟨(some 60), .none, .bin .sub .num (.t 56) (.t 59)⟩,
  ⟨(some 11), .none, .mv (.t 60)⟩]
def f348r14 : List AOp := [
  ⟨(some 12), .none, .mv (.c (.int .i64 1))⟩]
def f348r15 : List AOp := [
  ⟨(some 61), .none, .mv (.t 8)⟩,
  ⟨(some 62), .none, .mv (.t 61)⟩,
  ⟨(some 63), (some (62, true)), .mv (.t 9)⟩,
  ⟨(some 64), .none, .pick (.t 62) (.t 63) (.c (.bool false))⟩,
  ⟨(some 65), .none, .mv (.t 64)⟩,
  ⟨(some 66), (some (65, true)), .mv (.t 12)⟩,
  ⟨(some 67), (some (65, true)), .bin .eql .num (.t 66) (.c (.int .i64 1))⟩,
  ⟨(some 68), .none, .pick (.t 65) (.t 67) (.c (.bool false))⟩]
def f348r16 : List AOp := [
  ⟨(some 69), .none, .mv (.t 0)⟩,
  ⟨(some 70), .none, .mv (.t 1)⟩,
  ⟨(some 71), .none, .mv (.t 2)⟩,
  ⟨(some 72), .none, .call 368 [(.t 69), (.t 70), (.t 71)]⟩]
def f348r17 : DR := ⟨[
  ⟨(some 73), .none, .mv (.t 1)⟩,
  ⟨(some 74), .none, .bin .gtr .num (.t 73) (.c (.int .i64 0))⟩,
  ⟨(some 75), .none, .mv (.t 74)⟩,
  ⟨(some 76), (some (75, true)), .mv (.t 0)⟩,
  ⟨(some 77), (some (75, true)), .mv (.t 1)⟩,
  ⟨(some 78), (some (75, true)), .bin .sub .num (.t 77) (.c (.int .i64 1))⟩,
  ⟨(some 79), (some (75, true)), .iaddr 1 (.t 76) (.t 78)⟩,
  ⟨(some 80), (some (75, true)), .load1 (.t 79)⟩,
  ⟨(some 81), (some (75, true)), .mv (.t 0)⟩,
  ⟨(some 82), (some (75, true)), .mv (.t 11)⟩,
  ⟨(some 83), (some (75, true)), .iaddr 1 (.t 81) (.t 82)⟩,
  ⟨(some 84), (some (75, true)), .load1 (.t 83)⟩,
  ⟨(some 85), (some (75, true)), .call 369 [(.t 80), (.t 84)]⟩,
  ⟨(some 86), (some (75, true)), .un .not (.t 85)⟩,
  ⟨(some 87), .none, .pick (.t 75) (.t 86) (.c (.bool false))⟩],
  [0, 1, 3, 7, 7, 23, 63, 127, 7, 7, 775, 1799, 4095, 8191, 16383], [0, 1, 2, 3, 4, 5, 6, 7, 8, 9, 10, 11, 12, 13, 14], [], .none⟩
def f348r18 : List AOp := [
  ⟨(some 88), .none, .mv (.t 0)⟩,
  ⟨(some 89), .none, .mv (.t 1)⟩,
  ⟨(some 90), .none, .mv (.t 2)⟩,
  ⟨(some 91), .none, .mv (.t 11)⟩,
  ⟨(some 92), .none, .call 370 [(.t 88), (.t 89), (.t 90), (.t 91)]⟩,
  ⟨(some 13), .none, .mv (.t 92)⟩]
def f348r19 : List AOp := [
  ⟨(some 93), .none, .mv (.t 13)⟩,
  ⟨(some 1), .none, .mv (.t 93)⟩]
def f348r20 : List AOp := [
  ⟨(some 95), .none, .mv (.t 0)⟩,
  ⟨(some 96), .none, .mv (.t 1)⟩,
  ⟨(some 97), .none, .mv (.t 2)⟩,
  ⟨(some 98), .none, .mv (.t 11)⟩,
  ⟨(some 99), .none, .call 371 [(.t 95), (.t 96), (.t 97), (.t 98)]⟩,
  ⟨(some 94), .none, .mv (.t 99)⟩,
  ⟨(some 100), .none, .ext (.t 94) 0⟩,
  ⟨(some 101), .none, .ext (.t 94) 1⟩,
  ⟨(some 14), .none, .mv (.t 100)⟩,
  ⟨(some 15), .none, .mv (.t 101)⟩]
def f348r21 : List AOp := [
  ⟨(some 102), .none, .mv (.t 15)⟩,
  ⟨(some 9), .none, .mv (.t 102)⟩]
def f348r22 : List AOp := [
  ⟨(some 103), .none, .mv (.t 14)⟩,
  ⟨(some 104), .none, .mv (.t 1)⟩,
  ⟨(some 105), .none, .bin .sub .num (.t 103) (.t 104)⟩,
  ⟨(some 106), .none, .mv (.t 2)⟩,
  ⟨(some 107), .none, .mv (.t 14)⟩,
  ⟨(some 108), .none, .bin .sub .num (.t 106) (.t 107)⟩,
  ⟨(some 16), .none, .mv (.t 105)⟩,
  ⟨(some 17), .none, .mv (.t 108)⟩]
def f348r23 : List AOp := [
  ⟨(some 109), .none, .mv (.t 10)⟩,
  ⟨(some 110), .none, .bin .quo .num (.t 109) (.c (.int .i64 8))⟩,
  ⟨(some 18), .none, .mv (.t 110)⟩]
def f348r24 : List AOp := [
  ⟨(some 111), .none, .mv (.t 16)⟩,
  ⟨(some 112), .none, .mv (.t 17)⟩,
  ⟨(some 113), .none, .bin .lss .num (.t 111) (.t 112)⟩]
def f348r25 : List AOp := [
  ⟨(some 114), .none, .mv (.t 16)⟩,
  ⟨(some 115), .none, .mv (.t 18)⟩,
  ⟨(some 116), .none, .bin .geq .num (.t 114) (.t 115)⟩,
  ⟨(some 8), .none, .mv (.t 116)⟩]
def f348r26 : List AOp := [
  ⟨(some 117), .none, .mv (.t 0)⟩,
  ⟨(some 118), .none, .mv (.t 1)⟩,
  ⟨(some 119), .none, .mv (.t 14)⟩,
  ⟨(some 120), .none, .mv (.t 3)⟩,
  ⟨(some 121), .none, .call 348 [(.t 117), (.t 118), (.t 119), (.t 120)]⟩]
def f348r27 : List AOp := [
  ⟨(some 122), .none, .mv (.t 14)⟩,
  ⟨(some 123), .none, .bin .add .num (.t 122) (.c (.int .i64 1))⟩,
  ⟨(some 1), .none, .mv (.t 123)⟩]
def f348r28 : List AOp := [
  ⟨(some 124), .none, .mv (.t 17)⟩,
  ⟨(some 125), .none, .mv (.t 18)⟩,
  ⟨(some 126), .none, .bin .geq .num (.t 124) (.t 125)⟩,
  ⟨(some 8), .none, .mv (.t 126)⟩]
def f348r29 : List AOp := [
  ⟨(some 127), .none, .mv (.t 0)⟩,
  ⟨(some 128), .none, .mv (.t 14)⟩,
  ⟨(some 129), .none, .bin .add .num (.t 128) (.c (.int .i64 1))⟩,
  ⟨(some 130), .none, .mv (.t 2)⟩,
  ⟨(some 131), .none, .mv (.t 3)⟩,
  ⟨(some 132), .none, .call 348 [(.t 127), (.t 129), (.t 130), (.t 131)]⟩]
def f348r30 : List AOp := [
  ⟨(some 133), .none, .mv (.t 14)⟩,
  ⟨(some 2), .none, .mv (.t 133)⟩]
def f348 : AF := ⟨134, [], (.seq (.reg f348r0) (.seq (.reg f348r1) (.block 0 (.loop (.block 1 (.seq (.reg f348r2) (.seq (.seq (.reg f348r3) (.cond (.t 23) (.seq (.reg f348r4) .ret) .skip)) (.seq (.seq (.reg f348r5) (.cond (.t 29) (.seq (.reg f348r6) .ret) .skip)) (.seq (.seq (.reg f348r7) (.cond (.t 35) (.seq (.reg f348r8) (.reg f348r9)) .skip)) (.seq (.reg f348r10) (.seq (.seq (.reg f348r11) (.cond (.t 50) (.seq (.reg f348r12) (.seq (.reg f348r13) (.reg f348r14))) .skip)) (.seq (.seq (.reg f348r15) (.cond (.t 68) (.seq (.reg f348r16) (.cond (.t 72) .ret .skip)) .skip)) (.seq (.seq (.dreg f348r17) (.cond (.t 87) (.seq (.reg f348r18) (.seq (.reg f348r19) (.exit 1))) .skip)) (.seq (.reg f348r20) (.seq (.reg f348r21) (.seq (.reg f348r22) (.seq (.reg f348r23) (.seq (.reg f348r24) (.cond (.t 113) (.seq (.reg f348r25) (.seq (.reg f348r26) (.reg f348r27))) (.seq (.reg f348r28) (.seq (.reg f348r29) (.reg f348r30))))))))))))))))))))))⟩
/- towpath/index.may -/
def f349r0 : List AOp := [
  ⟨(some 6), .none, .mv (.c (.bool false))⟩]
def f349r1 : List AOp := [
  ⟨(some 7), .none, .mv (.t 0)⟩,
  ⟨(some 8), .none, .bin .geq .num (.t 7) (.c (.int .i64 0))⟩,
  ⟨(some 9), .none, .mv (.t 8)⟩,
  ⟨(some 10), (some (9, true)), .mv (.t 0)⟩,
  ⟨(some 11), (some (9, true)), .bin .leq .num (.t 10) (.c (.int .i64 1099511627776))⟩,
  ⟨(some 12), .none, .pick (.t 9) (.t 11) (.c (.bool false))⟩,
  ⟨(some 13), .none, .mv (.t 12)⟩,
  ⟨(some 14), (some (13, true)), .mv (.t 1)⟩,
  ⟨(some 15), (some (13, true)), .bin .geq .num (.t 14) (.c (.int .i64 0))⟩,
  ⟨(some 16), .none, .pick (.t 13) (.t 15) (.c (.bool false))⟩,
  ⟨(some 17), .none, .mv (.t 16)⟩,
  ⟨(some 18), (some (17, true)), .mv (.t 1)⟩,
  ⟨(some 19), (some (17, true)), .bin .leq .num (.t 18) (.c (.int .i64 4194304))⟩,
  ⟨(some 20), .none, .pick (.t 17) (.t 19) (.c (.bool false))⟩,
  ⟨(some 21), .none, .mv (.t 20)⟩,
  ⟨(some 22), (some (21, true)), .mv (.t 2)⟩,
  ⟨(some 23), (some (21, true)), .bin .geq .num (.t 22) (.c (.int .i64 0))⟩,
  ⟨(some 24), .none, .pick (.t 21) (.t 23) (.c (.bool false))⟩,
  ⟨(some 25), .none, .mv (.t 24)⟩,
  ⟨(some 26), (some (25, true)), .mv (.t 2)⟩,
  ⟨(some 27), (some (25, true)), .bin .leq .num (.t 26) (.c (.int .i64 1099511627776))⟩,
  ⟨(some 28), .none, .pick (.t 25) (.t 27) (.c (.bool false))⟩,
  ⟨(some 6), .none, .mv (.t 28)⟩]
def f349 : AF := ⟨29, [.tmp 6], (.seq (.reg f349r0) (.seq (.reg f349r1) .ret))⟩
/- slices.insertionSortOrdered[string] -/
def f363r0 : List AOp := [
  ⟨(some 8), .none, .mv (.t 1)⟩,
  ⟨(some 9), .none, .bin .add .num (.t 8) (.c (.int .i64 1))⟩,
  ⟨(some 6), .none, .mv (.t 9)⟩]
def f363r1 : List AOp := [
  ⟨(some 10), .none, .mv (.t 6)⟩,
  ⟨(some 11), .none, .mv (.t 2)⟩,
  ⟨(some 12), .none, .bin .lss .num (.t 10) (.t 11)⟩]
def f363r3 : List AOp := [
  ⟨(some 15), .none, .mv (.t 6)⟩,
  ⟨(some 7), .none, .mv (.t 15)⟩]
def f363r4 : DR := ⟨[
  ⟨(some 16), .none, .mv (.t 7)⟩,
  ⟨(some 17), .none, .mv (.t 1)⟩,
  ⟨(some 18), .none, .bin .gtr .num (.t 16) (.t 17)⟩,
  ⟨(some 19), .none, .mv (.t 18)⟩,
  ⟨(some 20), (some (19, true)), .mv (.t 0)⟩,
  ⟨(some 21), (some (19, true)), .mv (.t 7)⟩,
  ⟨(some 22), (some (19, true)), .iaddr 1 (.t 20) (.t 21)⟩,
  ⟨(some 23), (some (19, true)), .load1 (.t 22)⟩,
  ⟨(some 24), (some (19, true)), .mv (.t 0)⟩,
  ⟨(some 25), (some (19, true)), .mv (.t 7)⟩,
  ⟨(some 26), (some (19, true)), .bin .sub .num (.t 25) (.c (.int .i64 1))⟩,
  ⟨(some 27), (some (19, true)), .iaddr 1 (.t 24) (.t 26)⟩,
  ⟨(some 28), (some (19, true)), .load1 (.t 27)⟩,
  ⟨(some 29), (some (19, true)), .call 369 [(.t 23), (.t 28)]⟩,
  ⟨(some 30), .none, .pick (.t 19) (.t 29) (.c (.bool false))⟩],
  [0, 0, 3, 7, 15, 15, 63, 127, 15, 15, 527, 1807, 3855, 8191, 16383], [0, 1, 2, 3, 4, 5, 6, 7, 8, 9, 10, 11, 12, 13, 14], [], .none⟩
def f363r6 : DR := ⟨[
  ⟨(some 33), .none, .mv (.t 0)⟩,
  ⟨(some 34), .none, .mv (.t 7)⟩,
  ⟨(some 35), .none, .mv (.t 0)⟩,
  ⟨(some 36), .none, .mv (.t 7)⟩,
  ⟨(some 37), .none, .bin .sub .num (.t 36) (.c (.int .i64 1))⟩,
  ⟨(some 38), .none, .mv (.t 0)⟩,
  ⟨(some 39), .none, .mv (.t 7)⟩,
  ⟨(some 40), .none, .bin .sub .num (.t 39) (.c (.int .i64 1))⟩,
  ⟨(some 41), .none, .iaddr 1 (.t 38) (.t 40)⟩,
  ⟨(some 42), .none, .load1 (.t 41)⟩,
  ⟨(some 43), .none, .mv (.t 0)⟩,
  ⟨(some 44), .none, .mv (.t 7)⟩,
  ⟨(some 45), .none, .iaddr 1 (.t 43) (.t 44)⟩,
  ⟨(some 46), .none, .load1 (.t 45)⟩,
  ⟨(some 47), .none, .iaddr 1 (.t 33) (.t 34)⟩,
  ⟨.none, .none, .store 1 (.t 47) (.t 42)⟩,
  ⟨(some 48), .none, .iaddr 1 (.t 35) (.t 37)⟩,
  ⟨.none, .none, .store 1 (.t 48) (.t 46)⟩],
  [0, 0, 0, 0, 8, 0, 0, 64, 224, 480, 0, 0, 3072, 7168, 16355, 32739, 65535, 131071], [0, 1, 2, 3, 4, 5, 6, 7, 8, 9, 10, 11, 12, 13, 14, 15, 16, 17], [], .none⟩
def f363r5 : List AOp := [
  ⟨(some 31), .none, .mv (.t 7)⟩,
  ⟨(some 32), .none, .bin .sub .num (.t 31) (.c (.int .i64 1))⟩,
  ⟨(some 7), .none, .mv (.t 32)⟩]
def f363r2 : List AOp := [
  ⟨(some 13), .none, .mv (.t 6)⟩,
  ⟨(some 14), .none, .bin .add .num (.t 13) (.c (.int .i64 1))⟩,
  ⟨(some 6), .none, .mv (.t 14)⟩]
def f363 : AF := ⟨49, [], (.seq (.reg f363r0) (.block 0 (.loop (.seq (.seq (.reg f363r1) (.cond (.t 12) .skip (.exit 0))) (.seq (.block 1 (.seq (.reg f363r3) (.block 2 (.loop (.seq (.seq (.dreg f363r4) (.cond (.t 30) .skip (.exit 2))) (.seq (.block 3 (.dreg f363r6)) (.reg f363r5))))))) (.reg f363r2))))))⟩
end Go.AM.P
