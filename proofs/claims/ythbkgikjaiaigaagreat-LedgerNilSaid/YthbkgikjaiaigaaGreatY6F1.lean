import Derived.Test.YthbkgikjaiaigaaGreatAmGg
namespace Go.AM.P
set_option linter.all false
/- disk_Disk_Append -/
def f_disk_Disk_Append_r0 : List AOp := [
  ⟨(some 6), .none, .mv (.c (.int .i64 0))⟩]
def f_disk_Disk_Append_r1 : List AOp := [
  ⟨(some 16), .none, .mv (.t 0)⟩,
  ⟨(some 17), .none, .call 144 [(.t 16)]⟩,
  ⟨(some 7), .none, .mv (.t 17)⟩]
def f_disk_Disk_Append_r2 : List AOp := [
  ⟨(some 18), .none, .mv (.t 7)⟩,
  ⟨(some 19), .none, .bin .neq .num (.t 18) (.c (.int .i64 0))⟩]
def f_disk_Disk_Append_r3 : List AOp := [
  ⟨(some 20), .none, .mv (.t 7)⟩,
  ⟨(some 6), .none, .mv (.t 20)⟩]
def f_disk_Disk_Append_c0 : AC := .ret
def f_disk_Disk_Append_c1 : AC := (.cond (.t 19) (.seq (.reg f_disk_Disk_Append_r3) f_disk_Disk_Append_c0) .skip)
def f_disk_Disk_Append_c2 : AC := (.seq (.reg f_disk_Disk_Append_r2) f_disk_Disk_Append_c1)
def f_disk_Disk_Append_r4 : List AOp := [
  ⟨(some 21), .none, .mv (.t 1)⟩,
  ⟨(some 22), .none, .call 266 [(.t 21)]⟩,
  ⟨(some 23), .none, .un .not (.t 22)⟩]
def f_disk_Disk_Append_r5 : List AOp := [
  ⟨(some 6), .none, .mv (.c (.int .i64 2))⟩]
def f_disk_Disk_Append_c3 : AC := .ret
def f_disk_Disk_Append_c4 : AC := (.cond (.t 23) (.seq (.reg f_disk_Disk_Append_r5) f_disk_Disk_Append_c3) .skip)
def f_disk_Disk_Append_r6 : List AOp := [
  ⟨(some 8), .none, .mv (.c (.int .i64 0))⟩]
def f_disk_Disk_Append_r7 : List AOp := [
  ⟨(some 24), .none, .mv (.t 2)⟩,
  ⟨(some 25), .none, .len .slice (.t 24)⟩,
  ⟨(some 26), .none, .mv (.c (.int .i64 0))⟩]
def f_disk_Disk_Append_r8 : List AOp := [
  ⟨(some 27), .none, .bin .lss .num (.t 26) (.t 25)⟩]
def f_disk_Disk_Append_r9 : List AOp := [
  ⟨(some 28), .none, .iaddr 1 (.t 24) (.t 26)⟩,
  ⟨(some 29), .none, .load1 (.t 28)⟩,
  ⟨(some 10), .none, .mv (.t 29)⟩]
def f_disk_Disk_Append_r10 : List AOp := [
  ⟨(some 30), .none, .mv (.t 10)⟩,
  ⟨(some 31), .none, .len .slice (.t 30)⟩,
  ⟨(some 32), .none, .mv (.t 0)⟩,
  ⟨(some 33), .none, .call 267 [(.t 32)]⟩,
  ⟨(some 34), .none, .mv (.t 8)⟩,
  ⟨(some 35), .none, .bin .sub .num (.t 33) (.t 34)⟩,
  ⟨(some 36), .none, .bin .gtr .num (.t 31) (.t 35)⟩]
def f_disk_Disk_Append_r11 : List AOp := [
  ⟨(some 6), .none, .mv (.c (.int .i64 5))⟩]
def f_disk_Disk_Append_c5 : AC := .ret
def f_disk_Disk_Append_c6 : AC := (.cond (.t 36) (.seq (.reg f_disk_Disk_Append_r11) f_disk_Disk_Append_c5) .skip)
def f_disk_Disk_Append_r12 : List AOp := [
  ⟨(some 37), .none, .mv (.t 8)⟩,
  ⟨(some 38), .none, .mv (.t 10)⟩,
  ⟨(some 39), .none, .len .slice (.t 38)⟩,
  ⟨(some 40), .none, .bin .add .num (.t 37) (.t 39)⟩,
  ⟨(some 8), .none, .mv (.t 40)⟩]
def f_disk_Disk_Append_c7 : AC := (.reg f_disk_Disk_Append_r12)
def f_disk_Disk_Append_c8 : AC := (.seq (.seq (.reg f_disk_Disk_Append_r10) f_disk_Disk_Append_c6) f_disk_Disk_Append_c7)
def f_disk_Disk_Append_r13 : List AOp := [
  ⟨(some 41), .none, .bin .add .num (.t 26) (.c (.int .i64 1))⟩,
  ⟨(some 26), .none, .mv (.t 41)⟩]
def f_disk_Disk_Append_c9 : AC := (.reg f_disk_Disk_Append_r13)
def f_disk_Disk_Append_c10 : AC := (.seq (.block 1 (.seq (.reg f_disk_Disk_Append_r9) f_disk_Disk_Append_c8)) f_disk_Disk_Append_c9)
def f_disk_Disk_Append_c11 : AC := (.seq (.cond (.t 27) .skip (.exit 0)) f_disk_Disk_Append_c10)
def f_disk_Disk_Append_c12 : AC := (.seq (.reg f_disk_Disk_Append_r8) f_disk_Disk_Append_c11)
def f_disk_Disk_Append_c13 : AC := (.block 0 (.keep 7 [0, 1, 2, 8, 24, 25, 26] (.loop (.keep 7 [0, 1, 2, 8, 24, 25, 26] f_disk_Disk_Append_c12))))
def f_disk_Disk_Append_r14 : List AOp := [
  ⟨(some 43), .none, .mv (.t 0)⟩,
  ⟨(some 44), .none, .nilck (.t 43)⟩,
  ⟨(some 45), .none, .faddr 4 (.t 44)⟩,
  ⟨(some 46), .none, .load1 (.t 45)⟩,
  ⟨(some 47), .none, .mv (.t 1)⟩,
  ⟨(some 48), .none, .look .str .nilp true (.t 46) (.t 47)⟩,
  ⟨(some 42), .none, .mv (.t 48)⟩,
  ⟨(some 49), .none, .ext (.t 42) 0⟩,
  ⟨(some 50), .none, .ext (.t 42) 1⟩,
  ⟨(some 11), .none, .mv (.t 49)⟩,
  ⟨(some 12), .none, .mv (.t 50)⟩]
def f_disk_Disk_Append_r15 : List AOp := [
  ⟨(some 51), .none, .mv (.t 12)⟩,
  ⟨(some 52), .none, .un .not (.t 51)⟩]
def f_disk_Disk_Append_r16 : List AOp := [
  ⟨(some 53), .none, .mv (.t 0)⟩,
  ⟨(some 54), .none, .nilck (.t 53)⟩,
  ⟨(some 55), .none, .faddr 4 (.t 54)⟩,
  ⟨(some 56), .none, .load1 (.t 55)⟩,
  ⟨(some 57), .none, .len .map (.t 56)⟩,
  ⟨(some 58), .none, .bin .geq .num (.t 57) (.c (.int .i64 128))⟩]
def f_disk_Disk_Append_r17 : List AOp := [
  ⟨(some 6), .none, .mv (.c (.int .i64 5))⟩]
def f_disk_Disk_Append_c14 : AC := .ret
def f_disk_Disk_Append_c15 : AC := (.cond (.t 58) (.seq (.reg f_disk_Disk_Append_r17) f_disk_Disk_Append_c14) .skip)
def f_disk_Disk_Append_r18 : List AOp := [
  ⟨(some 59), .none, .build [.nils, (.int .i64 0)] []⟩,
  ⟨(some 60), .none, .box (.t 59)⟩,
  ⟨(some 11), .none, .mv (.t 60)⟩]
def f_disk_Disk_Append_r19 : List AOp := [
  ⟨(some 61), .none, .mv (.t 0)⟩,
  ⟨(some 62), .none, .nilck (.t 61)⟩,
  ⟨(some 63), .none, .faddr 4 (.t 62)⟩,
  ⟨(some 64), .none, .load1 (.t 63)⟩,
  ⟨(some 65), .none, .mv (.t 1)⟩,
  ⟨(some 66), .none, .mv (.t 11)⟩,
  ⟨.none, .none, .mapup .str (.t 64) (.t 65) (.t 66)⟩]
def f_disk_Disk_Append_c16 : AC := (.reg f_disk_Disk_Append_r19)
def f_disk_Disk_Append_c17 : AC := (.seq (.reg f_disk_Disk_Append_r18) f_disk_Disk_Append_c16)
def f_disk_Disk_Append_c18 : AC := (.cond (.t 52) (.seq (.seq (.reg f_disk_Disk_Append_r16) f_disk_Disk_Append_c15) f_disk_Disk_Append_c17) .skip)
def f_disk_Disk_Append_r20 : List AOp := [
  ⟨(some 67), .none, .mv (.t 2)⟩,
  ⟨(some 68), .none, .len .slice (.t 67)⟩,
  ⟨(some 69), .none, .mv (.c (.int .i64 0))⟩]
def f_disk_Disk_Append_r21 : List AOp := [
  ⟨(some 70), .none, .bin .lss .num (.t 69) (.t 68)⟩]
def f_disk_Disk_Append_r22 : List AOp := [
  ⟨(some 71), .none, .iaddr 1 (.t 67) (.t 69)⟩,
  ⟨(some 72), .none, .load1 (.t 71)⟩,
  ⟨(some 14), .none, .mv (.t 72)⟩]
def f_disk_Disk_Append_r23 : List AOp := [
  ⟨(some 73), .none, .mv (.t 11)⟩,
  ⟨(some 74), .none, .nilck (.t 73)⟩,
  ⟨(some 75), .none, .faddr 0 (.t 74)⟩,
  ⟨(some 76), .none, .load1 (.t 75)⟩,
  ⟨(some 77), .none, .mv (.t 14)⟩,
  ⟨(some 78), .none, .app false 1 1 (.t 76) (.t 77)⟩,
  ⟨(some 15), .none, .mv (.t 78)⟩]
def f_disk_Disk_Append_r24 : List AOp := [
  ⟨(some 79), .none, .mv (.t 11)⟩,
  ⟨(some 80), .none, .mv (.t 15)⟩,
  ⟨(some 81), .none, .nilck (.t 79)⟩,
  ⟨(some 82), .none, .faddr 0 (.t 81)⟩,
  ⟨.none, .none, .store 1 (.t 82) (.t 80)⟩]
def f_disk_Disk_Append_c19 : AC := (.reg f_disk_Disk_Append_r24)
def f_disk_Disk_Append_c20 : AC := (.seq (.reg f_disk_Disk_Append_r23) f_disk_Disk_Append_c19)
def f_disk_Disk_Append_r25 : List AOp := [
  ⟨(some 83), .none, .bin .add .num (.t 69) (.c (.int .i64 1))⟩,
  ⟨(some 69), .none, .mv (.t 83)⟩]
def f_disk_Disk_Append_c21 : AC := (.reg f_disk_Disk_Append_r25)
def f_disk_Disk_Append_c22 : AC := (.seq (.block 3 (.seq (.reg f_disk_Disk_Append_r22) f_disk_Disk_Append_c20)) f_disk_Disk_Append_c21)
def f_disk_Disk_Append_c23 : AC := (.seq (.cond (.t 70) .skip (.exit 2)) f_disk_Disk_Append_c22)
def f_disk_Disk_Append_c24 : AC := (.seq (.reg f_disk_Disk_Append_r21) f_disk_Disk_Append_c23)
def f_disk_Disk_Append_c25 : AC := (.block 2 (.keep 7 [0, 8, 11, 67, 68, 69] (.loop (.keep 7 [0, 8, 11, 67, 68, 69] f_disk_Disk_Append_c24))))
def f_disk_Disk_Append_r26 : List AOp := [
  ⟨(some 84), .none, .mv (.t 0)⟩,
  ⟨(some 85), .none, .nilck (.t 84)⟩,
  ⟨(some 86), .none, .faddr 3 (.t 85)⟩,
  ⟨(some 87), .none, .load1 (.t 86)⟩,
  ⟨(some 88), .none, .mv (.t 8)⟩,
  ⟨(some 89), .none, .bin .add .num (.t 87) (.t 88)⟩,
  ⟨(some 90), .none, .nilck (.t 84)⟩,
  ⟨(some 91), .none, .faddr 3 (.t 90)⟩,
  ⟨.none, .none, .store 1 (.t 91) (.t 89)⟩]
def f_disk_Disk_Append_r27 : List AOp := [
  ⟨(some 92), .none, .mv (.t 0)⟩,
  ⟨(some 93), .none, .nilck (.t 92)⟩,
  ⟨(some 94), .none, .faddr 0 (.t 93)⟩,
  ⟨(some 95), .none, .call 146 [(.t 94)]⟩]
def f_disk_Disk_Append_r28 : List AOp := [
  ⟨(some 6), .none, .mv (.c (.int .i64 0))⟩]
def f_disk_Disk_Append_c26 : AC := .ret
def f_disk_Disk_Append_c27 : AC := (.seq (.reg f_disk_Disk_Append_r28) f_disk_Disk_Append_c26)
def f_disk_Disk_Append_c28 : AC := (.seq (.reg f_disk_Disk_Append_r27) f_disk_Disk_Append_c27)
def f_disk_Disk_Append_c29 : AC := (.seq (.reg f_disk_Disk_Append_r26) f_disk_Disk_Append_c28)
def f_disk_Disk_Append_c30 : AC := (.keep 7 [0, 2, 8, 11] (.seq (.seq (.reg f_disk_Disk_Append_r20) f_disk_Disk_Append_c25) f_disk_Disk_Append_c29))
def f_disk_Disk_Append_c31 : AC := (.seq (.seq (.reg f_disk_Disk_Append_r15) f_disk_Disk_Append_c18) f_disk_Disk_Append_c30)
def f_disk_Disk_Append_c32 : AC := (.seq (.reg f_disk_Disk_Append_r14) f_disk_Disk_Append_c31)
def f_disk_Disk_Append_c33 : AC := (.seq (.seq (.reg f_disk_Disk_Append_r7) f_disk_Disk_Append_c13) f_disk_Disk_Append_c32)
def f_disk_Disk_Append_c34 : AC := (.seq (.reg f_disk_Disk_Append_r6) f_disk_Disk_Append_c33)
def f_disk_Disk_Append_c35 : AC := (.seq (.seq (.reg f_disk_Disk_Append_r4) f_disk_Disk_Append_c4) f_disk_Disk_Append_c34)
def f_disk_Disk_Append_c36 : AC := (.seq (.seq (.reg f_disk_Disk_Append_r1) f_disk_Disk_Append_c2) f_disk_Disk_Append_c35)
def f_disk_Disk_Append : AF := ⟨96, [.tmp 6], (.seq (.reg f_disk_Disk_Append_r0) f_disk_Disk_Append_c36)⟩
/- disk_Disk_Sync -/
def f_disk_Disk_Sync_r0 : List AOp := [
  ⟨(some 4), .none, .mv (.c (.int .i64 0))⟩]
def f_disk_Disk_Sync_r1 : List AOp := [
  ⟨(some 11), .none, .mv (.t 0)⟩,
  ⟨(some 12), .none, .call 144 [(.t 11)]⟩,
  ⟨(some 5), .none, .mv (.t 12)⟩]
def f_disk_Disk_Sync_r2 : List AOp := [
  ⟨(some 13), .none, .mv (.t 5)⟩,
  ⟨(some 14), .none, .bin .neq .num (.t 13) (.c (.int .i64 0))⟩]
def f_disk_Disk_Sync_r3 : List AOp := [
  ⟨(some 15), .none, .mv (.t 5)⟩,
  ⟨(some 4), .none, .mv (.t 15)⟩]
def f_disk_Disk_Sync_c0 : AC := .ret
def f_disk_Disk_Sync_c1 : AC := (.cond (.t 14) (.seq (.reg f_disk_Disk_Sync_r3) f_disk_Disk_Sync_c0) .skip)
def f_disk_Disk_Sync_c2 : AC := (.seq (.reg f_disk_Disk_Sync_r2) f_disk_Disk_Sync_c1)
def f_disk_Disk_Sync_r4 : List AOp := [
  ⟨(some 16), .none, .mv (.t 1)⟩,
  ⟨(some 17), .none, .len .slice (.t 16)⟩,
  ⟨(some 18), .none, .mv (.c (.int .i64 0))⟩]
def f_disk_Disk_Sync_r5 : List AOp := [
  ⟨(some 19), .none, .bin .lss .num (.t 18) (.t 17)⟩]
def f_disk_Disk_Sync_r6 : List AOp := [
  ⟨(some 20), .none, .iaddr 1 (.t 16) (.t 18)⟩,
  ⟨(some 21), .none, .load1 (.t 20)⟩,
  ⟨(some 7), .none, .mv (.t 21)⟩]
def f_disk_Disk_Sync_r7 : List AOp := [
  ⟨(some 22), .none, .mv (.t 0)⟩,
  ⟨(some 23), .none, .nilck (.t 22)⟩,
  ⟨(some 24), .none, .faddr 4 (.t 23)⟩,
  ⟨(some 25), .none, .load1 (.t 24)⟩,
  ⟨(some 26), .none, .mv (.t 7)⟩,
  ⟨(some 27), .none, .look .str .nilp false (.t 25) (.t 26)⟩,
  ⟨(some 28), .none, .bin .eql .ptr (.t 27) (.c .nilp)⟩]
def f_disk_Disk_Sync_r8 : List AOp := [
  ⟨(some 4), .none, .mv (.c (.int .i64 3))⟩]
def f_disk_Disk_Sync_c3 : AC := .ret
def f_disk_Disk_Sync_c4 : AC := (.cond (.t 28) (.seq (.reg f_disk_Disk_Sync_r8) f_disk_Disk_Sync_c3) .skip)
def f_disk_Disk_Sync_c5 : AC := (.seq (.reg f_disk_Disk_Sync_r7) f_disk_Disk_Sync_c4)
def f_disk_Disk_Sync_r9 : List AOp := [
  ⟨(some 29), .none, .bin .add .num (.t 18) (.c (.int .i64 1))⟩,
  ⟨(some 18), .none, .mv (.t 29)⟩]
def f_disk_Disk_Sync_c6 : AC := (.reg f_disk_Disk_Sync_r9)
def f_disk_Disk_Sync_c7 : AC := (.seq (.block 1 (.seq (.reg f_disk_Disk_Sync_r6) f_disk_Disk_Sync_c5)) f_disk_Disk_Sync_c6)
def f_disk_Disk_Sync_c8 : AC := (.seq (.cond (.t 19) .skip (.exit 0)) f_disk_Disk_Sync_c7)
def f_disk_Disk_Sync_c9 : AC := (.seq (.reg f_disk_Disk_Sync_r5) f_disk_Disk_Sync_c8)
def f_disk_Disk_Sync_c10 : AC := (.block 0 (.keep 6 [0, 1, 16, 17, 18] (.loop (.keep 6 [0, 1, 16, 17, 18] f_disk_Disk_Sync_c9))))
def f_disk_Disk_Sync_r10 : List AOp := [
  ⟨(some 30), .none, .mv (.t 1)⟩,
  ⟨(some 31), .none, .len .slice (.t 30)⟩,
  ⟨(some 32), .none, .bin .eql .num (.t 31) (.c (.int .i64 0))⟩]
def f_disk_Disk_Sync_r11 : List AOp := [
  ⟨(some 33), .none, .mv (.t 0)⟩,
  ⟨(some 34), .none, .call 226 [(.t 33), (.c (.str []))]⟩,
  ⟨(some 1), .none, .mv (.t 34)⟩]
def f_disk_Disk_Sync_c11 : AC := (.cond (.t 32) (.reg f_disk_Disk_Sync_r11) .skip)
def f_disk_Disk_Sync_r12 : List AOp := [
  ⟨(some 35), .none, .mv (.t 1)⟩,
  ⟨(some 36), .none, .len .slice (.t 35)⟩,
  ⟨(some 37), .none, .mv (.c (.int .i64 0))⟩]
def f_disk_Disk_Sync_r13 : List AOp := [
  ⟨(some 38), .none, .bin .lss .num (.t 37) (.t 36)⟩]
def f_disk_Disk_Sync_r14 : List AOp := [
  ⟨(some 39), .none, .iaddr 1 (.t 35) (.t 37)⟩,
  ⟨(some 40), .none, .load1 (.t 39)⟩,
  ⟨(some 9), .none, .mv (.t 40)⟩]
def f_disk_Disk_Sync_r15 : List AOp := [
  ⟨(some 41), .none, .mv (.t 0)⟩,
  ⟨(some 42), .none, .nilck (.t 41)⟩,
  ⟨(some 43), .none, .faddr 4 (.t 42)⟩,
  ⟨(some 44), .none, .load1 (.t 43)⟩,
  ⟨(some 45), .none, .mv (.t 9)⟩,
  ⟨(some 46), .none, .look .str .nilp false (.t 44) (.t 45)⟩,
  ⟨(some 10), .none, .mv (.t 46)⟩]
def f_disk_Disk_Sync_r16 : List AOp := [
  ⟨(some 47), .none, .mv (.t 10)⟩,
  ⟨(some 48), .none, .mv (.t 10)⟩,
  ⟨(some 49), .none, .nilck (.t 48)⟩,
  ⟨(some 50), .none, .faddr 0 (.t 49)⟩,
  ⟨(some 51), .none, .load1 (.t 50)⟩,
  ⟨(some 52), .none, .len .slice (.t 51)⟩,
  ⟨(some 53), .none, .nilck (.t 47)⟩,
  ⟨(some 54), .none, .faddr 1 (.t 53)⟩,
  ⟨.none, .none, .store 1 (.t 54) (.t 52)⟩]
def f_disk_Disk_Sync_c12 : AC := (.reg f_disk_Disk_Sync_r16)
def f_disk_Disk_Sync_c13 : AC := (.seq (.reg f_disk_Disk_Sync_r15) f_disk_Disk_Sync_c12)
def f_disk_Disk_Sync_r17 : List AOp := [
  ⟨(some 55), .none, .bin .add .num (.t 37) (.c (.int .i64 1))⟩,
  ⟨(some 37), .none, .mv (.t 55)⟩]
def f_disk_Disk_Sync_c14 : AC := (.reg f_disk_Disk_Sync_r17)
def f_disk_Disk_Sync_c15 : AC := (.seq (.block 3 (.seq (.reg f_disk_Disk_Sync_r14) f_disk_Disk_Sync_c13)) f_disk_Disk_Sync_c14)
def f_disk_Disk_Sync_c16 : AC := (.seq (.cond (.t 38) .skip (.exit 2)) f_disk_Disk_Sync_c15)
def f_disk_Disk_Sync_c17 : AC := (.seq (.reg f_disk_Disk_Sync_r13) f_disk_Disk_Sync_c16)
def f_disk_Disk_Sync_c18 : AC := (.block 2 (.keep 6 [0, 35, 36, 37] (.loop (.keep 6 [0, 35, 36, 37] f_disk_Disk_Sync_c17))))
def f_disk_Disk_Sync_r18 : List AOp := [
  ⟨(some 56), .none, .mv (.t 0)⟩,
  ⟨(some 57), .none, .nilck (.t 56)⟩,
  ⟨(some 58), .none, .faddr 0 (.t 57)⟩,
  ⟨(some 59), .none, .call 146 [(.t 58)]⟩]
def f_disk_Disk_Sync_r19 : List AOp := [
  ⟨(some 4), .none, .mv (.c (.int .i64 0))⟩]
def f_disk_Disk_Sync_c19 : AC := .ret
def f_disk_Disk_Sync_c20 : AC := (.seq (.reg f_disk_Disk_Sync_r19) f_disk_Disk_Sync_c19)
def f_disk_Disk_Sync_c21 : AC := (.seq (.reg f_disk_Disk_Sync_r18) f_disk_Disk_Sync_c20)
def f_disk_Disk_Sync_c22 : AC := (.keep 6 [0, 1] (.seq (.seq (.reg f_disk_Disk_Sync_r12) f_disk_Disk_Sync_c18) f_disk_Disk_Sync_c21))
def f_disk_Disk_Sync_c23 : AC := (.seq (.seq (.reg f_disk_Disk_Sync_r10) f_disk_Disk_Sync_c11) f_disk_Disk_Sync_c22)
def f_disk_Disk_Sync_c24 : AC := (.seq (.seq (.reg f_disk_Disk_Sync_r4) f_disk_Disk_Sync_c10) f_disk_Disk_Sync_c23)
def f_disk_Disk_Sync_c25 : AC := (.seq (.seq (.reg f_disk_Disk_Sync_r1) f_disk_Disk_Sync_c2) f_disk_Disk_Sync_c24)
def f_disk_Disk_Sync : AF := ⟨60, [.tmp 4], (.seq (.reg f_disk_Disk_Sync_r0) f_disk_Disk_Sync_c25)⟩
/- compact_rise -/
def f_compact_rise_r0 : List AOp := [
  ⟨(some 4), .none, .mv (.c (.bool false))⟩]
def f_compact_rise_r1 : List AOp := [
  ⟨(some 7), .none, .mv (.t 1)⟩,
  ⟨(some 8), .none, .len .slice (.t 7)⟩,
  ⟨(some 9), .none, .mv (.c (.int .i64 0))⟩]
def f_compact_rise_r2 : List AOp := [
  ⟨(some 10), .none, .bin .lss .num (.t 9) (.t 8)⟩]
def f_compact_rise_r3 : List AOp := [
  ⟨(some 11), .none, .mv (.t 9)⟩,
  ⟨(some 12), .none, .iaddr 5 (.t 7) (.t 9)⟩,
  ⟨(some 13), .none, .loadn 5 (.t 12)⟩,
  ⟨(some 6), .none, .alloc [(.int .i64 0), (.str []), (.str []), (.bool false), (.int .i64 0)]⟩,
  ⟨(some 5), .none, .mv (.t 11)⟩,
  ⟨.none, .none, .store 5 (.t 6) (.t 13)⟩]
def f_compact_rise_r4 : DR := ⟨[
  ⟨(some 14), .none, .mv (.t 5)⟩,
  ⟨(some 15), .none, .bin .eql .num (.t 14) (.c (.int .i64 0))⟩,
  ⟨(some 16), .none, .mv (.t 15)⟩,
  ⟨(some 17), (some (16, true)), .faddr 0 (.t 6)⟩,
  ⟨(some 18), (some (16, true)), .load1 (.t 17)⟩,
  ⟨(some 19), (some (16, true)), .mv (.t 0)⟩,
  ⟨(some 20), (some (16, true)), .bin .lss .num (.t 18) (.t 19)⟩,
  ⟨(some 21), .none, .pick (.t 16) (.t 20) (.c (.bool false))⟩,
  ⟨(some 22), .none, .mv (.t 21)⟩,
  ⟨(some 23), (some (22, false)), .mv (.t 5)⟩,
  ⟨(some 24), (some (22, false)), .bin .gtr .num (.t 23) (.c (.int .i64 0))⟩,
  ⟨(some 25), (some (22, false)), .mv (.t 24)⟩,
  ⟨(some 26), (some (25, true)), .faddr 0 (.t 6)⟩,
  ⟨(some 27), (some (25, true)), .load1 (.t 26)⟩,
  ⟨(some 28), (some (25, true)), .mv (.t 1)⟩,
  ⟨(some 29), (some (25, true)), .mv (.t 5)⟩,
  ⟨(some 30), (some (25, true)), .bin .sub .num (.t 29) (.c (.int .i64 1))⟩,
  ⟨(some 31), (some (25, true)), .iaddr 5 (.t 28) (.t 30)⟩,
  ⟨(some 32), (some (25, true)), .faddr 0 (.t 31)⟩,
  ⟨(some 33), (some (25, true)), .load1 (.t 32)⟩,
  ⟨(some 34), (some (25, true)), .bin .leq .num (.t 27) (.t 33)⟩,
  ⟨(some 35), (some (22, false)), .pick (.t 25) (.t 34) (.c (.bool false))⟩,
  ⟨(some 36), .none, .pick (.t 22) (.c (.bool true)) (.t 35)⟩],
  [0, 1, 3, 7, 15, 7, 63, 127, 255, 511, 1023, 2047, 4095, 8191, 4095, 4095, 36863, 118783, 249855, 511999, 1048575, 2097151, 4194303], [0, 1, 2, 3, 4, 5, 6, 7, 8, 9, 10, 11, 12, 13, 14, 15, 16, 17, 18, 19, 20, 21, 22], [], .none⟩
def f_compact_rise_r5 : List AOp := [
  ⟨(some 4), .none, .mv (.c (.bool false))⟩]
def f_compact_rise_c0 : AC := .ret
def f_compact_rise_c1 : AC := (.cond (.t 36) (.seq (.reg f_compact_rise_r5) f_compact_rise_c0) .skip)
def f_compact_rise_c2 : AC := (.seq (.dreg f_compact_rise_r4) f_compact_rise_c1)
def f_compact_rise_r6 : List AOp := [
  ⟨(some 37), .none, .bin .add .num (.t 9) (.c (.int .i64 1))⟩,
  ⟨(some 9), .none, .mv (.t 37)⟩]
def f_compact_rise_c3 : AC := (.reg f_compact_rise_r6)
def f_compact_rise_c4 : AC := (.seq (.block 1 (.seq (.reg f_compact_rise_r3) f_compact_rise_c2)) f_compact_rise_c3)
def f_compact_rise_c5 : AC := (.seq (.cond (.t 10) .skip (.exit 0)) f_compact_rise_c4)
def f_compact_rise_c6 : AC := (.seq (.reg f_compact_rise_r2) f_compact_rise_c5)
def f_compact_rise_c7 : AC := (.block 0 (.keep 6 [0, 1, 7, 8, 9] (.loop (.keep 6 [0, 1, 7, 8, 9] f_compact_rise_c6))))
def f_compact_rise_r7 : List AOp := [
  ⟨(some 4), .none, .mv (.c (.bool true))⟩]
def f_compact_rise_c8 : AC := .ret
def f_compact_rise_c9 : AC := (.seq (.reg f_compact_rise_r7) f_compact_rise_c8)
def f_compact_rise_c10 : AC := (.seq (.seq (.reg f_compact_rise_r1) f_compact_rise_c7) f_compact_rise_c9)
def f_compact_rise : AF := ⟨38, [.tmp 4], (.seq (.reg f_compact_rise_r0) f_compact_rise_c10)⟩
/- seglog_Log_last -/
def f_seglog_Log_last_r0 : List AOp := [
  ⟨(some 2), .none, .mv (.c .nilp)⟩]
def f_seglog_Log_last_r1 : List AOp := [
  ⟨(some 3), .none, .mv (.t 0)⟩,
  ⟨(some 4), .none, .nilck (.t 3)⟩,
  ⟨(some 5), .none, .faddr 4 (.t 4)⟩,
  ⟨(some 6), .none, .load1 (.t 5)⟩,
  ⟨(some 7), .none, .len .slice (.t 6)⟩,
  ⟨(some 8), .none, .bin .eql .num (.t 7) (.c (.int .i64 0))⟩]
def f_seglog_Log_last_r2 : List AOp := [
  ⟨(some 2), .none, .mv (.c .nilp)⟩]
def f_seglog_Log_last_c0 : AC := .ret
def f_seglog_Log_last_c1 : AC := (.cond (.t 8) (.seq (.reg f_seglog_Log_last_r2) f_seglog_Log_last_c0) .skip)
def f_seglog_Log_last_r3 : DR := ⟨[
  ⟨(some 9), .none, .mv (.t 0)⟩,
  ⟨(some 10), .none, .nilck (.t 9)⟩,
  ⟨(some 11), .none, .faddr 4 (.t 10)⟩,
  ⟨(some 12), .none, .load1 (.t 11)⟩,
  ⟨(some 13), .none, .mv (.t 0)⟩,
  ⟨(some 14), .none, .nilck (.t 13)⟩,
  ⟨(some 15), .none, .faddr 4 (.t 14)⟩,
  ⟨(some 16), .none, .load1 (.t 15)⟩,
  ⟨(some 17), .none, .len .slice (.t 16)⟩,
  ⟨(some 18), .none, .bin .sub .num (.t 17) (.c (.int .i64 1))⟩,
  ⟨(some 19), .none, .iaddr 1 (.t 12) (.t 18)⟩,
  ⟨(some 20), .none, .load1 (.t 19)⟩,
  ⟨(some 2), .none, .mv (.t 20)⟩],
  [0, 1, 3, 7, 0, 16, 48, 112, 240, 496, 1023, 2047, 4095], [0, 1, 2, 3, 4, 5, 6, 7, 8, 9, 10, 11, 12], [], .none⟩
def f_seglog_Log_last_c2 : AC := .ret
def f_seglog_Log_last_c3 : AC := (.seq (.dreg f_seglog_Log_last_r3) f_seglog_Log_last_c2)
def f_seglog_Log_last_c4 : AC := (.seq (.seq (.reg f_seglog_Log_last_r1) f_seglog_Log_last_c1) f_seglog_Log_last_c3)
def f_seglog_Log_last : AF := ⟨21, [.tmp 2], (.seq (.reg f_seglog_Log_last_r0) f_seglog_Log_last_c4)⟩
/- seglog_segment_reach -/
def f_seglog_segment_reach_r0 : List AOp := [
  ⟨(some 2), .none, .mv (.c (.int .i64 0))⟩]
def f_seglog_segment_reach_r1 : DR := ⟨[
  ⟨(some 3), .none, .mv (.t 0)⟩,
  ⟨(some 4), .none, .nilck (.t 3)⟩,
  ⟨(some 5), .none, .faddr 1 (.t 4)⟩,
  ⟨(some 6), .none, .load1 (.t 5)⟩,
  ⟨(some 7), .none, .mv (.t 0)⟩,
  ⟨(some 8), .none, .nilck (.t 7)⟩,
  ⟨(some 9), .none, .faddr 2 (.t 8)⟩,
  ⟨(some 10), .none, .load1 (.t 9)⟩,
  ⟨(some 11), .none, .mv (.t 0)⟩,
  ⟨(some 12), .none, .nilck (.t 11)⟩,
  ⟨(some 13), .none, .faddr 3 (.t 12)⟩,
  ⟨(some 14), .none, .load1 (.t 13)⟩,
  ⟨(some 15), .none, .mx [(.t 6), (.t 10), (.t 14)]⟩,
  ⟨(some 2), .none, .mv (.t 15)⟩],
  [0, 1, 3, 7, 0, 16, 48, 112, 0, 256, 768, 1792, 4095, 8191], [0, 1, 2, 3, 4, 5, 6, 7, 8, 9, 10, 11, 12, 13], [], .none⟩
def f_seglog_segment_reach_c0 : AC := .ret
def f_seglog_segment_reach_c1 : AC := (.seq (.dreg f_seglog_segment_reach_r1) f_seglog_segment_reach_c0)
def f_seglog_segment_reach : AF := ⟨16, [.tmp 2], (.seq (.reg f_seglog_segment_reach_r0) f_seglog_segment_reach_c1)⟩
/- compact_Table_at -/
def f_compact_Table_at_r0 : List AOp := [
  ⟨(some 4), .none, .mv (.c (.int .i64 0))⟩,
  ⟨(some 5), .none, .mv (.c (.bool false))⟩]
def f_compact_Table_at_r1 : List AOp := [
  ⟨(some 7), .none, .mv (.t 0)⟩,
  ⟨(some 8), .none, .mv (.t 1)⟩,
  ⟨(some 9), .none, .call 213 [(.t 7), (.t 8)]⟩,
  ⟨(some 6), .none, .mv (.t 9)⟩]
def f_compact_Table_at_r2 : DR := ⟨[
  ⟨(some 10), .none, .mv (.t 6)⟩,
  ⟨(some 11), .none, .mv (.t 6)⟩,
  ⟨(some 12), .none, .mv (.t 0)⟩,
  ⟨(some 13), .none, .nilck (.t 12)⟩,
  ⟨(some 14), .none, .faddr 1 (.t 13)⟩,
  ⟨(some 15), .none, .load1 (.t 14)⟩,
  ⟨(some 16), .none, .len .slice (.t 15)⟩,
  ⟨(some 17), .none, .bin .lss .num (.t 11) (.t 16)⟩,
  ⟨(some 18), .none, .mv (.t 17)⟩,
  ⟨(some 19), (some (18, true)), .mv (.t 0)⟩,
  ⟨(some 20), (some (18, true)), .nilck (.t 19)⟩,
  ⟨(some 21), (some (18, true)), .faddr 1 (.t 20)⟩,
  ⟨(some 22), (some (18, true)), .load1 (.t 21)⟩,
  ⟨(some 23), (some (18, true)), .mv (.t 6)⟩,
  ⟨(some 24), (some (18, true)), .iaddr 5 (.t 22) (.t 23)⟩,
  ⟨(some 25), (some (18, true)), .faddr 1 (.t 24)⟩,
  ⟨(some 26), (some (18, true)), .faddr 0 (.t 25)⟩,
  ⟨(some 27), (some (18, true)), .load1 (.t 26)⟩,
  ⟨(some 28), (some (18, true)), .mv (.t 1)⟩,
  ⟨(some 29), (some (18, true)), .bin .eql .str (.t 27) (.t 28)⟩,
  ⟨(some 30), .none, .pick (.t 18) (.t 29) (.c (.bool false))⟩,
  ⟨(some 4), .none, .mv (.t 10)⟩,
  ⟨(some 5), .none, .mv (.t 30)⟩],
  [0, 0, 0, 4, 12, 28, 60, 126, 254, 510, 1022, 2046, 4094, 510, 16382, 32766, 65534, 131070, 510, 524286, 1048574, 511, 4194303], [0, 1, 2, 3, 4, 5, 6, 7, 8, 9, 10, 11, 12, 13, 14, 15, 16, 17, 18, 19, 20, 21, 22], [], .none⟩
def f_compact_Table_at_c0 : AC := .ret
def f_compact_Table_at_c1 : AC := (.seq (.dreg f_compact_Table_at_r2) f_compact_Table_at_c0)
def f_compact_Table_at_c2 : AC := (.seq (.reg f_compact_Table_at_r1) f_compact_Table_at_c1)
def f_compact_Table_at : AF := ⟨31, [.tmp 4, .tmp 5], (.seq (.reg f_compact_Table_at_r0) f_compact_Table_at_c2)⟩
/- compact_Table_set -/
def f_compact_Table_set_r0 : List AOp := [
  ⟨(some 3), .none, .box (.t 1)⟩]
def f_compact_Table_set_r1 : List AOp := [
  ⟨(some 7), .none, .mv (.t 0)⟩,
  ⟨(some 8), .none, .faddr 1 (.t 3)⟩,
  ⟨(some 9), .none, .faddr 0 (.t 8)⟩,
  ⟨(some 10), .none, .load1 (.t 9)⟩,
  ⟨(some 11), .none, .call 211 [(.t 7), (.t 10)]⟩,
  ⟨(some 6), .none, .mv (.t 11)⟩,
  ⟨(some 12), .none, .ext (.t 6) 0⟩,
  ⟨(some 13), .none, .ext (.t 6) 1⟩,
  ⟨(some 4), .none, .mv (.t 12)⟩,
  ⟨(some 5), .none, .mv (.t 13)⟩]
def f_compact_Table_set_r2 : List AOp := [
  ⟨(some 15), .none, .mv (.t 5)⟩,
  ⟨(some 16), .none, .mv (.t 15)⟩,
  ⟨(some 17), (some (16, true)), .faddr 1 (.t 3)⟩,
  ⟨(some 18), (some (16, true)), .faddr 2 (.t 17)⟩,
  ⟨(some 19), (some (16, true)), .load1 (.t 18)⟩,
  ⟨(some 20), .none, .pick (.t 16) (.t 19) (.c (.bool false))⟩,
  ⟨(some 14), .none, .mv (.t 20)⟩]
def f_compact_Table_set_r3 : List AOp := [
  ⟨(some 21), .none, .mv (.t 0)⟩,
  ⟨(some 22), .none, .mv (.t 0)⟩,
  ⟨(some 23), .none, .nilck (.t 22)⟩,
  ⟨(some 24), .none, .faddr 1 (.t 23)⟩,
  ⟨(some 25), .none, .load1 (.t 24)⟩,
  ⟨(some 26), .none, .mv (.t 4)⟩,
  ⟨(some 27), .none, .mv (.t 4)⟩,
  ⟨(some 28), .none, .bin .add .num (.t 27) (.c (.int .i64 1))⟩,
  ⟨(some 29), .none, .call 271 [(.t 25), (.t 26), (.t 28)]⟩,
  ⟨(some 30), .none, .nilck (.t 21)⟩,
  ⟨(some 31), .none, .faddr 1 (.t 30)⟩,
  ⟨.none, .none, .store 1 (.t 31) (.t 29)⟩]
def f_compact_Table_set_r4 : List AOp := [
  ⟨(some 33), .none, .mv (.t 5)⟩,
  ⟨(some 32), .none, .mv (.t 33)⟩]
def f_compact_Table_set_r5 : DR := ⟨[
  ⟨(some 34), .none, .mv (.t 0)⟩,
  ⟨(some 35), .none, .nilck (.t 34)⟩,
  ⟨(some 36), .none, .faddr 1 (.t 35)⟩,
  ⟨(some 37), .none, .load1 (.t 36)⟩,
  ⟨(some 38), .none, .mv (.t 4)⟩,
  ⟨(some 39), .none, .loadn 5 (.t 3)⟩,
  ⟨(some 40), .none, .iaddr 5 (.t 37) (.t 38)⟩,
  ⟨.none, .none, .store 5 (.t 40) (.t 39)⟩],
  [0, 1, 3, 7, 0, 0, 63, 127], [0, 1, 2, 3, 4, 5, 6, 7], [], .none⟩
def f_compact_Table_set_r6 : List AOp := [
  ⟨(some 42), .none, .faddr 1 (.t 3)⟩,
  ⟨(some 43), .none, .faddr 2 (.t 42)⟩,
  ⟨(some 44), .none, .load1 (.t 43)⟩,
  ⟨(some 45), .none, .un .not (.t 44)⟩,
  ⟨(some 41), .none, .mv (.t 45)⟩]
def f_compact_Table_set_r7 : DR := ⟨[
  ⟨(some 46), .none, .mv (.t 0)⟩,
  ⟨(some 47), .none, .mv (.t 0)⟩,
  ⟨(some 48), .none, .nilck (.t 47)⟩,
  ⟨(some 49), .none, .faddr 1 (.t 48)⟩,
  ⟨(some 50), .none, .load1 (.t 49)⟩,
  ⟨(some 51), .none, .mv (.t 4)⟩,
  ⟨(some 52), .none, .loadn 5 (.t 3)⟩,
  ⟨(some 53), .none, .bsl false 5 1 [(.int .i64 0), (.str []), (.str []), (.bool false), (.int .i64 0)] [(0, 5, (.t 52))]⟩,
  ⟨(some 54), .none, .call 272 [(.t 50), (.t 51), (.t 53)]⟩,
  ⟨(some 55), .none, .nilck (.t 46)⟩,
  ⟨(some 56), .none, .faddr 1 (.t 55)⟩,
  ⟨.none, .none, .store 1 (.t 56) (.t 54)⟩],
  [0, 0, 2, 6, 14, 0, 0, 64, 254, 511, 1023, 2047], [0, 1, 2, 3, 4, 5, 6, 7, 8, 9, 10, 11], [], .none⟩
def f_compact_Table_set_c0 : AC := (.cond (.t 41) (.dreg f_compact_Table_set_r7) .skip)
def f_compact_Table_set_c1 : AC := (.cond (.t 32) (.dreg f_compact_Table_set_r5) (.seq (.reg f_compact_Table_set_r6) f_compact_Table_set_c0))
def f_compact_Table_set_c2 : AC := (.cond (.t 14) (.reg f_compact_Table_set_r3) (.seq (.reg f_compact_Table_set_r4) f_compact_Table_set_c1))
def f_compact_Table_set_r8 : List AOp := [
  ⟨(some 57), .none, .mv (.t 0)⟩,
  ⟨(some 58), .none, .faddr 0 (.t 3)⟩,
  ⟨(some 59), .none, .load1 (.t 58)⟩,
  ⟨(some 60), .none, .bin .add .num (.t 59) (.c (.int .i64 1))⟩,
  ⟨(some 61), .none, .nilck (.t 57)⟩,
  ⟨(some 62), .none, .faddr 0 (.t 61)⟩,
  ⟨.none, .none, .store 1 (.t 62) (.t 60)⟩]
def f_compact_Table_set_c3 : AC := (.keep 6 [0, 3] (.reg f_compact_Table_set_r8))
def f_compact_Table_set_c4 : AC := (.seq (.block 0 (.seq (.reg f_compact_Table_set_r2) f_compact_Table_set_c2)) f_compact_Table_set_c3)
def f_compact_Table_set_c5 : AC := (.seq (.reg f_compact_Table_set_r1) f_compact_Table_set_c4)
def f_compact_Table_set : AF := ⟨63, [], (.seq (.reg f_compact_Table_set_r0) f_compact_Table_set_c5)⟩
/- compact_Table_from -/
def f_compact_Table_from_r0 : List AOp := [
  ⟨(some 2), .none, .box (.t 0)⟩,
  ⟨(some 3), .none, .box (.t 1)⟩,
  ⟨(some 4), .none, .mv (.c (.int .i64 0))⟩]
def f_compact_Table_from_r1 : List AOp := [
  ⟨(some 5), .none, .load1 (.t 2)⟩,
  ⟨(some 6), .none, .nilck (.t 5)⟩,
  ⟨(some 7), .none, .faddr 1 (.t 6)⟩,
  ⟨(some 8), .none, .load1 (.t 7)⟩,
  ⟨(some 9), .none, .len .slice (.t 8)⟩,
  ⟨(some 10), .none, .mkfn 273 [] [(.t 2), (.t 3)]⟩,
  ⟨(some 11), .none, .call 178 [(.t 9), (.t 10)]⟩,
  ⟨(some 4), .none, .mv (.t 11)⟩]
def f_compact_Table_from_c0 : AC := .ret
def f_compact_Table_from_c1 : AC := (.seq (.reg f_compact_Table_from_r1) f_compact_Table_from_c0)
def f_compact_Table_from : AF := ⟨12, [.tmp 4], (.seq (.reg f_compact_Table_from_r0) f_compact_Table_from_c1)⟩
/- math_bits_Len -/
def f_math_bits_Len_r0 : List AOp := [
  ⟨(some 2), .none, .mv (.c (.int .i64 0))⟩]
def f_math_bits_Len_r1 : List AOp := [
  ⟨(some 3), .none, .mv (.t 0)⟩,
  ⟨(some 4), .none, .conv (.int .u32) (.t 3)⟩,
  ⟨(some 5), .none, .call 287 [(.t 4)]⟩,
  ⟨(some 2), .none, .mv (.t 5)⟩]
def f_math_bits_Len_c0 : AC := .ret
def f_math_bits_Len_r2 : List AOp := [
  ⟨(some 6), .none, .mv (.t 0)⟩,
  ⟨(some 7), .none, .call 288 [(.t 6)]⟩,
  ⟨(some 2), .none, .mv (.t 7)⟩]
def f_math_bits_Len_c1 : AC := .ret
def f_math_bits_Len_c2 : AC := (.seq (.reg f_math_bits_Len_r2) f_math_bits_Len_c1)
def f_math_bits_Len_c3 : AC := (.seq (.cond (.c (.bool false)) (.seq (.reg f_math_bits_Len_r1) f_math_bits_Len_c0) .skip) f_math_bits_Len_c2)
def f_math_bits_Len : AF := ⟨8, [.tmp 2], (.seq (.reg f_math_bits_Len_r0) f_math_bits_Len_c3)⟩
/- disk_Disk_Names -/
def f226r0 : List AOp := [
  ⟨(some 3), .none, .box (.t 1)⟩,
  ⟨(some 4), .none, .mv (.c .nils)⟩]
def f226r1 : List AOp := [
  ⟨(some 7), .none, .mv (.t 0)⟩,
  ⟨(some 8), .none, .bin .eql .ptr (.t 7) (.c .nilp)⟩]
def f226r2 : List AOp := [
  ⟨(some 4), .none, .mv (.c .nils)⟩]
def f226r3 : List AOp := [
  ⟨(some 5), .none, .alloc [.nils]⟩]
def f226r4 : List AOp := [
  ⟨(some 9), .none, .mv (.t 0)⟩,
  ⟨(some 10), .none, .nilck (.t 9)⟩,
  ⟨(some 11), .none, .faddr 4 (.t 10)⟩,
  ⟨(some 12), .none, .load1 (.t 11)⟩,
  ⟨(some 13), .none, .call 291 [(.t 12)]⟩]
def f226r8 : List AOp := [
  ⟨(some 22), .none, .load1 (.t 5)⟩,
  ⟨(some 23), .none, .call 293 [(.t 22)]⟩]
def f226r9 : List AOp := [
  ⟨(some 24), .none, .load1 (.t 5)⟩,
  ⟨(some 4), .none, .mv (.t 24)⟩]
def f226 : AR := ⟨25, [.tmp 4], [(.reg f226r0), (.seq (.reg f226r1) (.cond (.t 8) (.seq (.reg f226r2) .ret) .skip)), (.reg f226r3), (.reg f226r4)], (.t 13), (.seq (.reg f226r8) (.seq (.reg f226r9) .ret))⟩
/- frame_First -/
def f_frame_First_r0 : List AOp := [
  ⟨(some 2), .none, .mv (.c .nils)⟩,
  ⟨(some 3), .none, .mv (.c (.int .i64 0))⟩,
  ⟨(some 4), .none, .mv (.c (.bool false))⟩]
def f_frame_First_r1 : List AOp := [
  ⟨(some 7), .none, .mv (.t 0)⟩,
  ⟨(some 8), .none, .len .slice (.t 7)⟩,
  ⟨(some 9), .none, .bin .lss .num (.t 8) (.c (.int .i64 8))⟩]
def f_frame_First_r2 : List AOp := [
  ⟨(some 2), .none, .mv (.c .nils)⟩,
  ⟨(some 3), .none, .mv (.c (.int .i64 0))⟩,
  ⟨(some 4), .none, .mv (.c (.bool false))⟩]
def f_frame_First_c0 : AC := .ret
def f_frame_First_c1 : AC := (.cond (.t 9) (.seq (.reg f_frame_First_r2) f_frame_First_c0) .skip)
def f_frame_First_r3 : List AOp := [
  ⟨(some 10), .none, .mv (.t 0)⟩,
  ⟨(some 11), .none, .call 294 [(.t 10)]⟩,
  ⟨(some 5), .none, .mv (.t 11)⟩]
def f_frame_First_r4 : List AOp := [
  ⟨(some 12), .none, .mv (.t 5)⟩,
  ⟨(some 13), .none, .bin .gtr .num (.t 12) (.c (.int .u32 262144))⟩,
  ⟨(some 14), .none, .mv (.t 13)⟩,
  ⟨(some 15), (some (14, false)), .mv (.t 5)⟩,
  ⟨(some 16), (some (14, false)), .conv (.int .i64) (.t 15)⟩,
  ⟨(some 17), (some (14, false)), .mv (.t 0)⟩,
  ⟨(some 18), (some (14, false)), .len .slice (.t 17)⟩,
  ⟨(some 19), (some (14, false)), .bin .sub .num (.t 18) (.c (.int .i64 8))⟩,
  ⟨(some 20), (some (14, false)), .bin .gtr .num (.t 16) (.t 19)⟩,
  ⟨(some 21), .none, .pick (.t 14) (.c (.bool true)) (.t 20)⟩]
def f_frame_First_r5 : List AOp := [
  ⟨(some 2), .none, .mv (.c .nils)⟩,
  ⟨(some 3), .none, .mv (.c (.int .i64 0))⟩,
  ⟨(some 4), .none, .mv (.c (.bool false))⟩]
def f_frame_First_c2 : AC := .ret
def f_frame_First_c3 : AC := (.cond (.t 21) (.seq (.reg f_frame_First_r5) f_frame_First_c2) .skip)
def f_frame_First_r6 : List AOp := [
  ⟨(some 22), .none, .mv (.t 5)⟩,
  ⟨(some 23), .none, .conv (.int .i64) (.t 22)⟩,
  ⟨(some 24), .none, .bin .add .num (.t 23) (.c (.int .i64 4))⟩,
  ⟨(some 6), .none, .mv (.t 24)⟩]
def f_frame_First_r7 : DR := ⟨[
  ⟨(some 25), .none, .mv (.t 0)⟩,
  ⟨(some 26), .none, .mv (.t 6)⟩,
  ⟨(some 27), .none, .slc 1 (.t 25) (some (.t 26)) .none .none⟩,
  ⟨(some 28), .none, .call 294 [(.t 27)]⟩,
  ⟨(some 29), .none, .mv (.t 0)⟩,
  ⟨(some 30), .none, .mv (.t 6)⟩,
  ⟨(some 31), .none, .slc 1 (.t 29) .none (some (.t 30)) .none⟩,
  ⟨(some 32), .none, .bsl false 1 1 [.nils] [(0, 1, (.t 31))]⟩,
  ⟨(some 33), .none, .call 265 [(.t 32)]⟩,
  ⟨(some 34), .none, .bin .neq .num (.t 28) (.t 33)⟩],
  [0, 0, 3, 7, 0, 0, 48, 112, 255, 511], [0, 1, 2, 3, 4, 5, 6, 7, 8, 9], [], .none⟩
def f_frame_First_r8 : List AOp := [
  ⟨(some 2), .none, .mv (.c .nils)⟩,
  ⟨(some 3), .none, .mv (.c (.int .i64 0))⟩,
  ⟨(some 4), .none, .mv (.c (.bool false))⟩]
def f_frame_First_c4 : AC := .ret
def f_frame_First_c5 : AC := (.cond (.t 34) (.seq (.reg f_frame_First_r8) f_frame_First_c4) .skip)
def f_frame_First_r9 : List AOp := [
  ⟨(some 35), .none, .mv (.t 0)⟩,
  ⟨(some 36), .none, .mv (.t 6)⟩,
  ⟨(some 37), .none, .slc 1 (.t 35) (some (.c (.int .i64 4))) (some (.t 36)) .none⟩,
  ⟨(some 38), .none, .call 165 [(.t 37)]⟩,
  ⟨(some 39), .none, .mv (.t 6)⟩,
  ⟨(some 40), .none, .bin .add .num (.t 39) (.c (.int .i64 4))⟩,
  ⟨(some 2), .none, .mv (.t 38)⟩,
  ⟨(some 3), .none, .mv (.t 40)⟩,
  ⟨(some 4), .none, .mv (.c (.bool true))⟩]
def f_frame_First_c6 : AC := .ret
def f_frame_First_c7 : AC := (.seq (.reg f_frame_First_r9) f_frame_First_c6)
def f_frame_First_c8 : AC := (.seq (.seq (.dreg f_frame_First_r7) f_frame_First_c5) f_frame_First_c7)
def f_frame_First_c9 : AC := (.seq (.reg f_frame_First_r6) f_frame_First_c8)
def f_frame_First_c10 : AC := (.seq (.seq (.reg f_frame_First_r4) f_frame_First_c3) f_frame_First_c9)
def f_frame_First_c11 : AC := (.seq (.reg f_frame_First_r3) f_frame_First_c10)
def f_frame_First_c12 : AC := (.seq (.seq (.reg f_frame_First_r1) f_frame_First_c1) f_frame_First_c11)
def f_frame_First : AF := ⟨41, [.tmp 2, .tmp 3, .tmp 4], (.seq (.reg f_frame_First_r0) f_frame_First_c12)⟩
/- seglog_Log_segment -/
def f_seglog_Log_segment_r0 : List AOp := [
  ⟨(some 6), .none, .mv (.c .nilp)⟩]
def f_seglog_Log_segment_r1 : List AOp := [
  ⟨(some 10), .none, .mv (.t 0)⟩,
  ⟨(some 11), .none, .nilck (.t 10)⟩,
  ⟨(some 12), .none, .faddr 2 (.t 11)⟩,
  ⟨(some 13), .none, .faddr 1 (.t 12)⟩,
  ⟨(some 14), .none, .load1 (.t 13)⟩,
  ⟨(some 15), .none, .call 296 [(.t 14)]⟩,
  ⟨(some 9), .none, .mv (.t 15)⟩,
  ⟨(some 16), .none, .ext (.t 9) 0⟩,
  ⟨(some 17), .none, .ext (.t 9) 1⟩,
  ⟨(some 7), .none, .mv (.t 16)⟩,
  ⟨(some 8), .none, .mv (.t 17)⟩]
def f_seglog_Log_segment_r2 : List AOp := [
  ⟨(some 18), .none, .mv (.t 7)⟩,
  ⟨(some 19), .none, .mv (.t 1)⟩,
  ⟨(some 20), .none, .mv (.t 2)⟩,
  ⟨(some 21), .none, .mv (.t 1)⟩,
  ⟨(some 22), .none, .mv (.t 2)⟩,
  ⟨(some 23), .none, .call 249 [(.t 21), (.t 22)]⟩,
  ⟨(some 24), .none, .len .slice (.t 23)⟩,
  ⟨(some 25), .none, .build [.nilp, (.int .i64 0), (.int .i64 0), (.int .i64 0), (.int .i64 0), (.int .i64 0)] [(0, 1, (.t 18)), (1, 1, (.t 19)), (2, 1, (.t 20)), (4, 1, (.c (.int .i64 (-1)))), (5, 1, (.t 24))]⟩,
  ⟨(some 26), .none, .box (.t 25)⟩,
  ⟨(some 6), .none, .mv (.t 26)⟩]
def f_seglog_Log_segment_c0 : AC := .ret
def f_seglog_Log_segment_c1 : AC := (.seq (.reg f_seglog_Log_segment_r2) f_seglog_Log_segment_c0)
def f_seglog_Log_segment_c2 : AC := (.seq (.reg f_seglog_Log_segment_r1) f_seglog_Log_segment_c1)
def f_seglog_Log_segment : AF := ⟨27, [.tmp 6], (.seq (.reg f_seglog_Log_segment_r0) f_seglog_Log_segment_c2)⟩
/- rec_Decode -/
def f_rec_Decode_r0 : List AOp := [
  ⟨(some 2), .none, .alloc [(.int .i64 0), (.int .i64 0), (.int .i64 0), (.int .i64 0), (.int .i64 0), (.int .i64 0), .nils]⟩,
  ⟨(some 3), .none, .mv (.c (.int .i64 0))⟩]
def f_rec_Decode_r1 : List AOp := [
  ⟨(some 12), .none, .build [(.int .i64 0), (.int .i64 0), (.int .i64 0), (.int .i64 0), (.int .i64 0), (.int .i64 0), .nils] []⟩,
  ⟨(some 4), .none, .alloc [(.int .i64 0), (.int .i64 0), (.int .i64 0), (.int .i64 0), (.int .i64 0), (.int .i64 0), .nils]⟩,
  ⟨.none, .none, .store 7 (.t 4) (.t 12)⟩]
def f_rec_Decode_r2 : List AOp := [
  ⟨(some 13), .none, .mv (.t 0)⟩,
  ⟨(some 14), .none, .call 82 [(.t 13)]⟩,
  ⟨(some 5), .none, .mv (.t 14)⟩]
def f_rec_Decode_r3 : List AOp := [
  ⟨(some 15), .none, .mv (.t 5)⟩,
  ⟨(some 16), .none, .call 295 [(.t 15)]⟩,
  ⟨(some 17), .none, .bin .neq .num (.t 16) (.c (.int .i64 1))⟩]
def f_rec_Decode_r4 : List AOp := [
  ⟨(some 18), .none, .loadn 7 (.t 4)⟩,
  ⟨.none, .none, .store 7 (.t 2) (.t 18)⟩,
  ⟨(some 3), .none, .mv (.c (.int .i64 6))⟩]
def f_rec_Decode_c0 : AC := .ret
def f_rec_Decode_c1 : AC := (.cond (.t 17) (.seq (.reg f_rec_Decode_r4) f_rec_Decode_c0) .skip)
def f_rec_Decode_r5 : List AOp := [
  ⟨(some 19), .none, .mv (.t 5)⟩,
  ⟨(some 20), .none, .call 295 [(.t 19)]⟩,
  ⟨(some 21), .none, .mv (.t 5)⟩,
  ⟨(some 22), .none, .call 297 [(.t 21), (.c (.int .i64 1099511627776))]⟩,
  ⟨(some 23), .none, .mv (.t 5)⟩,
  ⟨(some 24), .none, .call 297 [(.t 23), (.c (.int .i64 1048576))]⟩,
  ⟨(some 25), .none, .build [(.int .i64 0), (.int .i64 0), (.int .i64 0), (.int .i64 0), (.int .i64 0), (.int .i64 0), .nils] [(4, 1, (.t 20)), (0, 1, (.t 22)), (1, 1, (.t 24))]⟩,
  ⟨(some 6), .none, .alloc [(.int .i64 0), (.int .i64 0), (.int .i64 0), (.int .i64 0), (.int .i64 0), (.int .i64 0), .nils]⟩,
  ⟨.none, .none, .store 7 (.t 6) (.t 25)⟩]
def f_rec_Decode_r6 : List AOp := [
  ⟨(some 26), .none, .faddr 1 (.t 6)⟩,
  ⟨(some 27), .none, .load1 (.t 26)⟩,
  ⟨(some 28), .none, .bin .gtr .num (.t 27) (.c (.int .i64 0))⟩]
def f_rec_Decode_r7 : List AOp := [
  ⟨(some 29), .none, .mv (.t 5)⟩,
  ⟨(some 30), .none, .call 297 [(.t 29), (.c (.int .i64 32767))]⟩,
  ⟨(some 31), .none, .faddr 2 (.t 6)⟩,
  ⟨.none, .none, .store 1 (.t 31) (.t 30)⟩]
def f_rec_Decode_r8 : List AOp := [
  ⟨(some 32), .none, .loadn 7 (.t 6)⟩,
  ⟨(some 33), .none, .call 185 [(.t 32)]⟩,
  ⟨(some 34), .none, .un .not (.t 33)⟩]
def f_rec_Decode_r9 : List AOp := [
  ⟨(some 35), .none, .mv (.t 5)⟩,
  ⟨(some 36), .none, .call 297 [(.t 35), (.c (.int .i64 2147483647))]⟩,
  ⟨(some 37), .none, .faddr 3 (.t 6)⟩,
  ⟨.none, .none, .store 1 (.t 37) (.t 36)⟩]
def f_rec_Decode_c2 : AC := (.cond (.t 34) (.reg f_rec_Decode_r9) .skip)
def f_rec_Decode_c3 : AC := (.seq (.reg f_rec_Decode_r8) f_rec_Decode_c2)
def f_rec_Decode_c4 : AC := (.cond (.t 28) (.seq (.reg f_rec_Decode_r7) f_rec_Decode_c3) .skip)
def f_rec_Decode_r10 : List AOp := [
  ⟨(some 38), .none, .mv (.t 5)⟩,
  ⟨(some 39), .none, .call 297 [(.t 38), (.c (.int .i64 1099511627776))]⟩,
  ⟨(some 40), .none, .faddr 5 (.t 6)⟩,
  ⟨.none, .none, .store 1 (.t 40) (.t 39)⟩]
def f_rec_Decode_r11 : List AOp := [
  ⟨(some 41), .none, .mv (.t 5)⟩,
  ⟨(some 42), .none, .call 238 [(.t 41)]⟩,
  ⟨(some 43), .none, .bin .neq .num (.t 42) (.c (.int .i64 0))⟩,
  ⟨(some 44), .none, .mv (.t 43)⟩,
  ⟨(some 45), (some (44, false)), .faddr 5 (.t 6)⟩,
  ⟨(some 46), (some (44, false)), .load1 (.t 45)⟩,
  ⟨(some 47), (some (44, false)), .bin .gtr .num (.t 46) (.c (.int .i64 1099511627776))⟩,
  ⟨(some 48), .none, .pick (.t 44) (.c (.bool true)) (.t 47)⟩]
def f_rec_Decode_r12 : List AOp := [
  ⟨(some 49), .none, .loadn 7 (.t 4)⟩,
  ⟨.none, .none, .store 7 (.t 2) (.t 49)⟩,
  ⟨(some 3), .none, .mv (.c (.int .i64 6))⟩]
def f_rec_Decode_c5 : AC := .ret
def f_rec_Decode_c6 : AC := (.cond (.t 48) (.seq (.reg f_rec_Decode_r12) f_rec_Decode_c5) .skip)
def f_rec_Decode_r13 : List AOp := [
  ⟨(some 50), .none, .loadn 7 (.t 6)⟩,
  ⟨(some 51), .none, .call 185 [(.t 50)]⟩,
  ⟨(some 52), .none, .un .not (.t 51)⟩]
def f_rec_Decode_r14 : List AOp := [
  ⟨(some 53), .none, .mv (.t 5)⟩,
  ⟨(some 54), .none, .call 297 [(.t 53), (.c (.int .i64 64))]⟩,
  ⟨(some 7), .none, .mv (.t 54)⟩]
def f_rec_Decode_r15 : List AOp := [
  ⟨(some 55), .none, .mv (.t 7)⟩,
  ⟨(some 56), .none, .bin .gtr .num (.t 55) (.c (.int .i64 64))⟩]
def f_rec_Decode_r16 : List AOp := [
  ⟨(some 57), .none, .loadn 7 (.t 4)⟩,
  ⟨.none, .none, .store 7 (.t 2) (.t 57)⟩,
  ⟨(some 3), .none, .mv (.c (.int .i64 6))⟩]
def f_rec_Decode_c7 : AC := .ret
def f_rec_Decode_c8 : AC := (.cond (.t 56) (.seq (.reg f_rec_Decode_r16) f_rec_Decode_c7) .skip)
def f_rec_Decode_r17 : List AOp := [
  ⟨(some 8), .none, .mv (.c (.str []))⟩]
def f_rec_Decode_r18 : List AOp := [
  ⟨(some 58), .none, .mv (.t 7)⟩,
  ⟨(some 59), .none, .mv (.c (.int .i64 0))⟩]
def f_rec_Decode_r19 : List AOp := [
  ⟨(some 60), .none, .bin .lss .num (.t 59) (.t 58)⟩]
def f_rec_Decode_r20 : List AOp := [
  ⟨(some 62), .none, .mv (.t 5)⟩,
  ⟨(some 63), .none, .faddr 5 (.t 6)⟩,
  ⟨(some 64), .none, .load1 (.t 63)⟩,
  ⟨(some 65), .none, .mv (.t 8)⟩,
  ⟨(some 66), .none, .call 298 [(.t 62), (.t 64), (.t 65)]⟩,
  ⟨(some 61), .none, .mv (.t 66)⟩,
  ⟨(some 67), .none, .ext (.t 61) 0⟩,
  ⟨(some 68), .none, .ext (.t 61) 1⟩,
  ⟨(some 9), .none, .alloc [(.str []), (.str []), (.bool false), (.int .i64 0)]⟩,
  ⟨.none, .none, .store 4 (.t 9) (.t 67)⟩,
  ⟨(some 10), .none, .mv (.t 68)⟩]
def f_rec_Decode_r21 : List AOp := [
  ⟨(some 69), .none, .mv (.t 10)⟩,
  ⟨(some 70), .none, .un .not (.t 69)⟩]
def f_rec_Decode_r22 : List AOp := [
  ⟨(some 71), .none, .loadn 7 (.t 4)⟩,
  ⟨.none, .none, .store 7 (.t 2) (.t 71)⟩,
  ⟨(some 3), .none, .mv (.c (.int .i64 6))⟩]
def f_rec_Decode_c9 : AC := .ret
def f_rec_Decode_c10 : AC := (.cond (.t 70) (.seq (.reg f_rec_Decode_r22) f_rec_Decode_c9) .skip)
def f_rec_Decode_r23 : List AOp := [
  ⟨(some 72), .none, .faddr 6 (.t 6)⟩,
  ⟨(some 73), .none, .load1 (.t 72)⟩,
  ⟨(some 74), .none, .loadn 4 (.t 9)⟩,
  ⟨(some 75), .none, .bsl false 4 1 [(.str []), (.str []), (.bool false), (.int .i64 0)] [(0, 4, (.t 74))]⟩,
  ⟨(some 76), .none, .app false 4 48 (.t 73) (.t 75)⟩,
  ⟨(some 11), .none, .mv (.t 76)⟩]
def f_rec_Decode_r24 : List AOp := [
  ⟨(some 77), .none, .mv (.t 11)⟩,
  ⟨(some 78), .none, .faddr 6 (.t 6)⟩,
  ⟨.none, .none, .store 1 (.t 78) (.t 77)⟩]
def f_rec_Decode_r25 : List AOp := [
  ⟨(some 79), .none, .faddr 0 (.t 9)⟩,
  ⟨(some 80), .none, .load1 (.t 79)⟩,
  ⟨(some 8), .none, .mv (.t 80)⟩]
def f_rec_Decode_c11 : AC := (.reg f_rec_Decode_r25)
def f_rec_Decode_c12 : AC := (.seq (.reg f_rec_Decode_r24) f_rec_Decode_c11)
def f_rec_Decode_c13 : AC := (.seq (.reg f_rec_Decode_r23) f_rec_Decode_c12)
def f_rec_Decode_c14 : AC := (.seq (.seq (.reg f_rec_Decode_r21) f_rec_Decode_c10) f_rec_Decode_c13)
def f_rec_Decode_r26 : List AOp := [
  ⟨(some 81), .none, .bin .add .num (.t 59) (.c (.int .i64 1))⟩,
  ⟨(some 59), .none, .mv (.t 81)⟩]
def f_rec_Decode_c15 : AC := (.reg f_rec_Decode_r26)
def f_rec_Decode_c16 : AC := (.seq (.block 1 (.seq (.reg f_rec_Decode_r20) f_rec_Decode_c14)) f_rec_Decode_c15)
def f_rec_Decode_c17 : AC := (.seq (.cond (.t 60) .skip (.exit 0)) f_rec_Decode_c16)
def f_rec_Decode_c18 : AC := (.seq (.reg f_rec_Decode_r19) f_rec_Decode_c17)
def f_rec_Decode_c19 : AC := (.block 0 (.keep 7 [2, 4, 5, 6, 8, 58, 59] (.loop (.keep 7 [2, 4, 5, 6, 8, 58, 59] f_rec_Decode_c18))))
def f_rec_Decode_c20 : AC := (.seq (.reg f_rec_Decode_r18) f_rec_Decode_c19)
def f_rec_Decode_c21 : AC := (.seq (.reg f_rec_Decode_r17) f_rec_Decode_c20)
def f_rec_Decode_c22 : AC := (.seq (.seq (.reg f_rec_Decode_r15) f_rec_Decode_c8) f_rec_Decode_c21)
def f_rec_Decode_c23 : AC := (.cond (.t 52) (.seq (.reg f_rec_Decode_r14) f_rec_Decode_c22) .skip)
def f_rec_Decode_r27 : List AOp := [
  ⟨(some 82), .none, .mv (.t 5)⟩,
  ⟨(some 83), .none, .call 84 [(.t 82)]⟩,
  ⟨(some 84), .none, .bin .neq .num (.t 83) (.c (.int .i64 0))⟩,
  ⟨(some 85), .none, .mv (.t 84)⟩,
  ⟨(some 86), (some (85, false)), .loadn 7 (.t 6)⟩,
  ⟨(some 87), (some (85, false)), .call 186 [(.t 86)]⟩,
  ⟨(some 88), (some (85, false)), .bin .neq .num (.t 87) (.c (.int .i64 0))⟩,
  ⟨(some 89), .none, .pick (.t 85) (.c (.bool true)) (.t 88)⟩]
def f_rec_Decode_r28 : List AOp := [
  ⟨(some 90), .none, .loadn 7 (.t 4)⟩,
  ⟨.none, .none, .store 7 (.t 2) (.t 90)⟩,
  ⟨(some 3), .none, .mv (.c (.int .i64 6))⟩]
def f_rec_Decode_c24 : AC := .ret
def f_rec_Decode_c25 : AC := (.cond (.t 89) (.seq (.reg f_rec_Decode_r28) f_rec_Decode_c24) .skip)
def f_rec_Decode_r29 : List AOp := [
  ⟨(some 91), .none, .loadn 7 (.t 6)⟩,
  ⟨.none, .none, .store 7 (.t 2) (.t 91)⟩,
  ⟨(some 3), .none, .mv (.c (.int .i64 0))⟩]
def f_rec_Decode_c26 : AC := .ret
def f_rec_Decode_c27 : AC := (.seq (.reg f_rec_Decode_r29) f_rec_Decode_c26)
def f_rec_Decode_c28 : AC := (.keep 7 [2, 4, 5, 6] (.seq (.seq (.reg f_rec_Decode_r27) f_rec_Decode_c25) f_rec_Decode_c27))
def f_rec_Decode_c29 : AC := (.seq (.seq (.reg f_rec_Decode_r13) f_rec_Decode_c23) f_rec_Decode_c28)
def f_rec_Decode_c30 : AC := (.seq (.seq (.reg f_rec_Decode_r11) f_rec_Decode_c6) f_rec_Decode_c29)
def f_rec_Decode_c31 : AC := (.keep 7 [2, 4, 5, 6] (.seq (.reg f_rec_Decode_r10) f_rec_Decode_c30))
def f_rec_Decode_c32 : AC := (.seq (.seq (.reg f_rec_Decode_r6) f_rec_Decode_c4) f_rec_Decode_c31)
def f_rec_Decode_c33 : AC := (.seq (.reg f_rec_Decode_r5) f_rec_Decode_c32)
def f_rec_Decode_c34 : AC := (.seq (.seq (.reg f_rec_Decode_r3) f_rec_Decode_c1) f_rec_Decode_c33)
def f_rec_Decode_c35 : AC := (.seq (.reg f_rec_Decode_r2) f_rec_Decode_c34)
def f_rec_Decode_c36 : AC := (.seq (.reg f_rec_Decode_r1) f_rec_Decode_c35)
def f_rec_Decode : AF := ⟨92, [.celln 2 7, .tmp 3], (.seq (.reg f_rec_Decode_r0) f_rec_Decode_c36)⟩
/- seglog_segment_take -/
def f_seglog_segment_take_r0 : List AOp := [
  ⟨(some 4), .none, .box (.t 1)⟩]
def f_seglog_segment_take_r1 : List AOp := [
  ⟨(some 7), .none, .loadn 7 (.t 4)⟩,
  ⟨(some 8), .none, .call 299 [(.t 7)]⟩,
  ⟨(some 6), .none, .mv (.t 8)⟩]
def f_seglog_segment_take_r2 : DR := ⟨[
  ⟨(some 9), .none, .mv (.t 0)⟩,
  ⟨(some 10), .none, .nilck (.t 9)⟩,
  ⟨(some 11), .none, .faddr 0 (.t 10)⟩,
  ⟨(some 12), .none, .load1 (.t 11)⟩,
  ⟨(some 13), .none, .faddr 0 (.t 4)⟩,
  ⟨(some 14), .none, .load1 (.t 13)⟩,
  ⟨(some 15), .none, .mv (.t 0)⟩,
  ⟨(some 16), .none, .nilck (.t 15)⟩,
  ⟨(some 17), .none, .faddr 5 (.t 16)⟩,
  ⟨(some 18), .none, .load1 (.t 17)⟩,
  ⟨(some 19), .none, .mv (.t 6)⟩,
  ⟨(some 20), .none, .call 300 [(.t 12), (.t 14), (.t 18), (.t 19)]⟩],
  [0, 1, 3, 7, 0, 16, 0, 64, 192, 448, 0, 2047], [0, 1, 2, 3, 4, 5, 6, 7, 8, 9, 10, 11], [], .none⟩
def f_seglog_segment_take_r3 : List AOp := [
  ⟨(some 21), .none, .mv (.t 0)⟩,
  ⟨(some 22), .none, .loadn 7 (.t 4)⟩,
  ⟨(some 23), .none, .call 95 [(.t 22)]⟩,
  ⟨(some 24), .none, .nilck (.t 21)⟩,
  ⟨(some 25), .none, .faddr 3 (.t 24)⟩,
  ⟨.none, .none, .store 1 (.t 25) (.t 23)⟩]
def f_seglog_segment_take_r4 : List AOp := [
  ⟨(some 26), .none, .mv (.t 0)⟩,
  ⟨(some 27), .none, .mv (.t 0)⟩,
  ⟨(some 28), .none, .nilck (.t 27)⟩,
  ⟨(some 29), .none, .faddr 4 (.t 28)⟩,
  ⟨(some 30), .none, .load1 (.t 29)⟩,
  ⟨(some 31), .none, .mv (.t 6)⟩,
  ⟨(some 32), .none, .mx [(.t 30), (.t 31)]⟩,
  ⟨(some 33), .none, .nilck (.t 26)⟩,
  ⟨(some 34), .none, .faddr 4 (.t 33)⟩,
  ⟨.none, .none, .store 1 (.t 34) (.t 32)⟩]
def f_seglog_segment_take_r5 : List AOp := [
  ⟨(some 35), .none, .mv (.t 0)⟩,
  ⟨(some 36), .none, .nilck (.t 35)⟩,
  ⟨(some 37), .none, .faddr 5 (.t 36)⟩,
  ⟨(some 38), .none, .load1 (.t 37)⟩,
  ⟨(some 39), .none, .mv (.t 2)⟩,
  ⟨(some 40), .none, .bin .add .num (.t 38) (.t 39)⟩,
  ⟨(some 41), .none, .nilck (.t 35)⟩,
  ⟨(some 42), .none, .faddr 5 (.t 41)⟩,
  ⟨.none, .none, .store 1 (.t 42) (.t 40)⟩]
def f_seglog_segment_take_c0 : AC := (.reg f_seglog_segment_take_r5)
def f_seglog_segment_take_c1 : AC := (.seq (.reg f_seglog_segment_take_r4) f_seglog_segment_take_c0)
def f_seglog_segment_take_c2 : AC := (.seq (.reg f_seglog_segment_take_r3) f_seglog_segment_take_c1)
def f_seglog_segment_take_c3 : AC := (.seq (.dreg f_seglog_segment_take_r2) f_seglog_segment_take_c2)
def f_seglog_segment_take_c4 : AC := (.seq (.reg f_seglog_segment_take_r1) f_seglog_segment_take_c3)
def f_seglog_segment_take : AF := ⟨43, [], (.seq (.reg f_seglog_segment_take_r0) f_seglog_segment_take_c4)⟩
/- seglog_Log_put -/
def f_seglog_Log_put_r0 : List AOp := [
  ⟨(some 5), .none, .mv (.t 0)⟩,
  ⟨(some 6), .none, .nilck (.t 5)⟩,
  ⟨(some 7), .none, .faddr 4 (.t 6)⟩,
  ⟨(some 8), .none, .load1 (.t 7)⟩,
  ⟨(some 9), .none, .mv (.t 1)⟩,
  ⟨(some 10), .none, .bsl false 1 1 [.nilp] [(0, 1, (.t 9))]⟩,
  ⟨(some 11), .none, .app false 1 8 (.t 8) (.t 10)⟩,
  ⟨(some 4), .none, .mv (.t 11)⟩]
def f_seglog_Log_put_r1 : List AOp := [
  ⟨(some 12), .none, .mv (.t 0)⟩,
  ⟨(some 13), .none, .mv (.t 4)⟩,
  ⟨(some 14), .none, .nilck (.t 12)⟩,
  ⟨(some 15), .none, .faddr 4 (.t 14)⟩,
  ⟨.none, .none, .store 1 (.t 15) (.t 13)⟩]
def f_seglog_Log_put_c0 : AC := (.reg f_seglog_Log_put_r1)
def f_seglog_Log_put : AF := ⟨16, [], (.seq (.reg f_seglog_Log_put_r0) f_seglog_Log_put_c0)⟩
/- wire_place_take -/
def f_wire_place_take_r0 : List AOp := [
  ⟨(some 4), .none, .mv (.c .nils)⟩]
def f_wire_place_take_r1 : List AOp := [
  ⟨(some 5), .none, .mv (.t 0)⟩,
  ⟨(some 6), .none, .nilck (.t 5)⟩,
  ⟨(some 7), .none, .faddr 1 (.t 6)⟩,
  ⟨(some 8), .none, .load1 (.t 7)⟩,
  ⟨(some 9), .none, .mv (.t 1)⟩,
  ⟨(some 10), .none, .bin .add .num (.t 8) (.t 9)⟩,
  ⟨(some 11), .none, .nilck (.t 5)⟩,
  ⟨(some 12), .none, .faddr 1 (.t 11)⟩,
  ⟨.none, .none, .store 1 (.t 12) (.t 10)⟩]
def f_wire_place_take_r2 : DR := ⟨[
  ⟨(some 13), .none, .mv (.t 0)⟩,
  ⟨(some 14), .none, .nilck (.t 13)⟩,
  ⟨(some 15), .none, .faddr 0 (.t 14)⟩,
  ⟨(some 16), .none, .load1 (.t 15)⟩,
  ⟨(some 17), .none, .mv (.t 0)⟩,
  ⟨(some 18), .none, .nilck (.t 17)⟩,
  ⟨(some 19), .none, .faddr 1 (.t 18)⟩,
  ⟨(some 20), .none, .load1 (.t 19)⟩,
  ⟨(some 21), .none, .mv (.t 1)⟩,
  ⟨(some 22), .none, .bin .sub .num (.t 20) (.t 21)⟩,
  ⟨(some 23), .none, .mv (.t 0)⟩,
  ⟨(some 24), .none, .nilck (.t 23)⟩,
  ⟨(some 25), .none, .faddr 1 (.t 24)⟩,
  ⟨(some 26), .none, .load1 (.t 25)⟩,
  ⟨(some 27), .none, .slc 1 (.t 16) (some (.t 22)) (some (.t 26)) .none⟩,
  ⟨(some 4), .none, .mv (.t 27)⟩],
  [0, 1, 3, 7, 0, 16, 48, 112, 0, 496, 0, 1024, 3072, 7168, 16383, 32767], [0, 1, 2, 3, 4, 5, 6, 7, 8, 9, 10, 11, 12, 13, 14, 15], [], .none⟩
def f_wire_place_take_c0 : AC := .ret
def f_wire_place_take_c1 : AC := (.seq (.dreg f_wire_place_take_r2) f_wire_place_take_c0)
def f_wire_place_take_c2 : AC := (.seq (.reg f_wire_place_take_r1) f_wire_place_take_c1)
def f_wire_place_take : AF := ⟨28, [.tmp 4], (.seq (.reg f_wire_place_take_r0) f_wire_place_take_c2)⟩
/- wire_Reader_Within -/
def f_wire_Reader_Within_r0 : List AOp := [
  ⟨(some 6), .none, .mv (.c (.int .i64 0))⟩]
def f_wire_Reader_Within_r1 : List AOp := [
  ⟨(some 9), .none, .mv (.t 0)⟩,
  ⟨(some 10), .none, .call 166 [(.t 9)]⟩,
  ⟨(some 11), .none, .un .not (.t 10)⟩]
def f_wire_Reader_Within_r2 : List AOp := [
  ⟨(some 6), .none, .mv (.c (.int .i64 0))⟩]
def f_wire_Reader_Within_c0 : AC := .ret
def f_wire_Reader_Within_c1 : AC := (.cond (.t 11) (.seq (.reg f_wire_Reader_Within_r2) f_wire_Reader_Within_c0) .skip)
def f_wire_Reader_Within_r3 : List AOp := [
  ⟨(some 12), .none, .mv (.t 0)⟩,
  ⟨(some 13), .none, .nilck (.t 12)⟩,
  ⟨(some 14), .none, .faddr 0 (.t 13)⟩,
  ⟨(some 15), .none, .faddr 1 (.t 14)⟩,
  ⟨(some 16), .none, .load1 (.t 15)⟩,
  ⟨(some 7), .none, .mv (.t 16)⟩]
def f_wire_Reader_Within_r4 : List AOp := [
  ⟨(some 17), .none, .mv (.t 0)⟩,
  ⟨(some 18), .none, .call 301 [(.t 17)]⟩,
  ⟨(some 8), .none, .mv (.t 18)⟩]
def f_wire_Reader_Within_r5 : List AOp := [
  ⟨(some 19), .none, .mv (.t 0)⟩,
  ⟨(some 20), .none, .nilck (.t 19)⟩,
  ⟨(some 21), .none, .faddr 0 (.t 20)⟩,
  ⟨(some 22), .none, .faddr 2 (.t 21)⟩,
  ⟨(some 23), .none, .load1 (.t 22)⟩,
  ⟨(some 24), .none, .bin .eql .num (.t 23) (.c (.int .i64 0))⟩,
  ⟨(some 25), .none, .mv (.t 24)⟩,
  ⟨(some 26), (some (25, true)), .mv (.t 8)⟩,
  ⟨(some 27), (some (25, true)), .mv (.t 1)⟩,
  ⟨(some 28), (some (25, true)), .bin .lss .num (.t 26) (.t 27)⟩,
  ⟨(some 29), (some (25, true)), .mv (.t 28)⟩,
  ⟨(some 30), (some (29, false)), .mv (.t 8)⟩,
  ⟨(some 31), (some (29, false)), .mv (.t 2)⟩,
  ⟨(some 32), (some (29, false)), .bin .gtr .num (.t 30) (.t 31)⟩,
  ⟨(some 33), (some (25, true)), .pick (.t 29) (.c (.bool true)) (.t 32)⟩,
  ⟨(some 34), .none, .pick (.t 25) (.t 33) (.c (.bool false))⟩]
def f_wire_Reader_Within_r6 : List AOp := [
  ⟨(some 35), .none, .mv (.t 0)⟩,
  ⟨(some 36), .none, .mv (.t 7)⟩,
  ⟨(some 37), .none, .nilck (.t 35)⟩,
  ⟨(some 38), .none, .faddr 0 (.t 37)⟩,
  ⟨(some 39), .none, .faddr 1 (.t 38)⟩,
  ⟨.none, .none, .store 1 (.t 39) (.t 36)⟩]
def f_wire_Reader_Within_r7 : List AOp := [
  ⟨(some 40), .none, .mv (.t 0)⟩,
  ⟨(some 41), .none, .nilck (.t 40)⟩,
  ⟨(some 42), .none, .faddr 0 (.t 41)⟩,
  ⟨(some 43), .none, .call 169 [(.t 42), (.c (.int .i64 8))]⟩]
def f_wire_Reader_Within_c2 : AC := (.reg f_wire_Reader_Within_r7)
def f_wire_Reader_Within_c3 : AC := (.cond (.t 34) (.seq (.reg f_wire_Reader_Within_r6) f_wire_Reader_Within_c2) .skip)
def f_wire_Reader_Within_r8 : List AOp := [
  ⟨(some 44), .none, .mv (.t 0)⟩,
  ⟨(some 45), .none, .nilck (.t 44)⟩,
  ⟨(some 46), .none, .faddr 0 (.t 45)⟩,
  ⟨(some 47), .none, .faddr 2 (.t 46)⟩,
  ⟨(some 48), .none, .load1 (.t 47)⟩,
  ⟨(some 49), .none, .bin .neq .num (.t 48) (.c (.int .i64 0))⟩]
def f_wire_Reader_Within_r9 : List AOp := [
  ⟨(some 6), .none, .mv (.c (.int .i64 0))⟩]
def f_wire_Reader_Within_c4 : AC := .ret
def f_wire_Reader_Within_c5 : AC := (.cond (.t 49) (.seq (.reg f_wire_Reader_Within_r9) f_wire_Reader_Within_c4) .skip)
def f_wire_Reader_Within_r10 : List AOp := [
  ⟨(some 50), .none, .mv (.t 8)⟩,
  ⟨(some 6), .none, .mv (.t 50)⟩]
def f_wire_Reader_Within_c6 : AC := .ret
def f_wire_Reader_Within_c7 : AC := (.seq (.reg f_wire_Reader_Within_r10) f_wire_Reader_Within_c6)
def f_wire_Reader_Within_c8 : AC := (.keep 6 [0, 8] (.seq (.seq (.reg f_wire_Reader_Within_r8) f_wire_Reader_Within_c5) f_wire_Reader_Within_c7))
def f_wire_Reader_Within_c9 : AC := (.seq (.seq (.reg f_wire_Reader_Within_r5) f_wire_Reader_Within_c3) f_wire_Reader_Within_c8)
def f_wire_Reader_Within_c10 : AC := (.seq (.reg f_wire_Reader_Within_r4) f_wire_Reader_Within_c9)
def f_wire_Reader_Within_c11 : AC := (.seq (.reg f_wire_Reader_Within_r3) f_wire_Reader_Within_c10)
def f_wire_Reader_Within_c12 : AC := (.seq (.seq (.reg f_wire_Reader_Within_r1) f_wire_Reader_Within_c1) f_wire_Reader_Within_c11)
def f_wire_Reader_Within : AF := ⟨51, [.tmp 6], (.seq (.reg f_wire_Reader_Within_r0) f_wire_Reader_Within_c12)⟩
/- wire_Reader_Err -/
def f_wire_Reader_Err_r0 : List AOp := [
  ⟨(some 2), .none, .mv (.c (.int .i64 0))⟩]
def f_wire_Reader_Err_r1 : List AOp := [
  ⟨(some 3), .none, .mv (.t 0)⟩,
  ⟨(some 4), .none, .bin .eql .ptr (.t 3) (.c .nilp)⟩]
def f_wire_Reader_Err_r2 : List AOp := [
  ⟨(some 2), .none, .mv (.c (.int .i64 1))⟩]
def f_wire_Reader_Err_c0 : AC := .ret
def f_wire_Reader_Err_c1 : AC := (.cond (.t 4) (.seq (.reg f_wire_Reader_Err_r2) f_wire_Reader_Err_c0) .skip)
def f_wire_Reader_Err_r3 : List AOp := [
  ⟨(some 5), .none, .mv (.t 0)⟩,
  ⟨(some 6), .none, .nilck (.t 5)⟩,
  ⟨(some 7), .none, .faddr 0 (.t 6)⟩,
  ⟨(some 8), .none, .faddr 2 (.t 7)⟩,
  ⟨(some 9), .none, .load1 (.t 8)⟩,
  ⟨(some 2), .none, .mv (.t 9)⟩]
def f_wire_Reader_Err_c2 : AC := .ret
def f_wire_Reader_Err_c3 : AC := (.seq (.reg f_wire_Reader_Err_r3) f_wire_Reader_Err_c2)
def f_wire_Reader_Err_c4 : AC := (.seq (.seq (.reg f_wire_Reader_Err_r1) f_wire_Reader_Err_c1) f_wire_Reader_Err_c3)
def f_wire_Reader_Err : AF := ⟨10, [.tmp 2], (.seq (.reg f_wire_Reader_Err_r0) f_wire_Reader_Err_c4)⟩
/- seglog_Log_placed -/
def f_seglog_Log_placed_r0 : List AOp := [
  ⟨(some 4), .none, .mv (.c .nils)⟩,
  ⟨(some 5), .none, .mv (.c .nils)⟩,
  ⟨(some 6), .none, .mv (.c (.int .i64 0))⟩]
def f_seglog_Log_placed_r1 : List AOp := [
  ⟨(some 14), .none, .mv (.t 0)⟩,
  ⟨(some 15), .none, .call 105 [(.t 14)]⟩,
  ⟨(some 7), .none, .mv (.t 15)⟩]
def f_seglog_Log_placed_r2 : List AOp := [
  ⟨(some 8), .none, .mv (.c .nils)⟩]
def f_seglog_Log_placed_r3 : List AOp := [
  ⟨(some 9), .none, .mv (.c .nils)⟩]
def f_seglog_Log_placed_r4 : List AOp := [
  ⟨(some 16), .none, .mv (.t 1)⟩,
  ⟨(some 17), .none, .len .slice (.t 16)⟩,
  ⟨(some 18), .none, .mv (.c (.int .i64 0))⟩]
def f_seglog_Log_placed_r5 : List AOp := [
  ⟨(some 19), .none, .bin .lss .num (.t 18) (.t 17)⟩]
def f_seglog_Log_placed_r6 : List AOp := [
  ⟨(some 20), .none, .iaddr 7 (.t 16) (.t 18)⟩,
  ⟨(some 21), .none, .loadn 7 (.t 20)⟩,
  ⟨(some 11), .none, .alloc [(.int .i64 0), (.int .i64 0), (.int .i64 0), (.int .i64 0), (.int .i64 0), (.int .i64 0), .nils]⟩,
  ⟨.none, .none, .store 7 (.t 11) (.t 21)⟩]
def f_seglog_Log_placed_r7 : List AOp := [
  ⟨(some 22), .none, .mv (.t 7)⟩,
  ⟨(some 23), .none, .faddr 0 (.t 11)⟩,
  ⟨.none, .none, .store 1 (.t 23) (.t 22)⟩]
def f_seglog_Log_placed_r8 : List AOp := [
  ⟨(some 25), .none, .loadn 7 (.t 11)⟩,
  ⟨(some 26), .none, .call 268 [(.t 25)]⟩,
  ⟨(some 24), .none, .mv (.t 26)⟩,
  ⟨(some 27), .none, .ext (.t 24) 0⟩,
  ⟨(some 28), .none, .ext (.t 24) 1⟩,
  ⟨(some 12), .none, .mv (.t 27)⟩,
  ⟨(some 13), .none, .mv (.t 28)⟩]
def f_seglog_Log_placed_r9 : List AOp := [
  ⟨(some 29), .none, .mv (.t 13)⟩,
  ⟨(some 30), .none, .bin .neq .num (.t 29) (.c (.int .i64 0))⟩]
def f_seglog_Log_placed_r10 : List AOp := [
  ⟨(some 31), .none, .mv (.t 13)⟩,
  ⟨(some 4), .none, .mv (.c .nils)⟩,
  ⟨(some 5), .none, .mv (.c .nils)⟩,
  ⟨(some 6), .none, .mv (.t 31)⟩]
def f_seglog_Log_placed_c0 : AC := .ret
def f_seglog_Log_placed_c1 : AC := (.cond (.t 30) (.seq (.reg f_seglog_Log_placed_r10) f_seglog_Log_placed_c0) .skip)
def f_seglog_Log_placed_r11 : List AOp := [
  ⟨(some 32), .none, .mv (.t 8)⟩,
  ⟨(some 33), .none, .loadn 7 (.t 11)⟩,
  ⟨(some 34), .none, .bsl false 7 1 [(.int .i64 0), (.int .i64 0), (.int .i64 0), (.int .i64 0), (.int .i64 0), (.int .i64 0), .nils] [(0, 7, (.t 33))]⟩,
  ⟨(some 35), .none, .app false 7 72 (.t 32) (.t 34)⟩,
  ⟨(some 8), .none, .mv (.t 35)⟩]
def f_seglog_Log_placed_r12 : List AOp := [
  ⟨(some 36), .none, .mv (.t 9)⟩,
  ⟨(some 37), .none, .mv (.t 12)⟩,
  ⟨(some 38), .none, .bsl false 1 1 [.nils] [(0, 1, (.t 37))]⟩,
  ⟨(some 39), .none, .call 193 [(.t 38)]⟩,
  ⟨(some 40), .none, .bsl false 1 1 [.nils] [(0, 1, (.t 39))]⟩,
  ⟨(some 41), .none, .app false 1 24 (.t 36) (.t 40)⟩,
  ⟨(some 9), .none, .mv (.t 41)⟩]
def f_seglog_Log_placed_r13 : List AOp := [
  ⟨(some 42), .none, .loadn 7 (.t 11)⟩,
  ⟨(some 43), .none, .call 95 [(.t 42)]⟩,
  ⟨(some 7), .none, .mv (.t 43)⟩]
def f_seglog_Log_placed_c2 : AC := (.reg f_seglog_Log_placed_r13)
def f_seglog_Log_placed_c3 : AC := (.seq (.reg f_seglog_Log_placed_r12) f_seglog_Log_placed_c2)
def f_seglog_Log_placed_c4 : AC := (.seq (.reg f_seglog_Log_placed_r11) f_seglog_Log_placed_c3)
def f_seglog_Log_placed_c5 : AC := (.seq (.seq (.reg f_seglog_Log_placed_r9) f_seglog_Log_placed_c1) f_seglog_Log_placed_c4)
def f_seglog_Log_placed_c6 : AC := (.seq (.reg f_seglog_Log_placed_r8) f_seglog_Log_placed_c5)
def f_seglog_Log_placed_c7 : AC := (.seq (.reg f_seglog_Log_placed_r7) f_seglog_Log_placed_c6)
def f_seglog_Log_placed_r14 : List AOp := [
  ⟨(some 44), .none, .bin .add .num (.t 18) (.c (.int .i64 1))⟩,
  ⟨(some 18), .none, .mv (.t 44)⟩]
def f_seglog_Log_placed_c8 : AC := (.reg f_seglog_Log_placed_r14)
def f_seglog_Log_placed_c9 : AC := (.seq (.block 1 (.seq (.reg f_seglog_Log_placed_r6) f_seglog_Log_placed_c7)) f_seglog_Log_placed_c8)
def f_seglog_Log_placed_c10 : AC := (.seq (.cond (.t 19) .skip (.exit 0)) f_seglog_Log_placed_c9)
def f_seglog_Log_placed_c11 : AC := (.seq (.reg f_seglog_Log_placed_r5) f_seglog_Log_placed_c10)
def f_seglog_Log_placed_c12 : AC := (.block 0 (.keep 6 [7, 8, 9, 16, 17, 18] (.loop (.keep 6 [7, 8, 9, 16, 17, 18] f_seglog_Log_placed_c11))))
def f_seglog_Log_placed_r15 : List AOp := [
  ⟨(some 45), .none, .mv (.t 8)⟩,
  ⟨(some 46), .none, .mv (.t 9)⟩,
  ⟨(some 4), .none, .mv (.t 45)⟩,
  ⟨(some 5), .none, .mv (.t 46)⟩,
  ⟨(some 6), .none, .mv (.c (.int .i64 0))⟩]
def f_seglog_Log_placed_c13 : AC := .ret
def f_seglog_Log_placed_c14 : AC := (.seq (.reg f_seglog_Log_placed_r15) f_seglog_Log_placed_c13)
def f_seglog_Log_placed_c15 : AC := (.seq (.seq (.reg f_seglog_Log_placed_r4) f_seglog_Log_placed_c12) f_seglog_Log_placed_c14)
def f_seglog_Log_placed_c16 : AC := (.seq (.reg f_seglog_Log_placed_r3) f_seglog_Log_placed_c15)
def f_seglog_Log_placed_c17 : AC := (.seq (.reg f_seglog_Log_placed_r2) f_seglog_Log_placed_c16)
def f_seglog_Log_placed_c18 : AC := (.seq (.reg f_seglog_Log_placed_r1) f_seglog_Log_placed_c17)
def f_seglog_Log_placed : AF := ⟨47, [.tmp 4, .tmp 5, .tmp 6], (.seq (.reg f_seglog_Log_placed_r0) f_seglog_Log_placed_c18)⟩
/- seglog_Log_fits -/
def f_seglog_Log_fits_r0 : List AOp := [
  ⟨(some 4), .none, .mv (.c (.bool false))⟩]
def f_seglog_Log_fits_r1 : List AOp := [
  ⟨(some 6), .none, .mv (.t 0)⟩,
  ⟨(some 7), .none, .call 205 [(.t 6)]⟩,
  ⟨(some 5), .none, .mv (.t 7)⟩]
def f_seglog_Log_fits_r2 : DR := ⟨[
  ⟨(some 8), .none, .mv (.t 5)⟩,
  ⟨(some 9), .none, .bin .neq .ptr (.t 8) (.c .nilp)⟩,
  ⟨(some 10), .none, .mv (.t 9)⟩,
  ⟨(some 11), (some (10, true)), .mv (.t 5)⟩,
  ⟨(some 12), (some (10, true)), .nilck (.t 11)⟩,
  ⟨(some 13), (some (10, true)), .faddr 3 (.t 12)⟩,
  ⟨(some 14), (some (10, true)), .load1 (.t 13)⟩,
  ⟨(some 15), (some (10, true)), .bin .eql .num (.t 14) (.c (.int .i64 0))⟩,
  ⟨(some 16), (some (10, true)), .mv (.t 15)⟩,
  ⟨(some 17), (some (16, false)), .mv (.t 5)⟩,
  ⟨(some 18), (some (16, false)), .nilck (.t 17)⟩,
  ⟨(some 19), (some (16, false)), .faddr 5 (.t 18)⟩,
  ⟨(some 20), (some (16, false)), .load1 (.t 19)⟩,
  ⟨(some 21), (some (16, false)), .mv (.t 1)⟩,
  ⟨(some 22), (some (16, false)), .bin .add .num (.t 20) (.t 21)⟩,
  ⟨(some 23), (some (16, false)), .mv (.t 0)⟩,
  ⟨(some 24), (some (16, false)), .nilck (.t 23)⟩,
  ⟨(some 25), (some (16, false)), .faddr 2 (.t 24)⟩,
  ⟨(some 26), (some (16, false)), .faddr 0 (.t 25)⟩,
  ⟨(some 27), (some (16, false)), .load1 (.t 26)⟩,
  ⟨(some 28), (some (16, false)), .bin .leq .num (.t 22) (.t 27)⟩,
  ⟨(some 29), (some (10, true)), .pick (.t 16) (.c (.bool true)) (.t 28)⟩,
  ⟨(some 30), .none, .pick (.t 10) (.t 29) (.c (.bool false))⟩,
  ⟨(some 4), .none, .mv (.t 30)⟩],
  [0, 1, 3, 7, 15, 31, 63, 127, 255, 511, 1023, 2047, 4095, 511, 16383, 511, 33279, 98815, 229887, 492031, 1048575, 2097151, 4194303, 8388607], [0, 1, 2, 3, 4, 5, 6, 7, 8, 9, 10, 11, 12, 13, 14, 15, 16, 17, 18, 19, 20, 21, 22, 23], [], .none⟩
def f_seglog_Log_fits_c0 : AC := .ret
def f_seglog_Log_fits_c1 : AC := (.seq (.dreg f_seglog_Log_fits_r2) f_seglog_Log_fits_c0)
def f_seglog_Log_fits_c2 : AC := (.seq (.reg f_seglog_Log_fits_r1) f_seglog_Log_fits_c1)
def f_seglog_Log_fits : AF := ⟨31, [.tmp 4], (.seq (.reg f_seglog_Log_fits_r0) f_seglog_Log_fits_c2)⟩
/- seglog_head -/
def f_seglog_head_r0 : List AOp := [
  ⟨(some 4), .none, .mv (.c .nils)⟩]
def f_seglog_head_r1 : List AOp := [
  ⟨(some 5), .none, .bsl false 1 1 [(.int .u8 0)] [(0, 1, (.c (.int .u8 83)))]⟩,
  ⟨(some 6), .none, .mv (.t 0)⟩,
  ⟨(some 7), .none, .conv (.int .u64) (.t 6)⟩,
  ⟨(some 8), .none, .call 78 [(.t 7)]⟩,
  ⟨(some 9), .none, .mv (.t 1)⟩,
  ⟨(some 10), .none, .conv (.int .u64) (.t 9)⟩,
  ⟨(some 11), .none, .call 78 [(.t 10)]⟩,
  ⟨(some 12), .none, .bsl false 1 3 [.nils] [(0, 1, (.t 5)), (1, 1, (.t 8)), (2, 1, (.t 11))]⟩,
  ⟨(some 13), .none, .call 193 [(.t 12)]⟩,
  ⟨(some 4), .none, .mv (.t 13)⟩]
def f_seglog_head_c0 : AC := .ret
def f_seglog_head_c1 : AC := (.seq (.reg f_seglog_head_r1) f_seglog_head_c0)
def f_seglog_head : AF := ⟨14, [.tmp 4], (.seq (.reg f_seglog_head_r0) f_seglog_head_c1)⟩
/- index_Index_Find -/
def f_index_Index_Find_r0 : List AOp := [
  ⟨(some 2), .none, .box (.t 0)⟩,
  ⟨(some 3), .none, .box (.t 1)⟩,
  ⟨(some 4), .none, .alloc [(.int .i64 0), (.int .i64 0), (.int .i64 0)]⟩,
  ⟨(some 5), .none, .mv (.c (.bool false))⟩]
def f_index_Index_Find_r1 : List AOp := [
  ⟨(some 6), .none, .load1 (.t 2)⟩,
  ⟨(some 7), .none, .bin .eql .ptr (.t 6) (.c .nilp)⟩]
def f_index_Index_Find_r2 : List AOp := [
  ⟨(some 8), .none, .build [(.int .i64 0), (.int .i64 0), (.int .i64 0)] []⟩,
  ⟨.none, .none, .store 3 (.t 4) (.t 8)⟩,
  ⟨(some 5), .none, .mv (.c (.bool false))⟩]
def f_index_Index_Find_c0 : AC := .ret
def f_index_Index_Find_c1 : AC := (.cond (.t 7) (.seq (.reg f_index_Index_Find_r2) f_index_Index_Find_c0) .skip)
def f_index_Index_Find_r3 : DR := ⟨[
  ⟨(some 9), .none, .load1 (.t 2)⟩,
  ⟨(some 10), .none, .load1 (.t 2)⟩,
  ⟨(some 11), .none, .nilck (.t 10)⟩,
  ⟨(some 12), .none, .faddr 4 (.t 11)⟩,
  ⟨(some 13), .none, .load1 (.t 12)⟩,
  ⟨(some 14), .none, .len .slice (.t 13)⟩,
  ⟨(some 15), .none, .mkfn 307 [] [(.t 2), (.t 3)]⟩,
  ⟨(some 16), .none, .call 178 [(.t 14), (.t 15)]⟩,
  ⟨(some 17), .none, .bin .sub .num (.t 16) (.c (.int .i64 1))⟩,
  ⟨(some 18), .none, .call 306 [(.t 9), (.t 17)]⟩,
  ⟨(some 19), .none, .ext (.t 18) 0⟩,
  ⟨(some 20), .none, .ext (.t 18) 1⟩,
  ⟨.none, .none, .store 3 (.t 4) (.t 19)⟩,
  ⟨(some 5), .none, .mv (.t 20)⟩],
  [0, 0, 2, 6, 14, 30, 0, 126, 254, 511, 1023, 1023, 4095, 8191], [0, 1, 2, 3, 4, 5, 6, 7, 8, 9, 10, 11, 12, 13], [(0, 1)], .none⟩
def f_index_Index_Find_c2 : AC := .ret
def f_index_Index_Find_c3 : AC := (.seq (.dreg f_index_Index_Find_r3) f_index_Index_Find_c2)
def f_index_Index_Find_c4 : AC := (.seq (.seq (.reg f_index_Index_Find_r1) f_index_Index_Find_c1) f_index_Index_Find_c3)
def f_index_Index_Find : AF := ⟨21, [.celln 4 3, .tmp 5], (.seq (.reg f_index_Index_Find_r0) f_index_Index_Find_c4)⟩
/- rec_numbers -/
def f_rec_numbers_r0 : List AOp := [
  ⟨(some 1), .none, .box (.t 0)⟩,
  ⟨(some 2), .none, .mv (.c (.bool false))⟩]
def f_rec_numbers_r1 : List AOp := [
  ⟨(some 3), .none, .faddr 4 (.t 1)⟩,
  ⟨(some 4), .none, .load1 (.t 3)⟩,
  ⟨(some 5), .none, .bin .geq .num (.t 4) (.c (.int .i64 0))⟩,
  ⟨(some 6), .none, .mv (.t 5)⟩,
  ⟨(some 7), (some (6, true)), .faddr 4 (.t 1)⟩,
  ⟨(some 8), (some (6, true)), .load1 (.t 7)⟩,
  ⟨(some 9), (some (6, true)), .bin .leq .num (.t 8) (.c (.int .i64 3))⟩,
  ⟨(some 10), .none, .pick (.t 6) (.t 9) (.c (.bool false))⟩,
  ⟨(some 11), .none, .mv (.t 10)⟩,
  ⟨(some 12), (some (11, true)), .faddr 0 (.t 1)⟩,
  ⟨(some 13), (some (11, true)), .load1 (.t 12)⟩,
  ⟨(some 14), (some (11, true)), .call 308 [(.t 13), (.c (.int .i64 0)), (.c (.int .i64 1099511627776))]⟩,
  ⟨(some 15), .none, .pick (.t 11) (.t 14) (.c (.bool false))⟩,
  ⟨(some 16), .none, .mv (.t 15)⟩,
  ⟨(some 17), (some (16, true)), .faddr 1 (.t 1)⟩,
  ⟨(some 18), (some (16, true)), .load1 (.t 17)⟩,
  ⟨(some 19), (some (16, true)), .call 308 [(.t 18), (.c (.int .i64 0)), (.c (.int .i64 1048576))]⟩,
  ⟨(some 20), .none, .pick (.t 16) (.t 19) (.c (.bool false))⟩,
  ⟨(some 21), .none, .mv (.t 20)⟩,
  ⟨(some 22), (some (21, true)), .faddr 2 (.t 1)⟩,
  ⟨(some 23), (some (21, true)), .load1 (.t 22)⟩,
  ⟨(some 24), (some (21, true)), .bin .geq .num (.t 23) (.c (.int .i64 0))⟩,
  ⟨(some 25), .none, .pick (.t 21) (.t 24) (.c (.bool false))⟩,
  ⟨(some 26), .none, .mv (.t 25)⟩,
  ⟨(some 27), (some (26, true)), .faddr 2 (.t 1)⟩,
  ⟨(some 28), (some (26, true)), .load1 (.t 27)⟩,
  ⟨(some 29), (some (26, true)), .bin .leq .num (.t 28) (.c (.int .i64 32767))⟩,
  ⟨(some 30), .none, .pick (.t 26) (.t 29) (.c (.bool false))⟩,
  ⟨(some 31), .none, .mv (.t 30)⟩,
  ⟨(some 32), (some (31, true)), .faddr 3 (.t 1)⟩,
  ⟨(some 33), (some (31, true)), .load1 (.t 32)⟩,
  ⟨(some 34), (some (31, true)), .bin .geq .num (.t 33) (.c (.int .i64 0))⟩,
  ⟨(some 35), .none, .pick (.t 31) (.t 34) (.c (.bool false))⟩,
  ⟨(some 36), .none, .mv (.t 35)⟩,
  ⟨(some 37), (some (36, true)), .faddr 3 (.t 1)⟩,
  ⟨(some 38), (some (36, true)), .load1 (.t 37)⟩,
  ⟨(some 39), (some (36, true)), .bin .leq .num (.t 38) (.c (.int .i64 2147483647))⟩,
  ⟨(some 40), .none, .pick (.t 36) (.t 39) (.c (.bool false))⟩,
  ⟨(some 41), .none, .mv (.t 40)⟩,
  ⟨(some 42), (some (41, true)), .faddr 5 (.t 1)⟩,
  ⟨(some 43), (some (41, true)), .load1 (.t 42)⟩,
  ⟨(some 44), (some (41, true)), .call 308 [(.t 43), (.c (.int .i64 0)), (.c (.int .i64 1099511627776))]⟩,
  ⟨(some 45), .none, .pick (.t 41) (.t 44) (.c (.bool false))⟩,
  ⟨(some 2), .none, .mv (.t 45)⟩]
def f_rec_numbers_c0 : AC := .ret
def f_rec_numbers_c1 : AC := (.seq (.reg f_rec_numbers_r1) f_rec_numbers_c0)
def f_rec_numbers : AF := ⟨46, [.tmp 2], (.seq (.reg f_rec_numbers_r0) f_rec_numbers_c1)⟩
/- rec_fits -/
def f_rec_fits_r0 : List AOp := [
  ⟨(some 1), .none, .box (.t 0)⟩,
  ⟨(some 2), .none, .mv (.c (.bool false))⟩]
def f_rec_fits_r1 : List AOp := [
  ⟨(some 3), .none, .faddr 1 (.t 1)⟩,
  ⟨(some 4), .none, .load1 (.t 3)⟩,
  ⟨(some 5), .none, .bin .eql .num (.t 4) (.c (.int .i64 0))⟩,
  ⟨(some 6), .none, .mv (.t 5)⟩,
  ⟨(some 7), (some (6, true)), .faddr 4 (.t 1)⟩,
  ⟨(some 8), (some (6, true)), .load1 (.t 7)⟩,
  ⟨(some 9), (some (6, true)), .bin .neq .num (.t 8) (.c (.int .i64 0))⟩,
  ⟨(some 10), (some (6, true)), .mv (.t 9)⟩,
  ⟨(some 11), (some (10, false)), .faddr 2 (.t 1)⟩,
  ⟨(some 12), (some (10, false)), .load1 (.t 11)⟩,
  ⟨(some 13), (some (10, false)), .bin .neq .num (.t 12) (.c (.int .i64 0))⟩,
  ⟨(some 14), (some (6, true)), .pick (.t 10) (.c (.bool true)) (.t 13)⟩,
  ⟨(some 15), (some (6, true)), .mv (.t 14)⟩,
  ⟨(some 16), (some (15, false)), .faddr 3 (.t 1)⟩,
  ⟨(some 17), (some (15, false)), .load1 (.t 16)⟩,
  ⟨(some 18), (some (15, false)), .bin .neq .num (.t 17) (.c (.int .i64 0))⟩,
  ⟨(some 19), (some (6, true)), .pick (.t 15) (.c (.bool true)) (.t 18)⟩,
  ⟨(some 20), .none, .pick (.t 6) (.t 19) (.c (.bool false))⟩]
def f_rec_fits_r2 : List AOp := [
  ⟨(some 2), .none, .mv (.c (.bool false))⟩]
def f_rec_fits_c0 : AC := .ret
def f_rec_fits_c1 : AC := (.cond (.t 20) (.seq (.reg f_rec_fits_r2) f_rec_fits_c0) .skip)
def f_rec_fits_r3 : List AOp := [
  ⟨(some 21), .none, .loadn 7 (.t 1)⟩,
  ⟨(some 22), .none, .call 185 [(.t 21)]⟩]
def f_rec_fits_r4 : List AOp := [
  ⟨(some 23), .none, .faddr 3 (.t 1)⟩,
  ⟨(some 24), .none, .load1 (.t 23)⟩,
  ⟨(some 25), .none, .bin .eql .num (.t 24) (.c (.int .i64 0))⟩,
  ⟨(some 26), .none, .mv (.t 25)⟩,
  ⟨(some 27), (some (26, true)), .faddr 6 (.t 1)⟩,
  ⟨(some 28), (some (26, true)), .load1 (.t 27)⟩,
  ⟨(some 29), (some (26, true)), .len .slice (.t 28)⟩,
  ⟨(some 30), (some (26, true)), .bin .eql .num (.t 29) (.c (.int .i64 0))⟩,
  ⟨(some 31), .none, .pick (.t 26) (.t 30) (.c (.bool false))⟩,
  ⟨(some 2), .none, .mv (.t 31)⟩]
def f_rec_fits_c2 : AC := .ret
def f_rec_fits_c3 : AC := (.cond (.t 22) (.seq (.reg f_rec_fits_r4) f_rec_fits_c2) .skip)
def f_rec_fits_r5 : List AOp := [
  ⟨(some 32), .none, .faddr 6 (.t 1)⟩,
  ⟨(some 33), .none, .load1 (.t 32)⟩,
  ⟨(some 34), .none, .len .slice (.t 33)⟩,
  ⟨(some 35), .none, .bin .gtr .num (.t 34) (.c (.int .i64 0))⟩,
  ⟨(some 2), .none, .mv (.t 35)⟩]
def f_rec_fits_c4 : AC := .ret
def f_rec_fits_c5 : AC := (.seq (.reg f_rec_fits_r5) f_rec_fits_c4)
def f_rec_fits_c6 : AC := (.seq (.seq (.reg f_rec_fits_r3) f_rec_fits_c3) f_rec_fits_c5)
def f_rec_fits_c7 : AC := (.seq (.seq (.reg f_rec_fits_r1) f_rec_fits_c1) f_rec_fits_c6)
def f_rec_fits : AF := ⟨36, [.tmp 2], (.seq (.reg f_rec_fits_r0) f_rec_fits_c7)⟩
/- rec_record -/
def f_rec_record_r0 : List AOp := [
  ⟨(some 1), .none, .box (.t 0)⟩,
  ⟨(some 2), .none, .mv (.c (.int .i64 0))⟩]
def f_rec_record_r1 : List AOp := [
  ⟨(some 4), .none, .faddr 0 (.t 1)⟩,
  ⟨(some 5), .none, .load1 (.t 4)⟩,
  ⟨(some 6), .none, .len .str (.t 5)⟩,
  ⟨(some 7), .none, .bin .gtr .num (.t 6) (.c (.int .i64 1024))⟩,
  ⟨(some 8), .none, .mv (.t 7)⟩,
  ⟨(some 9), (some (8, false)), .faddr 1 (.t 1)⟩,
  ⟨(some 10), (some (8, false)), .load1 (.t 9)⟩,
  ⟨(some 11), (some (8, false)), .len .str (.t 10)⟩,
  ⟨(some 12), (some (8, false)), .bin .gtr .num (.t 11) (.c (.int .i64 1024))⟩,
  ⟨(some 13), .none, .pick (.t 8) (.c (.bool true)) (.t 12)⟩,
  ⟨(some 3), .none, .mv (.t 13)⟩]
def f_rec_record_r2 : List AOp := [
  ⟨(some 2), .none, .mv (.c (.int .i64 7))⟩]
def f_rec_record_c0 : AC := .ret
def f_rec_record_r3 : List AOp := [
  ⟨(some 15), .none, .faddr 3 (.t 1)⟩,
  ⟨(some 16), .none, .load1 (.t 15)⟩,
  ⟨(some 17), .none, .call 308 [(.t 16), (.c (.int .i64 0)), (.c (.int .i64 1099511627776))]⟩,
  ⟨(some 18), .none, .un .not (.t 17)⟩,
  ⟨(some 19), .none, .mv (.t 18)⟩,
  ⟨(some 20), (some (19, false)), .faddr 2 (.t 1)⟩,
  ⟨(some 21), (some (19, false)), .load1 (.t 20)⟩,
  ⟨(some 22), (some (19, false)), .mv (.t 21)⟩,
  ⟨(some 23), (some (22, true)), .faddr 1 (.t 1)⟩,
  ⟨(some 24), (some (22, true)), .load1 (.t 23)⟩,
  ⟨(some 25), (some (22, true)), .bin .neq .str (.t 24) (.c (.str []))⟩,
  ⟨(some 26), (some (19, false)), .pick (.t 22) (.t 25) (.c (.bool false))⟩,
  ⟨(some 27), .none, .pick (.t 19) (.c (.bool true)) (.t 26)⟩,
  ⟨(some 14), .none, .mv (.t 27)⟩]
def f_rec_record_r4 : List AOp := [
  ⟨(some 2), .none, .mv (.c (.int .i64 2))⟩]
def f_rec_record_c1 : AC := .ret
def f_rec_record_c2 : AC := (.cond (.t 14) (.seq (.reg f_rec_record_r4) f_rec_record_c1) .skip)
def f_rec_record_c3 : AC := (.cond (.t 3) (.seq (.reg f_rec_record_r2) f_rec_record_c0) (.seq (.reg f_rec_record_r3) f_rec_record_c2))
def f_rec_record_r5 : List AOp := [
  ⟨(some 2), .none, .mv (.c (.int .i64 0))⟩]
def f_rec_record_c4 : AC := .ret
def f_rec_record_c5 : AC := (.seq (.reg f_rec_record_r5) f_rec_record_c4)
def f_rec_record_c6 : AC := (.seq (.block 0 (.seq (.reg f_rec_record_r1) f_rec_record_c3)) f_rec_record_c5)
def f_rec_record : AF := ⟨28, [.tmp 2], (.seq (.reg f_rec_record_r0) f_rec_record_c6)⟩
/- wire_Int -/
def f_wire_Int_r0 : List AOp := [
  ⟨(some 2), .none, .mv (.c .nils)⟩]
def f_wire_Int_r1 : List AOp := [
  ⟨(some 3), .none, .mv (.t 0)⟩,
  ⟨(some 4), .none, .conv (.int .u64) (.t 3)⟩,
  ⟨(some 5), .none, .bin .shl .num (.t 4) (.c (.int .u64 1))⟩,
  ⟨(some 6), .none, .mv (.t 0)⟩,
  ⟨(some 7), .none, .bin .shr .num (.t 6) (.c (.int .u64 63))⟩,
  ⟨(some 8), .none, .conv (.int .u64) (.t 7)⟩,
  ⟨(some 9), .none, .bin .xor .num (.t 5) (.t 8)⟩,
  ⟨(some 10), .none, .call 78 [(.t 9)]⟩,
  ⟨(some 2), .none, .mv (.t 10)⟩]
def f_wire_Int_c0 : AC := .ret
def f_wire_Int_c1 : AC := (.seq (.reg f_wire_Int_r1) f_wire_Int_c0)
def f_wire_Int : AF := ⟨11, [.tmp 2], (.seq (.reg f_wire_Int_r0) f_wire_Int_c1)⟩
/- frame_four -/
def f_frame_four_r0 : List AOp := [
  ⟨(some 2), .none, .mv (.c .nils)⟩]
def f_frame_four_r1 : List AOp := [
  ⟨(some 3), .none, .mv (.t 0)⟩,
  ⟨(some 4), .none, .conv (.int .u8) (.t 3)⟩,
  ⟨(some 5), .none, .mv (.t 0)⟩,
  ⟨(some 6), .none, .bin .shr .num (.t 5) (.c (.int .u64 8))⟩,
  ⟨(some 7), .none, .conv (.int .u8) (.t 6)⟩,
  ⟨(some 8), .none, .mv (.t 0)⟩,
  ⟨(some 9), .none, .bin .shr .num (.t 8) (.c (.int .u64 16))⟩,
  ⟨(some 10), .none, .conv (.int .u8) (.t 9)⟩,
  ⟨(some 11), .none, .mv (.t 0)⟩,
  ⟨(some 12), .none, .bin .shr .num (.t 11) (.c (.int .u64 24))⟩,
  ⟨(some 13), .none, .conv (.int .u8) (.t 12)⟩,
  ⟨(some 14), .none, .bsl false 1 4 [(.int .u8 0)] [(0, 1, (.t 4)), (1, 1, (.t 7)), (2, 1, (.t 10)), (3, 1, (.t 13))]⟩,
  ⟨(some 2), .none, .mv (.t 14)⟩]
def f_frame_four_c0 : AC := .ret
def f_frame_four_c1 : AC := (.seq (.reg f_frame_four_r1) f_frame_four_c0)
def f_frame_four : AF := ⟨15, [.tmp 2], (.seq (.reg f_frame_four_r0) f_frame_four_c1)⟩
/- frame_Sum -/
def f_frame_Sum_r0 : List AOp := [
  ⟨(some 2), .none, .mv (.c (.int .u32 0))⟩]
def f_frame_Sum_r1 : List AOp := [
  ⟨(some 3), .none, .mv (.t 0)⟩,
  ⟨(some 4), .none, .call 323 [(.c (.int .u32 0)), (.t 3)]⟩,
  ⟨(some 2), .none, .mv (.t 4)⟩]
def f_frame_Sum_c0 : AC := .ret
def f_frame_Sum_c1 : AC := (.seq (.reg f_frame_Sum_r1) f_frame_Sum_c0)
def f_frame_Sum : AF := ⟨5, [.tmp 2], (.seq (.reg f_frame_Sum_r0) f_frame_Sum_c1)⟩
/- disk_Name -/
def f_disk_Name_r0 : List AOp := [
  ⟨(some 2), .none, .mv (.c (.bool false))⟩]
def f_disk_Name_r1 : List AOp := [
  ⟨(some 7), .none, .mv (.t 0)⟩,
  ⟨(some 8), .none, .len .str (.t 7)⟩,
  ⟨(some 9), .none, .bin .lss .num (.t 8) (.c (.int .i64 1))⟩,
  ⟨(some 10), .none, .mv (.t 9)⟩,
  ⟨(some 11), (some (10, false)), .mv (.t 0)⟩,
  ⟨(some 12), (some (10, false)), .len .str (.t 11)⟩,
  ⟨(some 13), (some (10, false)), .bin .gtr .num (.t 12) (.c (.int .i64 24))⟩,
  ⟨(some 14), .none, .pick (.t 10) (.c (.bool true)) (.t 13)⟩]
def f_disk_Name_r2 : List AOp := [
  ⟨(some 2), .none, .mv (.c (.bool false))⟩]
def f_disk_Name_c0 : AC := .ret
def f_disk_Name_c1 : AC := (.cond (.t 14) (.seq (.reg f_disk_Name_r2) f_disk_Name_c0) .skip)
def f_disk_Name_r3 : List AOp := [
  ⟨(some 15), .none, .mv (.t 0)⟩,
  ⟨(some 16), .none, .conv .toBytes (.t 15)⟩,
  ⟨(some 17), .none, .len .slice (.t 16)⟩,
  ⟨(some 18), .none, .mv (.c (.int .i64 0))⟩]
def f_disk_Name_r4 : List AOp := [
  ⟨(some 19), .none, .bin .lss .num (.t 18) (.t 17)⟩]
def f_disk_Name_r5 : List AOp := [
  ⟨(some 20), .none, .iaddr 1 (.t 16) (.t 18)⟩,
  ⟨(some 21), .none, .load1 (.t 20)⟩,
  ⟨(some 4), .none, .mv (.t 21)⟩]
def f_disk_Name_r6 : List AOp := [
  ⟨(some 22), .none, .mv (.t 4)⟩,
  ⟨(some 23), .none, .bin .geq .num (.t 22) (.c (.int .u8 97))⟩,
  ⟨(some 24), .none, .mv (.t 23)⟩,
  ⟨(some 25), (some (24, true)), .mv (.t 4)⟩,
  ⟨(some 26), (some (24, true)), .bin .leq .num (.t 25) (.c (.int .u8 122))⟩,
  ⟨(some 27), .none, .pick (.t 24) (.t 26) (.c (.bool false))⟩,
  ⟨(some 28), .none, .mv (.t 4)⟩,
  ⟨(some 29), .none, .bin .geq .num (.t 28) (.c (.int .u8 48))⟩,
  ⟨(some 30), .none, .mv (.t 29)⟩,
  ⟨(some 31), (some (30, true)), .mv (.t 4)⟩,
  ⟨(some 32), (some (30, true)), .bin .leq .num (.t 31) (.c (.int .u8 57))⟩,
  ⟨(some 33), .none, .pick (.t 30) (.t 32) (.c (.bool false))⟩,
  ⟨(some 5), .none, .mv (.t 27)⟩,
  ⟨(some 6), .none, .mv (.t 33)⟩]
def f_disk_Name_r7 : List AOp := [
  ⟨(some 34), .none, .mv (.t 5)⟩,
  ⟨(some 35), .none, .un .not (.t 34)⟩,
  ⟨(some 36), .none, .mv (.t 35)⟩,
  ⟨(some 37), (some (36, true)), .mv (.t 6)⟩,
  ⟨(some 38), (some (36, true)), .un .not (.t 37)⟩,
  ⟨(some 39), .none, .pick (.t 36) (.t 38) (.c (.bool false))⟩,
  ⟨(some 40), .none, .mv (.t 39)⟩,
  ⟨(some 41), (some (40, true)), .mv (.t 4)⟩,
  ⟨(some 42), (some (40, true)), .bin .neq .num (.t 41) (.c (.int .u8 46))⟩,
  ⟨(some 43), .none, .pick (.t 40) (.t 42) (.c (.bool false))⟩,
  ⟨(some 44), .none, .mv (.t 43)⟩,
  ⟨(some 45), (some (44, true)), .mv (.t 4)⟩,
  ⟨(some 46), (some (44, true)), .bin .neq .num (.t 45) (.c (.int .u8 45))⟩,
  ⟨(some 47), .none, .pick (.t 44) (.t 46) (.c (.bool false))⟩]
def f_disk_Name_r8 : List AOp := [
  ⟨(some 2), .none, .mv (.c (.bool false))⟩]
def f_disk_Name_c2 : AC := .ret
def f_disk_Name_c3 : AC := (.cond (.t 47) (.seq (.reg f_disk_Name_r8) f_disk_Name_c2) .skip)
def f_disk_Name_c4 : AC := (.seq (.reg f_disk_Name_r7) f_disk_Name_c3)
def f_disk_Name_c5 : AC := (.seq (.reg f_disk_Name_r6) f_disk_Name_c4)
def f_disk_Name_r9 : List AOp := [
  ⟨(some 48), .none, .bin .add .num (.t 18) (.c (.int .i64 1))⟩,
  ⟨(some 18), .none, .mv (.t 48)⟩]
def f_disk_Name_c6 : AC := (.reg f_disk_Name_r9)
def f_disk_Name_c7 : AC := (.seq (.block 1 (.seq (.reg f_disk_Name_r5) f_disk_Name_c5)) f_disk_Name_c6)
def f_disk_Name_c8 : AC := (.seq (.cond (.t 19) .skip (.exit 0)) f_disk_Name_c7)
def f_disk_Name_c9 : AC := (.seq (.reg f_disk_Name_r4) f_disk_Name_c8)
def f_disk_Name_c10 : AC := (.block 0 (.keep 6 [16, 17, 18] (.loop (.keep 6 [16, 17, 18] f_disk_Name_c9))))
def f_disk_Name_r10 : List AOp := [
  ⟨(some 2), .none, .mv (.c (.bool true))⟩]
def f_disk_Name_c11 : AC := .ret
def f_disk_Name_c12 : AC := (.seq (.reg f_disk_Name_r10) f_disk_Name_c11)
def f_disk_Name_c13 : AC := (.seq (.seq (.reg f_disk_Name_r3) f_disk_Name_c10) f_disk_Name_c12)
def f_disk_Name_c14 : AC := (.seq (.seq (.reg f_disk_Name_r1) f_disk_Name_c1) f_disk_Name_c13)
def f_disk_Name : AF := ⟨49, [.tmp 2], (.seq (.reg f_disk_Name_r0) f_disk_Name_c14)⟩
/- disk_Disk_Free -/
def f_disk_Disk_Free_r0 : List AOp := [
  ⟨(some 2), .none, .mv (.c (.int .i64 0))⟩]
def f_disk_Disk_Free_r1 : List AOp := [
  ⟨(some 3), .none, .mv (.t 0)⟩,
  ⟨(some 4), .none, .bin .eql .ptr (.t 3) (.c .nilp)⟩]
def f_disk_Disk_Free_r2 : List AOp := [
  ⟨(some 2), .none, .mv (.c (.int .i64 0))⟩]
def f_disk_Disk_Free_c0 : AC := .ret
def f_disk_Disk_Free_c1 : AC := (.cond (.t 4) (.seq (.reg f_disk_Disk_Free_r2) f_disk_Disk_Free_c0) .skip)
def f_disk_Disk_Free_r3 : DR := ⟨[
  ⟨(some 5), .none, .mv (.t 0)⟩,
  ⟨(some 6), .none, .nilck (.t 5)⟩,
  ⟨(some 7), .none, .faddr 2 (.t 6)⟩,
  ⟨(some 8), .none, .load1 (.t 7)⟩,
  ⟨(some 9), .none, .mv (.t 0)⟩,
  ⟨(some 10), .none, .nilck (.t 9)⟩,
  ⟨(some 11), .none, .faddr 3 (.t 10)⟩,
  ⟨(some 12), .none, .load1 (.t 11)⟩,
  ⟨(some 13), .none, .bin .sub .num (.t 8) (.t 12)⟩,
  ⟨(some 14), .none, .mx [(.t 13), (.c (.int .i64 0))]⟩,
  ⟨(some 2), .none, .mv (.t 14)⟩],
  [0, 1, 3, 7, 0, 16, 48, 112, 255, 511, 1023], [0, 1, 2, 3, 4, 5, 6, 7, 8, 9, 10], [], .none⟩
def f_disk_Disk_Free_c2 : AC := .ret
def f_disk_Disk_Free_c3 : AC := (.seq (.dreg f_disk_Disk_Free_r3) f_disk_Disk_Free_c2)
def f_disk_Disk_Free_c4 : AC := (.seq (.seq (.reg f_disk_Disk_Free_r1) f_disk_Disk_Free_c1) f_disk_Disk_Free_c3)
def f_disk_Disk_Free : AF := ⟨15, [.tmp 2], (.seq (.reg f_disk_Disk_Free_r0) f_disk_Disk_Free_c4)⟩
/- rec_Encode -/
def f_rec_Encode_r0 : List AOp := [
  ⟨(some 1), .none, .box (.t 0)⟩,
  ⟨(some 2), .none, .mv (.c .nils)⟩,
  ⟨(some 3), .none, .mv (.c (.int .i64 0))⟩]
def f_rec_Encode_r1 : List AOp := [
  ⟨(some 10), .none, .loadn 7 (.t 1)⟩,
  ⟨(some 11), .none, .call 186 [(.t 10)]⟩,
  ⟨(some 4), .none, .mv (.t 11)⟩]
def f_rec_Encode_r2 : List AOp := [
  ⟨(some 12), .none, .mv (.t 4)⟩,
  ⟨(some 13), .none, .bin .neq .num (.t 12) (.c (.int .i64 0))⟩]
def f_rec_Encode_r3 : List AOp := [
  ⟨(some 14), .none, .mv (.t 4)⟩,
  ⟨(some 2), .none, .mv (.c .nils)⟩,
  ⟨(some 3), .none, .mv (.t 14)⟩]
def f_rec_Encode_c0 : AC := .ret
def f_rec_Encode_c1 : AC := (.cond (.t 13) (.seq (.reg f_rec_Encode_r3) f_rec_Encode_c0) .skip)
def f_rec_Encode_c2 : AC := (.seq (.reg f_rec_Encode_r2) f_rec_Encode_c1)
def f_rec_Encode_r4 : DR := ⟨[
  ⟨(some 15), .none, .faddr 4 (.t 1)⟩,
  ⟨(some 16), .none, .load1 (.t 15)⟩,
  ⟨(some 17), .none, .conv (.int .u8) (.t 16)⟩,
  ⟨(some 18), .none, .bsl false 1 2 [(.int .u8 0)] [(0, 1, (.c (.int .u8 1))), (1, 1, (.t 17))]⟩,
  ⟨(some 19), .none, .faddr 0 (.t 1)⟩,
  ⟨(some 20), .none, .load1 (.t 19)⟩,
  ⟨(some 21), .none, .conv (.int .u64) (.t 20)⟩,
  ⟨(some 22), .none, .call 78 [(.t 21)]⟩,
  ⟨(some 23), .none, .faddr 1 (.t 1)⟩,
  ⟨(some 24), .none, .load1 (.t 23)⟩,
  ⟨(some 25), .none, .conv (.int .u64) (.t 24)⟩,
  ⟨(some 26), .none, .call 78 [(.t 25)]⟩,
  ⟨(some 27), .none, .bsl false 1 3 [.nils] [(0, 1, (.t 18)), (1, 1, (.t 22)), (2, 1, (.t 26))]⟩,
  ⟨(some 28), .none, .call 77 [(.t 27)]⟩,
  ⟨(some 5), .none, .mv (.t 28)⟩],
  [0, 1, 3, 7, 0, 16, 48, 112, 0, 256, 768, 2032, 4095, 8191, 16383], [0, 1, 2, 3, 4, 5, 6, 7, 8, 9, 10, 11, 12, 13, 14], [(1, 1), (1, 2), (9, 0)], .none⟩
def f_rec_Encode_r5 : List AOp := [
  ⟨(some 29), .none, .faddr 1 (.t 1)⟩,
  ⟨(some 30), .none, .load1 (.t 29)⟩,
  ⟨(some 31), .none, .bin .gtr .num (.t 30) (.c (.int .i64 0))⟩]
def f_rec_Encode_r6 : List AOp := [
  ⟨(some 32), .none, .mv (.t 5)⟩,
  ⟨(some 33), .none, .faddr 2 (.t 1)⟩,
  ⟨(some 34), .none, .load1 (.t 33)⟩,
  ⟨(some 35), .none, .conv (.int .u64) (.t 34)⟩,
  ⟨(some 36), .none, .call 78 [(.t 35)]⟩,
  ⟨(some 37), .none, .app false 1 1 (.t 32) (.t 36)⟩,
  ⟨(some 5), .none, .mv (.t 37)⟩]
def f_rec_Encode_r7 : List AOp := [
  ⟨(some 38), .none, .loadn 7 (.t 1)⟩,
  ⟨(some 39), .none, .call 185 [(.t 38)]⟩,
  ⟨(some 40), .none, .un .not (.t 39)⟩]
def f_rec_Encode_r8 : List AOp := [
  ⟨(some 41), .none, .mv (.t 5)⟩,
  ⟨(some 42), .none, .faddr 3 (.t 1)⟩,
  ⟨(some 43), .none, .load1 (.t 42)⟩,
  ⟨(some 44), .none, .conv (.int .u64) (.t 43)⟩,
  ⟨(some 45), .none, .call 78 [(.t 44)]⟩,
  ⟨(some 46), .none, .app false 1 1 (.t 41) (.t 45)⟩,
  ⟨(some 5), .none, .mv (.t 46)⟩]
def f_rec_Encode_c3 : AC := (.cond (.t 40) (.reg f_rec_Encode_r8) .skip)
def f_rec_Encode_c4 : AC := (.seq (.reg f_rec_Encode_r7) f_rec_Encode_c3)
def f_rec_Encode_c5 : AC := (.cond (.t 31) (.seq (.reg f_rec_Encode_r6) f_rec_Encode_c4) .skip)
def f_rec_Encode_r9 : List AOp := [
  ⟨(some 47), .none, .mv (.t 5)⟩,
  ⟨(some 48), .none, .faddr 5 (.t 1)⟩,
  ⟨(some 49), .none, .load1 (.t 48)⟩,
  ⟨(some 50), .none, .conv (.int .u64) (.t 49)⟩,
  ⟨(some 51), .none, .call 78 [(.t 50)]⟩,
  ⟨(some 52), .none, .app false 1 1 (.t 47) (.t 51)⟩,
  ⟨(some 5), .none, .mv (.t 52)⟩]
def f_rec_Encode_r10 : List AOp := [
  ⟨(some 53), .none, .loadn 7 (.t 1)⟩,
  ⟨(some 54), .none, .call 185 [(.t 53)]⟩]
def f_rec_Encode_r11 : List AOp := [
  ⟨(some 55), .none, .mv (.t 5)⟩,
  ⟨(some 2), .none, .mv (.t 55)⟩,
  ⟨(some 3), .none, .mv (.c (.int .i64 0))⟩]
def f_rec_Encode_c6 : AC := .ret
def f_rec_Encode_c7 : AC := (.cond (.t 54) (.seq (.reg f_rec_Encode_r11) f_rec_Encode_c6) .skip)
def f_rec_Encode_r12 : List AOp := [
  ⟨(some 56), .none, .mv (.t 5)⟩,
  ⟨(some 57), .none, .faddr 6 (.t 1)⟩,
  ⟨(some 58), .none, .load1 (.t 57)⟩,
  ⟨(some 59), .none, .len .slice (.t 58)⟩,
  ⟨(some 60), .none, .conv (.int .u64) (.t 59)⟩,
  ⟨(some 61), .none, .call 78 [(.t 60)]⟩,
  ⟨(some 62), .none, .app false 1 1 (.t 56) (.t 61)⟩,
  ⟨(some 5), .none, .mv (.t 62)⟩]
def f_rec_Encode_r13 : List AOp := [
  ⟨(some 6), .none, .mv (.c (.str []))⟩]
def f_rec_Encode_r14 : List AOp := [
  ⟨(some 63), .none, .faddr 6 (.t 1)⟩,
  ⟨(some 64), .none, .load1 (.t 63)⟩,
  ⟨(some 65), .none, .len .slice (.t 64)⟩,
  ⟨(some 66), .none, .mv (.c (.int .i64 0))⟩]
def f_rec_Encode_r15 : List AOp := [
  ⟨(some 67), .none, .bin .lss .num (.t 66) (.t 65)⟩]
def f_rec_Encode_r16 : List AOp := [
  ⟨(some 68), .none, .iaddr 4 (.t 64) (.t 66)⟩,
  ⟨(some 69), .none, .loadn 4 (.t 68)⟩,
  ⟨(some 8), .none, .alloc [(.str []), (.str []), (.bool false), (.int .i64 0)]⟩,
  ⟨.none, .none, .store 4 (.t 8) (.t 69)⟩]
def f_rec_Encode_r17 : List AOp := [
  ⟨(some 70), .none, .mv (.t 6)⟩,
  ⟨(some 71), .none, .faddr 0 (.t 8)⟩,
  ⟨(some 72), .none, .load1 (.t 71)⟩,
  ⟨(some 73), .none, .call 324 [(.t 70), (.t 72)]⟩,
  ⟨(some 9), .none, .mv (.t 73)⟩]
def f_rec_Encode_r18 : DR := ⟨[
  ⟨(some 74), .none, .mv (.t 5)⟩,
  ⟨(some 75), .none, .faddr 3 (.t 8)⟩,
  ⟨(some 76), .none, .load1 (.t 75)⟩,
  ⟨(some 77), .none, .faddr 5 (.t 1)⟩,
  ⟨(some 78), .none, .load1 (.t 77)⟩,
  ⟨(some 79), .none, .bin .sub .num (.t 76) (.t 78)⟩,
  ⟨(some 80), .none, .call 262 [(.t 79)]⟩,
  ⟨(some 81), .none, .faddr 2 (.t 8)⟩,
  ⟨(some 82), .none, .load1 (.t 81)⟩,
  ⟨(some 83), .none, .call 274 [(.t 82)]⟩,
  ⟨(some 84), .none, .mv (.t 9)⟩,
  ⟨(some 85), .none, .conv (.int .u64) (.t 84)⟩,
  ⟨(some 86), .none, .call 78 [(.t 85)]⟩,
  ⟨(some 87), .none, .faddr 0 (.t 8)⟩,
  ⟨(some 88), .none, .load1 (.t 87)⟩,
  ⟨(some 89), .none, .mv (.t 9)⟩,
  ⟨(some 90), .none, .sslc (.t 88) (some (.t 89)) .none⟩,
  ⟨(some 91), .none, .call 194 [(.t 90)]⟩,
  ⟨(some 92), .none, .bsl false 1 4 [.nils] [(0, 1, (.t 80)), (1, 1, (.t 83)), (2, 1, (.t 86)), (3, 1, (.t 91))]⟩,
  ⟨(some 93), .none, .call 77 [(.t 92)]⟩,
  ⟨(some 94), .none, .app false 1 1 (.t 74) (.t 93)⟩,
  ⟨(some 5), .none, .mv (.t 94)⟩],
  [0, 0, 2, 0, 8, 30, 62, 0, 128, 510, 0, 1024, 4094, 0, 8192, 0, 57344, 131070, 262142, 524286, 1048575, 2097151], [0, 1, 2, 3, 4, 5, 6, 7, 8, 9, 10, 11, 12, 13, 14, 15, 16, 17, 18, 19, 20, 21], [(8, 0), (14, 0), (14, 1), (14, 2)], .none⟩
def f_rec_Encode_r19 : List AOp := [
  ⟨(some 95), .none, .faddr 2 (.t 8)⟩,
  ⟨(some 96), .none, .load1 (.t 95)⟩,
  ⟨(some 97), .none, .un .not (.t 96)⟩]
def f_rec_Encode_r20 : List AOp := [
  ⟨(some 98), .none, .mv (.t 5)⟩,
  ⟨(some 99), .none, .faddr 1 (.t 8)⟩,
  ⟨(some 100), .none, .load1 (.t 99)⟩,
  ⟨(some 101), .none, .call 194 [(.t 100)]⟩,
  ⟨(some 102), .none, .app false 1 1 (.t 98) (.t 101)⟩,
  ⟨(some 5), .none, .mv (.t 102)⟩]
def f_rec_Encode_c8 : AC := (.cond (.t 97) (.reg f_rec_Encode_r20) .skip)
def f_rec_Encode_r21 : List AOp := [
  ⟨(some 103), .none, .faddr 0 (.t 8)⟩,
  ⟨(some 104), .none, .load1 (.t 103)⟩,
  ⟨(some 6), .none, .mv (.t 104)⟩]
def f_rec_Encode_c9 : AC := (.keep 7 [1, 5, 8, 64, 65, 66] (.reg f_rec_Encode_r21))
def f_rec_Encode_c10 : AC := (.seq (.seq (.reg f_rec_Encode_r19) f_rec_Encode_c8) f_rec_Encode_c9)
def f_rec_Encode_c11 : AC := (.seq (.dreg f_rec_Encode_r18) f_rec_Encode_c10)
def f_rec_Encode_c12 : AC := (.seq (.reg f_rec_Encode_r17) f_rec_Encode_c11)
def f_rec_Encode_r22 : List AOp := [
  ⟨(some 105), .none, .bin .add .num (.t 66) (.c (.int .i64 1))⟩,
  ⟨(some 66), .none, .mv (.t 105)⟩]
def f_rec_Encode_c13 : AC := (.reg f_rec_Encode_r22)
def f_rec_Encode_c14 : AC := (.seq (.block 1 (.seq (.reg f_rec_Encode_r16) f_rec_Encode_c12)) f_rec_Encode_c13)
def f_rec_Encode_c15 : AC := (.seq (.cond (.t 67) .skip (.exit 0)) f_rec_Encode_c14)
def f_rec_Encode_c16 : AC := (.seq (.reg f_rec_Encode_r15) f_rec_Encode_c15)
def f_rec_Encode_c17 : AC := (.block 0 (.keep 7 [1, 5, 6, 64, 65, 66] (.loop (.keep 7 [1, 5, 6, 64, 65, 66] f_rec_Encode_c16))))
def f_rec_Encode_r23 : List AOp := [
  ⟨(some 106), .none, .mv (.t 5)⟩,
  ⟨(some 2), .none, .mv (.t 106)⟩,
  ⟨(some 3), .none, .mv (.c (.int .i64 0))⟩]
def f_rec_Encode_c18 : AC := .ret
def f_rec_Encode_c19 : AC := (.seq (.reg f_rec_Encode_r23) f_rec_Encode_c18)
def f_rec_Encode_c20 : AC := (.seq (.seq (.reg f_rec_Encode_r14) f_rec_Encode_c17) f_rec_Encode_c19)
def f_rec_Encode_c21 : AC := (.seq (.reg f_rec_Encode_r13) f_rec_Encode_c20)
def f_rec_Encode_c22 : AC := (.seq (.reg f_rec_Encode_r12) f_rec_Encode_c21)
def f_rec_Encode_c23 : AC := (.seq (.seq (.reg f_rec_Encode_r10) f_rec_Encode_c7) f_rec_Encode_c22)
def f_rec_Encode_c24 : AC := (.keep 7 [1, 5] (.seq (.reg f_rec_Encode_r9) f_rec_Encode_c23))
def f_rec_Encode_c25 : AC := (.seq (.seq (.reg f_rec_Encode_r5) f_rec_Encode_c5) f_rec_Encode_c24)
def f_rec_Encode_c26 : AC := (.seq (.dreg f_rec_Encode_r4) f_rec_Encode_c25)
def f_rec_Encode_c27 : AC := (.seq (.seq (.reg f_rec_Encode_r1) f_rec_Encode_c2) f_rec_Encode_c26)
def f_rec_Encode : AF := ⟨107, [.tmp 2, .tmp 3], (.seq (.reg f_rec_Encode_r0) f_rec_Encode_c27)⟩
/- slices_Delete_rec_At -/
def f_slices_Delete_rec_At_r0 : List AOp := [
  ⟨(some 6), .none, .mv (.c .nils)⟩]
def f_slices_Delete_rec_At_r1 : List AOp := [
  ⟨(some 8), .none, .mv (.t 0)⟩,
  ⟨(some 9), .none, .mv (.t 1)⟩,
  ⟨(some 10), .none, .mv (.t 2)⟩,
  ⟨(some 11), .none, .mv (.t 0)⟩,
  ⟨(some 12), .none, .len .slice (.t 11)⟩,
  ⟨(some 13), .none, .slc 5 (.t 8) (some (.t 9)) (some (.t 10)) (some (.t 12))⟩]
def f_slices_Delete_rec_At_r2 : List AOp := [
  ⟨(some 14), .none, .mv (.t 1)⟩,
  ⟨(some 15), .none, .mv (.t 2)⟩,
  ⟨(some 16), .none, .bin .eql .num (.t 14) (.t 15)⟩]
def f_slices_Delete_rec_At_r3 : List AOp := [
  ⟨(some 17), .none, .mv (.t 0)⟩,
  ⟨(some 6), .none, .mv (.t 17)⟩]
def f_slices_Delete_rec_At_c0 : AC := .ret
def f_slices_Delete_rec_At_c1 : AC := (.cond (.t 16) (.seq (.reg f_slices_Delete_rec_At_r3) f_slices_Delete_rec_At_c0) .skip)
def f_slices_Delete_rec_At_r4 : List AOp := [
  ⟨(some 18), .none, .mv (.t 0)⟩,
  ⟨(some 19), .none, .len .slice (.t 18)⟩,
  ⟨(some 7), .none, .mv (.t 19)⟩]
def f_slices_Delete_rec_At_r5 : DR := ⟨[
  ⟨(some 20), .none, .mv (.t 0)⟩,
  ⟨(some 21), .none, .mv (.t 1)⟩,
  ⟨(some 22), .none, .slc 5 (.t 20) .none (some (.t 21)) .none⟩,
  ⟨(some 23), .none, .mv (.t 0)⟩,
  ⟨(some 24), .none, .mv (.t 2)⟩,
  ⟨(some 25), .none, .slc 5 (.t 23) (some (.t 24)) .none .none⟩,
  ⟨(some 26), .none, .app false 5 56 (.t 22) (.t 25)⟩,
  ⟨(some 0), .none, .mv (.t 26)⟩],
  [0, 0, 3, 0, 0, 24, 63, 127], [0, 1, 2, 3, 4, 5, 6, 7], [], .none⟩
def f_slices_Delete_rec_At_r6 : List AOp := [
  ⟨(some 27), .none, .mv (.t 0)⟩,
  ⟨(some 28), .none, .mv (.t 0)⟩,
  ⟨(some 29), .none, .len .slice (.t 28)⟩,
  ⟨(some 30), .none, .mv (.t 7)⟩,
  ⟨(some 31), .none, .slcx 5 (.t 27) (.t 29) (.t 30)⟩,
  ⟨.none, .none, .clr 5 [(.int .i64 0), (.str []), (.str []), (.bool false), (.int .i64 0)] (.t 31)⟩]
def f_slices_Delete_rec_At_r7 : List AOp := [
  ⟨(some 32), .none, .mv (.t 0)⟩,
  ⟨(some 6), .none, .mv (.t 32)⟩]
def f_slices_Delete_rec_At_c2 : AC := .ret
def f_slices_Delete_rec_At_c3 : AC := (.seq (.reg f_slices_Delete_rec_At_r7) f_slices_Delete_rec_At_c2)
def f_slices_Delete_rec_At_c4 : AC := (.seq (.reg f_slices_Delete_rec_At_r6) f_slices_Delete_rec_At_c3)
def f_slices_Delete_rec_At_c5 : AC := (.seq (.dreg f_slices_Delete_rec_At_r5) f_slices_Delete_rec_At_c4)
def f_slices_Delete_rec_At_c6 : AC := (.seq (.reg f_slices_Delete_rec_At_r4) f_slices_Delete_rec_At_c5)
def f_slices_Delete_rec_At_c7 : AC := (.seq (.seq (.reg f_slices_Delete_rec_At_r2) f_slices_Delete_rec_At_c1) f_slices_Delete_rec_At_c6)
def f_slices_Delete_rec_At_c8 : AC := (.seq (.reg f_slices_Delete_rec_At_r1) f_slices_Delete_rec_At_c7)
def f_slices_Delete_rec_At : AF := ⟨33, [.tmp 6], (.seq (.reg f_slices_Delete_rec_At_r0) f_slices_Delete_rec_At_c8)⟩
/- slices_Insert_rec_At -/
def f_slices_Insert_rec_At_r0 : List AOp := [
  ⟨(some 6), .none, .mv (.c .nils)⟩]
def f_slices_Insert_rec_At_r1 : List AOp := [
  ⟨(some 10), .none, .mv (.t 0)⟩,
  ⟨(some 11), .none, .mv (.t 1)⟩,
  ⟨(some 12), .none, .slc 5 (.t 10) (some (.t 11)) .none .none⟩]
def f_slices_Insert_rec_At_r2 : List AOp := [
  ⟨(some 13), .none, .mv (.t 2)⟩,
  ⟨(some 14), .none, .len .slice (.t 13)⟩,
  ⟨(some 7), .none, .mv (.t 14)⟩]
def f_slices_Insert_rec_At_r3 : List AOp := [
  ⟨(some 15), .none, .mv (.t 7)⟩,
  ⟨(some 16), .none, .bin .eql .num (.t 15) (.c (.int .i64 0))⟩]
def f_slices_Insert_rec_At_r4 : List AOp := [
  ⟨(some 17), .none, .mv (.t 0)⟩,
  ⟨(some 6), .none, .mv (.t 17)⟩]
def f_slices_Insert_rec_At_c0 : AC := .ret
def f_slices_Insert_rec_At_c1 : AC := (.cond (.t 16) (.seq (.reg f_slices_Insert_rec_At_r4) f_slices_Insert_rec_At_c0) .skip)
def f_slices_Insert_rec_At_r5 : List AOp := [
  ⟨(some 18), .none, .mv (.t 0)⟩,
  ⟨(some 19), .none, .len .slice (.t 18)⟩,
  ⟨(some 8), .none, .mv (.t 19)⟩]
def f_slices_Insert_rec_At_r6 : List AOp := [
  ⟨(some 20), .none, .mv (.t 1)⟩,
  ⟨(some 21), .none, .mv (.t 8)⟩,
  ⟨(some 22), .none, .bin .eql .num (.t 20) (.t 21)⟩]
def f_slices_Insert_rec_At_r7 : List AOp := [
  ⟨(some 23), .none, .mv (.t 0)⟩,
  ⟨(some 24), .none, .mv (.t 2)⟩,
  ⟨(some 25), .none, .app true 5 56 (.t 23) (.t 24)⟩,
  ⟨(some 6), .none, .mv (.t 25)⟩]
def f_slices_Insert_rec_At_c2 : AC := .ret
def f_slices_Insert_rec_At_c3 : AC := (.cond (.t 22) (.seq (.reg f_slices_Insert_rec_At_r7) f_slices_Insert_rec_At_c2) .skip)
def f_slices_Insert_rec_At_r8 : List AOp := [
  ⟨(some 26), .none, .mv (.t 8)⟩,
  ⟨(some 27), .none, .mv (.t 7)⟩,
  ⟨(some 28), .none, .bin .add .num (.t 26) (.t 27)⟩,
  ⟨(some 29), .none, .mv (.t 0)⟩,
  ⟨(some 30), .none, .bad⟩,
  ⟨(some 31), .none, .bin .gtr .num (.t 28) (.t 30)⟩]
def f_slices_Insert_rec_At_r9 : List AOp := [
  ⟨(some 32), .none, .mv (.t 0)⟩,
  ⟨(some 33), .none, .mv (.t 1)⟩,
  ⟨(some 34), .none, .slc 5 (.t 32) .none (some (.t 33)) .none⟩,
  ⟨(some 35), .none, .mv (.t 8)⟩,
  ⟨(some 36), .none, .mv (.t 7)⟩,
  ⟨(some 37), .none, .bin .add .num (.t 35) (.t 36)⟩,
  ⟨(some 38), .none, .mv (.t 1)⟩,
  ⟨(some 39), .none, .bin .sub .num (.t 37) (.t 38)⟩,
  ⟨(some 40), .none, .bad⟩,
  ⟨(some 9), .none, .mv (.t 40)⟩]
def f_slices_Insert_rec_At_r10 : List AOp := [
  ⟨(some 41), .none, .mv (.t 9)⟩,
  ⟨(some 42), .none, .mv (.t 1)⟩,
  ⟨(some 43), .none, .slc 5 (.t 41) (some (.t 42)) .none .none⟩,
  ⟨(some 44), .none, .mv (.t 2)⟩,
  ⟨(some 45), .none, .bad⟩]
def f_slices_Insert_rec_At_r11 : DR := ⟨[
  ⟨(some 46), .none, .mv (.t 9)⟩,
  ⟨(some 47), .none, .mv (.t 1)⟩,
  ⟨(some 48), .none, .mv (.t 7)⟩,
  ⟨(some 49), .none, .bin .add .num (.t 47) (.t 48)⟩,
  ⟨(some 50), .none, .slc 5 (.t 46) (some (.t 49)) .none .none⟩,
  ⟨(some 51), .none, .mv (.t 0)⟩,
  ⟨(some 52), .none, .mv (.t 1)⟩,
  ⟨(some 53), .none, .slc 5 (.t 51) (some (.t 52)) .none .none⟩,
  ⟨(some 54), .none, .bad⟩],
  [0, 0, 0, 6, 15, 0, 0, 96, 255], [0, 1, 2, 3, 4, 5, 6, 7, 8], [], .none⟩
def f_slices_Insert_rec_At_r12 : List AOp := [
  ⟨(some 55), .none, .mv (.t 9)⟩,
  ⟨(some 6), .none, .mv (.t 55)⟩]
def f_slices_Insert_rec_At_c4 : AC := .ret
def f_slices_Insert_rec_At_c5 : AC := (.seq (.reg f_slices_Insert_rec_At_r12) f_slices_Insert_rec_At_c4)
def f_slices_Insert_rec_At_c6 : AC := (.seq (.dreg f_slices_Insert_rec_At_r11) f_slices_Insert_rec_At_c5)
def f_slices_Insert_rec_At_c7 : AC := (.seq (.reg f_slices_Insert_rec_At_r10) f_slices_Insert_rec_At_c6)
def f_slices_Insert_rec_At_c8 : AC := (.cond (.t 31) (.seq (.reg f_slices_Insert_rec_At_r9) f_slices_Insert_rec_At_c7) .skip)
def f_slices_Insert_rec_At_r13 : List AOp := [
  ⟨(some 56), .none, .mv (.t 0)⟩,
  ⟨(some 57), .none, .mv (.t 8)⟩,
  ⟨(some 58), .none, .mv (.t 7)⟩,
  ⟨(some 59), .none, .bin .add .num (.t 57) (.t 58)⟩,
  ⟨(some 60), .none, .slc 5 (.t 56) .none (some (.t 59)) .none⟩,
  ⟨(some 0), .none, .mv (.t 60)⟩]
def f_slices_Insert_rec_At_r14 : List AOp := [
  ⟨(some 61), .none, .mv (.t 2)⟩,
  ⟨(some 62), .none, .mv (.t 0)⟩,
  ⟨(some 63), .none, .mv (.t 1)⟩,
  ⟨(some 64), .none, .mv (.t 7)⟩,
  ⟨(some 65), .none, .bin .add .num (.t 63) (.t 64)⟩,
  ⟨(some 66), .none, .slc 5 (.t 62) (some (.t 65)) .none .none⟩,
  ⟨(some 67), .none, .call 333 [(.t 61), (.t 66)]⟩,
  ⟨(some 68), .none, .un .not (.t 67)⟩]
def f_slices_Insert_rec_At_r15 : DR := ⟨[
  ⟨(some 69), .none, .mv (.t 0)⟩,
  ⟨(some 70), .none, .mv (.t 1)⟩,
  ⟨(some 71), .none, .mv (.t 7)⟩,
  ⟨(some 72), .none, .bin .add .num (.t 70) (.t 71)⟩,
  ⟨(some 73), .none, .slc 5 (.t 69) (some (.t 72)) .none .none⟩,
  ⟨(some 74), .none, .mv (.t 0)⟩,
  ⟨(some 75), .none, .mv (.t 1)⟩,
  ⟨(some 76), .none, .slc 5 (.t 74) (some (.t 75)) .none .none⟩,
  ⟨(some 77), .none, .bad⟩],
  [0, 0, 0, 6, 15, 0, 0, 96, 255], [0, 1, 2, 3, 4, 5, 6, 7, 8], [], .none⟩
def f_slices_Insert_rec_At_r16 : List AOp := [
  ⟨(some 78), .none, .mv (.t 0)⟩,
  ⟨(some 79), .none, .mv (.t 1)⟩,
  ⟨(some 80), .none, .slc 5 (.t 78) (some (.t 79)) .none .none⟩,
  ⟨(some 81), .none, .mv (.t 2)⟩,
  ⟨(some 82), .none, .bad⟩]
def f_slices_Insert_rec_At_r17 : List AOp := [
  ⟨(some 83), .none, .mv (.t 0)⟩,
  ⟨(some 6), .none, .mv (.t 83)⟩]
def f_slices_Insert_rec_At_c9 : AC := .ret
def f_slices_Insert_rec_At_c10 : AC := (.seq (.reg f_slices_Insert_rec_At_r17) f_slices_Insert_rec_At_c9)
def f_slices_Insert_rec_At_c11 : AC := (.seq (.reg f_slices_Insert_rec_At_r16) f_slices_Insert_rec_At_c10)
def f_slices_Insert_rec_At_c12 : AC := (.cond (.t 68) (.seq (.dreg f_slices_Insert_rec_At_r15) f_slices_Insert_rec_At_c11) .skip)
def f_slices_Insert_rec_At_r18 : List AOp := [
  ⟨(some 84), .none, .mv (.t 0)⟩,
  ⟨(some 85), .none, .mv (.t 8)⟩,
  ⟨(some 86), .none, .slc 5 (.t 84) (some (.t 85)) .none .none⟩,
  ⟨(some 87), .none, .mv (.t 2)⟩,
  ⟨(some 88), .none, .bad⟩]
def f_slices_Insert_rec_At_r19 : List AOp := [
  ⟨(some 89), .none, .mv (.t 0)⟩,
  ⟨(some 90), .none, .mv (.t 1)⟩,
  ⟨(some 91), .none, .slc 5 (.t 89) (some (.t 90)) .none .none⟩,
  ⟨(some 92), .none, .mv (.t 7)⟩,
  ⟨(some 93), .none, .call 334 [(.t 91), (.t 92)]⟩]
def f_slices_Insert_rec_At_r20 : List AOp := [
  ⟨(some 94), .none, .mv (.t 0)⟩,
  ⟨(some 6), .none, .mv (.t 94)⟩]
def f_slices_Insert_rec_At_c13 : AC := .ret
def f_slices_Insert_rec_At_c14 : AC := (.seq (.reg f_slices_Insert_rec_At_r20) f_slices_Insert_rec_At_c13)
def f_slices_Insert_rec_At_c15 : AC := (.seq (.reg f_slices_Insert_rec_At_r19) f_slices_Insert_rec_At_c14)
def f_slices_Insert_rec_At_c16 : AC := (.seq (.reg f_slices_Insert_rec_At_r18) f_slices_Insert_rec_At_c15)
def f_slices_Insert_rec_At_c17 : AC := (.seq (.seq (.reg f_slices_Insert_rec_At_r14) f_slices_Insert_rec_At_c12) f_slices_Insert_rec_At_c16)
def f_slices_Insert_rec_At_c18 : AC := (.seq (.reg f_slices_Insert_rec_At_r13) f_slices_Insert_rec_At_c17)
def f_slices_Insert_rec_At_c19 : AC := (.seq (.seq (.reg f_slices_Insert_rec_At_r8) f_slices_Insert_rec_At_c8) f_slices_Insert_rec_At_c18)
def f_slices_Insert_rec_At_c20 : AC := (.seq (.seq (.reg f_slices_Insert_rec_At_r6) f_slices_Insert_rec_At_c3) f_slices_Insert_rec_At_c19)
def f_slices_Insert_rec_At_c21 : AC := (.seq (.reg f_slices_Insert_rec_At_r5) f_slices_Insert_rec_At_c20)
def f_slices_Insert_rec_At_c22 : AC := (.seq (.seq (.reg f_slices_Insert_rec_At_r3) f_slices_Insert_rec_At_c1) f_slices_Insert_rec_At_c21)
def f_slices_Insert_rec_At_c23 : AC := (.seq (.reg f_slices_Insert_rec_At_r2) f_slices_Insert_rec_At_c22)
def f_slices_Insert_rec_At_c24 : AC := (.seq (.reg f_slices_Insert_rec_At_r1) f_slices_Insert_rec_At_c23)
def f_slices_Insert_rec_At : AF := ⟨95, [.tmp 6], (.seq (.reg f_slices_Insert_rec_At_r0) f_slices_Insert_rec_At_c24)⟩
/- compact_Table_from_1 -/
def f_compact_Table_from_1_r0 : List AOp := [
  ⟨(some 4), .none, .mv (.c (.bool false))⟩]
def f_compact_Table_from_1_r1 : DR := ⟨[
  ⟨(some 5), .none, .load1 (.t 1)⟩,
  ⟨(some 6), .none, .nilck (.t 5)⟩,
  ⟨(some 7), .none, .faddr 1 (.t 6)⟩,
  ⟨(some 8), .none, .load1 (.t 7)⟩,
  ⟨(some 9), .none, .mv (.t 0)⟩,
  ⟨(some 10), .none, .iaddr 5 (.t 8) (.t 9)⟩,
  ⟨(some 11), .none, .faddr 1 (.t 10)⟩,
  ⟨(some 12), .none, .faddr 0 (.t 11)⟩,
  ⟨(some 13), .none, .load1 (.t 12)⟩,
  ⟨(some 14), .none, .load1 (.t 2)⟩,
  ⟨(some 15), .none, .bin .geq .str (.t 13) (.t 14)⟩,
  ⟨(some 4), .none, .mv (.t 15)⟩],
  [0, 1, 3, 7, 0, 31, 63, 127, 255, 0, 1023, 2047], [0, 1, 2, 3, 4, 5, 6, 7, 8, 9, 10, 11], [], .none⟩
def f_compact_Table_from_1_c0 : AC := .ret
def f_compact_Table_from_1_c1 : AC := (.seq (.dreg f_compact_Table_from_1_r1) f_compact_Table_from_1_c0)
def f_compact_Table_from_1 : AF := ⟨16, [.tmp 4], (.seq (.reg f_compact_Table_from_1_r0) f_compact_Table_from_1_c1)⟩
/- wire_Flag -/
def f_wire_Flag_r0 : List AOp := [
  ⟨(some 2), .none, .mv (.c .nils)⟩]
def f_wire_Flag_r1 : List AOp := [
  ⟨(some 3), .none, .mv (.t 0)⟩]
def f_wire_Flag_r2 : List AOp := [
  ⟨(some 4), .none, .bsl false 1 1 [(.int .u8 0)] [(0, 1, (.c (.int .u8 1)))]⟩,
  ⟨(some 2), .none, .mv (.t 4)⟩]
def f_wire_Flag_c0 : AC := .ret
def f_wire_Flag_c1 : AC := (.cond (.t 3) (.seq (.reg f_wire_Flag_r2) f_wire_Flag_c0) .skip)
def f_wire_Flag_r3 : List AOp := [
  ⟨(some 5), .none, .bsl false 1 1 [(.int .u8 0)] [(0, 1, (.c (.int .u8 0)))]⟩,
  ⟨(some 2), .none, .mv (.t 5)⟩]
def f_wire_Flag_c2 : AC := .ret
def f_wire_Flag_c3 : AC := (.seq (.reg f_wire_Flag_r3) f_wire_Flag_c2)
def f_wire_Flag_c4 : AC := (.seq (.seq (.reg f_wire_Flag_r1) f_wire_Flag_c1) f_wire_Flag_c3)
def f_wire_Flag : AF := ⟨6, [.tmp 2], (.seq (.reg f_wire_Flag_r0) f_wire_Flag_c4)⟩
/- math_bits_Len64 -/
def f_math_bits_Len64_r0 : List AOp := [
  ⟨(some 2), .none, .mv (.c (.int .i64 0))⟩]
def f_math_bits_Len64_r1 : List AOp := [
  ⟨(some 3), .none, .mv (.t 0)⟩,
  ⟨(some 4), .none, .bin .geq .num (.t 3) (.c (.int .u64 4294967296))⟩]
def f_math_bits_Len64_r2 : List AOp := [
  ⟨(some 5), .none, .mv (.t 0)⟩,
  ⟨(some 6), .none, .bin .shr .num (.t 5) (.c (.int .u64 32))⟩,
  ⟨(some 0), .none, .mv (.t 6)⟩]
def f_math_bits_Len64_r3 : List AOp := [
  ⟨(some 2), .none, .mv (.c (.int .i64 32))⟩]
def f_math_bits_Len64_c0 : AC := (.reg f_math_bits_Len64_r3)
def f_math_bits_Len64_c1 : AC := (.cond (.t 4) (.seq (.reg f_math_bits_Len64_r2) f_math_bits_Len64_c0) .skip)
def f_math_bits_Len64_r4 : List AOp := [
  ⟨(some 7), .none, .mv (.t 0)⟩,
  ⟨(some 8), .none, .bin .geq .num (.t 7) (.c (.int .u64 65536))⟩]
def f_math_bits_Len64_r5 : List AOp := [
  ⟨(some 9), .none, .mv (.t 0)⟩,
  ⟨(some 10), .none, .bin .shr .num (.t 9) (.c (.int .u64 16))⟩,
  ⟨(some 0), .none, .mv (.t 10)⟩]
def f_math_bits_Len64_r6 : List AOp := [
  ⟨(some 11), .none, .mv (.t 2)⟩,
  ⟨(some 12), .none, .bin .add .num (.t 11) (.c (.int .i64 16))⟩,
  ⟨(some 2), .none, .mv (.t 12)⟩]
def f_math_bits_Len64_c2 : AC := (.reg f_math_bits_Len64_r6)
def f_math_bits_Len64_c3 : AC := (.cond (.t 8) (.seq (.reg f_math_bits_Len64_r5) f_math_bits_Len64_c2) .skip)
def f_math_bits_Len64_r7 : List AOp := [
  ⟨(some 13), .none, .mv (.t 0)⟩,
  ⟨(some 14), .none, .bin .geq .num (.t 13) (.c (.int .u64 256))⟩]
def f_math_bits_Len64_r8 : List AOp := [
  ⟨(some 15), .none, .mv (.t 0)⟩,
  ⟨(some 16), .none, .bin .shr .num (.t 15) (.c (.int .u64 8))⟩,
  ⟨(some 0), .none, .mv (.t 16)⟩]
def f_math_bits_Len64_r9 : List AOp := [
  ⟨(some 17), .none, .mv (.t 2)⟩,
  ⟨(some 18), .none, .bin .add .num (.t 17) (.c (.int .i64 8))⟩,
  ⟨(some 2), .none, .mv (.t 18)⟩]
def f_math_bits_Len64_c4 : AC := (.reg f_math_bits_Len64_r9)
def f_math_bits_Len64_c5 : AC := (.cond (.t 14) (.seq (.reg f_math_bits_Len64_r8) f_math_bits_Len64_c4) .skip)
def f_math_bits_Len64_r10 : List AOp := [
  ⟨(some 19), .none, .mv (.t 2)⟩,
  ⟨(some 20), .none, .mv (.t 0)⟩,
  ⟨(some 21), .none, .conv (.int .u8) (.t 20)⟩,
  ⟨(some 22), .none, .sidx (.c (.str [0, 1, 2, 2, 3, 3, 3, 3, 4, 4, 4, 4, 4, 4, 4, 4, 5, 5, 5, 5, 5, 5, 5, 5, 5, 5, 5, 5, 5, 5, 5, 5, 6, 6, 6, 6, 6, 6, 6, 6, 6, 6, 6, 6, 6, 6, 6, 6, 6, 6, 6, 6, 6, 6, 6, 6, 6, 6, 6, 6, 6, 6, 6, 6, 7, 7, 7, 7, 7, 7, 7, 7, 7, 7, 7, 7, 7, 7, 7, 7, 7, 7, 7, 7, 7, 7, 7, 7, 7, 7, 7, 7, 7, 7, 7, 7, 7, 7, 7, 7, 7, 7, 7, 7, 7, 7, 7, 7, 7, 7, 7, 7, 7, 7, 7, 7, 7, 7, 7, 7, 7, 7, 7, 7, 7, 7, 7, 7, 8, 8, 8, 8, 8, 8, 8, 8, 8, 8, 8, 8, 8, 8, 8, 8, 8, 8, 8, 8, 8, 8, 8, 8, 8, 8, 8, 8, 8, 8, 8, 8, 8, 8, 8, 8, 8, 8, 8, 8, 8, 8, 8, 8, 8, 8, 8, 8, 8, 8, 8, 8, 8, 8, 8, 8, 8, 8, 8, 8, 8, 8, 8, 8, 8, 8, 8, 8, 8, 8, 8, 8, 8, 8, 8, 8, 8, 8, 8, 8, 8, 8, 8, 8, 8, 8, 8, 8, 8, 8, 8, 8, 8, 8, 8, 8, 8, 8, 8, 8, 8, 8, 8, 8, 8, 8, 8, 8, 8, 8, 8, 8, 8, 8, 8, 8, 8, 8, 8, 8, 8, 8, 8, 8, 8, 8, 8, 8])) (.t 21)⟩,
  ⟨(some 23), .none, .conv (.int .i64) (.t 22)⟩,
  ⟨(some 24), .none, .bin .add .num (.t 19) (.t 23)⟩,
  ⟨(some 2), .none, .mv (.t 24)⟩]
def f_math_bits_Len64_c6 : AC := .ret
def f_math_bits_Len64_c7 : AC := (.keep 5 [0, 2] (.seq (.reg f_math_bits_Len64_r10) f_math_bits_Len64_c6))
def f_math_bits_Len64_c8 : AC := (.keep 5 [0, 2] (.seq (.seq (.reg f_math_bits_Len64_r7) f_math_bits_Len64_c5) f_math_bits_Len64_c7))
def f_math_bits_Len64_c9 : AC := (.keep 5 [0, 2] (.seq (.seq (.reg f_math_bits_Len64_r4) f_math_bits_Len64_c3) f_math_bits_Len64_c8))
def f_math_bits_Len64_c10 : AC := (.seq (.seq (.reg f_math_bits_Len64_r1) f_math_bits_Len64_c1) f_math_bits_Len64_c9)
def f_math_bits_Len64 : AF := ⟨25, [.tmp 2], (.seq (.reg f_math_bits_Len64_r0) f_math_bits_Len64_c10)⟩
/- maps_Keys_map_string_disk_file_string_disk_file -/
def f_maps_Keys_map_string_disk_file_string_disk_file_r0 : List AOp := [
  ⟨(some 1), .none, .box (.t 0)⟩,
  ⟨(some 2), .none, .mv (.c .nilf)⟩]
def f_maps_Keys_map_string_disk_file_string_disk_file_r1 : List AOp := [
  ⟨(some 3), .none, .mkfn 346 [] [(.t 1)]⟩,
  ⟨(some 2), .none, .mv (.t 3)⟩]
def f_maps_Keys_map_string_disk_file_string_disk_file_c0 : AC := .ret
def f_maps_Keys_map_string_disk_file_string_disk_file_c1 : AC := (.seq (.reg f_maps_Keys_map_string_disk_file_string_disk_file_r1) f_maps_Keys_map_string_disk_file_string_disk_file_c0)
def f_maps_Keys_map_string_disk_file_string_disk_file : AF := ⟨4, [.tmp 2], (.seq (.reg f_maps_Keys_map_string_disk_file_string_disk_file_r0) f_maps_Keys_map_string_disk_file_string_disk_file_c1)⟩
/- slices_Sort_string -/
def f_slices_Sort_string_r0 : List AOp := [
  ⟨(some 3), .none, .mv (.t 0)⟩,
  ⟨(some 4), .none, .len .slice (.t 3)⟩,
  ⟨(some 2), .none, .mv (.t 4)⟩]
def f_slices_Sort_string_r1 : List AOp := [
  ⟨(some 5), .none, .mv (.t 0)⟩,
  ⟨(some 6), .none, .mv (.t 2)⟩,
  ⟨(some 7), .none, .mv (.t 2)⟩,
  ⟨(some 8), .none, .conv (.int .u64) (.t 7)⟩,
  ⟨(some 9), .none, .call 220 [(.t 8)]⟩,
  ⟨(some 10), .none, .call 348 [(.t 5), (.c (.int .i64 0)), (.t 6), (.t 9)]⟩]
def f_slices_Sort_string_c0 : AC := (.reg f_slices_Sort_string_r1)
def f_slices_Sort_string : AF := ⟨11, [], (.seq (.reg f_slices_Sort_string_r0) f_slices_Sort_string_c0)⟩
/- frame_number -/
def f_frame_number_r0 : List AOp := [
  ⟨(some 2), .none, .mv (.c (.int .u32 0))⟩]
def f_frame_number_r1 : DR := ⟨[
  ⟨(some 3), .none, .mv (.t 0)⟩,
  ⟨(some 4), .none, .iaddr 1 (.t 3) (.c (.int .i64 0))⟩,
  ⟨(some 5), .none, .load1 (.t 4)⟩,
  ⟨(some 6), .none, .conv (.int .u32) (.t 5)⟩,
  ⟨(some 7), .none, .mv (.t 0)⟩,
  ⟨(some 8), .none, .iaddr 1 (.t 7) (.c (.int .i64 1))⟩,
  ⟨(some 9), .none, .load1 (.t 8)⟩,
  ⟨(some 10), .none, .conv (.int .u32) (.t 9)⟩,
  ⟨(some 11), .none, .bin .shl .num (.t 10) (.c (.int .u64 8))⟩,
  ⟨(some 12), .none, .bin .or .num (.t 6) (.t 11)⟩,
  ⟨(some 13), .none, .mv (.t 0)⟩,
  ⟨(some 14), .none, .iaddr 1 (.t 13) (.c (.int .i64 2))⟩,
  ⟨(some 15), .none, .load1 (.t 14)⟩,
  ⟨(some 16), .none, .conv (.int .u32) (.t 15)⟩,
  ⟨(some 17), .none, .bin .shl .num (.t 16) (.c (.int .u64 16))⟩,
  ⟨(some 18), .none, .bin .or .num (.t 12) (.t 17)⟩,
  ⟨(some 19), .none, .mv (.t 0)⟩,
  ⟨(some 20), .none, .iaddr 1 (.t 19) (.c (.int .i64 3))⟩,
  ⟨(some 21), .none, .load1 (.t 20)⟩,
  ⟨(some 22), .none, .conv (.int .u32) (.t 21)⟩,
  ⟨(some 23), .none, .bin .shl .num (.t 22) (.c (.int .u64 24))⟩,
  ⟨(some 24), .none, .bin .or .num (.t 18) (.t 23)⟩,
  ⟨(some 2), .none, .mv (.t 24)⟩],
  [0, 1, 3, 7, 0, 16, 48, 112, 240, 511, 0, 1024, 3072, 7168, 15360, 32767, 0, 65536, 196608, 458752, 983040, 2097151, 4194303], [0, 1, 2, 3, 4, 5, 6, 7, 8, 9, 10, 11, 12, 13, 14, 15, 16, 17, 18, 19, 20, 21, 22], [], .none⟩
def f_frame_number_c0 : AC := .ret
def f_frame_number_c1 : AC := (.seq (.dreg f_frame_number_r1) f_frame_number_c0)
def f_frame_number : AF := ⟨25, [.tmp 2], (.seq (.reg f_frame_number_r0) f_frame_number_c1)⟩
/- wire_Reader_Byte -/
def f_wire_Reader_Byte_r0 : List AOp := [
  ⟨(some 2), .none, .mv (.c (.int .i64 0))⟩]
def f_wire_Reader_Byte_r1 : List AOp := [
  ⟨(some 3), .none, .mv (.t 0)⟩,
  ⟨(some 4), .none, .call 166 [(.t 3)]⟩,
  ⟨(some 5), .none, .un .not (.t 4)⟩]
def f_wire_Reader_Byte_r2 : List AOp := [
  ⟨(some 2), .none, .mv (.c (.int .i64 0))⟩]
def f_wire_Reader_Byte_c0 : AC := .ret
def f_wire_Reader_Byte_c1 : AC := (.cond (.t 5) (.seq (.reg f_wire_Reader_Byte_r2) f_wire_Reader_Byte_c0) .skip)
def f_wire_Reader_Byte_r3 : List AOp := [
  ⟨(some 6), .none, .mv (.t 0)⟩,
  ⟨(some 7), .none, .nilck (.t 6)⟩,
  ⟨(some 8), .none, .faddr 0 (.t 7)⟩,
  ⟨(some 9), .none, .call 168 [(.t 8)]⟩,
  ⟨(some 10), .none, .bin .eql .num (.t 9) (.c (.int .i64 0))⟩]
def f_wire_Reader_Byte_r4 : List AOp := [
  ⟨(some 11), .none, .mv (.t 0)⟩,
  ⟨(some 12), .none, .nilck (.t 11)⟩,
  ⟨(some 13), .none, .faddr 0 (.t 12)⟩,
  ⟨(some 14), .none, .call 169 [(.t 13), (.c (.int .i64 6))]⟩]
def f_wire_Reader_Byte_r5 : List AOp := [
  ⟨(some 2), .none, .mv (.c (.int .i64 0))⟩]
def f_wire_Reader_Byte_c2 : AC := .ret
def f_wire_Reader_Byte_c3 : AC := (.seq (.reg f_wire_Reader_Byte_r5) f_wire_Reader_Byte_c2)
def f_wire_Reader_Byte_c4 : AC := (.cond (.t 10) (.seq (.reg f_wire_Reader_Byte_r4) f_wire_Reader_Byte_c3) .skip)
def f_wire_Reader_Byte_r6 : List AOp := [
  ⟨(some 15), .none, .mv (.t 0)⟩,
  ⟨(some 16), .none, .nilck (.t 15)⟩,
  ⟨(some 17), .none, .faddr 0 (.t 16)⟩,
  ⟨(some 18), .none, .call 235 [(.t 17), (.c (.int .i64 1))]⟩,
  ⟨(some 19), .none, .iaddr 1 (.t 18) (.c (.int .i64 0))⟩,
  ⟨(some 20), .none, .load1 (.t 19)⟩,
  ⟨(some 21), .none, .conv (.int .i64) (.t 20)⟩,
  ⟨(some 2), .none, .mv (.t 21)⟩]
def f_wire_Reader_Byte_c5 : AC := .ret
def f_wire_Reader_Byte_c6 : AC := (.seq (.reg f_wire_Reader_Byte_r6) f_wire_Reader_Byte_c5)
def f_wire_Reader_Byte_c7 : AC := (.seq (.seq (.reg f_wire_Reader_Byte_r3) f_wire_Reader_Byte_c4) f_wire_Reader_Byte_c6)
def f_wire_Reader_Byte_c8 : AC := (.seq (.seq (.reg f_wire_Reader_Byte_r1) f_wire_Reader_Byte_c1) f_wire_Reader_Byte_c7)
def f_wire_Reader_Byte : AF := ⟨22, [.tmp 2], (.seq (.reg f_wire_Reader_Byte_r0) f_wire_Reader_Byte_c8)⟩
/- index_New -/
def f_index_New_r0 : List AOp := [
  ⟨(some 2), .none, .mv (.c .nilp)⟩,
  ⟨(some 3), .none, .mv (.c (.int .i64 0))⟩]
def f_index_New_r1 : List AOp := [
  ⟨(some 4), .none, .mv (.t 0)⟩,
  ⟨(some 5), .none, .bin .lss .num (.t 4) (.c (.int .i64 1))⟩,
  ⟨(some 6), .none, .mv (.t 5)⟩,
  ⟨(some 7), (some (6, false)), .mv (.t 0)⟩,
  ⟨(some 8), (some (6, false)), .bin .gtr .num (.t 7) (.c (.int .i64 4194304))⟩,
  ⟨(some 9), .none, .pick (.t 6) (.c (.bool true)) (.t 8)⟩]
def f_index_New_r2 : List AOp := [
  ⟨(some 2), .none, .mv (.c .nilp)⟩,
  ⟨(some 3), .none, .mv (.c (.int .i64 2))⟩]
def f_index_New_c0 : AC := .ret
def f_index_New_c1 : AC := (.cond (.t 9) (.seq (.reg f_index_New_r2) f_index_New_c0) .skip)
def f_index_New_r3 : List AOp := [
  ⟨(some 10), .none, .build [(.int .i64 0), (.int .i64 0), (.int .i64 0)] [(0, 1, (.c (.int .i64 (-1)))), (1, 1, (.c (.int .i64 (-1)))), (2, 1, (.c (.int .i64 (-1))))]⟩,
  ⟨(some 11), .none, .mv (.t 0)⟩,
  ⟨(some 12), .none, .build [(.int .i64 0), (.int .i64 0), (.int .i64 0), (.int .i64 0), .nils] [(0, 3, (.t 10)), (3, 1, (.t 11)), (4, 1, (.c .nils))]⟩,
  ⟨(some 13), .none, .box (.t 12)⟩,
  ⟨(some 2), .none, .mv (.t 13)⟩,
  ⟨(some 3), .none, .mv (.c (.int .i64 0))⟩]
def f_index_New_c2 : AC := .ret
def f_index_New_c3 : AC := (.seq (.reg f_index_New_r3) f_index_New_c2)
def f_index_New_c4 : AC := (.seq (.seq (.reg f_index_New_r1) f_index_New_c1) f_index_New_c3)
def f_index_New : AF := ⟨14, [.tmp 2, .tmp 3], (.seq (.reg f_index_New_r0) f_index_New_c4)⟩
/- rec_upto -/
def f_rec_upto_r0 : List AOp := [
  ⟨(some 4), .none, .mv (.c (.int .i64 0))⟩]
def f_rec_upto_r1 : List AOp := [
  ⟨(some 6), .none, .mv (.t 0)⟩,
  ⟨(some 7), .none, .call 83 [(.t 6)]⟩,
  ⟨(some 5), .none, .mv (.t 7)⟩]
def f_rec_upto_r2 : List AOp := [
  ⟨(some 8), .none, .mv (.t 5)⟩,
  ⟨(some 9), .none, .mv (.t 1)⟩,
  ⟨(some 10), .none, .conv (.int .u64) (.t 9)⟩,
  ⟨(some 11), .none, .bin .gtr .num (.t 8) (.t 10)⟩]
def f_rec_upto_r3 : List AOp := [
  ⟨(some 12), .none, .mv (.t 1)⟩,
  ⟨(some 13), .none, .bin .add .num (.t 12) (.c (.int .i64 1))⟩,
  ⟨(some 4), .none, .mv (.t 13)⟩]
def f_rec_upto_c0 : AC := .ret
def f_rec_upto_c1 : AC := (.cond (.t 11) (.seq (.reg f_rec_upto_r3) f_rec_upto_c0) .skip)
def f_rec_upto_r4 : List AOp := [
  ⟨(some 14), .none, .mv (.t 5)⟩,
  ⟨(some 15), .none, .conv (.int .i64) (.t 14)⟩,
  ⟨(some 4), .none, .mv (.t 15)⟩]
def f_rec_upto_c2 : AC := .ret
def f_rec_upto_c3 : AC := (.seq (.reg f_rec_upto_r4) f_rec_upto_c2)
def f_rec_upto_c4 : AC := (.seq (.seq (.reg f_rec_upto_r2) f_rec_upto_c1) f_rec_upto_c3)
def f_rec_upto_c5 : AC := (.seq (.reg f_rec_upto_r1) f_rec_upto_c4)
def f_rec_upto : AF := ⟨16, [.tmp 4], (.seq (.reg f_rec_upto_r0) f_rec_upto_c5)⟩
/- rec_read -/
def f_rec_read_r0 : List AOp := [
  ⟨(some 6), .none, .alloc [(.str []), (.str []), (.bool false), (.int .i64 0)]⟩,
  ⟨(some 7), .none, .mv (.c (.bool false))⟩]
def f_rec_read_r1 : List AOp := [
  ⟨(some 12), .none, .mv (.t 0)⟩,
  ⟨(some 13), .none, .call 237 [(.t 12), (.c (.int .i64 (-1099511627776))), (.c (.int .i64 1099511627776))]⟩,
  ⟨(some 8), .none, .mv (.t 13)⟩]
def f_rec_read_r2 : List AOp := [
  ⟨(some 14), .none, .mv (.t 1)⟩,
  ⟨(some 15), .none, .mv (.t 8)⟩,
  ⟨(some 16), .none, .bin .add .num (.t 14) (.t 15)⟩,
  ⟨(some 17), .none, .mv (.t 0)⟩,
  ⟨(some 18), .none, .call 344 [(.t 17)]⟩,
  ⟨(some 19), .none, .build [(.str []), (.str []), (.bool false), (.int .i64 0)] [(3, 1, (.t 16)), (2, 1, (.t 18))]⟩,
  ⟨(some 9), .none, .alloc [(.str []), (.str []), (.bool false), (.int .i64 0)]⟩,
  ⟨.none, .none, .store 4 (.t 9) (.t 19)⟩]
def f_rec_read_r3 : List AOp := [
  ⟨(some 20), .none, .mv (.t 0)⟩,
  ⟨(some 21), .none, .call 297 [(.t 20), (.c (.int .i64 1024))]⟩,
  ⟨(some 10), .none, .mv (.t 21)⟩]
def f_rec_read_r4 : List AOp := [
  ⟨(some 22), .none, .mv (.t 0)⟩,
  ⟨(some 23), .none, .call 151 [(.t 22), (.c (.int .i64 1024))]⟩,
  ⟨(some 11), .none, .mv (.t 23)⟩]
def f_rec_read_r5 : List AOp := [
  ⟨(some 24), .none, .mv (.t 10)⟩,
  ⟨(some 25), .none, .mv (.t 2)⟩,
  ⟨(some 26), .none, .len .str (.t 25)⟩,
  ⟨(some 27), .none, .bin .gtr .num (.t 24) (.t 26)⟩]
def f_rec_read_r6 : List AOp := [
  ⟨(some 28), .none, .loadn 4 (.t 9)⟩,
  ⟨.none, .none, .store 4 (.t 6) (.t 28)⟩,
  ⟨(some 7), .none, .mv (.c (.bool false))⟩]
def f_rec_read_c0 : AC := .ret
def f_rec_read_c1 : AC := (.cond (.t 27) (.seq (.reg f_rec_read_r6) f_rec_read_c0) .skip)
def f_rec_read_r7 : List AOp := [
  ⟨(some 29), .none, .mv (.t 2)⟩,
  ⟨(some 30), .none, .mv (.t 10)⟩,
  ⟨(some 31), .none, .sslc (.t 29) .none (some (.t 30))⟩,
  ⟨(some 32), .none, .mv (.t 11)⟩,
  ⟨(some 33), .none, .bin .add .str (.t 31) (.t 32)⟩,
  ⟨(some 34), .none, .faddr 0 (.t 9)⟩,
  ⟨.none, .none, .store 1 (.t 34) (.t 33)⟩]
def f_rec_read_r8 : List AOp := [
  ⟨(some 35), .none, .faddr 2 (.t 9)⟩,
  ⟨(some 36), .none, .load1 (.t 35)⟩,
  ⟨(some 37), .none, .un .not (.t 36)⟩]
def f_rec_read_r9 : List AOp := [
  ⟨(some 38), .none, .mv (.t 0)⟩,
  ⟨(some 39), .none, .call 151 [(.t 38), (.c (.int .i64 1024))]⟩,
  ⟨(some 40), .none, .faddr 1 (.t 9)⟩,
  ⟨.none, .none, .store 1 (.t 40) (.t 39)⟩]
def f_rec_read_c2 : AC := (.cond (.t 37) (.reg f_rec_read_r9) .skip)
def f_rec_read_r10 : DR := ⟨[
  ⟨(some 41), .none, .loadn 4 (.t 9)⟩,
  ⟨(some 42), .none, .mv (.t 0)⟩,
  ⟨(some 43), .none, .call 238 [(.t 42)]⟩,
  ⟨(some 44), .none, .bin .eql .num (.t 43) (.c (.int .i64 0))⟩,
  ⟨(some 45), .none, .mv (.t 44)⟩,
  ⟨(some 46), (some (45, true)), .mv (.t 2)⟩,
  ⟨(some 47), (some (45, true)), .faddr 0 (.t 9)⟩,
  ⟨(some 48), (some (45, true)), .load1 (.t 47)⟩,
  ⟨(some 49), (some (45, true)), .call 324 [(.t 46), (.t 48)]⟩,
  ⟨(some 50), (some (45, true)), .mv (.t 10)⟩,
  ⟨(some 51), (some (45, true)), .bin .eql .num (.t 49) (.t 50)⟩,
  ⟨(some 52), .none, .pick (.t 45) (.t 51) (.c (.bool false))⟩,
  ⟨.none, .none, .store 4 (.t 6) (.t 41)⟩,
  ⟨(some 7), .none, .mv (.t 52)⟩],
  [0, 0, 2, 6, 14, 30, 30, 94, 254, 30, 1022, 2046, 511, 8191], [0, 1, 2, 3, 4, 5, 6, 7, 8, 9, 10, 11, 12, 13], [(0, 1), (0, 2)], .none⟩
def f_rec_read_c3 : AC := .ret
def f_rec_read_c4 : AC := (.keep 6 [0, 2, 6, 9, 10] (.seq (.dreg f_rec_read_r10) f_rec_read_c3))
def f_rec_read_c5 : AC := (.seq (.seq (.reg f_rec_read_r8) f_rec_read_c2) f_rec_read_c4)
def f_rec_read_c6 : AC := (.seq (.reg f_rec_read_r7) f_rec_read_c5)
def f_rec_read_c7 : AC := (.seq (.seq (.reg f_rec_read_r5) f_rec_read_c1) f_rec_read_c6)
def f_rec_read_c8 : AC := (.seq (.reg f_rec_read_r4) f_rec_read_c7)
def f_rec_read_c9 : AC := (.seq (.reg f_rec_read_r3) f_rec_read_c8)
def f_rec_read_c10 : AC := (.seq (.reg f_rec_read_r2) f_rec_read_c9)
def f_rec_read_c11 : AC := (.seq (.reg f_rec_read_r1) f_rec_read_c10)
def f_rec_read : AF := ⟨53, [.celln 6 4, .tmp 7], (.seq (.reg f_rec_read_r0) f_rec_read_c11)⟩
/- seglog_latest -/
def f_seglog_latest_r0 : List AOp := [
  ⟨(some 1), .none, .box (.t 0)⟩,
  ⟨(some 2), .none, .mv (.c (.int .i64 0))⟩]
def f_seglog_latest_r1 : List AOp := [
  ⟨(some 3), .none, .mv (.c (.int .i64 (-1)))⟩]
def f_seglog_latest_r2 : List AOp := [
  ⟨(some 6), .none, .faddr 6 (.t 1)⟩,
  ⟨(some 7), .none, .load1 (.t 6)⟩,
  ⟨(some 8), .none, .len .slice (.t 7)⟩,
  ⟨(some 9), .none, .mv (.c (.int .i64 0))⟩]
def f_seglog_latest_r3 : List AOp := [
  ⟨(some 10), .none, .bin .lss .num (.t 9) (.t 8)⟩]
def f_seglog_latest_r4 : List AOp := [
  ⟨(some 11), .none, .iaddr 4 (.t 7) (.t 9)⟩,
  ⟨(some 12), .none, .loadn 4 (.t 11)⟩,
  ⟨(some 5), .none, .alloc [(.str []), (.str []), (.bool false), (.int .i64 0)]⟩,
  ⟨.none, .none, .store 4 (.t 5) (.t 12)⟩]
def f_seglog_latest_r5 : List AOp := [
  ⟨(some 13), .none, .mv (.t 3)⟩,
  ⟨(some 14), .none, .faddr 3 (.t 5)⟩,
  ⟨(some 15), .none, .load1 (.t 14)⟩,
  ⟨(some 16), .none, .mx [(.t 13), (.t 15)]⟩,
  ⟨(some 3), .none, .mv (.t 16)⟩]
def f_seglog_latest_c0 : AC := (.reg f_seglog_latest_r5)
def f_seglog_latest_r6 : List AOp := [
  ⟨(some 17), .none, .bin .add .num (.t 9) (.c (.int .i64 1))⟩,
  ⟨(some 9), .none, .mv (.t 17)⟩]
def f_seglog_latest_c1 : AC := (.reg f_seglog_latest_r6)
def f_seglog_latest_c2 : AC := (.seq (.block 1 (.seq (.reg f_seglog_latest_r4) f_seglog_latest_c0)) f_seglog_latest_c1)
def f_seglog_latest_c3 : AC := (.seq (.cond (.t 10) .skip (.exit 0)) f_seglog_latest_c2)
def f_seglog_latest_c4 : AC := (.seq (.reg f_seglog_latest_r3) f_seglog_latest_c3)
def f_seglog_latest_c5 : AC := (.block 0 (.keep 5 [1, 3, 7, 8, 9] (.loop (.keep 5 [1, 3, 7, 8, 9] f_seglog_latest_c4))))
def f_seglog_latest_r7 : List AOp := [
  ⟨(some 18), .none, .faddr 6 (.t 1)⟩,
  ⟨(some 19), .none, .load1 (.t 18)⟩,
  ⟨(some 20), .none, .len .slice (.t 19)⟩,
  ⟨(some 21), .none, .bin .eql .num (.t 20) (.c (.int .i64 0))⟩]
def f_seglog_latest_r8 : List AOp := [
  ⟨(some 22), .none, .faddr 5 (.t 1)⟩,
  ⟨(some 23), .none, .load1 (.t 22)⟩,
  ⟨(some 3), .none, .mv (.t 23)⟩]
def f_seglog_latest_c6 : AC := (.cond (.t 21) (.reg f_seglog_latest_r8) .skip)
def f_seglog_latest_r9 : List AOp := [
  ⟨(some 24), .none, .mv (.t 3)⟩,
  ⟨(some 2), .none, .mv (.t 24)⟩]
def f_seglog_latest_c7 : AC := .ret
def f_seglog_latest_c8 : AC := (.seq (.reg f_seglog_latest_r9) f_seglog_latest_c7)
def f_seglog_latest_c9 : AC := (.seq (.seq (.reg f_seglog_latest_r7) f_seglog_latest_c6) f_seglog_latest_c8)
def f_seglog_latest_c10 : AC := (.seq (.seq (.reg f_seglog_latest_r2) f_seglog_latest_c5) f_seglog_latest_c9)
def f_seglog_latest_c11 : AC := (.seq (.reg f_seglog_latest_r1) f_seglog_latest_c10)
def f_seglog_latest : AF := ⟨25, [.tmp 2], (.seq (.reg f_seglog_latest_r0) f_seglog_latest_c11)⟩
/- index_Index_Note -/
def f_index_Index_Note_r0 : List AOp := [
  ⟨(some 8), .none, .mv (.c (.int .i64 0))⟩]
def f_index_Index_Note_r1 : List AOp := [
  ⟨(some 12), .none, .mv (.t 0)⟩,
  ⟨(some 13), .none, .bin .eql .ptr (.t 12) (.c .nilp)⟩,
  ⟨(some 11), .none, .mv (.t 13)⟩]
def f_index_Index_Note_r2 : List AOp := [
  ⟨(some 8), .none, .mv (.c (.int .i64 1))⟩]
def f_index_Index_Note_c0 : AC := .ret
def f_index_Index_Note_r3 : List AOp := [
  ⟨(some 15), .none, .mv (.t 1)⟩,
  ⟨(some 16), .none, .mv (.t 2)⟩,
  ⟨(some 17), .none, .mv (.t 3)⟩,
  ⟨(some 18), .none, .call 349 [(.t 15), (.t 16), (.t 17)]⟩,
  ⟨(some 19), .none, .un .not (.t 18)⟩,
  ⟨(some 14), .none, .mv (.t 19)⟩]
def f_index_Index_Note_r4 : List AOp := [
  ⟨(some 8), .none, .mv (.c (.int .i64 2))⟩]
def f_index_Index_Note_c1 : AC := .ret
def f_index_Index_Note_r5 : List AOp := [
  ⟨(some 21), .none, .mv (.t 1)⟩,
  ⟨(some 22), .none, .mv (.t 0)⟩,
  ⟨(some 23), .none, .nilck (.t 22)⟩,
  ⟨(some 24), .none, .faddr 0 (.t 23)⟩,
  ⟨(some 25), .none, .faddr 0 (.t 24)⟩,
  ⟨(some 26), .none, .load1 (.t 25)⟩,
  ⟨(some 27), .none, .bin .leq .num (.t 21) (.t 26)⟩,
  ⟨(some 28), .none, .mv (.t 27)⟩,
  ⟨(some 29), (some (28, false)), .mv (.t 2)⟩,
  ⟨(some 30), (some (28, false)), .mv (.t 0)⟩,
  ⟨(some 31), (some (28, false)), .nilck (.t 30)⟩,
  ⟨(some 32), (some (28, false)), .faddr 0 (.t 31)⟩,
  ⟨(some 33), (some (28, false)), .faddr 1 (.t 32)⟩,
  ⟨(some 34), (some (28, false)), .load1 (.t 33)⟩,
  ⟨(some 35), (some (28, false)), .bin .leq .num (.t 29) (.t 34)⟩,
  ⟨(some 36), .none, .pick (.t 28) (.c (.bool true)) (.t 35)⟩,
  ⟨(some 20), .none, .mv (.t 36)⟩]
def f_index_Index_Note_r6 : List AOp := [
  ⟨(some 8), .none, .mv (.c (.int .i64 21))⟩]
def f_index_Index_Note_c2 : AC := .ret
def f_index_Index_Note_c3 : AC := (.cond (.t 20) (.seq (.reg f_index_Index_Note_r6) f_index_Index_Note_c2) .skip)
def f_index_Index_Note_c4 : AC := (.cond (.t 14) (.seq (.reg f_index_Index_Note_r4) f_index_Index_Note_c1) (.seq (.reg f_index_Index_Note_r5) f_index_Index_Note_c3))
def f_index_Index_Note_c5 : AC := (.cond (.t 11) (.seq (.reg f_index_Index_Note_r2) f_index_Index_Note_c0) (.seq (.reg f_index_Index_Note_r3) f_index_Index_Note_c4))
def f_index_Index_Note_r7 : List AOp := [
  ⟨(some 37), .none, .mv (.t 0)⟩,
  ⟨(some 38), .none, .nilck (.t 37)⟩,
  ⟨(some 39), .none, .faddr 4 (.t 38)⟩,
  ⟨(some 40), .none, .load1 (.t 39)⟩,
  ⟨(some 41), .none, .len .slice (.t 40)⟩,
  ⟨(some 9), .none, .mv (.t 41)⟩]
def f_index_Index_Note_r8 : DR := ⟨[
  ⟨(some 42), .none, .mv (.t 9)⟩,
  ⟨(some 43), .none, .bin .eql .num (.t 42) (.c (.int .i64 0))⟩,
  ⟨(some 44), .none, .mv (.t 43)⟩,
  ⟨(some 45), (some (44, false)), .mv (.t 2)⟩,
  ⟨(some 46), (some (44, false)), .mv (.t 0)⟩,
  ⟨(some 47), (some (44, false)), .nilck (.t 46)⟩,
  ⟨(some 48), (some (44, false)), .faddr 4 (.t 47)⟩,
  ⟨(some 49), (some (44, false)), .load1 (.t 48)⟩,
  ⟨(some 50), (some (44, false)), .mv (.t 9)⟩,
  ⟨(some 51), (some (44, false)), .bin .sub .num (.t 50) (.c (.int .i64 1))⟩,
  ⟨(some 52), (some (44, false)), .iaddr 3 (.t 49) (.t 51)⟩,
  ⟨(some 53), (some (44, false)), .faddr 1 (.t 52)⟩,
  ⟨(some 54), (some (44, false)), .load1 (.t 53)⟩,
  ⟨(some 55), (some (44, false)), .bin .sub .num (.t 45) (.t 54)⟩,
  ⟨(some 56), (some (44, false)), .mv (.t 0)⟩,
  ⟨(some 57), (some (44, false)), .nilck (.t 56)⟩,
  ⟨(some 58), (some (44, false)), .faddr 3 (.t 57)⟩,
  ⟨(some 59), (some (44, false)), .load1 (.t 58)⟩,
  ⟨(some 60), (some (44, false)), .bin .geq .num (.t 55) (.t 59)⟩,
  ⟨(some 61), .none, .pick (.t 44) (.c (.bool true)) (.t 60)⟩],
  [0, 1, 3, 7, 7, 23, 55, 119, 7, 263, 1015, 2039, 4087, 8191, 7, 16391, 49159, 114695, 262143, 524287], [0, 1, 2, 3, 4, 5, 6, 7, 8, 9, 10, 11, 12, 13, 14, 15, 16, 17, 18, 19], [], .none⟩
def f_index_Index_Note_r9 : DR := ⟨[
  ⟨(some 62), .none, .mv (.t 0)⟩,
  ⟨(some 63), .none, .nilck (.t 62)⟩,
  ⟨(some 64), .none, .faddr 4 (.t 63)⟩,
  ⟨(some 65), .none, .load1 (.t 64)⟩,
  ⟨(some 66), .none, .mv (.t 1)⟩,
  ⟨(some 67), .none, .mv (.t 2)⟩,
  ⟨(some 68), .none, .mv (.t 0)⟩,
  ⟨(some 69), .none, .nilck (.t 68)⟩,
  ⟨(some 70), .none, .faddr 0 (.t 69)⟩,
  ⟨(some 71), .none, .faddr 2 (.t 70)⟩,
  ⟨(some 72), .none, .load1 (.t 71)⟩,
  ⟨(some 73), .none, .build [(.int .i64 0), (.int .i64 0), (.int .i64 0)] [(0, 1, (.t 66)), (1, 1, (.t 67)), (2, 1, (.t 72))]⟩,
  ⟨(some 74), .none, .bsl false 3 1 [(.int .i64 0), (.int .i64 0), (.int .i64 0)] [(0, 3, (.t 73))]⟩,
  ⟨(some 75), .none, .app false 3 24 (.t 65) (.t 74)⟩,
  ⟨(some 10), .none, .mv (.t 75)⟩],
  [0, 1, 3, 7, 0, 0, 0, 64, 192, 448, 960, 2032, 4080, 8191, 16383], [0, 1, 2, 3, 4, 5, 6, 7, 8, 9, 10, 11, 12, 13, 14], [], .none⟩
def f_index_Index_Note_r10 : List AOp := [
  ⟨(some 76), .none, .mv (.t 0)⟩,
  ⟨(some 77), .none, .mv (.t 10)⟩,
  ⟨(some 78), .none, .nilck (.t 76)⟩,
  ⟨(some 79), .none, .faddr 4 (.t 78)⟩,
  ⟨.none, .none, .store 1 (.t 79) (.t 77)⟩]
def f_index_Index_Note_c6 : AC := (.reg f_index_Index_Note_r10)
def f_index_Index_Note_c7 : AC := (.cond (.t 61) (.seq (.dreg f_index_Index_Note_r9) f_index_Index_Note_c6) .skip)
def f_index_Index_Note_r11 : List AOp := [
  ⟨(some 80), .none, .mv (.t 0)⟩,
  ⟨(some 81), .none, .mv (.t 1)⟩,
  ⟨(some 82), .none, .mv (.t 2)⟩,
  ⟨(some 83), .none, .mv (.t 0)⟩,
  ⟨(some 84), .none, .nilck (.t 83)⟩,
  ⟨(some 85), .none, .faddr 0 (.t 84)⟩,
  ⟨(some 86), .none, .faddr 2 (.t 85)⟩,
  ⟨(some 87), .none, .load1 (.t 86)⟩,
  ⟨(some 88), .none, .mv (.t 3)⟩,
  ⟨(some 89), .none, .mx [(.t 87), (.t 88)]⟩,
  ⟨(some 90), .none, .build [(.int .i64 0), (.int .i64 0), (.int .i64 0)] [(0, 1, (.t 81)), (1, 1, (.t 82)), (2, 1, (.t 89))]⟩,
  ⟨(some 91), .none, .nilck (.t 80)⟩,
  ⟨(some 92), .none, .faddr 0 (.t 91)⟩,
  ⟨.none, .none, .store 3 (.t 92) (.t 90)⟩]
def f_index_Index_Note_r12 : List AOp := [
  ⟨(some 8), .none, .mv (.c (.int .i64 0))⟩]
def f_index_Index_Note_c8 : AC := .ret
def f_index_Index_Note_c9 : AC := (.seq (.reg f_index_Index_Note_r12) f_index_Index_Note_c8)
def f_index_Index_Note_c10 : AC := (.keep 7 [0, 1, 2, 3] (.seq (.reg f_index_Index_Note_r11) f_index_Index_Note_c9))
def f_index_Index_Note_c11 : AC := (.seq (.seq (.dreg f_index_Index_Note_r8) f_index_Index_Note_c7) f_index_Index_Note_c10)
def f_index_Index_Note_c12 : AC := (.seq (.reg f_index_Index_Note_r7) f_index_Index_Note_c11)
def f_index_Index_Note_c13 : AC := (.seq (.block 0 (.seq (.reg f_index_Index_Note_r1) f_index_Index_Note_c5)) f_index_Index_Note_c12)
def f_index_Index_Note : AF := ⟨93, [.tmp 8], (.seq (.reg f_index_Index_Note_r0) f_index_Index_Note_c13)⟩
/- wire_Reader_Int -/
def f_wire_Reader_Int_r0 : List AOp := [
  ⟨(some 2), .none, .mv (.c (.int .i64 0))⟩]
def f_wire_Reader_Int_r1 : List AOp := [
  ⟨(some 4), .none, .mv (.t 0)⟩,
  ⟨(some 5), .none, .call 83 [(.t 4)]⟩,
  ⟨(some 3), .none, .mv (.t 5)⟩]
def f_wire_Reader_Int_r2 : List AOp := [
  ⟨(some 6), .none, .mv (.t 3)⟩,
  ⟨(some 7), .none, .bin .shr .num (.t 6) (.c (.int .u64 1))⟩,
  ⟨(some 8), .none, .conv (.int .i64) (.t 7)⟩,
  ⟨(some 9), .none, .mv (.t 3)⟩,
  ⟨(some 10), .none, .bin .and .num (.t 9) (.c (.int .u64 1))⟩,
  ⟨(some 11), .none, .conv (.int .i64) (.t 10)⟩,
  ⟨(some 12), .none, .un .neg (.t 11)⟩,
  ⟨(some 13), .none, .bin .xor .num (.t 8) (.t 12)⟩,
  ⟨(some 2), .none, .mv (.t 13)⟩]
def f_wire_Reader_Int_c0 : AC := .ret
def f_wire_Reader_Int_c1 : AC := (.seq (.reg f_wire_Reader_Int_r2) f_wire_Reader_Int_c0)
def f_wire_Reader_Int_c2 : AC := (.seq (.reg f_wire_Reader_Int_r1) f_wire_Reader_Int_c1)
def f_wire_Reader_Int : AF := ⟨14, [.tmp 2], (.seq (.reg f_wire_Reader_Int_r0) f_wire_Reader_Int_c2)⟩
/- index_Index_entry -/
def f_index_Index_entry_r0 : List AOp := [
  ⟨(some 4), .none, .alloc [(.int .i64 0), (.int .i64 0), (.int .i64 0)]⟩,
  ⟨(some 5), .none, .mv (.c (.bool false))⟩]
def f_index_Index_entry_r1 : List AOp := [
  ⟨(some 6), .none, .mv (.t 1)⟩,
  ⟨(some 7), .none, .bin .lss .num (.t 6) (.c (.int .i64 0))⟩]
def f_index_Index_entry_r2 : List AOp := [
  ⟨(some 8), .none, .build [(.int .i64 0), (.int .i64 0), (.int .i64 0)] []⟩,
  ⟨.none, .none, .store 3 (.t 4) (.t 8)⟩,
  ⟨(some 5), .none, .mv (.c (.bool false))⟩]
def f_index_Index_entry_c0 : AC := .ret
def f_index_Index_entry_c1 : AC := (.cond (.t 7) (.seq (.reg f_index_Index_entry_r2) f_index_Index_entry_c0) .skip)
def f_index_Index_entry_r3 : List AOp := [
  ⟨(some 9), .none, .mv (.t 0)⟩,
  ⟨(some 10), .none, .nilck (.t 9)⟩,
  ⟨(some 11), .none, .faddr 4 (.t 10)⟩,
  ⟨(some 12), .none, .load1 (.t 11)⟩,
  ⟨(some 13), .none, .mv (.t 1)⟩,
  ⟨(some 14), .none, .iaddr 3 (.t 12) (.t 13)⟩,
  ⟨(some 15), .none, .loadn 3 (.t 14)⟩,
  ⟨.none, .none, .store 3 (.t 4) (.t 15)⟩,
  ⟨(some 5), .none, .mv (.c (.bool true))⟩]
def f_index_Index_entry_c2 : AC := .ret
def f_index_Index_entry_c3 : AC := (.seq (.reg f_index_Index_entry_r3) f_index_Index_entry_c2)
def f_index_Index_entry_c4 : AC := (.seq (.seq (.reg f_index_Index_entry_r1) f_index_Index_entry_c1) f_index_Index_entry_c3)
def f_index_Index_entry : AF := ⟨16, [.celln 4 3, .tmp 5], (.seq (.reg f_index_Index_entry_r0) f_index_Index_entry_c4)⟩
/- index_Index_Find_1 -/
def f_index_Index_Find_1_r0 : List AOp := [
  ⟨(some 4), .none, .mv (.c (.bool false))⟩]
def f_index_Index_Find_1_r1 : DR := ⟨[
  ⟨(some 5), .none, .load1 (.t 1)⟩,
  ⟨(some 6), .none, .nilck (.t 5)⟩,
  ⟨(some 7), .none, .faddr 4 (.t 6)⟩,
  ⟨(some 8), .none, .load1 (.t 7)⟩,
  ⟨(some 9), .none, .mv (.t 0)⟩,
  ⟨(some 10), .none, .iaddr 3 (.t 8) (.t 9)⟩,
  ⟨(some 11), .none, .faddr 0 (.t 10)⟩,
  ⟨(some 12), .none, .load1 (.t 11)⟩,
  ⟨(some 13), .none, .load1 (.t 2)⟩,
  ⟨(some 14), .none, .bin .gtr .num (.t 12) (.t 13)⟩,
  ⟨(some 4), .none, .mv (.t 14)⟩],
  [0, 1, 3, 7, 0, 31, 63, 127, 0, 511, 1023], [0, 1, 2, 3, 4, 5, 6, 7, 8, 9, 10], [], .none⟩
def f_index_Index_Find_1_c0 : AC := .ret
def f_index_Index_Find_1_c1 : AC := (.seq (.dreg f_index_Index_Find_1_r1) f_index_Index_Find_1_c0)
def f_index_Index_Find_1 : AF := ⟨15, [.tmp 4], (.seq (.reg f_index_Index_Find_1_r0) f_index_Index_Find_1_c1)⟩
/- rec_within -/
def f_rec_within_r0 : List AOp := [
  ⟨(some 6), .none, .mv (.c (.bool false))⟩]
def f_rec_within_r1 : List AOp := [
  ⟨(some 7), .none, .mv (.t 0)⟩,
  ⟨(some 8), .none, .mv (.t 1)⟩,
  ⟨(some 9), .none, .bin .geq .num (.t 7) (.t 8)⟩,
  ⟨(some 10), .none, .mv (.t 9)⟩,
  ⟨(some 11), (some (10, true)), .mv (.t 0)⟩,
  ⟨(some 12), (some (10, true)), .mv (.t 2)⟩,
  ⟨(some 13), (some (10, true)), .bin .leq .num (.t 11) (.t 12)⟩,
  ⟨(some 14), .none, .pick (.t 10) (.t 13) (.c (.bool false))⟩,
  ⟨(some 6), .none, .mv (.t 14)⟩]
def f_rec_within_c0 : AC := .ret
def f_rec_within_c1 : AC := (.seq (.reg f_rec_within_r1) f_rec_within_c0)
def f_rec_within : AF := ⟨15, [.tmp 6], (.seq (.reg f_rec_within_r0) f_rec_within_c1)⟩
/- frame_More -/
def f_frame_More_r0 : List AOp := [
  ⟨(some 4), .none, .mv (.c (.int .u32 0))⟩]
def f_frame_More_r1 : List AOp := [
  ⟨(some 10), .none, .mv (.t 0)⟩,
  ⟨(some 11), .none, .un .xor (.t 10)⟩,
  ⟨(some 5), .none, .mv (.t 11)⟩]
def f_frame_More_r2 : List AOp := [
  ⟨(some 12), .none, .mv (.t 1)⟩,
  ⟨(some 13), .none, .len .slice (.t 12)⟩,
  ⟨(some 14), .none, .mv (.c (.int .i64 0))⟩]
def f_frame_More_r3 : List AOp := [
  ⟨(some 15), .none, .bin .lss .num (.t 14) (.t 13)⟩]
def f_frame_More_r4 : List AOp := [
  ⟨(some 16), .none, .iaddr 1 (.t 12) (.t 14)⟩,
  ⟨(some 17), .none, .load1 (.t 16)⟩,
  ⟨(some 7), .none, .mv (.t 17)⟩]
def f_frame_More_r5 : List AOp := [
  ⟨(some 18), .none, .mv (.t 7)⟩,
  ⟨(some 19), .none, .len .slice (.t 18)⟩,
  ⟨(some 20), .none, .mv (.c (.int .i64 0))⟩]
def f_frame_More_r6 : List AOp := [
  ⟨(some 21), .none, .bin .lss .num (.t 20) (.t 19)⟩]
def f_frame_More_r7 : List AOp := [
  ⟨(some 22), .none, .iaddr 1 (.t 18) (.t 20)⟩,
  ⟨(some 23), .none, .load1 (.t 22)⟩,
  ⟨(some 9), .none, .mv (.t 23)⟩]
def f_frame_More_r8 : List AOp := [
  ⟨(some 24), .none, .mv (.t 5)⟩,
  ⟨(some 25), .none, .mv (.t 9)⟩,
  ⟨(some 26), .none, .conv (.int .u32) (.t 25)⟩,
  ⟨(some 27), .none, .bin .xor .num (.t 24) (.t 26)⟩,
  ⟨(some 5), .none, .mv (.t 27)⟩]
def f_frame_More_r9 : List AOp := [
  ⟨(some 28), .none, .mv (.c (.int .i64 0))⟩]
def f_frame_More_r10 : List AOp := [
  ⟨(some 29), .none, .bin .lss .num (.t 28) (.c (.int .i64 8))⟩]
def f_frame_More_r11 : List AOp := [
  ⟨(some 30), .none, .mv (.t 5)⟩,
  ⟨(some 31), .none, .bin .shr .num (.t 30) (.c (.int .u64 1))⟩,
  ⟨(some 32), .none, .mv (.t 5)⟩,
  ⟨(some 33), .none, .bin .and .num (.t 32) (.c (.int .u32 1))⟩,
  ⟨(some 34), .none, .un .neg (.t 33)⟩,
  ⟨(some 35), .none, .bin .and .num (.c (.int .u32 3988292384)) (.t 34)⟩,
  ⟨(some 36), .none, .bin .xor .num (.t 31) (.t 35)⟩,
  ⟨(some 5), .none, .mv (.t 36)⟩]
def f_frame_More_r12 : List AOp := [
  ⟨(some 37), .none, .bin .add .num (.t 28) (.c (.int .i64 1))⟩,
  ⟨(some 28), .none, .mv (.t 37)⟩]
def f_frame_More_c0 : AC := (.reg f_frame_More_r12)
def f_frame_More_c1 : AC := (.seq (.block 5 (.reg f_frame_More_r11)) f_frame_More_c0)
def f_frame_More_c2 : AC := (.seq (.cond (.t 29) .skip (.exit 4)) f_frame_More_c1)
def f_frame_More_c3 : AC := (.seq (.reg f_frame_More_r10) f_frame_More_c2)
def f_frame_More_c4 : AC := (.block 4 (.keep 6 [5, 12, 13, 14, 18, 19, 20, 28] (.loop (.keep 6 [5, 12, 13, 14, 18, 19, 20, 28] f_frame_More_c3))))
def f_frame_More_c5 : AC := (.seq (.reg f_frame_More_r9) f_frame_More_c4)
def f_frame_More_c6 : AC := (.seq (.reg f_frame_More_r8) f_frame_More_c5)
def f_frame_More_r13 : List AOp := [
  ⟨(some 38), .none, .bin .add .num (.t 20) (.c (.int .i64 1))⟩,
  ⟨(some 20), .none, .mv (.t 38)⟩]
def f_frame_More_c7 : AC := (.reg f_frame_More_r13)
def f_frame_More_c8 : AC := (.seq (.block 3 (.seq (.reg f_frame_More_r7) f_frame_More_c6)) f_frame_More_c7)
def f_frame_More_c9 : AC := (.seq (.cond (.t 21) .skip (.exit 2)) f_frame_More_c8)
def f_frame_More_c10 : AC := (.seq (.reg f_frame_More_r6) f_frame_More_c9)
def f_frame_More_c11 : AC := (.block 2 (.keep 6 [5, 12, 13, 14, 18, 19, 20] (.loop (.keep 6 [5, 12, 13, 14, 18, 19, 20] f_frame_More_c10))))
def f_frame_More_c12 : AC := (.seq (.reg f_frame_More_r5) f_frame_More_c11)
def f_frame_More_r14 : List AOp := [
  ⟨(some 39), .none, .bin .add .num (.t 14) (.c (.int .i64 1))⟩,
  ⟨(some 14), .none, .mv (.t 39)⟩]
def f_frame_More_c13 : AC := (.reg f_frame_More_r14)
def f_frame_More_c14 : AC := (.seq (.block 1 (.seq (.reg f_frame_More_r4) f_frame_More_c12)) f_frame_More_c13)
def f_frame_More_c15 : AC := (.seq (.cond (.t 15) .skip (.exit 0)) f_frame_More_c14)
def f_frame_More_c16 : AC := (.seq (.reg f_frame_More_r3) f_frame_More_c15)
def f_frame_More_c17 : AC := (.block 0 (.keep 6 [5, 12, 13, 14] (.loop (.keep 6 [5, 12, 13, 14] f_frame_More_c16))))
def f_frame_More_r15 : List AOp := [
  ⟨(some 40), .none, .mv (.t 5)⟩,
  ⟨(some 41), .none, .un .xor (.t 40)⟩,
  ⟨(some 4), .none, .mv (.t 41)⟩]
def f_frame_More_c18 : AC := .ret
def f_frame_More_c19 : AC := (.seq (.reg f_frame_More_r15) f_frame_More_c18)
def f_frame_More_c20 : AC := (.seq (.seq (.reg f_frame_More_r2) f_frame_More_c17) f_frame_More_c19)
def f_frame_More_c21 : AC := (.seq (.reg f_frame_More_r1) f_frame_More_c20)
def f_frame_More : AF := ⟨42, [.tmp 4], (.seq (.reg f_frame_More_r0) f_frame_More_c21)⟩
/- rec_alike -/
def f_rec_alike_r0 : List AOp := [
  ⟨(some 4), .none, .mv (.c (.int .i64 0))⟩]
def f_rec_alike_r1 : List AOp := [
  ⟨(some 7), .none, .mv (.t 0)⟩,
  ⟨(some 8), .none, .len .str (.t 7)⟩,
  ⟨(some 9), .none, .mv (.t 1)⟩,
  ⟨(some 10), .none, .len .str (.t 9)⟩,
  ⟨(some 11), .none, .mn [(.t 8), (.t 10)]⟩,
  ⟨(some 5), .none, .mv (.t 11)⟩]
def f_rec_alike_r2 : List AOp := [
  ⟨(some 12), .none, .mv (.t 5)⟩,
  ⟨(some 13), .none, .mv (.c (.int .i64 0))⟩]
def f_rec_alike_r3 : List AOp := [
  ⟨(some 14), .none, .bin .lss .num (.t 13) (.t 12)⟩]
def f_rec_alike_r4 : List AOp := [
  ⟨(some 15), .none, .mv (.t 13)⟩,
  ⟨(some 6), .none, .mv (.t 15)⟩]
def f_rec_alike_r5 : DR := ⟨[
  ⟨(some 16), .none, .mv (.t 0)⟩,
  ⟨(some 17), .none, .mv (.t 6)⟩,
  ⟨(some 18), .none, .sidx (.t 16) (.t 17)⟩,
  ⟨(some 19), .none, .mv (.t 1)⟩,
  ⟨(some 20), .none, .mv (.t 6)⟩,
  ⟨(some 21), .none, .sidx (.t 19) (.t 20)⟩,
  ⟨(some 22), .none, .bin .neq .num (.t 18) (.t 21)⟩],
  [0, 0, 3, 0, 0, 24, 63], [0, 1, 2, 3, 4, 5, 6], [], .none⟩
def f_rec_alike_r6 : List AOp := [
  ⟨(some 23), .none, .mv (.t 6)⟩,
  ⟨(some 4), .none, .mv (.t 23)⟩]
def f_rec_alike_c0 : AC := .ret
def f_rec_alike_c1 : AC := (.cond (.t 22) (.seq (.reg f_rec_alike_r6) f_rec_alike_c0) .skip)
def f_rec_alike_c2 : AC := (.seq (.dreg f_rec_alike_r5) f_rec_alike_c1)
def f_rec_alike_r7 : List AOp := [
  ⟨(some 24), .none, .bin .add .num (.t 13) (.c (.int .i64 1))⟩,
  ⟨(some 13), .none, .mv (.t 24)⟩]
def f_rec_alike_c3 : AC := (.reg f_rec_alike_r7)
def f_rec_alike_c4 : AC := (.seq (.block 1 (.seq (.reg f_rec_alike_r4) f_rec_alike_c2)) f_rec_alike_c3)
def f_rec_alike_c5 : AC := (.seq (.cond (.t 14) .skip (.exit 0)) f_rec_alike_c4)
def f_rec_alike_c6 : AC := (.seq (.reg f_rec_alike_r3) f_rec_alike_c5)
def f_rec_alike_c7 : AC := (.block 0 (.keep 5 [0, 1, 5, 12, 13] (.loop (.keep 5 [0, 1, 5, 12, 13] f_rec_alike_c6))))
def f_rec_alike_r8 : List AOp := [
  ⟨(some 25), .none, .mv (.t 5)⟩,
  ⟨(some 4), .none, .mv (.t 25)⟩]
def f_rec_alike_c8 : AC := .ret
def f_rec_alike_c9 : AC := (.seq (.reg f_rec_alike_r8) f_rec_alike_c8)
def f_rec_alike_c10 : AC := (.seq (.seq (.reg f_rec_alike_r2) f_rec_alike_c7) f_rec_alike_c9)
def f_rec_alike_c11 : AC := (.seq (.reg f_rec_alike_r1) f_rec_alike_c10)
def f_rec_alike : AF := ⟨26, [.tmp 4], (.seq (.reg f_rec_alike_r0) f_rec_alike_c11)⟩
/- wire_Reader_Flag -/
def f_wire_Reader_Flag_r0 : List AOp := [
  ⟨(some 2), .none, .mv (.c (.bool false))⟩]
def f_wire_Reader_Flag_r1 : List AOp := [
  ⟨(some 3), .none, .mv (.t 0)⟩,
  ⟨(some 4), .none, .call 166 [(.t 3)]⟩,
  ⟨(some 5), .none, .un .not (.t 4)⟩]
def f_wire_Reader_Flag_r2 : List AOp := [
  ⟨(some 2), .none, .mv (.c (.bool false))⟩]
def f_wire_Reader_Flag_c0 : AC := .ret
def f_wire_Reader_Flag_c1 : AC := (.cond (.t 5) (.seq (.reg f_wire_Reader_Flag_r2) f_wire_Reader_Flag_c0) .skip)
def f_wire_Reader_Flag_r3 : DR := ⟨[
  ⟨(some 6), .none, .mv (.t 0)⟩,
  ⟨(some 7), .none, .nilck (.t 6)⟩,
  ⟨(some 8), .none, .faddr 0 (.t 7)⟩,
  ⟨(some 9), .none, .call 168 [(.t 8)]⟩,
  ⟨(some 10), .none, .bin .eql .num (.t 9) (.c (.int .i64 0))⟩,
  ⟨(some 11), .none, .mv (.t 10)⟩,
  ⟨(some 12), (some (11, false)), .mv (.t 0)⟩,
  ⟨(some 13), (some (11, false)), .nilck (.t 12)⟩,
  ⟨(some 14), (some (11, false)), .faddr 0 (.t 13)⟩,
  ⟨(some 15), (some (11, false)), .faddr 0 (.t 14)⟩,
  ⟨(some 16), (some (11, false)), .load1 (.t 15)⟩,
  ⟨(some 17), (some (11, false)), .mv (.t 0)⟩,
  ⟨(some 18), (some (11, false)), .nilck (.t 17)⟩,
  ⟨(some 19), (some (11, false)), .faddr 0 (.t 18)⟩,
  ⟨(some 20), (some (11, false)), .faddr 1 (.t 19)⟩,
  ⟨(some 21), (some (11, false)), .load1 (.t 20)⟩,
  ⟨(some 22), (some (11, false)), .iaddr 1 (.t 16) (.t 21)⟩,
  ⟨(some 23), (some (11, false)), .load1 (.t 22)⟩,
  ⟨(some 24), (some (11, false)), .bin .gtr .num (.t 23) (.c (.int .u8 1))⟩,
  ⟨(some 25), .none, .pick (.t 11) (.c (.bool true)) (.t 24)⟩],
  [0, 1, 3, 7, 15, 31, 63, 127, 255, 511, 1023, 63, 2111, 6207, 14399, 30783, 65535, 131071, 262143, 524287], [0, 1, 2, 3, 4, 5, 6, 7, 8, 9, 10, 11, 12, 13, 14, 15, 16, 17, 18, 19], [], .none⟩
def f_wire_Reader_Flag_r4 : List AOp := [
  ⟨(some 26), .none, .mv (.t 0)⟩,
  ⟨(some 27), .none, .nilck (.t 26)⟩,
  ⟨(some 28), .none, .faddr 0 (.t 27)⟩,
  ⟨(some 29), .none, .call 169 [(.t 28), (.c (.int .i64 6))]⟩]
def f_wire_Reader_Flag_r5 : List AOp := [
  ⟨(some 2), .none, .mv (.c (.bool false))⟩]
def f_wire_Reader_Flag_c2 : AC := .ret
def f_wire_Reader_Flag_c3 : AC := (.seq (.reg f_wire_Reader_Flag_r5) f_wire_Reader_Flag_c2)
def f_wire_Reader_Flag_c4 : AC := (.cond (.t 25) (.seq (.reg f_wire_Reader_Flag_r4) f_wire_Reader_Flag_c3) .skip)
def f_wire_Reader_Flag_r6 : List AOp := [
  ⟨(some 30), .none, .mv (.t 0)⟩,
  ⟨(some 31), .none, .nilck (.t 30)⟩,
  ⟨(some 32), .none, .faddr 0 (.t 31)⟩,
  ⟨(some 33), .none, .call 235 [(.t 32), (.c (.int .i64 1))]⟩,
  ⟨(some 34), .none, .iaddr 1 (.t 33) (.c (.int .i64 0))⟩,
  ⟨(some 35), .none, .load1 (.t 34)⟩,
  ⟨(some 36), .none, .bin .eql .num (.t 35) (.c (.int .u8 1))⟩,
  ⟨(some 2), .none, .mv (.t 36)⟩]
def f_wire_Reader_Flag_c5 : AC := .ret
def f_wire_Reader_Flag_c6 : AC := (.seq (.reg f_wire_Reader_Flag_r6) f_wire_Reader_Flag_c5)
def f_wire_Reader_Flag_c7 : AC := (.seq (.seq (.dreg f_wire_Reader_Flag_r3) f_wire_Reader_Flag_c4) f_wire_Reader_Flag_c6)
def f_wire_Reader_Flag_c8 : AC := (.seq (.seq (.reg f_wire_Reader_Flag_r1) f_wire_Reader_Flag_c1) f_wire_Reader_Flag_c7)
def f_wire_Reader_Flag : AF := ⟨37, [.tmp 2], (.seq (.reg f_wire_Reader_Flag_r0) f_wire_Reader_Flag_c8)⟩
/- maps_Keys_map_string_disk_file_string_disk_file_1 -/
def f_maps_Keys_map_string_disk_file_string_disk_file_1_r0 : List AOp := [
  ⟨(some 4), .none, .load1 (.t 1)⟩,
  ⟨(some 5), .none, .range (.t 4)⟩]
def f_maps_Keys_map_string_disk_file_string_disk_file_1_r1 : List AOp := [
  ⟨(some 6), .none, .next (.t 5)⟩,
  ⟨(some 7), .none, .ext (.t 6) 0⟩]
def f_maps_Keys_map_string_disk_file_string_disk_file_1_r2 : List AOp := [
  ⟨(some 8), .none, .entry (.t 5)⟩,
  ⟨(some 9), .none, .ext (.t 8) 0⟩,
  ⟨(some 3), .none, .mv (.t 9)⟩]
def f_maps_Keys_map_string_disk_file_string_disk_file_1_r3 : List AOp := [
  ⟨(some 10), .none, .mv (.t 0)⟩,
  ⟨(some 11), .none, .mv (.t 3)⟩,
  ⟨(some 12), .none, .callv (.t 10) [(.t 11)]⟩,
  ⟨(some 13), .none, .un .not (.t 12)⟩]
def f_maps_Keys_map_string_disk_file_string_disk_file_1_c0 : AC := (.cond (.t 13) .ret .skip)
def f_maps_Keys_map_string_disk_file_string_disk_file_1_c1 : AC := (.seq (.reg f_maps_Keys_map_string_disk_file_string_disk_file_1_r3) f_maps_Keys_map_string_disk_file_string_disk_file_1_c0)
def f_maps_Keys_map_string_disk_file_string_disk_file_1_c2 : AC := (.block 1 (.seq (.reg f_maps_Keys_map_string_disk_file_string_disk_file_1_r2) f_maps_Keys_map_string_disk_file_string_disk_file_1_c1))
def f_maps_Keys_map_string_disk_file_string_disk_file_1_c3 : AC := (.seq (.cond (.t 7) .skip (.exit 0)) f_maps_Keys_map_string_disk_file_string_disk_file_1_c2)
def f_maps_Keys_map_string_disk_file_string_disk_file_1_c4 : AC := (.seq (.reg f_maps_Keys_map_string_disk_file_string_disk_file_1_r1) f_maps_Keys_map_string_disk_file_string_disk_file_1_c3)
def f_maps_Keys_map_string_disk_file_string_disk_file_1_c5 : AC := (.block 0 (.keep 4 [0, 5] (.loop (.keep 4 [0, 5] f_maps_Keys_map_string_disk_file_string_disk_file_1_c4))))
def f_maps_Keys_map_string_disk_file_string_disk_file_1 : AF := ⟨14, [], (.seq (.reg f_maps_Keys_map_string_disk_file_string_disk_file_1_r0) f_maps_Keys_map_string_disk_file_string_disk_file_1_c5)⟩
/- slices_pdqsortOrdered_string -/
def f_slices_pdqsortOrdered_string_r0 : List AOp := [
  ⟨(some 8), .none, .mv (.c (.bool true))⟩]
def f_slices_pdqsortOrdered_string_r1 : List AOp := [
  ⟨(some 9), .none, .mv (.c (.bool true))⟩]
def f_slices_pdqsortOrdered_string_r2 : List AOp := [
  ⟨(some 19), .none, .mv (.t 2)⟩,
  ⟨(some 20), .none, .mv (.t 1)⟩,
  ⟨(some 21), .none, .bin .sub .num (.t 19) (.t 20)⟩,
  ⟨(some 10), .none, .mv (.t 21)⟩]
def f_slices_pdqsortOrdered_string_r3 : List AOp := [
  ⟨(some 22), .none, .mv (.t 10)⟩,
  ⟨(some 23), .none, .bin .leq .num (.t 22) (.c (.int .i64 12))⟩]
def f_slices_pdqsortOrdered_string_r4 : List AOp := [
  ⟨(some 24), .none, .mv (.t 0)⟩,
  ⟨(some 25), .none, .mv (.t 1)⟩,
  ⟨(some 26), .none, .mv (.t 2)⟩,
  ⟨(some 27), .none, .call 363 [(.t 24), (.t 25), (.t 26)]⟩]
def f_slices_pdqsortOrdered_string_c0 : AC := .ret
def f_slices_pdqsortOrdered_string_c1 : AC := (.cond (.t 23) (.seq (.reg f_slices_pdqsortOrdered_string_r4) f_slices_pdqsortOrdered_string_c0) .skip)
def f_slices_pdqsortOrdered_string_r5 : List AOp := [
  ⟨(some 28), .none, .mv (.t 3)⟩,
  ⟨(some 29), .none, .bin .eql .num (.t 28) (.c (.int .i64 0))⟩]
def f_slices_pdqsortOrdered_string_r6 : List AOp := [
  ⟨(some 30), .none, .mv (.t 0)⟩,
  ⟨(some 31), .none, .mv (.t 1)⟩,
  ⟨(some 32), .none, .mv (.t 2)⟩,
  ⟨(some 33), .none, .call 364 [(.t 30), (.t 31), (.t 32)]⟩]
def f_slices_pdqsortOrdered_string_c2 : AC := .ret
def f_slices_pdqsortOrdered_string_c3 : AC := (.cond (.t 29) (.seq (.reg f_slices_pdqsortOrdered_string_r6) f_slices_pdqsortOrdered_string_c2) .skip)
def f_slices_pdqsortOrdered_string_r7 : List AOp := [
  ⟨(some 34), .none, .mv (.t 8)⟩,
  ⟨(some 35), .none, .un .not (.t 34)⟩]
def f_slices_pdqsortOrdered_string_r8 : List AOp := [
  ⟨(some 36), .none, .mv (.t 0)⟩,
  ⟨(some 37), .none, .mv (.t 1)⟩,
  ⟨(some 38), .none, .mv (.t 2)⟩,
  ⟨(some 39), .none, .call 365 [(.t 36), (.t 37), (.t 38)]⟩]
def f_slices_pdqsortOrdered_string_r9 : List AOp := [
  ⟨(some 40), .none, .mv (.t 3)⟩,
  ⟨(some 41), .none, .bin .sub .num (.t 40) (.c (.int .i64 1))⟩,
  ⟨(some 3), .none, .mv (.t 41)⟩]
def f_slices_pdqsortOrdered_string_c4 : AC := (.reg f_slices_pdqsortOrdered_string_r9)
def f_slices_pdqsortOrdered_string_c5 : AC := (.cond (.t 35) (.seq (.reg f_slices_pdqsortOrdered_string_r8) f_slices_pdqsortOrdered_string_c4) .skip)
def f_slices_pdqsortOrdered_string_r10 : List AOp := [
  ⟨(some 43), .none, .mv (.t 0)⟩,
  ⟨(some 44), .none, .mv (.t 1)⟩,
  ⟨(some 45), .none, .mv (.t 2)⟩,
  ⟨(some 46), .none, .call 366 [(.t 43), (.t 44), (.t 45)]⟩,
  ⟨(some 42), .none, .mv (.t 46)⟩,
  ⟨(some 47), .none, .ext (.t 42) 0⟩,
  ⟨(some 48), .none, .ext (.t 42) 1⟩,
  ⟨(some 11), .none, .mv (.t 47)⟩,
  ⟨(some 12), .none, .mv (.t 48)⟩]
def f_slices_pdqsortOrdered_string_r11 : List AOp := [
  ⟨(some 49), .none, .mv (.t 12)⟩,
  ⟨(some 50), .none, .bin .eql .num (.t 49) (.c (.int .i64 2))⟩]
def f_slices_pdqsortOrdered_string_r12 : List AOp := [
  ⟨(some 51), .none, .mv (.t 0)⟩,
  ⟨(some 52), .none, .mv (.t 1)⟩,
  ⟨(some 53), .none, .mv (.t 2)⟩,
  ⟨(some 54), .none, .call 367 [(.t 51), (.t 52), (.t 53)]⟩]
def f_slices_pdqsortOrdered_string_r13 : List AOp := [
  ⟨(some 55), .none, .mv (.t 2)⟩,
  ⟨(some 56), .none, .bin .sub .num (.t 55) (.c (.int .i64 1))⟩,
  ⟨(some 57), .none, .mv (.t 11)⟩,
  ⟨(some 58), .none, .mv (.t 1)⟩,
  ⟨(some 59), .none, .bin .sub .num (.t 57) (.t 58)⟩,
  ⟨(some 60), .none, .bin .sub .num (.t 56) (.t 59)⟩,
  ⟨(some 11), .none, .mv (.t 60)⟩]
def f_slices_pdqsortOrdered_string_r14 : List AOp := [
  ⟨(some 12), .none, .mv (.c (.int .i64 1))⟩]
def f_slices_pdqsortOrdered_string_c6 : AC := (.reg f_slices_pdqsortOrdered_string_r14)
def f_slices_pdqsortOrdered_string_c7 : AC := (.seq (.reg f_slices_pdqsortOrdered_string_r13) f_slices_pdqsortOrdered_string_c6)
def f_slices_pdqsortOrdered_string_c8 : AC := (.cond (.t 50) (.seq (.reg f_slices_pdqsortOrdered_string_r12) f_slices_pdqsortOrdered_string_c7) .skip)
def f_slices_pdqsortOrdered_string_r15 : List AOp := [
  ⟨(some 61), .none, .mv (.t 8)⟩,
  ⟨(some 62), .none, .mv (.t 61)⟩,
  ⟨(some 63), (some (62, true)), .mv (.t 9)⟩,
  ⟨(some 64), .none, .pick (.t 62) (.t 63) (.c (.bool false))⟩,
  ⟨(some 65), .none, .mv (.t 64)⟩,
  ⟨(some 66), (some (65, true)), .mv (.t 12)⟩,
  ⟨(some 67), (some (65, true)), .bin .eql .num (.t 66) (.c (.int .i64 1))⟩,
  ⟨(some 68), .none, .pick (.t 65) (.t 67) (.c (.bool false))⟩]
def f_slices_pdqsortOrdered_string_r16 : List AOp := [
  ⟨(some 69), .none, .mv (.t 0)⟩,
  ⟨(some 70), .none, .mv (.t 1)⟩,
  ⟨(some 71), .none, .mv (.t 2)⟩,
  ⟨(some 72), .none, .call 368 [(.t 69), (.t 70), (.t 71)]⟩]
def f_slices_pdqsortOrdered_string_c9 : AC := (.cond (.t 72) .ret .skip)
def f_slices_pdqsortOrdered_string_c10 : AC := (.cond (.t 68) (.seq (.reg f_slices_pdqsortOrdered_string_r16) f_slices_pdqsortOrdered_string_c9) .skip)
def f_slices_pdqsortOrdered_string_r17 : DR := ⟨[
  ⟨(some 73), .none, .mv (.t 1)⟩,
  ⟨(some 74), .none, .bin .gtr .num (.t 73) (.c (.int .i64 0))⟩,
  ⟨(some 75), .none, .mv (.t 74)⟩,
  ⟨(some 76), (some (75, true)), .mv (.t 0)⟩,
  ⟨(some 77), (some (75, true)), .mv (.t 1)⟩,
  ⟨(some 78), (some (75, true)), .bin .sub .num (.t 77) (.c (.int .i64 1))⟩,
  ⟨(some 79), (some (75, true)), .iaddr 1 (.t 76) (.t 78)⟩,
  ⟨(some 80), (some (75, true)), .load1 (.t 79)⟩,
  ⟨(some 81), (some (75, true)), .mv (.t 0)⟩,
  ⟨(some 82), (some (75, true)), .mv (.t 11)⟩,
  ⟨(some 83), (some (75, true)), .iaddr 1 (.t 81) (.t 82)⟩,
  ⟨(some 84), (some (75, true)), .load1 (.t 83)⟩,
  ⟨(some 85), (some (75, true)), .call 369 [(.t 80), (.t 84)]⟩,
  ⟨(some 86), (some (75, true)), .un .not (.t 85)⟩,
  ⟨(some 87), .none, .pick (.t 75) (.t 86) (.c (.bool false))⟩],
  [0, 1, 3, 7, 7, 23, 63, 127, 7, 7, 775, 1799, 4095, 8191, 16383], [0, 1, 2, 3, 4, 5, 6, 7, 8, 9, 10, 11, 12, 13, 14], [], .none⟩
def f_slices_pdqsortOrdered_string_r18 : List AOp := [
  ⟨(some 88), .none, .mv (.t 0)⟩,
  ⟨(some 89), .none, .mv (.t 1)⟩,
  ⟨(some 90), .none, .mv (.t 2)⟩,
  ⟨(some 91), .none, .mv (.t 11)⟩,
  ⟨(some 92), .none, .call 370 [(.t 88), (.t 89), (.t 90), (.t 91)]⟩,
  ⟨(some 13), .none, .mv (.t 92)⟩]
def f_slices_pdqsortOrdered_string_r19 : List AOp := [
  ⟨(some 93), .none, .mv (.t 13)⟩,
  ⟨(some 1), .none, .mv (.t 93)⟩]
def f_slices_pdqsortOrdered_string_c11 : AC := (.exit 1)
def f_slices_pdqsortOrdered_string_c12 : AC := (.seq (.reg f_slices_pdqsortOrdered_string_r19) f_slices_pdqsortOrdered_string_c11)
def f_slices_pdqsortOrdered_string_c13 : AC := (.cond (.t 87) (.seq (.reg f_slices_pdqsortOrdered_string_r18) f_slices_pdqsortOrdered_string_c12) .skip)
def f_slices_pdqsortOrdered_string_r20 : List AOp := [
  ⟨(some 95), .none, .mv (.t 0)⟩,
  ⟨(some 96), .none, .mv (.t 1)⟩,
  ⟨(some 97), .none, .mv (.t 2)⟩,
  ⟨(some 98), .none, .mv (.t 11)⟩,
  ⟨(some 99), .none, .call 371 [(.t 95), (.t 96), (.t 97), (.t 98)]⟩,
  ⟨(some 94), .none, .mv (.t 99)⟩,
  ⟨(some 100), .none, .ext (.t 94) 0⟩,
  ⟨(some 101), .none, .ext (.t 94) 1⟩,
  ⟨(some 14), .none, .mv (.t 100)⟩,
  ⟨(some 15), .none, .mv (.t 101)⟩]
def f_slices_pdqsortOrdered_string_r21 : List AOp := [
  ⟨(some 102), .none, .mv (.t 15)⟩,
  ⟨(some 9), .none, .mv (.t 102)⟩]
def f_slices_pdqsortOrdered_string_r22 : List AOp := [
  ⟨(some 103), .none, .mv (.t 14)⟩,
  ⟨(some 104), .none, .mv (.t 1)⟩,
  ⟨(some 105), .none, .bin .sub .num (.t 103) (.t 104)⟩,
  ⟨(some 106), .none, .mv (.t 2)⟩,
  ⟨(some 107), .none, .mv (.t 14)⟩,
  ⟨(some 108), .none, .bin .sub .num (.t 106) (.t 107)⟩,
  ⟨(some 16), .none, .mv (.t 105)⟩,
  ⟨(some 17), .none, .mv (.t 108)⟩]
def f_slices_pdqsortOrdered_string_r23 : List AOp := [
  ⟨(some 109), .none, .mv (.t 10)⟩,
  ⟨(some 110), .none, .bin .quo .num (.t 109) (.c (.int .i64 8))⟩,
  ⟨(some 18), .none, .mv (.t 110)⟩]
def f_slices_pdqsortOrdered_string_r24 : List AOp := [
  ⟨(some 111), .none, .mv (.t 16)⟩,
  ⟨(some 112), .none, .mv (.t 17)⟩,
  ⟨(some 113), .none, .bin .lss .num (.t 111) (.t 112)⟩]
def f_slices_pdqsortOrdered_string_r25 : List AOp := [
  ⟨(some 114), .none, .mv (.t 16)⟩,
  ⟨(some 115), .none, .mv (.t 18)⟩,
  ⟨(some 116), .none, .bin .geq .num (.t 114) (.t 115)⟩,
  ⟨(some 8), .none, .mv (.t 116)⟩]
def f_slices_pdqsortOrdered_string_r26 : List AOp := [
  ⟨(some 117), .none, .mv (.t 0)⟩,
  ⟨(some 118), .none, .mv (.t 1)⟩,
  ⟨(some 119), .none, .mv (.t 14)⟩,
  ⟨(some 120), .none, .mv (.t 3)⟩,
  ⟨(some 121), .none, .call 348 [(.t 117), (.t 118), (.t 119), (.t 120)]⟩]
def f_slices_pdqsortOrdered_string_r27 : List AOp := [
  ⟨(some 122), .none, .mv (.t 14)⟩,
  ⟨(some 123), .none, .bin .add .num (.t 122) (.c (.int .i64 1))⟩,
  ⟨(some 1), .none, .mv (.t 123)⟩]
def f_slices_pdqsortOrdered_string_c14 : AC := (.reg f_slices_pdqsortOrdered_string_r27)
def f_slices_pdqsortOrdered_string_c15 : AC := (.seq (.reg f_slices_pdqsortOrdered_string_r26) f_slices_pdqsortOrdered_string_c14)
def f_slices_pdqsortOrdered_string_r28 : List AOp := [
  ⟨(some 124), .none, .mv (.t 17)⟩,
  ⟨(some 125), .none, .mv (.t 18)⟩,
  ⟨(some 126), .none, .bin .geq .num (.t 124) (.t 125)⟩,
  ⟨(some 8), .none, .mv (.t 126)⟩]
def f_slices_pdqsortOrdered_string_r29 : List AOp := [
  ⟨(some 127), .none, .mv (.t 0)⟩,
  ⟨(some 128), .none, .mv (.t 14)⟩,
  ⟨(some 129), .none, .bin .add .num (.t 128) (.c (.int .i64 1))⟩,
  ⟨(some 130), .none, .mv (.t 2)⟩,
  ⟨(some 131), .none, .mv (.t 3)⟩,
  ⟨(some 132), .none, .call 348 [(.t 127), (.t 129), (.t 130), (.t 131)]⟩]
def f_slices_pdqsortOrdered_string_r30 : List AOp := [
  ⟨(some 133), .none, .mv (.t 14)⟩,
  ⟨(some 2), .none, .mv (.t 133)⟩]
def f_slices_pdqsortOrdered_string_c16 : AC := (.reg f_slices_pdqsortOrdered_string_r30)
def f_slices_pdqsortOrdered_string_c17 : AC := (.seq (.reg f_slices_pdqsortOrdered_string_r29) f_slices_pdqsortOrdered_string_c16)
def f_slices_pdqsortOrdered_string_c18 : AC := (.cond (.t 113) (.seq (.reg f_slices_pdqsortOrdered_string_r25) f_slices_pdqsortOrdered_string_c15) (.seq (.reg f_slices_pdqsortOrdered_string_r28) f_slices_pdqsortOrdered_string_c17))
def f_slices_pdqsortOrdered_string_c19 : AC := (.seq (.reg f_slices_pdqsortOrdered_string_r24) f_slices_pdqsortOrdered_string_c18)
def f_slices_pdqsortOrdered_string_c20 : AC := (.seq (.reg f_slices_pdqsortOrdered_string_r23) f_slices_pdqsortOrdered_string_c19)
def f_slices_pdqsortOrdered_string_c21 : AC := (.seq (.reg f_slices_pdqsortOrdered_string_r22) f_slices_pdqsortOrdered_string_c20)
def f_slices_pdqsortOrdered_string_c22 : AC := (.seq (.reg f_slices_pdqsortOrdered_string_r21) f_slices_pdqsortOrdered_string_c21)
def f_slices_pdqsortOrdered_string_c23 : AC := (.seq (.reg f_slices_pdqsortOrdered_string_r20) f_slices_pdqsortOrdered_string_c22)
def f_slices_pdqsortOrdered_string_c24 : AC := (.keep 8 [0, 1, 2, 3, 8, 9, 10, 11] (.seq (.seq (.dreg f_slices_pdqsortOrdered_string_r17) f_slices_pdqsortOrdered_string_c13) f_slices_pdqsortOrdered_string_c23))
def f_slices_pdqsortOrdered_string_c25 : AC := (.keep 8 [0, 1, 2, 3, 8, 9, 10, 11, 12] (.seq (.seq (.reg f_slices_pdqsortOrdered_string_r15) f_slices_pdqsortOrdered_string_c10) f_slices_pdqsortOrdered_string_c24))
def f_slices_pdqsortOrdered_string_c26 : AC := (.seq (.seq (.reg f_slices_pdqsortOrdered_string_r11) f_slices_pdqsortOrdered_string_c8) f_slices_pdqsortOrdered_string_c25)
def f_slices_pdqsortOrdered_string_c27 : AC := (.keep 8 [0, 1, 2, 3, 8, 9, 10] (.seq (.reg f_slices_pdqsortOrdered_string_r10) f_slices_pdqsortOrdered_string_c26))
def f_slices_pdqsortOrdered_string_c28 : AC := (.seq (.seq (.reg f_slices_pdqsortOrdered_string_r7) f_slices_pdqsortOrdered_string_c5) f_slices_pdqsortOrdered_string_c27)
def f_slices_pdqsortOrdered_string_c29 : AC := (.seq (.seq (.reg f_slices_pdqsortOrdered_string_r5) f_slices_pdqsortOrdered_string_c3) f_slices_pdqsortOrdered_string_c28)
def f_slices_pdqsortOrdered_string_c30 : AC := (.seq (.seq (.reg f_slices_pdqsortOrdered_string_r3) f_slices_pdqsortOrdered_string_c1) f_slices_pdqsortOrdered_string_c29)
def f_slices_pdqsortOrdered_string_c31 : AC := (.block 1 (.seq (.reg f_slices_pdqsortOrdered_string_r2) f_slices_pdqsortOrdered_string_c30))
def f_slices_pdqsortOrdered_string_c32 : AC := (.block 0 (.keep 8 [0, 1, 2, 3, 8, 9] (.loop (.keep 8 [0, 1, 2, 3, 8, 9] f_slices_pdqsortOrdered_string_c31))))
def f_slices_pdqsortOrdered_string_c33 : AC := (.seq (.reg f_slices_pdqsortOrdered_string_r1) f_slices_pdqsortOrdered_string_c32)
def f_slices_pdqsortOrdered_string : AF := ⟨134, [], (.seq (.reg f_slices_pdqsortOrdered_string_r0) f_slices_pdqsortOrdered_string_c33)⟩
/- index_may -/
def f_index_may_r0 : List AOp := [
  ⟨(some 6), .none, .mv (.c (.bool false))⟩]
def f_index_may_r1 : List AOp := [
  ⟨(some 7), .none, .mv (.t 0)⟩,
  ⟨(some 8), .none, .bin .geq .num (.t 7) (.c (.int .i64 0))⟩,
  ⟨(some 9), .none, .mv (.t 8)⟩,
  ⟨(some 10), (some (9, true)), .mv (.t 0)⟩,
  ⟨(some 11), (some (9, true)), .bin .leq .num (.t 10) (.c (.int .i64 1099511627776))⟩,
  ⟨(some 12), .none, .pick (.t 9) (.t 11) (.c (.bool false))⟩,
  ⟨(some 13), .none, .mv (.t 12)⟩,
  ⟨(some 14), (some (13, true)), .mv (.t 1)⟩,
  ⟨(some 15), (some (13, true)), .bin .geq .num (.t 14) (.c (.int .i64 0))⟩,
  ⟨(some 16), .none, .pick (.t 13) (.t 15) (.c (.bool false))⟩,
  ⟨(some 17), .none, .mv (.t 16)⟩,
  ⟨(some 18), (some (17, true)), .mv (.t 1)⟩,
  ⟨(some 19), (some (17, true)), .bin .leq .num (.t 18) (.c (.int .i64 4194304))⟩,
  ⟨(some 20), .none, .pick (.t 17) (.t 19) (.c (.bool false))⟩,
  ⟨(some 21), .none, .mv (.t 20)⟩,
  ⟨(some 22), (some (21, true)), .mv (.t 2)⟩,
  ⟨(some 23), (some (21, true)), .bin .geq .num (.t 22) (.c (.int .i64 0))⟩,
  ⟨(some 24), .none, .pick (.t 21) (.t 23) (.c (.bool false))⟩,
  ⟨(some 25), .none, .mv (.t 24)⟩,
  ⟨(some 26), (some (25, true)), .mv (.t 2)⟩,
  ⟨(some 27), (some (25, true)), .bin .leq .num (.t 26) (.c (.int .i64 1099511627776))⟩,
  ⟨(some 28), .none, .pick (.t 25) (.t 27) (.c (.bool false))⟩,
  ⟨(some 6), .none, .mv (.t 28)⟩]
def f_index_may_c0 : AC := .ret
def f_index_may_c1 : AC := (.seq (.reg f_index_may_r1) f_index_may_c0)
def f_index_may : AF := ⟨29, [.tmp 6], (.seq (.reg f_index_may_r0) f_index_may_c1)⟩
/- slices_insertionSortOrdered_string -/
def f_slices_insertionSortOrdered_string_r0 : List AOp := [
  ⟨(some 8), .none, .mv (.t 1)⟩,
  ⟨(some 9), .none, .bin .add .num (.t 8) (.c (.int .i64 1))⟩,
  ⟨(some 6), .none, .mv (.t 9)⟩]
def f_slices_insertionSortOrdered_string_r1 : List AOp := [
  ⟨(some 10), .none, .mv (.t 6)⟩,
  ⟨(some 11), .none, .mv (.t 2)⟩,
  ⟨(some 12), .none, .bin .lss .num (.t 10) (.t 11)⟩]
def f_slices_insertionSortOrdered_string_c0 : AC := (.cond (.t 12) .skip (.exit 0))
def f_slices_insertionSortOrdered_string_r3 : List AOp := [
  ⟨(some 15), .none, .mv (.t 6)⟩,
  ⟨(some 7), .none, .mv (.t 15)⟩]
def f_slices_insertionSortOrdered_string_r4 : DR := ⟨[
  ⟨(some 16), .none, .mv (.t 7)⟩,
  ⟨(some 17), .none, .mv (.t 1)⟩,
  ⟨(some 18), .none, .bin .gtr .num (.t 16) (.t 17)⟩,
  ⟨(some 19), .none, .mv (.t 18)⟩,
  ⟨(some 20), (some (19, true)), .mv (.t 0)⟩,
  ⟨(some 21), (some (19, true)), .mv (.t 7)⟩,
  ⟨(some 22), (some (19, true)), .iaddr 1 (.t 20) (.t 21)⟩,
  ⟨(some 23), (some (19, true)), .load1 (.t 22)⟩,
  ⟨(some 24), (some (19, true)), .mv (.t 0)⟩,
  ⟨(some 25), (some (19, true)), .mv (.t 7)⟩,
  ⟨(some 26), (some (19, true)), .bin .sub .num (.t 25) (.c (.int .i64 1))⟩,
  ⟨(some 27), (some (19, true)), .iaddr 1 (.t 24) (.t 26)⟩,
  ⟨(some 28), (some (19, true)), .load1 (.t 27)⟩,
  ⟨(some 29), (some (19, true)), .call 369 [(.t 23), (.t 28)]⟩,
  ⟨(some 30), .none, .pick (.t 19) (.t 29) (.c (.bool false))⟩],
  [0, 0, 3, 7, 15, 15, 63, 127, 15, 15, 527, 1807, 3855, 8191, 16383], [0, 1, 2, 3, 4, 5, 6, 7, 8, 9, 10, 11, 12, 13, 14], [], .none⟩
def f_slices_insertionSortOrdered_string_c1 : AC := (.cond (.t 30) .skip (.exit 2))
def f_slices_insertionSortOrdered_string_r6 : DR := ⟨[
  ⟨(some 33), .none, .mv (.t 0)⟩,
  ⟨(some 34), .none, .mv (.t 7)⟩,
  ⟨(some 35), .none, .mv (.t 0)⟩,
  ⟨(some 36), .none, .mv (.t 7)⟩,
  ⟨(some 37), .none, .bin .sub .num (.t 36) (.c (.int .i64 1))⟩,
  ⟨(some 38), .none, .mv (.t 0)⟩,
  ⟨(some 39), .none, .mv (.t 7)⟩,
  ⟨(some 40), .none, .bin .sub .num (.t 39) (.c (.int .i64 1))⟩,
  ⟨(some 41), .none, .iaddr 1 (.t 38) (.t 40)⟩,
  ⟨(some 42), .none, .load1 (.t 41)⟩,
  ⟨(some 43), .none, .mv (.t 0)⟩,
  ⟨(some 44), .none, .mv (.t 7)⟩,
  ⟨(some 45), .none, .iaddr 1 (.t 43) (.t 44)⟩,
  ⟨(some 46), .none, .load1 (.t 45)⟩,
  ⟨(some 47), .none, .iaddr 1 (.t 33) (.t 34)⟩,
  ⟨.none, .none, .store 1 (.t 47) (.t 42)⟩,
  ⟨(some 48), .none, .iaddr 1 (.t 35) (.t 37)⟩,
  ⟨.none, .none, .store 1 (.t 48) (.t 46)⟩],
  [0, 0, 0, 0, 8, 0, 0, 64, 224, 480, 0, 0, 3072, 7168, 16355, 32739, 65535, 131071], [0, 1, 2, 3, 4, 5, 6, 7, 8, 9, 10, 11, 12, 13, 14, 15, 16, 17], [], .none⟩
def f_slices_insertionSortOrdered_string_r5 : List AOp := [
  ⟨(some 31), .none, .mv (.t 7)⟩,
  ⟨(some 32), .none, .bin .sub .num (.t 31) (.c (.int .i64 1))⟩,
  ⟨(some 7), .none, .mv (.t 32)⟩]
def f_slices_insertionSortOrdered_string_c2 : AC := (.reg f_slices_insertionSortOrdered_string_r5)
def f_slices_insertionSortOrdered_string_c3 : AC := (.seq (.block 3 (.dreg f_slices_insertionSortOrdered_string_r6)) f_slices_insertionSortOrdered_string_c2)
def f_slices_insertionSortOrdered_string_c4 : AC := (.seq (.seq (.dreg f_slices_insertionSortOrdered_string_r4) f_slices_insertionSortOrdered_string_c1) f_slices_insertionSortOrdered_string_c3)
def f_slices_insertionSortOrdered_string_c5 : AC := (.block 2 (.keep 6 [0, 1, 2, 6, 7] (.loop (.keep 6 [0, 1, 2, 6, 7] f_slices_insertionSortOrdered_string_c4))))
def f_slices_insertionSortOrdered_string_r2 : List AOp := [
  ⟨(some 13), .none, .mv (.t 6)⟩,
  ⟨(some 14), .none, .bin .add .num (.t 13) (.c (.int .i64 1))⟩,
  ⟨(some 6), .none, .mv (.t 14)⟩]
def f_slices_insertionSortOrdered_string_c6 : AC := (.reg f_slices_insertionSortOrdered_string_r2)
def f_slices_insertionSortOrdered_string_c7 : AC := (.seq (.block 1 (.seq (.reg f_slices_insertionSortOrdered_string_r3) f_slices_insertionSortOrdered_string_c5)) f_slices_insertionSortOrdered_string_c6)
def f_slices_insertionSortOrdered_string_c8 : AC := (.seq (.seq (.reg f_slices_insertionSortOrdered_string_r1) f_slices_insertionSortOrdered_string_c0) f_slices_insertionSortOrdered_string_c7)
def f_slices_insertionSortOrdered_string_c9 : AC := (.block 0 (.keep 6 [0, 1, 2, 6] (.loop (.keep 6 [0, 1, 2, 6] f_slices_insertionSortOrdered_string_c8))))
def f_slices_insertionSortOrdered_string : AF := ⟨49, [], (.seq (.reg f_slices_insertionSortOrdered_string_r0) f_slices_insertionSortOrdered_string_c9)⟩
end Go.AM.P
