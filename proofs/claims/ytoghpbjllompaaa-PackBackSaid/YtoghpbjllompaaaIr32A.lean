/-
  Steps of the proof: contracts of functions and plain facts that the statement rests on.
-/
import Derived.Test.YtoghpbjllompaaaCore4
import Derived.Test.YtoghpbjllompaaaCore5
import Derived.Test.YtoghpbjllompaaaRows
set_option linter.all false
namespace Go.Proofs.Ytoghpbjllompaaa
open Go.Ab
def l3_0 : IC := .keep [2, 3, 5]
 (.seq
 (.seq
 (.reg [
 ⟨(some 37), none, .p (.mov (.t 5))⟩,
 ⟨(some 38), none, .p (.fa 1 (.t 3))⟩,
 ⟨(some 39), none, .p (.ld1 (.t 38))⟩,
 ⟨(some 40), none, .p (.len (.t 39))⟩,
 ⟨(some 41), none, .p (.bin .lss (.i .i64) (.t 37) (.t 40))⟩])
 (.cond (.t 41)
 .skip
 (.exit 0)))
 (.seq
 (.blk 1
 (.seq
 (.reg [
 ⟨(some 44), none, .p (.fa 1 (.t 3))⟩,
 ⟨(some 45), none, .p (.ld1 (.t 44))⟩,
 ⟨(some 46), none, .p (.mov (.t 5))⟩,
 ⟨(some 47), none, .p (.ia 1 (.t 45) (.t 46))⟩,
 ⟨(some 48), none, .p (.ld1 (.t 47))⟩,
 ⟨(some 49), none, .p (.len (.t 48))⟩,
 ⟨(some 50), none, .p (.bin .gtr (.i .i64) (.t 49) (.c (i64 20)))⟩])
 (.cond (.t 50)
 (.seq
 (.reg [
 ⟨(some 51), none, .e (.call (.c (.fn (.func 10) [] [])) [])⟩,
 ⟨(some 4), none, .p (.mov (.t 51))⟩])
 .ret)
 .skip)))
 (.reg [
 ⟨(some 42), none, .p (.mov (.t 5))⟩,
 ⟨(some 43), none, .p (.bin .add (.i .i64) (.t 42) (.c (i64 1)))⟩,
 ⟨(some 5), none, .p (.mov (.t 43))⟩])))
/-- parlour/parlourlaw32.PackWrites -/
def i3 : IC :=
 (.seq
 (.reg [
 ⟨(some 2), none, .e (.box 25 (.t 0))⟩,
 ⟨(some 3), none, .e (.box 28 (.t 1))⟩,
 ⟨(some 4), none, .p (.mov (.c (bl false)))⟩])
 (.seq
 (.seq
 (.reg [
 ⟨(some 14), none, .p (.fa 1 (.t 2))⟩,
 ⟨(some 15), none, .p (.ld1 (.t 14))⟩,
 ⟨(some 16), none, .p (.len (.t 15))⟩,
 ⟨(some 17), none, .p (.bin .gtr (.i .i64) (.t 16) (.c (i64 60)))⟩,
 ⟨(some 18), none, .p (.mov (.t 17))⟩,
 ⟨(some 19), (some (18, true)), .p (.fa 1 (.t 2))⟩,
 ⟨(some 20), (some (18, true)), .p (.ld1 (.t 19))⟩,
 ⟨(some 21), (some (18, true)), .p (.len (.t 20))⟩,
 ⟨(some 22), (some (18, true)), .p (.bin .leq (.i .i64) (.t 21) (.c (i64 2000)))⟩,
 ⟨(some 23), none, .p (.pick (.t 18) (.t 22) (.c (bl false)))⟩,
 ⟨(some 24), none, .p (.mov (.t 23))⟩,
 ⟨(some 25), (some (24, false)), .p (.fa 1 (.t 2))⟩,
 ⟨(some 26), (some (24, false)), .p (.ld1 (.t 25))⟩,
 ⟨(some 27), (some (24, false)), .p (.len (.t 26))⟩,
 ⟨(some 28), (some (24, false)), .p (.bin .gtr (.i .i64) (.t 27) (.c (i64 2010)))⟩,
 ⟨(some 29), none, .p (.pick (.t 24) (.c (bl true)) (.t 28))⟩,
 ⟨(some 30), none, .p (.mov (.t 29))⟩,
 ⟨(some 31), (some (30, false)), .p (.fa 1 (.t 3))⟩,
 ⟨(some 32), (some (30, false)), .p (.ld1 (.t 31))⟩,
 ⟨(some 33), (some (30, false)), .p (.len (.t 32))⟩,
 ⟨(some 34), (some (30, false)), .p (.bin .gtr (.i .i64) (.t 33) (.c (i64 205)))⟩,
 ⟨(some 35), none, .p (.pick (.t 30) (.c (bl true)) (.t 34))⟩])
 (.cond (.t 35)
 (.seq
 (.reg [
 ⟨(some 36), none, .e (.call (.c (.fn (.func 10) [] [])) [])⟩,
 ⟨(some 4), none, .p (.mov (.t 36))⟩])
 .ret)
 .skip))
 (.seq
 (.seq
 (.reg [
 ⟨(some 5), none, .p (.mov (.c (i64 0)))⟩])
 (.blk 0
 (.loop l3_0)))
 (.seq
 (.reg [
 ⟨(some 53), none, .p (.ldn 3 (.t 2))⟩,
 ⟨(some 54), none, .e (.call (.c (.fn (.func 11) [] [])) [(.t 53)])⟩,
 ⟨(some 52), none, .p (.mov (.t 54))⟩,
 ⟨(some 55), none, .p (.ext (.t 52) 0)⟩,
 ⟨(some 56), none, .p (.ext (.t 52) 1)⟩,
 ⟨(some 6), none, .p (.mov (.t 55))⟩,
 ⟨(some 7), none, .p (.mov (.t 56))⟩])
 (.seq
 (.reg [
 ⟨(some 58), none, .p (.ldn 3 (.t 2))⟩,
 ⟨(some 59), none, .e (.call (.c (.fn (.func 12) [] [])) [(.t 58)])⟩,
 ⟨(some 57), none, .p (.mov (.t 59))⟩,
 ⟨(some 60), none, .p (.ext (.t 57) 0)⟩,
 ⟨(some 61), none, .p (.ext (.t 57) 1)⟩,
 ⟨(some 8), none, .p (.mov (.t 60))⟩,
 ⟨(some 9), none, .p (.mov (.t 61))⟩])
 (.seq
 (.reg [
 ⟨(some 63), none, .p (.ldn 2 (.t 3))⟩,
 ⟨(some 64), none, .e (.call (.c (.fn (.func 13) [] [])) [(.t 63)])⟩,
 ⟨(some 62), none, .p (.mov (.t 64))⟩,
 ⟨(some 65), none, .p (.ext (.t 62) 0)⟩,
 ⟨(some 66), none, .p (.ext (.t 62) 1)⟩,
 ⟨(some 10), none, .p (.mov (.t 65))⟩,
 ⟨(some 11), none, .p (.mov (.t 66))⟩])
 (.seq
 (.reg [
 ⟨(some 68), none, .p (.ldn 2 (.t 3))⟩,
 ⟨(some 69), none, .e (.call (.c (.fn (.func 14) [] [])) [(.t 68)])⟩,
 ⟨(some 67), none, .p (.mov (.t 69))⟩,
 ⟨(some 70), none, .p (.ext (.t 67) 0)⟩,
 ⟨(some 71), none, .p (.ext (.t 67) 1)⟩,
 ⟨(some 12), none, .p (.mov (.t 70))⟩,
 ⟨(some 13), none, .p (.mov (.t 71))⟩])
 (.seq
 (.reg [
 ⟨(some 72), none, .p (.mov (.t 6))⟩,
 ⟨(some 73), none, .p (.mov (.t 8))⟩,
 ⟨(some 74), none, .e (.call (.c (.fn (.func 15) [] [])) [(.t 72), (.t 73)])⟩,
 ⟨(some 75), none, .p (.mov (.t 74))⟩,
 ⟨(some 76), (some (75, true)), .p (.mov (.t 7))⟩,
 ⟨(some 77), (some (75, true)), .p (.mov (.t 9))⟩,
 ⟨(some 78), (some (75, true)), .p (.bin .eql (.i .i64) (.t 76) (.t 77))⟩,
 ⟨(some 79), none, .p (.pick (.t 75) (.t 78) (.c (bl false)))⟩,
 ⟨(some 80), none, .p (.mov (.t 79))⟩,
 ⟨(some 81), (some (80, true)), .p (.mov (.t 10))⟩,
 ⟨(some 82), (some (80, true)), .p (.mov (.t 12))⟩,
 ⟨(some 83), (some (80, true)), .q (.c (.fn (.func 15) [] [])) [(.t 81), (.t 82)]⟩,
 ⟨(some 84), none, .p (.pick (.t 80) (.t 83) (.c (bl false)))⟩,
 ⟨(some 85), none, .p (.mov (.t 84))⟩,
 ⟨(some 86), (some (85, true)), .p (.mov (.t 11))⟩,
 ⟨(some 87), (some (85, true)), .p (.mov (.t 13))⟩,
 ⟨(some 88), (some (85, true)), .p (.bin .eql (.i .i64) (.t 86) (.t 87))⟩,
 ⟨(some 89), none, .p (.pick (.t 85) (.t 88) (.c (bl false)))⟩,
 ⟨(some 90), none, .p (.mov (.t 89))⟩,
 ⟨(some 91), (some (90, true)), .q (.c (.fn (.func 10) [] [])) []⟩,
 ⟨(some 92), none, .p (.pick (.t 90) (.t 91) (.c (bl false)))⟩,
 ⟨(some 4), none, .p (.mov (.t 92))⟩])
 .ret))))))))
def r3 : List RS := [.t 4]
theorem c3 : chkF Try.prog drawB Try.f3 i3 r3 = true := by kernel_rfl
/-- parlour/parlourlaw32.PackNumbers -/
def i4 : IC :=
 (.seq
 (.reg [
 ⟨(some 6), none, .p (.mov (.c (bl false)))⟩])
 (.seq
 (.seq
 (.reg [
 ⟨(some 18), none, .p (.mov (.t 1))⟩,
 ⟨(some 19), none, .p (.len (.t 18))⟩,
 ⟨(some 20), none, .p (.bin .gtr (.i .i64) (.t 19) (.c (i64 400)))⟩])
 (.cond (.t 20)
 (.seq
 (.reg [
 ⟨(some 21), none, .e (.call (.c (.fn (.func 10) [] [])) [])⟩,
 ⟨(some 6), none, .p (.mov (.t 21))⟩])
 .ret)
 .skip))
 (.seq
 (.reg [
 ⟨(some 22), none, .e (.bsl 5 1 0 [.val (.int .u8 0)] [])⟩,
 ⟨(some 23), none, .p (.mov (.t 1))⟩,
 ⟨(some 24), none, .e (.app 5 1 1 (.t 22) (.t 23))⟩,
 ⟨(some 7), none, .p (.mov (.t 24))⟩])
 (.seq
 (.reg [
 ⟨(some 26), none, .p (.mov (.t 0))⟩,
 ⟨(some 27), none, .e (.call (.c (.fn (.func 16) [] [])) [(.t 26)])⟩,
 ⟨(some 25), none, .p (.mov (.t 27))⟩,
 ⟨(some 28), none, .p (.ext (.t 25) 0)⟩,
 ⟨(some 29), none, .p (.ext (.t 25) 1)⟩,
 ⟨(some 8), none, .p (.mov (.t 28))⟩,
 ⟨(some 9), none, .p (.mov (.t 29))⟩])
 (.seq
 (.reg [
 ⟨(some 31), none, .p (.mov (.t 0))⟩,
 ⟨(some 32), none, .e (.call (.c (.fn (.func 17) [] [])) [(.t 31)])⟩,
 ⟨(some 30), none, .p (.mov (.t 32))⟩,
 ⟨(some 33), none, .p (.ext (.t 30) 0)⟩,
 ⟨(some 34), none, .p (.ext (.t 30) 1)⟩,
 ⟨(some 10), none, .p (.mov (.t 33))⟩,
 ⟨(some 11), none, .p (.mov (.t 34))⟩])
 (.seq
 (.reg [
 ⟨(some 36), none, .p (.mov (.t 7))⟩,
 ⟨(some 37), none, .p (.mov (.t 2))⟩,
 ⟨(some 38), none, .e (.call (.c (.fn (.func 18) [] [])) [(.t 36), (.t 37)])⟩,
 ⟨(some 35), none, .p (.mov (.t 38))⟩,
 ⟨(some 39), none, .p (.ext (.t 35) 0)⟩,
 ⟨(some 40), none, .p (.ext (.t 35) 1)⟩,
 ⟨(some 41), none, .p (.ext (.t 35) 2)⟩,
 ⟨(some 12), none, .p (.mov (.t 39))⟩,
 ⟨(some 13), none, .p (.mov (.t 40))⟩,
 ⟨(some 14), none, .p (.mov (.t 41))⟩])
 (.seq
 (.reg [
 ⟨(some 43), none, .p (.mov (.t 1))⟩,
 ⟨(some 44), none, .p (.mov (.t 2))⟩,
 ⟨(some 45), none, .e (.call (.c (.fn (.func 19) [] [])) [(.t 43), (.t 44)])⟩,
 ⟨(some 42), none, .p (.mov (.t 45))⟩,
 ⟨(some 46), none, .p (.ext (.t 42) 0)⟩,
 ⟨(some 47), none, .p (.ext (.t 42) 1)⟩,
 ⟨(some 48), none, .p (.ext (.t 42) 2)⟩,
 ⟨(some 15), none, .p (.mov (.t 46))⟩,
 ⟨(some 16), none, .p (.mov (.t 47))⟩,
 ⟨(some 17), none, .p (.mov (.t 48))⟩])
 (.seq
 (.reg [
 ⟨(some 49), none, .p (.mov (.t 8))⟩,
 ⟨(some 50), none, .p (.mov (.t 10))⟩,
 ⟨(some 51), none, .e (.call (.c (.fn (.func 15) [] [])) [(.t 49), (.t 50)])⟩,
 ⟨(some 52), none, .p (.mov (.t 51))⟩,
 ⟨(some 53), (some (52, true)), .p (.mov (.t 9))⟩,
 ⟨(some 54), (some (52, true)), .p (.mov (.t 11))⟩,
 ⟨(some 55), (some (52, true)), .p (.bin .eql (.i .i64) (.t 53) (.t 54))⟩,
 ⟨(some 56), none, .p (.pick (.t 52) (.t 55) (.c (bl false)))⟩,
 ⟨(some 57), none, .p (.mov (.t 56))⟩,
 ⟨(some 58), (some (57, true)), .p (.mov (.t 12))⟩,
 ⟨(some 59), (some (57, true)), .p (.mov (.t 15))⟩,
 ⟨(some 60), (some (57, true)), .p (.bin .eql (.i .i64) (.t 58) (.t 59))⟩,
 ⟨(some 61), none, .p (.pick (.t 57) (.t 60) (.c (bl false)))⟩,
 ⟨(some 62), none, .p (.mov (.t 61))⟩,
 ⟨(some 63), (some (62, true)), .p (.mov (.t 13))⟩,
 ⟨(some 64), (some (62, true)), .p (.mov (.t 16))⟩,
 ⟨(some 65), (some (62, true)), .p (.bin .eql (.i .i64) (.t 63) (.t 64))⟩,
 ⟨(some 66), none, .p (.pick (.t 62) (.t 65) (.c (bl false)))⟩,
 ⟨(some 67), none, .p (.mov (.t 66))⟩,
 ⟨(some 68), (some (67, true)), .p (.mov (.t 14))⟩,
 ⟨(some 69), (some (67, true)), .p (.mov (.t 17))⟩,
 ⟨(some 70), (some (67, true)), .p (.bin .eql (.i .i64) (.t 68) (.t 69))⟩,
 ⟨(some 71), none, .p (.pick (.t 67) (.t 70) (.c (bl false)))⟩,
 ⟨(some 72), none, .p (.mov (.t 71))⟩,
 ⟨(some 73), (some (72, true)), .p (.mov (.t 7))⟩,
 ⟨(some 74), (some (72, true)), .q (.c (.fn (.func 20) [] [])) [(.t 73)]⟩,
 ⟨(some 75), (some (72, true)), .p (.mov (.t 1))⟩,
 ⟨(some 76), (some (72, true)), .q (.c (.fn (.func 21) [] [])) [(.t 75)]⟩,
 ⟨(some 77), (some (72, true)), .p (.bin .eql (.i .i64) (.t 74) (.t 76))⟩,
 ⟨(some 78), none, .p (.pick (.t 72) (.t 77) (.c (bl false)))⟩,
 ⟨(some 79), none, .p (.mov (.t 78))⟩,
 ⟨(some 80), (some (79, true)), .p (.mov (.t 7))⟩,
 ⟨(some 81), (some (79, true)), .p (.mov (.t 1))⟩,
 ⟨(some 82), (some (79, true)), .q (.c (.fn (.func 15) [] [])) [(.t 80), (.t 81)]⟩,
 ⟨(some 83), none, .p (.pick (.t 79) (.t 82) (.c (bl false)))⟩,
 ⟨(some 84), none, .p (.mov (.t 83))⟩,
 ⟨(some 85), (some (84, true)), .q (.c (.fn (.func 10) [] [])) []⟩,
 ⟨(some 86), none, .p (.pick (.t 84) (.t 85) (.c (bl false)))⟩,
 ⟨(some 6), none, .p (.mov (.t 86))⟩])
 .ret))))))))
def r4 : List RS := [.t 6]
theorem c4 : chkF Try.prog drawB Try.f4 i4 r4 = true := by kernel_rfl
/-- parlour/parlourlaw32.PackBack -/
def i5 : IC :=
 (.seq
 (.reg [
 ⟨(some 6), none, .p (.mov (.c (bl false)))⟩])
 (.seq
 (.seq
 (.reg [
 ⟨(some 15), none, .p (.mov (.t 1))⟩,
 ⟨(some 16), none, .p (.len (.t 15))⟩,
 ⟨(some 17), none, .p (.bin .gtr (.i .i64) (.t 16) (.c (i64 20)))⟩,
 ⟨(some 18), none, .p (.mov (.t 17))⟩,
 ⟨(some 19), (some (18, false)), .p (.mov (.t 2))⟩,
 ⟨(some 20), (some (18, false)), .p (.len (.t 19))⟩,
 ⟨(some 21), (some (18, false)), .p (.bin .gtr (.i .i64) (.t 20) (.c (i64 20)))⟩,
 ⟨(some 22), none, .p (.pick (.t 18) (.c (bl true)) (.t 21))⟩])
 (.cond (.t 22)
 (.seq
 (.reg [
 ⟨(some 23), none, .e (.call (.c (.fn (.func 10) [] [])) [])⟩,
 ⟨(some 6), none, .p (.mov (.t 23))⟩])
 .ret)
 .skip))
 (.seq
 (.reg [
 ⟨(some 24), none, .p (.mov (.t 0))⟩,
 ⟨(some 25), none, .p (.mm true .i64 (.c (i64 0)) (.t 24))⟩,
 ⟨(some 26), none, .p (.bin .rem (.i .i64) (.t 25) (.c (i64 4611686018427387904)))⟩,
 ⟨(some 0), none, .p (.mov (.t 26))⟩])
 (.seq
 (.reg [
 ⟨(some 28), none, .p (.mov (.t 0))⟩,
 ⟨(some 29), none, .e (.call (.c (.fn (.func 16) [] [])) [(.t 28)])⟩,
 ⟨(some 27), none, .p (.mov (.t 29))⟩,
 ⟨(some 30), none, .p (.ext (.t 27) 0)⟩,
 ⟨(some 31), none, .p (.ext (.t 27) 1)⟩,
 ⟨(some 7), none, .p (.mov (.t 30))⟩,
 ⟨(some 8), none, .p (.mov (.t 31))⟩])
 (.seq
 (.reg [
 ⟨(some 32), none, .e (.bsl 5 1 0 [.val (.int .u8 0)] [])⟩,
 ⟨(some 33), none, .p (.mov (.t 1))⟩,
 ⟨(some 34), none, .e (.app 5 1 1 (.t 32) (.t 33))⟩,
 ⟨(some 35), none, .p (.mov (.t 7))⟩,
 ⟨(some 36), none, .e (.app 5 1 1 (.t 34) (.t 35))⟩,
 ⟨(some 37), none, .p (.mov (.t 2))⟩,
 ⟨(some 38), none, .e (.app 5 1 1 (.t 36) (.t 37))⟩,
 ⟨(some 9), none, .p (.mov (.t 38))⟩])
 (.seq
 (.reg [
 ⟨(some 40), none, .p (.mov (.t 9))⟩,
 ⟨(some 41), none, .p (.mov (.t 1))⟩,
 ⟨(some 42), none, .p (.len (.t 41))⟩,
 ⟨(some 43), none, .e (.call (.c (.fn (.func 18) [] [])) [(.t 40), (.t 42)])⟩,
 ⟨(some 39), none, .p (.mov (.t 43))⟩,
 ⟨(some 44), none, .p (.ext (.t 39) 0)⟩,
 ⟨(some 45), none, .p (.ext (.t 39) 1)⟩,
 ⟨(some 46), none, .p (.ext (.t 39) 2)⟩,
 ⟨(some 10), none, .p (.mov (.t 44))⟩,
 ⟨(some 11), none, .p (.mov (.t 45))⟩,
 ⟨(some 12), none, .p (.mov (.t 46))⟩])
 (.seq
 (.seq
 (.reg [
 ⟨(some 47), none, .p (.mov (.t 8))⟩,
 ⟨(some 48), none, .p (.bin .neq (.i .i64) (.t 47) (.c (i64 0)))⟩,
 ⟨(some 49), none, .p (.mov (.t 48))⟩,
 ⟨(some 50), (some (49, false)), .p (.mov (.t 12))⟩,
 ⟨(some 51), (some (49, false)), .p (.bin .neq (.i .i64) (.t 50) (.c (i64 0)))⟩,
 ⟨(some 52), none, .p (.pick (.t 49) (.c (bl true)) (.t 51))⟩,
 ⟨(some 53), none, .p (.mov (.t 52))⟩,
 ⟨(some 54), (some (53, false)), .p (.mov (.t 10))⟩,
 ⟨(some 55), (some (53, false)), .p (.mov (.t 0))⟩,
 ⟨(some 56), (some (53, false)), .p (.bin .neq (.i .i64) (.t 54) (.t 55))⟩,
 ⟨(some 57), none, .p (.pick (.t 53) (.c (bl true)) (.t 56))⟩,
 ⟨(some 58), none, .p (.mov (.t 57))⟩,
 ⟨(some 59), (some (58, false)), .p (.mov (.t 11))⟩,
 ⟨(some 60), (some (58, false)), .p (.mov (.t 1))⟩,
 ⟨(some 61), (some (58, false)), .p (.len (.t 60))⟩,
 ⟨(some 62), (some (58, false)), .p (.mov (.t 7))⟩,
 ⟨(some 63), (some (58, false)), .p (.len (.t 62))⟩,
 ⟨(some 64), (some (58, false)), .p (.bin .add (.i .i64) (.t 61) (.t 63))⟩,
 ⟨(some 65), (some (58, false)), .p (.bin .neq (.i .i64) (.t 59) (.t 64))⟩,
 ⟨(some 66), none, .p (.pick (.t 58) (.c (bl true)) (.t 65))⟩,
 ⟨(some 67), none, .p (.mov (.t 66))⟩,
 ⟨(some 68), (some (67, false)), .p (.mov (.t 7))⟩,
 ⟨(some 69), (some (67, false)), .p (.len (.t 68))⟩,
 ⟨(some 70), (some (67, false)), .p (.bin .eql (.i .i64) (.t 69) (.c (i64 0)))⟩,
 ⟨(some 71), none, .p (.pick (.t 67) (.c (bl true)) (.t 70))⟩])
 (.cond (.t 71)
 (.seq
 (.reg [
 ⟨(some 6), none, .p (.mov (.c (bl false)))⟩])
 .ret)
 .skip))
 (.seq
 (.reg [
 ⟨(some 73), none, .p (.mov (.t 2))⟩,
 ⟨(some 74), none, .e (.call (.c (.fn (.func 18) [] [])) [(.t 73), (.c (i64 0))])⟩,
 ⟨(some 72), none, .p (.mov (.t 74))⟩,
 ⟨(some 75), none, .p (.ext (.t 72) 0)⟩,
 ⟨(some 76), none, .p (.ext (.t 72) 1)⟩,
 ⟨(some 77), none, .p (.ext (.t 72) 2)⟩,
 ⟨(some 13), none, .p (.mov (.t 75))⟩,
 ⟨(some 11), none, .p (.mov (.t 76))⟩,
 ⟨(some 8), none, .p (.mov (.t 77))⟩])
 (.seq
 (.seq
 (.reg [
 ⟨(some 78), none, .p (.mov (.t 8))⟩,
 ⟨(some 79), none, .p (.bin .neq (.i .i64) (.t 78) (.c (i64 0)))⟩])
 (.cond (.t 79)
 (.seq
 (.reg [
 ⟨(some 80), none, .p (.mov (.t 13))⟩,
 ⟨(some 81), none, .p (.bin .eql (.i .i64) (.t 80) (.c (i64 0)))⟩,
 ⟨(some 82), none, .p (.mov (.t 81))⟩,
 ⟨(some 83), (some (82, true)), .p (.mov (.t 11))⟩,
 ⟨(some 84), (some (82, true)), .p (.bin .eql (.i .i64) (.t 83) (.c (i64 0)))⟩,
 ⟨(some 85), none, .p (.pick (.t 82) (.t 84) (.c (bl false)))⟩,
 ⟨(some 86), none, .p (.mov (.t 85))⟩,
 ⟨(some 87), (some (86, true)), .q (.c (.fn (.func 10) [] [])) []⟩,
 ⟨(some 88), none, .p (.pick (.t 86) (.t 87) (.c (bl false)))⟩,
 ⟨(some 6), none, .p (.mov (.t 88))⟩])
 .ret)
 .skip))
 (.seq
 (.reg [
 ⟨(some 90), none, .p (.mov (.t 13))⟩,
 ⟨(some 91), none, .e (.call (.c (.fn (.func 16) [] [])) [(.t 90)])⟩,
 ⟨(some 89), none, .p (.mov (.t 91))⟩,
 ⟨(some 92), none, .p (.ext (.t 89) 0)⟩,
 ⟨(some 93), none, .p (.ext (.t 89) 1)⟩,
 ⟨(some 14), none, .p (.mov (.t 92))⟩,
 ⟨(some 12), none, .p (.mov (.t 93))⟩])
 (.seq
 (.reg [
 ⟨(some 94), none, .p (.mov (.t 12))⟩,
 ⟨(some 95), none, .p (.bin .eql (.i .i64) (.t 94) (.c (i64 0)))⟩,
 ⟨(some 96), none, .p (.mov (.t 95))⟩,
 ⟨(some 97), (some (96, true)), .p (.mov (.t 11))⟩,
 ⟨(some 98), (some (96, true)), .p (.bin .geq (.i .i64) (.t 97) (.c (i64 1)))⟩,
 ⟨(some 99), none, .p (.pick (.t 96) (.t 98) (.c (bl false)))⟩,
 ⟨(some 100), none, .p (.mov (.t 99))⟩,
 ⟨(some 101), (some (100, true)), .p (.mov (.t 11))⟩,
 ⟨(some 102), (some (100, true)), .p (.mov (.t 2))⟩,
 ⟨(some 103), (some (100, true)), .p (.len (.t 102))⟩,
 ⟨(some 104), (some (100, true)), .p (.bin .leq (.i .i64) (.t 101) (.t 103))⟩,
 ⟨(some 105), none, .p (.pick (.t 100) (.t 104) (.c (bl false)))⟩,
 ⟨(some 106), none, .p (.mov (.t 105))⟩,
 ⟨(some 107), (some (106, true)), .p (.mov (.t 14))⟩,
 ⟨(some 108), (some (106, true)), .p (.mov (.t 2))⟩,
 ⟨(some 109), (some (106, true)), .p (.mov (.t 11))⟩,
 ⟨(some 110), (some (106, true)), .p (.sl 1 (.t 108) none (some (.t 109)))⟩,
 ⟨(some 111), (some (106, true)), .q (.c (.fn (.func 15) [] [])) [(.t 107), (.t 110)]⟩,
 ⟨(some 112), none, .p (.pick (.t 106) (.t 111) (.c (bl false)))⟩,
 ⟨(some 113), none, .p (.mov (.t 112))⟩,
 ⟨(some 114), (some (113, true)), .q (.c (.fn (.func 10) [] [])) []⟩,
 ⟨(some 115), none, .p (.pick (.t 113) (.t 114) (.c (bl false)))⟩,
 ⟨(some 6), none, .p (.mov (.t 115))⟩])
 .ret)))))))))))
def r5 : List RS := [.t 6]
theorem c5 : chkF Try.prog drawB Try.f5 i5 r5 = true := by kernel_rfl
/-- parlour/parlourlaw32.PackKnown -/
def i6 : IC :=
 (.seq
 (.reg [
 ⟨(some 0), none, .p (.mov (.c (bl false)))⟩])
 (.seq
 (.reg [
 ⟨(some 13), none, .e (.call (.c (.fn (.func 16) [] [])) [(.c (i64 (-1)))])⟩,
 ⟨(some 12), none, .p (.mov (.t 13))⟩,
 ⟨(some 14), none, .p (.ext (.t 12) 0)⟩,
 ⟨(some 15), none, .p (.ext (.t 12) 1)⟩,
 ⟨(some 1), none, .p (.mov (.t 14))⟩,
 ⟨(some 2), none, .p (.mov (.t 15))⟩])
 (.seq
 (.reg [
 ⟨(some 17), none, .e (.bsl 5 1 2 [.val (.int .u8 0)] [(0, (.c (.val (.int .u8 172)))), (1, (.c (.val (.int .u8 2))))])⟩,
 ⟨(some 18), none, .e (.call (.c (.fn (.func 18) [] [])) [(.t 17), (.c (i64 0))])⟩,
 ⟨(some 16), none, .p (.mov (.t 18))⟩,
 ⟨(some 19), none, .p (.ext (.t 16) 0)⟩,
 ⟨(some 20), none, .p (.ext (.t 16) 1)⟩,
 ⟨(some 21), none, .p (.ext (.t 16) 2)⟩,
 ⟨(some 3), none, .p (.mov (.t 19))⟩,
 ⟨(some 4), none, .p (.mov (.t 20))⟩,
 ⟨(some 5), none, .p (.mov (.t 21))⟩])
 (.seq
 (.reg [
 ⟨(some 23), none, .e (.bsl 5 1 1 [.val (.int .u8 0)] [(0, (.c (.val (.int .u8 5))))])⟩,
 ⟨(some 24), none, .e (.call (.c (.fn (.func 18) [] [])) [(.t 23), (.c (i64 1))])⟩,
 ⟨(some 22), none, .p (.mov (.t 24))⟩,
 ⟨(some 25), none, .p (.ext (.t 22) 0)⟩,
 ⟨(some 26), none, .p (.ext (.t 22) 1)⟩,
 ⟨(some 27), none, .p (.ext (.t 22) 2)⟩,
 ⟨(some 6), none, .p (.mov (.t 25))⟩,
 ⟨(some 7), none, .p (.mov (.t 26))⟩,
 ⟨(some 8), none, .p (.mov (.t 27))⟩])
 (.seq
 (.seq
 (.reg [
 ⟨(some 28), none, .e (.bsl 5 1 1 [.val (.int .u8 0)] [(0, (.c (.val (.int .u8 0))))])⟩,
 ⟨(some 29), none, .e (.call (.c (.fn (.func 22) [] [])) [(.c (i64 0)), (.t 28)])⟩,
 ⟨(some 30), none, .p (.not (.t 29))⟩,
 ⟨(some 31), none, .p (.mov (.t 30))⟩,
 ⟨(some 32), (some (31, false)), .e (.bsl 5 1 1 [.val (.int .u8 0)] [(0, (.c (.val (.int .u8 127))))])⟩,
 ⟨(some 33), (some (31, false)), .q (.c (.fn (.func 22) [] [])) [(.c (i64 127)), (.t 32)]⟩,
 ⟨(some 34), (some (31, false)), .p (.not (.t 33))⟩,
 ⟨(some 35), none, .p (.pick (.t 31) (.c (bl true)) (.t 34))⟩,
 ⟨(some 36), none, .p (.mov (.t 35))⟩,
 ⟨(some 37), (some (36, false)), .e (.bsl 5 1 2 [.val (.int .u8 0)] [(0, (.c (.val (.int .u8 128)))), (1, (.c (.val (.int .u8 1))))])⟩,
 ⟨(some 38), (some (36, false)), .q (.c (.fn (.func 22) [] [])) [(.c (i64 128)), (.t 37)]⟩,
 ⟨(some 39), (some (36, false)), .p (.not (.t 38))⟩,
 ⟨(some 40), none, .p (.pick (.t 36) (.c (bl true)) (.t 39))⟩,
 ⟨(some 41), none, .p (.mov (.t 40))⟩,
 ⟨(some 42), (some (41, false)), .p (.mov (.t 2))⟩,
 ⟨(some 43), (some (41, false)), .p (.bin .neq (.i .i64) (.t 42) (.c (i64 2)))⟩,
 ⟨(some 44), none, .p (.pick (.t 41) (.c (bl true)) (.t 43))⟩,
 ⟨(some 45), none, .p (.mov (.t 44))⟩,
 ⟨(some 46), (some (45, false)), .p (.mov (.t 3))⟩,
 ⟨(some 47), (some (45, false)), .p (.bin .neq (.i .i64) (.t 46) (.c (i64 300)))⟩,
 ⟨(some 48), none, .p (.pick (.t 45) (.c (bl true)) (.t 47))⟩,
 ⟨(some 49), none, .p (.mov (.t 48))⟩,
 ⟨(some 50), (some (49, false)), .p (.mov (.t 4))⟩,
 ⟨(some 51), (some (49, false)), .p (.bin .neq (.i .i64) (.t 50) (.c (i64 2)))⟩,
 ⟨(some 52), none, .p (.pick (.t 49) (.c (bl true)) (.t 51))⟩,
 ⟨(some 53), none, .p (.mov (.t 52))⟩,
 ⟨(some 54), (some (53, false)), .p (.mov (.t 5))⟩,
 ⟨(some 55), (some (53, false)), .p (.bin .neq (.i .i64) (.t 54) (.c (i64 0)))⟩,
 ⟨(some 56), none, .p (.pick (.t 53) (.c (bl true)) (.t 55))⟩,
 ⟨(some 57), none, .p (.mov (.t 56))⟩,
 ⟨(some 58), (some (57, false)), .p (.mov (.t 8))⟩,
 ⟨(some 59), (some (57, false)), .p (.bin .neq (.i .i64) (.t 58) (.c (i64 16)))⟩,
 ⟨(some 60), none, .p (.pick (.t 57) (.c (bl true)) (.t 59))⟩,
 ⟨(some 61), none, .p (.mov (.t 60))⟩,
 ⟨(some 62), (some (61, false)), .e (.bsl 5 1 2 [.val (.int .u8 0)] [(0, (.c (.val (.int .u8 128)))), (1, (.c (.val (.int .u8 0))))])⟩,
 ⟨(some 63), (some (61, false)), .q (.c (.fn (.func 23) [] [])) [(.t 62)]⟩,
 ⟨(some 64), (some (61, false)), .p (.bin .neq (.i .i64) (.t 63) (.c (i64 3)))⟩,
 ⟨(some 65), none, .p (.pick (.t 61) (.c (bl true)) (.t 64))⟩,
 ⟨(some 66), none, .p (.mov (.t 65))⟩,
 ⟨(some 67), (some (66, false)), .e (.bsl 5 1 1 [.val (.int .u8 0)] [(0, (.c (.val (.int .u8 128))))])⟩,
 ⟨(some 68), (some (66, false)), .q (.c (.fn (.func 23) [] [])) [(.t 67)]⟩,
 ⟨(some 69), (some (66, false)), .p (.bin .neq (.i .i64) (.t 68) (.c (i64 16)))⟩,
 ⟨(some 70), none, .p (.pick (.t 66) (.c (bl true)) (.t 69))⟩,
 ⟨(some 71), none, .p (.mov (.t 70))⟩,
 ⟨(some 72), (some (71, false)), .q (.c (.fn (.func 20) [] [])) [(.c (.val (.slice none 0 0)))]⟩,
 ⟨(some 73), (some (71, false)), .p (.bin .neq (.i .i64) (.t 72) (.c (i64 1)))⟩,
 ⟨(some 74), none, .p (.pick (.t 71) (.c (bl true)) (.t 73))⟩,
 ⟨(some 75), none, .p (.mov (.t 74))⟩,
 ⟨(some 76), (some (75, false)), .e (.bsl 5 1 1 [.val (.int .u8 0)] [(0, (.c (.val (.int .u8 97))))])⟩,
 ⟨(some 77), (some (75, false)), .q (.c (.fn (.func 20) [] [])) [(.t 76)]⟩,
 ⟨(some 78), (some (75, false)), .p (.bin .neq (.i .i64) (.t 77) (.c (i64 6422626)))⟩,
 ⟨(some 79), none, .p (.pick (.t 75) (.c (bl true)) (.t 78))⟩])
 (.cond (.t 79)
 (.seq
 (.reg [
 ⟨(some 0), none, .p (.mov (.c (bl false)))⟩])
 .ret)
 .skip))
 (.seq
 (.reg [
 ⟨(some 81), none, .e (.call (.c (.fn (.func 25) [] [])) [])⟩,
 ⟨(some 82), none, .e (.call (.c (.fn (.func 24) [] [])) [(.t 81)])⟩,
 ⟨(some 80), none, .p (.mov (.t 82))⟩,
 ⟨(some 83), none, .p (.ext (.t 80) 0)⟩,
 ⟨(some 84), none, .p (.ext (.t 80) 1)⟩,
 ⟨(some 9), none, .e (.alc 25 [i64 0, .val (.slice none 0 0), .val (.slice none 0 0)])⟩,
 ⟨(some 10), none, .e (.alc 47 [i64 0, i64 0])⟩,
 ⟨none, none, .e (.st 3 (.t 9) (.t 83))⟩,
 ⟨none, none, .e (.st 2 (.t 10) (.t 84))⟩])
 (.seq
 (.reg [
 ⟨(some 85), none, .e (.call (.c (.fn (.func 25) [] [])) [])⟩,
 ⟨(some 11), none, .p (.mov (.t 85))⟩])
 (.seq
 (.reg [
 ⟨(some 86), none, .p (.mov (.t 11))⟩,
 ⟨(some 87), none, .p (.ia 1 (.t 86) (.c (i64 6)))⟩,
 ⟨none, none, .e (.st 1 (.t 87) (.c (.val (.int .u8 4))))⟩])
 (.seq
 (.drw [0, 1, 2, 3, 4, 5, 6, 7, 8, 9, 10, 11, 12, 13, 14, 15, 16, 17, 18, 19, 20, 21, 22, 23] [
 ⟨(some 88), none, .p (.ldn 2 (.t 10))⟩,
 ⟨(some 89), none, .p (.bld [i64 0, i64 0] [])⟩,
 ⟨(some 90), none, .p (.eqf false [.i .i64, .i .i64] (.t 88) (.t 89))⟩,
 ⟨(some 91), none, .p (.mov (.t 90))⟩,
 ⟨(some 92), (some (91, true)), .p (.ldn 3 (.t 9))⟩,
 ⟨(some 93), (some (91, true)), .q (.c (.fn (.func 27) [] [])) []⟩,
 ⟨(some 94), (some (91, true)), .q (.c (.fn (.func 26) [] [])) [(.t 92), (.t 93)]⟩,
 ⟨(some 95), none, .p (.pick (.t 91) (.t 94) (.c (bl false)))⟩,
 ⟨(some 96), none, .p (.mov (.t 95))⟩,
 ⟨(some 97), (some (96, true)), .p (.mov (.t 11))⟩,
 ⟨(some 98), (some (96, true)), .q (.c (.fn (.func 28) [] [])) [(.t 97), (.c (i64 14)), (.c (i64 7))]⟩,
 ⟨(some 99), none, .p (.pick (.t 96) (.t 98) (.c (bl false)))⟩,
 ⟨(some 100), none, .p (.mov (.t 99))⟩,
 ⟨(some 101), (some (100, true)), .q (.c (.fn (.func 25) [] [])) []⟩,
 ⟨(some 102), (some (100, true)), .p (.sl 1 (.t 101) none (some (.c (i64 10))))⟩,
 ⟨(some 103), (some (100, true)), .q (.c (.fn (.func 28) [] [])) [(.t 102), (.c (i64 14)), (.c (i64 6))]⟩,
 ⟨(some 104), none, .p (.pick (.t 100) (.t 103) (.c (bl false)))⟩,
 ⟨(some 105), none, .p (.mov (.t 104))⟩,
 ⟨(some 106), (some (105, true)), .q (.c (.fn (.func 28) [] [])) [(.c (.val (.slice none 0 0))), (.c (i64 16)), (.c (i64 0))]⟩,
 ⟨(some 107), none, .p (.pick (.t 105) (.t 106) (.c (bl false)))⟩,
 ⟨(some 108), none, .p (.mov (.t 107))⟩,
 ⟨(some 109), (some (108, true)), .q (.c (.fn (.func 10) [] [])) []⟩,
 ⟨(some 110), none, .p (.pick (.t 108) (.t 109) (.c (bl false)))⟩,
 ⟨(some 0), none, .p (.mov (.t 110))⟩])
 .ret)))))))))
def r6 : List RS := [.t 0]
theorem c6 : chkF Try.prog drawB Try.f6 i6 r6 = true := by kernel_rfl
/-- parlour/parlourlaw32.PackGames -/
def i7 : IC :=
 (.seq
 (.reg [
 ⟨(some 8), none, .p (.mov (.c (bl false)))⟩])
 (.seq
 (.reg [
 ⟨(some 15), none, .p (.mov (.t 0))⟩,
 ⟨(some 16), none, .p (.mov (.t 1))⟩,
 ⟨(some 17), none, .e (.call (.c (.fn (.func 30) [] [])) [(.t 16), (.c (i64 4))])⟩,
 ⟨(some 18), none, .p (.bin .add (.i .i64) (.c (i64 1)) (.t 17))⟩,
 ⟨(some 19), none, .e (.call (.c (.fn (.func 29) [] [])) [(.t 15), (.t 18), (.c (i64 40)), (.c (bl false))])⟩,
 ⟨(some 9), none, .e (.alc 25 [i64 0, .val (.slice none 0 0), .val (.slice none 0 0)])⟩,
 ⟨none, none, .e (.st 3 (.t 9) (.t 19))⟩])
 (.seq
 (.reg [
 ⟨(some 21), none, .p (.ldn 3 (.t 9))⟩,
 ⟨(some 22), none, .e (.call (.c (.fn (.func 11) [] [])) [(.t 21)])⟩,
 ⟨(some 20), none, .p (.mov (.t 22))⟩,
 ⟨(some 23), none, .p (.ext (.t 20) 0)⟩,
 ⟨(some 24), none, .p (.ext (.t 20) 1)⟩,
 ⟨(some 10), none, .p (.mov (.t 23))⟩,
 ⟨(some 11), none, .p (.mov (.t 24))⟩])
 (.seq
 (.reg [
 ⟨(some 26), none, .p (.mov (.t 10))⟩,
 ⟨(some 27), none, .e (.call (.c (.fn (.func 24) [] [])) [(.t 26)])⟩,
 ⟨(some 25), none, .p (.mov (.t 27))⟩,
 ⟨(some 28), none, .p (.ext (.t 25) 0)⟩,
 ⟨(some 29), none, .p (.ext (.t 25) 1)⟩,
 ⟨(some 12), none, .e (.alc 25 [i64 0, .val (.slice none 0 0), .val (.slice none 0 0)])⟩,
 ⟨(some 13), none, .e (.alc 47 [i64 0, i64 0])⟩,
 ⟨none, none, .e (.st 3 (.t 12) (.t 28))⟩,
 ⟨none, none, .e (.st 2 (.t 13) (.t 29))⟩])
 (.seq
 (.seq
 (.reg [
 ⟨(some 30), none, .p (.mov (.t 11))⟩,
 ⟨(some 31), none, .p (.bin .neq (.i .i64) (.t 30) (.c (i64 0)))⟩,
 ⟨(some 32), none, .p (.mov (.t 31))⟩,
 ⟨(some 33), (some (32, false)), .p (.ldn 2 (.t 13))⟩,
 ⟨(some 34), (some (32, false)), .p (.bld [i64 0, i64 0] [])⟩,
 ⟨(some 35), (some (32, false)), .p (.eqf true [.i .i64, .i .i64] (.t 33) (.t 34))⟩,
 ⟨(some 36), none, .p (.pick (.t 32) (.c (bl true)) (.t 35))⟩,
 ⟨(some 37), none, .p (.mov (.t 36))⟩,
 ⟨(some 38), (some (37, false)), .p (.ldn 3 (.t 12))⟩,
 ⟨(some 39), (some (37, false)), .p (.ldn 3 (.t 9))⟩,
 ⟨(some 40), (some (37, false)), .q (.c (.fn (.func 26) [] [])) [(.t 38), (.t 39)]⟩,
 ⟨(some 41), (some (37, false)), .p (.not (.t 40))⟩,
 ⟨(some 42), none, .p (.pick (.t 37) (.c (bl true)) (.t 41))⟩,
 ⟨(some 43), none, .p (.mov (.t 42))⟩,
 ⟨(some 44), (some (43, false)), .p (.mov (.t 10))⟩,
 ⟨(some 45), (some (43, false)), .p (.len (.t 44))⟩,
 ⟨(some 46), (some (43, false)), .p (.bin .eql (.i .i64) (.t 45) (.c (i64 0)))⟩,
 ⟨(some 47), none, .p (.pick (.t 43) (.c (bl true)) (.t 46))⟩])
 (.cond (.t 47)
 (.seq
 (.reg [
 ⟨(some 8), none, .p (.mov (.c (bl false)))⟩])
 .ret)
 .skip))
 (.seq
 (.reg [
 ⟨(some 48), none, .p (.mov (.t 2))⟩,
 ⟨(some 49), none, .p (.mov (.t 10))⟩,
 ⟨(some 50), none, .p (.len (.t 49))⟩,
 ⟨(some 51), none, .e (.call (.c (.fn (.func 30) [] [])) [(.t 48), (.t 50)])⟩,
 ⟨(some 14), none, .p (.mov (.t 51))⟩])
 (.seq
 (.drw [0, 1, 2, 3, 4, 5, 6, 7, 8, 9, 10, 11, 12] [
 ⟨(some 52), none, .p (.mov (.t 10))⟩,
 ⟨(some 53), none, .p (.mov (.t 14))⟩,
 ⟨(some 54), none, .p (.mov (.t 10))⟩,
 ⟨(some 55), none, .p (.mov (.t 14))⟩,
 ⟨(some 56), none, .p (.ia 1 (.t 54) (.t 55))⟩,
 ⟨(some 57), none, .p (.ld1 (.t 56))⟩,
 ⟨(some 58), none, .p (.mov (.t 3))⟩,
 ⟨(some 59), none, .q (.c (.fn (.func 30) [] [])) [(.t 58), (.c (i64 255))]⟩,
 ⟨(some 60), none, .p (.bin .add (.i .i64) (.c (i64 1)) (.t 59))⟩,
 ⟨(some 61), none, .p (.cvi .u8 (.t 60))⟩,
 ⟨(some 62), none, .p (.bin .xor (.i .u8) (.t 57) (.t 61))⟩,
 ⟨(some 63), none, .p (.ia 1 (.t 52) (.t 53))⟩,
 ⟨none, none, .e (.st 1 (.t 63) (.t 62))⟩])
 (.seq
 (.reg [
 ⟨(some 65), none, .p (.mov (.t 10))⟩,
 ⟨(some 66), none, .e (.call (.c (.fn (.func 24) [] [])) [(.t 65)])⟩,
 ⟨(some 64), none, .p (.mov (.t 66))⟩,
 ⟨(some 67), none, .p (.ext (.t 64) 0)⟩,
 ⟨(some 68), none, .p (.ext (.t 64) 1)⟩,
 ⟨none, none, .e (.st 2 (.t 13) (.t 68))⟩])
 (.seq
 (.reg [
 ⟨(some 69), none, .p (.fa 0 (.t 13))⟩,
 ⟨(some 70), none, .p (.ld1 (.t 69))⟩,
 ⟨(some 71), none, .p (.bin .neq (.i .i64) (.t 70) (.c (i64 0)))⟩,
 ⟨(some 72), none, .p (.mov (.t 71))⟩,
 ⟨(some 73), (some (72, true)), .q (.c (.fn (.func 10) [] [])) []⟩,
 ⟨(some 74), none, .p (.pick (.t 72) (.t 73) (.c (bl false)))⟩,
 ⟨(some 8), none, .p (.mov (.t 74))⟩])
 .ret)))))))))
def r7 : List RS := [.t 8]
theorem c7 : chkF Try.prog drawB Try.f7 i7 r7 = true := by kernel_rfl
/-- parlour/parlourlaw32.PackReads -/
def i8 : IC :=
 (.seq
 (.reg [
 ⟨(some 2), none, .p (.mov (.c (bl false)))⟩])
 (.seq
 (.seq
 (.reg [
 ⟨(some 12), none, .p (.mov (.t 0))⟩,
 ⟨(some 13), none, .p (.len (.t 12))⟩,
 ⟨(some 14), none, .p (.bin .gtr (.i .i64) (.t 13) (.c (i64 600)))⟩,
 ⟨(some 15), none, .p (.mov (.t 14))⟩,
 ⟨(some 16), (some (15, true)), .p (.mov (.t 0))⟩,
 ⟨(some 17), (some (15, true)), .p (.len (.t 16))⟩,
 ⟨(some 18), (some (15, true)), .p (.bin .lss (.i .i64) (.t 17) (.c (i64 100000)))⟩,
 ⟨(some 19), none, .p (.pick (.t 15) (.t 18) (.c (bl false)))⟩,
 ⟨(some 20), none, .p (.mov (.t 19))⟩,
 ⟨(some 21), (some (20, false)), .p (.mov (.t 0))⟩,
 ⟨(some 22), (some (20, false)), .p (.len (.t 21))⟩,
 ⟨(some 23), (some (20, false)), .p (.bin .gtr (.i .i64) (.t 22) (.c (i64 100005)))⟩,
 ⟨(some 24), none, .p (.pick (.t 20) (.c (bl true)) (.t 23))⟩])
 (.cond (.t 24)
 (.seq
 (.reg [
 ⟨(some 25), none, .e (.call (.c (.fn (.func 10) [] [])) [])⟩,
 ⟨(some 2), none, .p (.mov (.t 25))⟩])
 .ret)
 .skip))
 (.seq
 (.reg [
 ⟨(some 26), none, .e (.bsl 5 1 0 [.val (.int .u8 0)] [])⟩,
 ⟨(some 27), none, .p (.mov (.t 0))⟩,
 ⟨(some 28), none, .e (.app 5 1 1 (.t 26) (.t 27))⟩,
 ⟨(some 3), none, .p (.mov (.t 28))⟩])
 (.seq
 (.reg [
 ⟨(some 30), none, .p (.mov (.t 3))⟩,
 ⟨(some 31), none, .e (.call (.c (.fn (.func 24) [] [])) [(.t 30)])⟩,
 ⟨(some 29), none, .p (.mov (.t 31))⟩,
 ⟨(some 32), none, .p (.ext (.t 29) 0)⟩,
 ⟨(some 33), none, .p (.ext (.t 29) 1)⟩,
 ⟨(some 4), none, .e (.alc 25 [i64 0, .val (.slice none 0 0), .val (.slice none 0 0)])⟩,
 ⟨(some 5), none, .e (.alc 47 [i64 0, i64 0])⟩,
 ⟨none, none, .e (.st 3 (.t 4) (.t 32))⟩,
 ⟨none, none, .e (.st 2 (.t 5) (.t 33))⟩])
 (.seq
 (.reg [
 ⟨(some 35), none, .p (.mov (.t 0))⟩,
 ⟨(some 36), none, .e (.call (.c (.fn (.func 31) [] [])) [(.t 35)])⟩,
 ⟨(some 34), none, .p (.mov (.t 36))⟩,
 ⟨(some 37), none, .p (.ext (.t 34) 0)⟩,
 ⟨(some 38), none, .p (.ext (.t 34) 1)⟩,
 ⟨(some 6), none, .e (.alc 25 [i64 0, .val (.slice none 0 0), .val (.slice none 0 0)])⟩,
 ⟨(some 7), none, .e (.alc 47 [i64 0, i64 0])⟩,
 ⟨none, none, .e (.st 3 (.t 6) (.t 37))⟩,
 ⟨none, none, .e (.st 2 (.t 7) (.t 38))⟩])
 (.seq
 (.reg [
 ⟨(some 40), none, .p (.mov (.t 3))⟩,
 ⟨(some 41), none, .e (.call (.c (.fn (.func 32) [] [])) [(.t 40)])⟩,
 ⟨(some 39), none, .p (.mov (.t 41))⟩,
 ⟨(some 42), none, .p (.ext (.t 39) 0)⟩,
 ⟨(some 43), none, .p (.ext (.t 39) 1)⟩,
 ⟨(some 8), none, .e (.alc 28 [i64 0, .val (.slice none 0 0)])⟩,
 ⟨(some 9), none, .e (.alc 47 [i64 0, i64 0])⟩,
 ⟨none, none, .e (.st 2 (.t 8) (.t 42))⟩,
 ⟨none, none, .e (.st 2 (.t 9) (.t 43))⟩])
 (.seq
 (.reg [
 ⟨(some 45), none, .p (.mov (.t 0))⟩,
 ⟨(some 46), none, .e (.call (.c (.fn (.func 33) [] [])) [(.t 45)])⟩,
 ⟨(some 44), none, .p (.mov (.t 46))⟩,
 ⟨(some 47), none, .p (.ext (.t 44) 0)⟩,
 ⟨(some 48), none, .p (.ext (.t 44) 1)⟩,
 ⟨(some 10), none, .e (.alc 28 [i64 0, .val (.slice none 0 0)])⟩,
 ⟨(some 11), none, .e (.alc 47 [i64 0, i64 0])⟩,
 ⟨none, none, .e (.st 2 (.t 10) (.t 47))⟩,
 ⟨none, none, .e (.st 2 (.t 11) (.t 48))⟩])
 (.seq
 (.reg [
 ⟨(some 49), none, .p (.ldn 3 (.t 4))⟩,
 ⟨(some 50), none, .p (.ldn 3 (.t 6))⟩,
 ⟨(some 51), none, .e (.call (.c (.fn (.func 26) [] [])) [(.t 49), (.t 50)])⟩,
 ⟨(some 52), none, .p (.mov (.t 51))⟩,
 ⟨(some 53), (some (52, true)), .p (.ldn 2 (.t 5))⟩,
 ⟨(some 54), (some (52, true)), .p (.ldn 2 (.t 7))⟩,
 ⟨(some 55), (some (52, true)), .p (.eqf false [.i .i64, .i .i64] (.t 53) (.t 54))⟩,
 ⟨(some 56), none, .p (.pick (.t 52) (.t 55) (.c (bl false)))⟩,
 ⟨(some 57), none, .p (.mov (.t 56))⟩,
 ⟨(some 58), (some (57, true)), .p (.ldn 2 (.t 8))⟩,
 ⟨(some 59), (some (57, true)), .p (.ldn 2 (.t 10))⟩,
 ⟨(some 60), (some (57, true)), .q (.c (.fn (.func 34) [] [])) [(.t 58), (.t 59)]⟩,
 ⟨(some 61), none, .p (.pick (.t 57) (.t 60) (.c (bl false)))⟩,
 ⟨(some 62), none, .p (.mov (.t 61))⟩,
 ⟨(some 63), (some (62, true)), .p (.ldn 2 (.t 9))⟩,
 ⟨(some 64), (some (62, true)), .p (.ldn 2 (.t 11))⟩,
 ⟨(some 65), (some (62, true)), .p (.eqf false [.i .i64, .i .i64] (.t 63) (.t 64))⟩,
 ⟨(some 66), none, .p (.pick (.t 62) (.t 65) (.c (bl false)))⟩,
 ⟨(some 67), none, .p (.mov (.t 66))⟩,
 ⟨(some 68), (some (67, true)), .p (.mov (.t 3))⟩,
 ⟨(some 69), (some (67, true)), .p (.mov (.t 0))⟩,
 ⟨(some 70), (some (67, true)), .q (.c (.fn (.func 15) [] [])) [(.t 68), (.t 69)]⟩,
 ⟨(some 71), none, .p (.pick (.t 67) (.t 70) (.c (bl false)))⟩,
 ⟨(some 72), none, .p (.mov (.t 71))⟩,
 ⟨(some 73), (some (72, true)), .q (.c (.fn (.func 10) [] [])) []⟩,
 ⟨(some 74), none, .p (.pick (.t 72) (.t 73) (.c (bl false)))⟩,
 ⟨(some 2), none, .p (.mov (.t 74))⟩])
 .ret))))))))
def r8 : List RS := [.t 2]
theorem c8 : chkF Try.prog drawB Try.f8 i8 r8 = true := by kernel_rfl
def l9_1 : IC := .keep [2, 3, 4, 11, 12, 13, 14, 15, 16]
 (.seq
 (.seq
 (.reg [
 ⟨(some 49), none, .p (.mov (.t 16))⟩,
 ⟨(some 50), none, .p (.mov (.t 14))⟩,
 ⟨(some 51), none, .p (.len (.t 50))⟩,
 ⟨(some 52), none, .p (.bin .lss (.i .i64) (.t 49) (.t 51))⟩])
 (.cond (.t 52)
 .skip
 (.exit 2)))
 (.seq
 (.blk 3
 (.seq
 (.reg [
 ⟨(some 55), none, .p (.mov (.t 14))⟩,
 ⟨(some 56), none, .p (.mov (.t 16))⟩,
 ⟨(some 57), none, .p (.mov (.t 11))⟩,
 ⟨(some 58), none, .p (.mov (.t 15))⟩,
 ⟨(some 59), none, .p (.bin .add (.i .i64) (.t 58) (.c (i64 1)))⟩,
 ⟨(some 60), none, .e (.call (.c (.fn (.func 35) [] [])) [(.t 57), (.t 59)])⟩,
 ⟨(some 61), none, .p (.ia 1 (.t 55) (.t 56))⟩,
 ⟨none, none, .e (.st 1 (.t 61) (.t 60))⟩])
 (.reg [
 ⟨(some 62), none, .p (.mov (.t 15))⟩,
 ⟨(some 63), none, .p (.mov (.t 14))⟩,
 ⟨(some 64), none, .p (.mov (.t 16))⟩,
 ⟨(some 65), none, .p (.ia 1 (.t 63) (.t 64))⟩,
 ⟨(some 66), none, .p (.ld1 (.t 65))⟩,
 ⟨(some 67), none, .p (.bin .sub (.i .i64) (.t 62) (.t 66))⟩,
 ⟨(some 15), none, .p (.mov (.t 67))⟩])))
 (.reg [
 ⟨(some 53), none, .p (.mov (.t 16))⟩,
 ⟨(some 54), none, .p (.bin .add (.i .i64) (.t 53) (.c (i64 1)))⟩,
 ⟨(some 16), none, .p (.mov (.t 54))⟩])))
def l9_0 : IC := .keep [2, 3, 4, 11, 12, 13]
 (.seq
 (.seq
 (.reg [
 ⟨(some 38), none, .p (.mov (.t 13))⟩,
 ⟨(some 39), none, .p (.bin .gtr (.i .i64) (.t 38) (.c (i64 0)))⟩])
 (.cond (.t 39)
 .skip
 (.exit 0)))
 (.seq
 (.blk 1
 (.seq
 (.reg [
 ⟨(some 42), none, .p (.mov (.t 11))⟩,
 ⟨(some 43), none, .e (.call (.c (.fn (.func 35) [] [])) [(.t 42), (.c (i64 5))])⟩,
 ⟨(some 44), none, .p (.bin .add (.i .i64) (.c (i64 1)) (.t 43))⟩,
 ⟨(some 45), none, .e (.mks 3 1 8 [i64 0] (.t 44) (.t 44))⟩,
 ⟨(some 14), none, .p (.mov (.t 45))⟩])
 (.seq
 (.reg [
 ⟨(some 46), none, .p (.fa 0 (.t 12))⟩,
 ⟨(some 47), none, .p (.ld1 (.t 46))⟩,
 ⟨(some 48), none, .p (.bin .shl (.sh .i64 .i64) (.c (i64 1)) (.t 47))⟩,
 ⟨(some 15), none, .p (.mov (.t 48))⟩])
 (.seq
 (.seq
 (.reg [
 ⟨(some 16), none, .p (.mov (.c (i64 1)))⟩])
 (.blk 2
 (.loop l9_1)))
 (.seq
 (.reg [
 ⟨(some 68), none, .p (.mov (.t 14))⟩,
 ⟨(some 69), none, .p (.mov (.t 15))⟩,
 ⟨(some 70), none, .p (.ia 1 (.t 68) (.c (i64 0)))⟩,
 ⟨none, none, .e (.st 1 (.t 70) (.t 69))⟩])
 (.reg [
 ⟨(some 71), none, .p (.fa 1 (.t 12))⟩,
 ⟨(some 72), none, .p (.ld1 (.t 71))⟩,
 ⟨(some 73), none, .p (.mov (.t 14))⟩,
 ⟨(some 74), none, .e (.bsl 30 1 1 [.val (.slice none 0 0)] [(0, (.t 73))])⟩,
 ⟨(some 75), none, .e (.app 30 1 24 (.t 72) (.t 74))⟩,
 ⟨(some 76), none, .p (.fa 1 (.t 12))⟩,
 ⟨none, none, .e (.st 1 (.t 76) (.t 75))⟩]))))))
 (.reg [
 ⟨(some 40), none, .p (.mov (.t 13))⟩,
 ⟨(some 41), none, .p (.bin .sub (.i .i64) (.t 40) (.c (i64 1)))⟩,
 ⟨(some 13), none, .p (.mov (.t 41))⟩])))
/-- parlour/parlourlaw32.PackTables -/
def i9 : IC :=
 (.seq
 (.reg [
 ⟨(some 10), none, .p (.mov (.c (bl false)))⟩])
 (.seq
 (.reg [
 ⟨(some 29), none, .p (.mov (.t 0))⟩,
 ⟨(some 30), none, .p (.bld [.val (.slice none 0 0), i64 0] [(0, 1, (.t 29))])⟩,
 ⟨(some 31), none, .e (.box 63 (.t 30))⟩,
 ⟨(some 11), none, .p (.mov (.t 31))⟩])
 (.seq
 (.reg [
 ⟨(some 32), none, .p (.mov (.t 1))⟩,
 ⟨(some 33), none, .e (.call (.c (.fn (.func 30) [] [])) [(.t 32), (.c (i64 30))])⟩,
 ⟨(some 34), none, .p (.bin .add (.i .i64) (.c (i64 1)) (.t 33))⟩,
 ⟨(some 35), none, .p (.bld [i64 0, .val (.slice none 0 0)] [(0, 1, (.t 34))])⟩,
 ⟨(some 12), none, .e (.alc 28 [i64 0, .val (.slice none 0 0)])⟩,
 ⟨none, none, .e (.st 2 (.t 12) (.t 35))⟩])
 (.seq
 (.seq
 (.reg [
 ⟨(some 36), none, .p (.mov (.t 11))⟩,
 ⟨(some 37), none, .e (.call (.c (.fn (.func 35) [] [])) [(.t 36), (.c (i64 9))])⟩,
 ⟨(some 13), none, .p (.mov (.t 37))⟩])
 (.blk 0
 (.loop l9_0)))
 (.seq
 (.reg [
 ⟨(some 78), none, .p (.ldn 2 (.t 12))⟩,
 ⟨(some 79), none, .e (.call (.c (.fn (.func 13) [] [])) [(.t 78)])⟩,
 ⟨(some 77), none, .p (.mov (.t 79))⟩,
 ⟨(some 80), none, .p (.ext (.t 77) 0)⟩,
 ⟨(some 81), none, .p (.ext (.t 77) 1)⟩,
 ⟨(some 17), none, .p (.mov (.t 80))⟩,
 ⟨(some 18), none, .p (.mov (.t 81))⟩])
 (.seq
 (.reg [
 ⟨(some 83), none, .p (.mov (.t 17))⟩,
 ⟨(some 84), none, .e (.call (.c (.fn (.func 32) [] [])) [(.t 83)])⟩,
 ⟨(some 82), none, .p (.mov (.t 84))⟩,
 ⟨(some 85), none, .p (.ext (.t 82) 0)⟩,
 ⟨(some 86), none, .p (.ext (.t 82) 1)⟩,
 ⟨(some 19), none, .e (.alc 28 [i64 0, .val (.slice none 0 0)])⟩,
 ⟨(some 20), none, .e (.alc 47 [i64 0, i64 0])⟩,
 ⟨none, none, .e (.st 2 (.t 19) (.t 85))⟩,
 ⟨none, none, .e (.st 2 (.t 20) (.t 86))⟩])
 (.seq
 (.seq
 (.reg [
 ⟨(some 87), none, .p (.mov (.t 18))⟩,
 ⟨(some 88), none, .p (.bin .neq (.i .i64) (.t 87) (.c (i64 0)))⟩,
 ⟨(some 89), none, .p (.mov (.t 88))⟩,
 ⟨(some 90), (some (89, false)), .p (.ldn 2 (.t 20))⟩,
 ⟨(some 91), (some (89, false)), .p (.bld [i64 0, i64 0] [])⟩,
 ⟨(some 92), (some (89, false)), .p (.eqf true [.i .i64, .i .i64] (.t 90) (.t 91))⟩,
 ⟨(some 93), none, .p (.pick (.t 89) (.c (bl true)) (.t 92))⟩,
 ⟨(some 94), none, .p (.mov (.t 93))⟩,
 ⟨(some 95), (some (94, false)), .p (.ldn 2 (.t 19))⟩,
 ⟨(some 96), (some (94, false)), .p (.ldn 2 (.t 12))⟩,
 ⟨(some 97), (some (94, false)), .q (.c (.fn (.func 34) [] [])) [(.t 95), (.t 96)]⟩,
 ⟨(some 98), (some (94, false)), .p (.not (.t 97))⟩,
 ⟨(some 99), none, .p (.pick (.t 94) (.c (bl true)) (.t 98))⟩,
 ⟨(some 100), none, .p (.mov (.t 99))⟩,
 ⟨(some 101), (some (100, false)), .p (.mov (.t 17))⟩,
 ⟨(some 102), (some (100, false)), .p (.len (.t 101))⟩,
 ⟨(some 103), (some (100, false)), .p (.bin .eql (.i .i64) (.t 102) (.c (i64 0)))⟩,
 ⟨(some 104), none, .p (.pick (.t 100) (.c (bl true)) (.t 103))⟩])
 (.cond (.t 104)
 (.seq
 (.reg [
 ⟨(some 10), none, .p (.mov (.c (bl false)))⟩])
 .ret)
 .skip))
 (.seq
 (.reg [
 ⟨(some 105), none, .p (.mov (.t 2))⟩,
 ⟨(some 106), none, .p (.mov (.t 17))⟩,
 ⟨(some 107), none, .p (.len (.t 106))⟩,
 ⟨(some 108), none, .e (.call (.c (.fn (.func 30) [] [])) [(.t 105), (.t 107)])⟩,
 ⟨(some 21), none, .p (.mov (.t 108))⟩])
 (.seq
 (.drw [0, 1, 2, 3, 4, 5, 6, 7, 8, 9, 10, 11, 12] [
 ⟨(some 109), none, .p (.mov (.t 17))⟩,
 ⟨(some 110), none, .p (.mov (.t 21))⟩,
 ⟨(some 111), none, .p (.mov (.t 17))⟩,
 ⟨(some 112), none, .p (.mov (.t 21))⟩,
 ⟨(some 113), none, .p (.ia 1 (.t 111) (.t 112))⟩,
 ⟨(some 114), none, .p (.ld1 (.t 113))⟩,
 ⟨(some 115), none, .p (.mov (.t 3))⟩,
 ⟨(some 116), none, .q (.c (.fn (.func 30) [] [])) [(.t 115), (.c (i64 255))]⟩,
 ⟨(some 117), none, .p (.bin .add (.i .i64) (.c (i64 1)) (.t 116))⟩,
 ⟨(some 118), none, .p (.cvi .u8 (.t 117))⟩,
 ⟨(some 119), none, .p (.bin .xor (.i .u8) (.t 114) (.t 118))⟩,
 ⟨(some 120), none, .p (.ia 1 (.t 109) (.t 110))⟩,
 ⟨none, none, .e (.st 1 (.t 120) (.t 119))⟩])
 (.seq
 (.reg [
 ⟨(some 122), none, .p (.mov (.t 17))⟩,
 ⟨(some 123), none, .e (.call (.c (.fn (.func 32) [] [])) [(.t 122)])⟩,
 ⟨(some 121), none, .p (.mov (.t 123))⟩,
 ⟨(some 124), none, .p (.ext (.t 121) 0)⟩,
 ⟨(some 125), none, .p (.ext (.t 121) 1)⟩,
 ⟨none, none, .e (.st 2 (.t 20) (.t 125))⟩])
 (.seq
 (.seq
 (.reg [
 ⟨(some 126), none, .p (.fa 0 (.t 20))⟩,
 ⟨(some 127), none, .p (.ld1 (.t 126))⟩,
 ⟨(some 128), none, .p (.bin .eql (.i .i64) (.t 127) (.c (i64 0)))⟩,
 ⟨(some 129), none, .p (.mov (.t 128))⟩,
 ⟨(some 130), (some (129, false)), .p (.mov (.t 4))⟩,
 ⟨(some 131), (some (129, false)), .p (.len (.t 130))⟩,
 ⟨(some 132), (some (129, false)), .p (.bin .gtr (.i .i64) (.t 131) (.c (i64 60)))⟩,
 ⟨(some 133), none, .p (.pick (.t 129) (.c (bl true)) (.t 132))⟩])
 (.cond (.t 133)
 (.seq
 (.reg [
 ⟨(some 134), none, .p (.fa 0 (.t 20))⟩,
 ⟨(some 135), none, .p (.ld1 (.t 134))⟩,
 ⟨(some 136), none, .p (.bin .neq (.i .i64) (.t 135) (.c (i64 0)))⟩,
 ⟨(some 137), none, .p (.mov (.t 136))⟩,
 ⟨(some 138), (some (137, true)), .q (.c (.fn (.func 10) [] [])) []⟩,
 ⟨(some 139), none, .p (.pick (.t 137) (.t 138) (.c (bl false)))⟩,
 ⟨(some 10), none, .p (.mov (.t 139))⟩])
 .ret)
 .skip))
 (.seq
 (.reg [
 ⟨(some 140), none, .p (.mov (.t 4))⟩,
 ⟨(some 141), none, .e (.call (.c (.fn (.func 20) [] [])) [(.t 140)])⟩,
 ⟨(some 22), none, .p (.mov (.t 141))⟩])
 (.seq
 (.reg [
 ⟨(some 142), none, .e (.bsl 5 1 0 [.val (.int .u8 0)] [])⟩,
 ⟨(some 143), none, .p (.mov (.t 4))⟩,
 ⟨(some 144), none, .e (.app 5 1 1 (.t 142) (.t 143))⟩,
 ⟨(some 145), none, .p (.mov (.t 22))⟩,
 ⟨(some 146), none, .p (.bin .shr (.sh .i64 .u64) (.t 145) (.c (.val (.int .u64 24))))⟩,
 ⟨(some 147), none, .p (.cvi .u8 (.t 146))⟩,
 ⟨(some 148), none, .p (.mov (.t 22))⟩,
 ⟨(some 149), none, .p (.bin .shr (.sh .i64 .u64) (.t 148) (.c (.val (.int .u64 16))))⟩,
 ⟨(some 150), none, .p (.cvi .u8 (.t 149))⟩,
 ⟨(some 151), none, .p (.mov (.t 22))⟩,
 ⟨(some 152), none, .p (.bin .shr (.sh .i64 .u64) (.t 151) (.c (.val (.int .u64 8))))⟩,
 ⟨(some 153), none, .p (.cvi .u8 (.t 152))⟩,
 ⟨(some 154), none, .p (.mov (.t 22))⟩,
 ⟨(some 155), none, .p (.cvi .u8 (.t 154))⟩,
 ⟨(some 156), none, .e (.bsl 5 1 4 [.val (.int .u8 0)] [(0, (.t 147)), (1, (.t 150)), (2, (.t 153)), (3, (.t 155))])⟩,
 ⟨(some 157), none, .e (.app 5 1 1 (.t 144) (.t 156))⟩,
 ⟨(some 23), none, .p (.mov (.t 157))⟩])
 (.seq
 (.seq
 (.reg [
 ⟨(some 159), none, .p (.mov (.t 23))⟩,
 ⟨(some 160), none, .e (.call (.c (.fn (.func 32) [] [])) [(.t 159)])⟩,
 ⟨(some 158), none, .p (.mov (.t 160))⟩,
 ⟨(some 161), none, .p (.ext (.t 158) 0)⟩,
 ⟨(some 162), none, .p (.ext (.t 158) 1)⟩,
 ⟨none, none, .e (.st 2 (.t 19) (.t 161))⟩,
 ⟨none, none, .e (.st 2 (.t 20) (.t 162))⟩])
 (.seq
 (.reg [
 ⟨(some 163), none, .p (.fa 0 (.t 20))⟩,
 ⟨(some 164), none, .p (.ld1 (.t 163))⟩,
 ⟨(some 165), none, .p (.bin .eql (.i .i64) (.t 164) (.c (i64 0)))⟩])
 (.cond (.t 165)
 (.seq
 (.reg [
 ⟨(some 167), none, .p (.ldn 2 (.t 19))⟩,
 ⟨(some 168), none, .e (.call (.c (.fn (.func 13) [] [])) [(.t 167)])⟩,
 ⟨(some 166), none, .p (.mov (.t 168))⟩,
 ⟨(some 169), none, .p (.ext (.t 166) 0)⟩,
 ⟨(some 170), none, .p (.ext (.t 166) 1)⟩,
 ⟨(some 24), none, .p (.mov (.t 169))⟩,
 ⟨(some 25), none, .p (.mov (.t 170))⟩])
 (.seq
 (.reg [
 ⟨(some 171), none, .p (.mov (.t 25))⟩,
 ⟨(some 172), none, .p (.bin .neq (.i .i64) (.t 171) (.c (i64 0)))⟩,
 ⟨(some 173), none, .p (.mov (.t 172))⟩,
 ⟨(some 174), (some (173, false)), .p (.mov (.t 24))⟩,
 ⟨(some 175), (some (173, false)), .p (.mov (.t 23))⟩,
 ⟨(some 176), (some (173, false)), .q (.c (.fn (.func 15) [] [])) [(.t 174), (.t 175)]⟩,
 ⟨(some 177), (some (173, false)), .p (.not (.t 176))⟩,
 ⟨(some 178), none, .p (.pick (.t 173) (.c (bl true)) (.t 177))⟩])
 (.cond (.t 178)
 (.seq
 (.reg [
 ⟨(some 10), none, .p (.mov (.c (bl false)))⟩])
 .ret)
 .skip)))
 .skip)))
 (.seq
 (.reg [
 ⟨(some 180), none, .p (.mov (.t 23))⟩,
 ⟨(some 181), none, .e (.call (.c (.fn (.func 24) [] [])) [(.t 180)])⟩,
 ⟨(some 179), none, .p (.mov (.t 181))⟩,
 ⟨(some 182), none, .p (.ext (.t 179) 0)⟩,
 ⟨(some 183), none, .p (.ext (.t 179) 1)⟩,
 ⟨(some 26), none, .e (.alc 25 [i64 0, .val (.slice none 0 0), .val (.slice none 0 0)])⟩,
 ⟨none, none, .e (.st 3 (.t 26) (.t 182))⟩,
 ⟨none, none, .e (.st 2 (.t 20) (.t 183))⟩])
 (.seq
 (.seq
 (.reg [
 ⟨(some 184), none, .p (.fa 0 (.t 20))⟩,
 ⟨(some 185), none, .p (.ld1 (.t 184))⟩,
 ⟨(some 186), none, .p (.bin .eql (.i .i64) (.t 185) (.c (i64 0)))⟩])
 (.cond (.t 186)
 (.seq
 (.reg [
 ⟨(some 188), none, .p (.ldn 3 (.t 26))⟩,
 ⟨(some 189), none, .e (.call (.c (.fn (.func 11) [] [])) [(.t 188)])⟩,
 ⟨(some 187), none, .p (.mov (.t 189))⟩,
 ⟨(some 190), none, .p (.ext (.t 187) 0)⟩,
 ⟨(some 191), none, .p (.ext (.t 187) 1)⟩,
 ⟨(some 27), none, .p (.mov (.t 190))⟩,
 ⟨(some 28), none, .p (.mov (.t 191))⟩])
 (.seq
 (.reg [
 ⟨(some 192), none, .p (.mov (.t 28))⟩,
 ⟨(some 193), none, .p (.bin .neq (.i .i64) (.t 192) (.c (i64 0)))⟩,
 ⟨(some 194), none, .p (.mov (.t 193))⟩,
 ⟨(some 195), (some (194, false)), .p (.mov (.t 27))⟩,
 ⟨(some 196), (some (194, false)), .p (.mov (.t 23))⟩,
 ⟨(some 197), (some (194, false)), .q (.c (.fn (.func 15) [] [])) [(.t 195), (.t 196)]⟩,
 ⟨(some 198), (some (194, false)), .p (.not (.t 197))⟩,
 ⟨(some 199), none, .p (.pick (.t 194) (.c (bl true)) (.t 198))⟩])
 (.cond (.t 199)
 (.seq
 (.reg [
 ⟨(some 10), none, .p (.mov (.c (bl false)))⟩])
 .ret)
 .skip)))
 .skip))
 (.seq
 (.reg [
 ⟨(some 200), none, .e (.call (.c (.fn (.func 10) [] [])) [])⟩,
 ⟨(some 10), none, .p (.mov (.t 200))⟩])
 .ret)))))))))))))))))
def r9 : List RS := [.t 10]
theorem c9 : chkF Try.prog drawB Try.f9 i9 r9 = true := by kernel_rfl
/-- parlour/parlourlaw32.awake -/
def i10 : IC :=
 (.seq
 (.reg [
 ⟨(some 0), none, .p (.mov (.c (bl false)))⟩])
 (.seq
 (.reg [
 ⟨(some 6), none, .e (.call (.c (.fn (.func 27) [] [])) [])⟩,
 ⟨(some 7), none, .e (.call (.c (.fn (.func 11) [] [])) [(.t 6)])⟩,
 ⟨(some 5), none, .p (.mov (.t 7))⟩,
 ⟨(some 8), none, .p (.ext (.t 5) 0)⟩,
 ⟨(some 9), none, .p (.ext (.t 5) 1)⟩,
 ⟨(some 1), none, .p (.mov (.t 8))⟩,
 ⟨(some 2), none, .p (.mov (.t 9))⟩])
 (.seq
 (.reg [
 ⟨(some 11), none, .e (.bsl 3 1 2 [i64 0] [(0, (.c (i64 1))), (1, (.c (i64 1)))])⟩,
 ⟨(some 12), none, .e (.bsl 30 1 1 [.val (.slice none 0 0)] [(0, (.t 11))])⟩,
 ⟨(some 13), none, .p (.bld [i64 0, .val (.slice none 0 0)] [(0, 1, (.c (i64 1))), (1, 1, (.t 12))])⟩,
 ⟨(some 14), none, .e (.call (.c (.fn (.func 13) [] [])) [(.t 13)])⟩,
 ⟨(some 10), none, .p (.mov (.t 14))⟩,
 ⟨(some 15), none, .p (.ext (.t 10) 0)⟩,
 ⟨(some 16), none, .p (.ext (.t 10) 1)⟩,
 ⟨(some 3), none, .p (.mov (.t 15))⟩,
 ⟨(some 4), none, .p (.mov (.t 16))⟩])
 (.seq
 (.reg [
 ⟨(some 17), none, .e (.bsl 5 1 2 [.val (.int .u8 0)] [(0, (.c (.val (.int .u8 172)))), (1, (.c (.val (.int .u8 2))))])⟩,
 ⟨(some 18), none, .e (.call (.c (.fn (.func 22) [] [])) [(.c (i64 300)), (.t 17)])⟩,
 ⟨(some 19), none, .p (.mov (.t 18))⟩,
 ⟨(some 20), (some (19, true)), .e (.bsl 5 1 2 [.val (.int .u8 0)] [(0, (.c (.val (.int .u8 1)))), (1, (.c (.val (.int .u8 2))))])⟩,
 ⟨(some 21), (some (19, true)), .q (.c (.fn (.func 20) [] [])) [(.t 20)]⟩,
 ⟨(some 22), (some (19, true)), .p (.bin .eql (.i .i64) (.t 21) (.c (i64 393220)))⟩,
 ⟨(some 23), none, .p (.pick (.t 19) (.t 22) (.c (bl false)))⟩,
 ⟨(some 24), none, .p (.mov (.t 23))⟩,
 ⟨(some 25), (some (24, true)), .p (.mov (.t 2))⟩,
 ⟨(some 26), (some (24, true)), .p (.bin .eql (.i .i64) (.t 25) (.c (i64 0)))⟩,
 ⟨(some 27), none, .p (.pick (.t 24) (.t 26) (.c (bl false)))⟩,
 ⟨(some 28), none, .p (.mov (.t 27))⟩,
 ⟨(some 29), (some (28, true)), .p (.mov (.t 1))⟩,
 ⟨(some 30), (some (28, true)), .q (.c (.fn (.func 25) [] [])) []⟩,
 ⟨(some 31), (some (28, true)), .q (.c (.fn (.func 15) [] [])) [(.t 29), (.t 30)]⟩,
 ⟨(some 32), none, .p (.pick (.t 28) (.t 31) (.c (bl false)))⟩,
 ⟨(some 33), none, .p (.mov (.t 32))⟩,
 ⟨(some 34), (some (33, true)), .p (.mov (.t 4))⟩,
 ⟨(some 35), (some (33, true)), .p (.bin .eql (.i .i64) (.t 34) (.c (i64 0)))⟩,
 ⟨(some 36), none, .p (.pick (.t 33) (.t 35) (.c (bl false)))⟩,
 ⟨(some 37), none, .p (.mov (.t 36))⟩,
 ⟨(some 38), (some (37, true)), .p (.mov (.t 3))⟩,
 ⟨(some 39), (some (37, true)), .e (.bsl 5 1 12 [.val (.int .u8 0)] [(0, (.c (.val (.int .u8 80)))), (1, (.c (.val (.int .u8 84)))), (2, (.c (.val (.int .u8 1)))), (3, (.c (.val (.int .u8 1)))), (4, (.c (.val (.int .u8 1)))), (5, (.c (.val (.int .u8 2)))), (6, (.c (.val (.int .u8 1)))), (7, (.c (.val (.int .u8 1)))), (8, (.c (.val (.int .u8 4)))), (9, (.c (.val (.int .u8 236)))), (10, (.c (.val (.int .u8 0)))), (11, (.c (.val (.int .u8 172))))])⟩,
 ⟨(some 40), (some (37, true)), .q (.c (.fn (.func 15) [] [])) [(.t 38), (.t 39)]⟩,
 ⟨(some 41), none, .p (.pick (.t 37) (.t 40) (.c (bl false)))⟩,
 ⟨(some 0), none, .p (.mov (.t 41))⟩])
 .ret))))
def r10 : List RS := [.t 0]
theorem c10 : chkF Try.prog drawB Try.f10 i10 r10 = true := by kernel_rfl
def l11_0 : IC := .keep [1, 6, 35, 36, 37]
 (.seq
 (.reg [
 ⟨(some 38), none, .p (.bin .lss (.i .i64) (.t 37) (.t 36))⟩])
 (.seq
 (.cond (.t 38)
 .skip
 (.exit 0))
 (.seq
 (.blk 1
 (.seq
 (.reg [
 ⟨(some 39), none, .p (.ia 2 (.t 35) (.t 37))⟩,
 ⟨(some 40), none, .p (.ldn 2 (.t 39))⟩,
 ⟨(some 8), none, .e (.alc 72 [i64 0, i64 0])⟩,
 ⟨none, none, .e (.st 2 (.t 8) (.t 40))⟩])
 (.reg [
 ⟨(some 41), none, .p (.mov (.t 6))⟩,
 ⟨(some 42), none, .p (.fa 0 (.t 8))⟩,
 ⟨(some 43), none, .p (.ld1 (.t 42))⟩,
 ⟨(some 44), none, .p (.cvi .u8 (.t 43))⟩,
 ⟨(some 45), none, .p (.fa 1 (.t 8))⟩,
 ⟨(some 46), none, .p (.ld1 (.t 45))⟩,
 ⟨(some 47), none, .p (.cvi .u8 (.t 46))⟩,
 ⟨(some 48), none, .e (.bsl 5 1 2 [.val (.int .u8 0)] [(0, (.t 44)), (1, (.t 47))])⟩,
 ⟨(some 49), none, .e (.app 5 1 1 (.t 41) (.t 48))⟩,
 ⟨(some 6), none, .p (.mov (.t 49))⟩])))
 (.reg [
 ⟨(some 50), none, .p (.bin .add (.i .i64) (.t 37) (.c (i64 1)))⟩,
 ⟨(some 37), none, .p (.mov (.t 50))⟩]))))
def l11_2 : IC := .keep [6, 52, 53, 54, 76, 77, 78]
 (.seq
 (.reg [
 ⟨(some 79), none, .p (.bin .lss (.i .i64) (.t 78) (.t 77))⟩])
 (.seq
 (.cond (.t 79)
 .skip
 (.exit 5))
 (.seq
 (.blk 6
 (.seq
 (.reg [
 ⟨(some 80), none, .p (.ia 1 (.t 76) (.t 78))⟩,
 ⟨(some 81), none, .p (.ld1 (.t 80))⟩,
 ⟨(some 12), none, .p (.mov (.t 81))⟩])
 (.reg [
 ⟨(some 82), none, .p (.mov (.t 6))⟩,
 ⟨(some 83), none, .p (.mov (.t 12))⟩,
 ⟨(some 84), none, .e (.call (.c (.fn (.func 38) [] [])) [(.t 82), (.t 83)])⟩,
 ⟨(some 6), none, .p (.mov (.t 84))⟩])))
 (.reg [
 ⟨(some 85), none, .p (.bin .add (.i .i64) (.t 78) (.c (i64 1)))⟩,
 ⟨(some 78), none, .p (.mov (.t 85))⟩]))))
def l11_3 : IC := .keep [6, 52, 53, 54, 95, 96, 97]
 (.seq
 (.reg [
 ⟨(some 98), none, .p (.bin .lss (.i .i64) (.t 97) (.t 96))⟩])
 (.seq
 (.cond (.t 98)
 .skip
 (.exit 7))
 (.seq
 (.blk 8
 (.seq
 (.reg [
 ⟨(some 99), none, .p (.ia 1 (.t 95) (.t 97))⟩,
 ⟨(some 100), none, .p (.ld1 (.t 99))⟩,
 ⟨(some 14), none, .p (.mov (.t 100))⟩])
 (.reg [
 ⟨(some 101), none, .p (.mov (.t 6))⟩,
 ⟨(some 102), none, .p (.mov (.t 14))⟩,
 ⟨(some 103), none, .e (.call (.c (.fn (.func 39) [] [])) [(.t 101), (.t 102)])⟩,
 ⟨(some 6), none, .p (.mov (.t 103))⟩])))
 (.reg [
 ⟨(some 104), none, .p (.bin .add (.i .i64) (.t 97) (.c (i64 1)))⟩,
 ⟨(some 97), none, .p (.mov (.t 104))⟩]))))
def l11_1 : IC := .keep [6, 52, 53, 54]
 (.seq
 (.reg [
 ⟨(some 55), none, .p (.bin .lss (.i .i64) (.t 54) (.t 53))⟩])
 (.seq
 (.cond (.t 55)
 .skip
 (.exit 2))
 (.seq
 (.blk 3
 (.seq
 (.reg [
 ⟨(some 56), none, .p (.ia 6 (.t 52) (.t 54))⟩,
 ⟨(some 57), none, .p (.ldn 6 (.t 56))⟩,
 ⟨(some 10), none, .e (.alc 74 [i64 0, i64 0, i64 0, .val (.slice none 0 0), .val (.slice none 0 0), .val (.slice none 0 0)])⟩,
 ⟨none, none, .e (.st 6 (.t 10) (.t 57))⟩])
 (.seq
 (.reg [
 ⟨(some 58), none, .p (.mov (.t 6))⟩,
 ⟨(some 59), none, .p (.fa 0 (.t 10))⟩,
 ⟨(some 60), none, .p (.ld1 (.t 59))⟩,
 ⟨(some 61), none, .p (.cvi .u8 (.t 60))⟩,
 ⟨(some 62), none, .e (.bsl 5 1 1 [.val (.int .u8 0)] [(0, (.t 61))])⟩,
 ⟨(some 63), none, .e (.app 5 1 1 (.t 58) (.t 62))⟩,
 ⟨(some 6), none, .p (.mov (.t 63))⟩])
 (.seq
 (.reg [
 ⟨(some 64), none, .p (.fa 0 (.t 10))⟩,
 ⟨(some 65), none, .p (.ld1 (.t 64))⟩])
 (.blk 4
 (.seq
 (.reg [
 ⟨(some 67), none, .p (.bin .eql (.i .i64) (.t 65) (.c (i64 1)))⟩,
 ⟨(some 66), none, .p (.mov (.t 67))⟩])
 (.cond (.t 66)
 (.seq
 (.reg [
 ⟨(some 68), none, .p (.mov (.t 6))⟩,
 ⟨(some 69), none, .p (.fa 3 (.t 10))⟩,
 ⟨(some 70), none, .p (.ld1 (.t 69))⟩,
 ⟨(some 71), none, .p (.len (.t 70))⟩,
 ⟨(some 72), none, .p (.cvi .u8 (.t 71))⟩,
 ⟨(some 73), none, .e (.bsl 5 1 1 [.val (.int .u8 0)] [(0, (.t 72))])⟩,
 ⟨(some 74), none, .e (.app 5 1 1 (.t 68) (.t 73))⟩,
 ⟨(some 6), none, .p (.mov (.t 74))⟩])
 (.seq
 (.reg [
 ⟨(some 75), none, .p (.fa 4 (.t 10))⟩,
 ⟨(some 76), none, .p (.ld1 (.t 75))⟩,
 ⟨(some 77), none, .p (.len (.t 76))⟩,
 ⟨(some 78), none, .p (.mov (.c (i64 0)))⟩])
 (.blk 5
 (.loop l11_2))))
 (.seq
 (.reg [
 ⟨(some 87), none, .p (.bin .eql (.i .i64) (.t 65) (.c (i64 2)))⟩,
 ⟨(some 86), none, .p (.mov (.t 87))⟩])
 (.cond (.t 86)
 (.reg [
 ⟨(some 88), none, .p (.mov (.t 6))⟩,
 ⟨(some 89), none, .p (.fa 2 (.t 10))⟩,
 ⟨(some 90), none, .p (.ld1 (.t 89))⟩,
 ⟨(some 91), none, .e (.call (.c (.fn (.func 38) [] [])) [(.t 88), (.t 90)])⟩,
 ⟨(some 6), none, .p (.mov (.t 91))⟩])
 (.seq
 (.reg [
 ⟨(some 93), none, .p (.bin .eql (.i .i64) (.t 65) (.c (i64 3)))⟩,
 ⟨(some 92), none, .p (.mov (.t 93))⟩])
 (.cond (.t 92)
 (.seq
 (.reg [
 ⟨(some 94), none, .p (.fa 5 (.t 10))⟩,
 ⟨(some 95), none, .p (.ld1 (.t 94))⟩,
 ⟨(some 96), none, .p (.len (.t 95))⟩,
 ⟨(some 97), none, .p (.mov (.c (i64 0)))⟩])
 (.blk 7
 (.loop l11_3)))
 .skip)))))))))))
 (.reg [
 ⟨(some 105), none, .p (.bin .add (.i .i64) (.t 54) (.c (i64 1)))⟩,
 ⟨(some 54), none, .p (.mov (.t 105))⟩]))))
/-- parlour/pack.Game -/
def i11 : IC :=
 (.seq
 (.reg [
 ⟨(some 1), none, .e (.box 25 (.t 0))⟩,
 ⟨(some 2), none, .p (.mov (.c (.val (.slice none 0 0))))⟩,
 ⟨(some 3), none, .p (.mov (.c (i64 0)))⟩])
 (.seq
 (.seq
 (.reg [
 ⟨(some 15), none, .p (.ldn 3 (.t 1))⟩,
 ⟨(some 16), none, .e (.call (.c (.fn (.func 36) [] [])) [(.t 15)])⟩,
 ⟨(some 4), none, .p (.mov (.t 16))⟩])
 (.seq
 (.reg [
 ⟨(some 17), none, .p (.mov (.t 4))⟩,
 ⟨(some 18), none, .p (.bin .neq (.i .i64) (.t 17) (.c (i64 0)))⟩])
 (.cond (.t 18)
 (.seq
 (.reg [
 ⟨(some 19), none, .p (.mov (.t 4))⟩,
 ⟨(some 2), none, .p (.mov (.c (.val (.slice none 0 0))))⟩,
 ⟨(some 3), none, .p (.mov (.t 19))⟩])
 .ret)
 .skip)))
 (.seq
 (.reg [
 ⟨(some 20), none, .e (.call (.c (.fn (.func 37) [] [])) [(.c (.val (.int .u8 71)))])⟩,
 ⟨(some 5), none, .e (.alc 68 [.val (.int .u8 0), .val (.int .u8 0), .val (.int .u8 0)])⟩,
 ⟨none, none, .e (.st 3 (.t 5) (.t 20))⟩])
 (.seq
 (.reg [
 ⟨(some 21), none, .p (.sla 3 1 (.t 5) none none)⟩,
 ⟨(some 22), none, .e (.app 5 1 1 (.c (.val (.slice none 0 0))) (.t 21))⟩,
 ⟨(some 6), none, .p (.mov (.t 22))⟩])
 (.seq
 (.reg [
 ⟨(some 23), none, .p (.mov (.t 6))⟩,
 ⟨(some 24), none, .p (.fa 0 (.t 1))⟩,
 ⟨(some 25), none, .p (.ld1 (.t 24))⟩,
 ⟨(some 26), none, .p (.cvi .u8 (.t 25))⟩,
 ⟨(some 27), none, .e (.bsl 5 1 1 [.val (.int .u8 0)] [(0, (.t 26))])⟩,
 ⟨(some 28), none, .e (.app 5 1 1 (.t 23) (.t 27))⟩,
 ⟨(some 6), none, .p (.mov (.t 28))⟩])
 (.seq
 (.reg [
 ⟨(some 29), none, .p (.mov (.t 6))⟩,
 ⟨(some 30), none, .p (.fa 2 (.t 1))⟩,
 ⟨(some 31), none, .p (.ld1 (.t 30))⟩,
 ⟨(some 32), none, .p (.len (.t 31))⟩,
 ⟨(some 33), none, .e (.call (.c (.fn (.func 38) [] [])) [(.t 29), (.t 32)])⟩,
 ⟨(some 6), none, .p (.mov (.t 33))⟩])
 (.seq
 (.seq
 (.reg [
 ⟨(some 34), none, .p (.fa 2 (.t 1))⟩,
 ⟨(some 35), none, .p (.ld1 (.t 34))⟩,
 ⟨(some 36), none, .p (.len (.t 35))⟩,
 ⟨(some 37), none, .p (.mov (.c (i64 0)))⟩])
 (.blk 0
 (.loop l11_0)))
 (.seq
 (.seq
 (.reg [
 ⟨(some 51), none, .p (.fa 1 (.t 1))⟩,
 ⟨(some 52), none, .p (.ld1 (.t 51))⟩,
 ⟨(some 53), none, .p (.len (.t 52))⟩,
 ⟨(some 54), none, .p (.mov (.c (i64 0)))⟩])
 (.blk 2
 (.loop l11_1)))
 (.seq
 (.reg [
 ⟨(some 106), none, .p (.mov (.t 6))⟩,
 ⟨(some 107), none, .e (.call (.c (.fn (.func 40) [] [])) [(.t 106)])⟩,
 ⟨(some 2), none, .p (.mov (.t 107))⟩,
 ⟨(some 3), none, .p (.mov (.c (i64 0)))⟩])
 .ret)))))))))
def r11 : List RS := [.t 2, .t 3]
theorem c11 : chkF Try.prog drawB Try.f11 i11 r11 = true := by kernel_rfl
def l12_0 : IC := .keep [1, 5, 6]
 (.seq
 (.seq
 (.reg [
 ⟨(some 26), none, .p (.mov (.t 6))⟩,
 ⟨(some 27), none, .p (.fa 2 (.t 1))⟩,
 ⟨(some 28), none, .p (.ld1 (.t 27))⟩,
 ⟨(some 29), none, .p (.len (.t 28))⟩,
 ⟨(some 30), none, .p (.bin .lss (.i .i64) (.t 26) (.t 29))⟩])
 (.cond (.t 30)
 .skip
 (.exit 0)))
 (.seq
 (.blk 1
 (.drt 17 [0, 1, 2, 3, 4, 5, 6, 7, 8, 9, 10, 11, 12, 13, 14, 15, 16] [
 ⟨(some 33), none, .p (.mov (.t 5))⟩,
 ⟨(some 34), none, .p (.fa 2 (.t 1))⟩,
 ⟨(some 35), none, .p (.ld1 (.t 34))⟩,
 ⟨(some 36), none, .p (.mov (.t 6))⟩,
 ⟨(some 37), none, .p (.ia 2 (.t 35) (.t 36))⟩,
 ⟨(some 38), none, .p (.fa 0 (.t 37))⟩,
 ⟨(some 39), none, .p (.ld1 (.t 38))⟩,
 ⟨(some 40), none, .p (.cvi .u8 (.t 39))⟩,
 ⟨(some 41), none, .p (.fa 2 (.t 1))⟩,
 ⟨(some 42), none, .p (.ld1 (.t 41))⟩,
 ⟨(some 43), none, .p (.mov (.t 6))⟩,
 ⟨(some 44), none, .p (.ia 2 (.t 42) (.t 43))⟩,
 ⟨(some 45), none, .p (.fa 1 (.t 44))⟩,
 ⟨(some 46), none, .p (.ld1 (.t 45))⟩,
 ⟨(some 47), none, .p (.cvi .u8 (.t 46))⟩,
 ⟨(some 48), none, .e (.bsl 5 1 2 [.val (.int .u8 0)] [(0, (.t 40)), (1, (.t 47))])⟩,
 ⟨(some 49), none, .e (.app 5 1 1 (.t 33) (.t 48))⟩] [
 ⟨(some 5), none, .p (.mov (.t 49))⟩]))
 (.reg [
 ⟨(some 31), none, .p (.mov (.t 6))⟩,
 ⟨(some 32), none, .p (.bin .add (.i .i64) (.t 31) (.c (i64 1)))⟩,
 ⟨(some 6), none, .p (.mov (.t 32))⟩])))
def l12_2 : IC := .keep [1, 5, 7, 8, 9]
 (.seq
 (.seq
 (.reg [
 ⟨(some 101), none, .p (.mov (.t 9))⟩,
 ⟨(some 102), none, .p (.fa 4 (.t 8))⟩,
 ⟨(some 103), none, .p (.ld1 (.t 102))⟩,
 ⟨(some 104), none, .p (.len (.t 103))⟩,
 ⟨(some 105), none, .p (.bin .lss (.i .i64) (.t 101) (.t 104))⟩])
 (.cond (.t 105)
 .skip
 (.exit 7)))
 (.seq
 (.blk 8
 (.reg [
 ⟨(some 108), none, .p (.mov (.t 5))⟩,
 ⟨(some 109), none, .p (.fa 4 (.t 8))⟩,
 ⟨(some 110), none, .p (.ld1 (.t 109))⟩,
 ⟨(some 111), none, .p (.mov (.t 9))⟩,
 ⟨(some 112), none, .p (.ia 1 (.t 110) (.t 111))⟩,
 ⟨(some 113), none, .p (.ld1 (.t 112))⟩,
 ⟨(some 114), none, .e (.call (.c (.fn (.func 42) [] [])) [(.t 113)])⟩,
 ⟨(some 115), none, .e (.app 5 1 1 (.t 108) (.t 114))⟩,
 ⟨(some 5), none, .p (.mov (.t 115))⟩]))
 (.reg [
 ⟨(some 106), none, .p (.mov (.t 9))⟩,
 ⟨(some 107), none, .p (.bin .add (.i .i64) (.t 106) (.c (i64 1)))⟩,
 ⟨(some 9), none, .p (.mov (.t 107))⟩])))
def l12_3 : IC := .keep [1, 5, 7, 8, 10]
 (.seq
 (.seq
 (.reg [
 ⟨(some 70), none, .p (.mov (.t 10))⟩,
 ⟨(some 71), none, .p (.fa 5 (.t 8))⟩,
 ⟨(some 72), none, .p (.ld1 (.t 71))⟩,
 ⟨(some 73), none, .p (.len (.t 72))⟩,
 ⟨(some 74), none, .p (.bin .lss (.i .i64) (.t 70) (.t 73))⟩])
 (.cond (.t 74)
 .skip
 (.exit 5)))
 (.seq
 (.blk 6
 (.seq
 (.reg [
 ⟨(some 77), none, .p (.fa 5 (.t 8))⟩,
 ⟨(some 78), none, .p (.ld1 (.t 77))⟩,
 ⟨(some 79), none, .p (.mov (.t 10))⟩,
 ⟨(some 80), none, .p (.ia 1 (.t 78) (.t 79))⟩,
 ⟨(some 81), none, .p (.ld1 (.t 80))⟩,
 ⟨(some 82), none, .p (.bin .mul (.i .i64) (.c (i64 2)) (.t 81))⟩,
 ⟨(some 11), none, .p (.mov (.t 82))⟩])
 (.seq
 (.seq
 (.reg [
 ⟨(some 83), none, .p (.mov (.t 11))⟩,
 ⟨(some 84), none, .p (.bin .lss (.i .i64) (.t 83) (.c (i64 0)))⟩])
 (.cond (.t 84)
 (.reg [
 ⟨(some 85), none, .p (.mov (.t 11))⟩,
 ⟨(some 86), none, .p (.neg .i64 (.t 85))⟩,
 ⟨(some 87), none, .p (.bin .sub (.i .i64) (.t 86) (.c (i64 1)))⟩,
 ⟨(some 11), none, .p (.mov (.t 87))⟩])
 .skip))
 (.reg [
 ⟨(some 88), none, .p (.mov (.t 5))⟩,
 ⟨(some 89), none, .p (.mov (.t 11))⟩,
 ⟨(some 90), none, .e (.call (.c (.fn (.func 42) [] [])) [(.t 89)])⟩,
 ⟨(some 91), none, .e (.app 5 1 1 (.t 88) (.t 90))⟩,
 ⟨(some 5), none, .p (.mov (.t 91))⟩]))))
 (.reg [
 ⟨(some 75), none, .p (.mov (.t 10))⟩,
 ⟨(some 76), none, .p (.bin .add (.i .i64) (.t 75) (.c (i64 1)))⟩,
 ⟨(some 10), none, .p (.mov (.t 76))⟩])))
def l12_1 : IC := .keep [1, 5, 7]
 (.seq
 (.seq
 (.reg [
 ⟨(some 50), none, .p (.mov (.t 7))⟩,
 ⟨(some 51), none, .p (.fa 1 (.t 1))⟩,
 ⟨(some 52), none, .p (.ld1 (.t 51))⟩,
 ⟨(some 53), none, .p (.len (.t 52))⟩,
 ⟨(some 54), none, .p (.bin .lss (.i .i64) (.t 50) (.t 53))⟩])
 (.cond (.t 54)
 .skip
 (.exit 2)))
 (.seq
 (.blk 3
 (.seq
 (.reg [
 ⟨(some 57), none, .p (.fa 1 (.t 1))⟩,
 ⟨(some 58), none, .p (.ld1 (.t 57))⟩,
 ⟨(some 59), none, .p (.mov (.t 7))⟩,
 ⟨(some 60), none, .p (.ia 6 (.t 58) (.t 59))⟩,
 ⟨(some 61), none, .p (.ldn 6 (.t 60))⟩,
 ⟨(some 8), none, .e (.alc 74 [i64 0, i64 0, i64 0, .val (.slice none 0 0), .val (.slice none 0 0), .val (.slice none 0 0)])⟩,
 ⟨none, none, .e (.st 6 (.t 8) (.t 61))⟩])
 (.seq
 (.reg [
 ⟨(some 62), none, .p (.mov (.t 5))⟩,
 ⟨(some 63), none, .p (.fa 0 (.t 8))⟩,
 ⟨(some 64), none, .p (.ld1 (.t 63))⟩,
 ⟨(some 65), none, .p (.cvi .u8 (.t 64))⟩,
 ⟨(some 66), none, .e (.bsl 5 1 1 [.val (.int .u8 0)] [(0, (.t 65))])⟩,
 ⟨(some 67), none, .e (.app 5 1 1 (.t 62) (.t 66))⟩,
 ⟨(some 5), none, .p (.mov (.t 67))⟩])
 (.seq
 (.reg [
 ⟨(some 68), none, .p (.fa 0 (.t 8))⟩,
 ⟨(some 69), none, .p (.ld1 (.t 68))⟩])
 (.blk 4
 (.seq
 (.reg [
 ⟨(some 93), none, .p (.bin .eql (.i .i64) (.t 69) (.c (i64 1)))⟩,
 ⟨(some 92), none, .p (.mov (.t 93))⟩])
 (.cond (.t 92)
 (.seq
 (.reg [
 ⟨(some 94), none, .p (.mov (.t 5))⟩,
 ⟨(some 95), none, .p (.fa 3 (.t 8))⟩,
 ⟨(some 96), none, .p (.ld1 (.t 95))⟩,
 ⟨(some 97), none, .p (.len (.t 96))⟩,
 ⟨(some 98), none, .p (.cvi .u8 (.t 97))⟩,
 ⟨(some 99), none, .e (.bsl 5 1 1 [.val (.int .u8 0)] [(0, (.t 98))])⟩,
 ⟨(some 100), none, .e (.app 5 1 1 (.t 94) (.t 99))⟩,
 ⟨(some 5), none, .p (.mov (.t 100))⟩])
 (.seq
 (.reg [
 ⟨(some 9), none, .p (.mov (.c (i64 0)))⟩])
 (.blk 7
 (.loop l12_2))))
 (.seq
 (.reg [
 ⟨(some 117), none, .p (.bin .eql (.i .i64) (.t 69) (.c (i64 2)))⟩,
 ⟨(some 116), none, .p (.mov (.t 117))⟩])
 (.cond (.t 116)
 (.reg [
 ⟨(some 118), none, .p (.mov (.t 5))⟩,
 ⟨(some 119), none, .p (.fa 2 (.t 8))⟩,
 ⟨(some 120), none, .p (.ld1 (.t 119))⟩,
 ⟨(some 121), none, .e (.call (.c (.fn (.func 42) [] [])) [(.t 120)])⟩,
 ⟨(some 122), none, .e (.app 5 1 1 (.t 118) (.t 121))⟩,
 ⟨(some 5), none, .p (.mov (.t 122))⟩])
 (.seq
 (.reg [
 ⟨(some 10), none, .p (.mov (.c (i64 0)))⟩])
 (.blk 5
 (.loop l12_3))))))))))))
 (.reg [
 ⟨(some 55), none, .p (.mov (.t 7))⟩,
 ⟨(some 56), none, .p (.bin .add (.i .i64) (.t 55) (.c (i64 1)))⟩,
 ⟨(some 7), none, .p (.mov (.t 56))⟩])))
/-- parlour/parlourref32.Game -/
def i12 : IC :=
 (.seq
 (.reg [
 ⟨(some 1), none, .e (.box 25 (.t 0))⟩,
 ⟨(some 2), none, .p (.mov (.c (.val (.slice none 0 0))))⟩,
 ⟨(some 3), none, .p (.mov (.c (i64 0)))⟩])
 (.seq
 (.seq
 (.reg [
 ⟨(some 12), none, .p (.ldn 3 (.t 1))⟩,
 ⟨(some 13), none, .e (.call (.c (.fn (.func 41) [] [])) [(.t 12)])⟩,
 ⟨(some 4), none, .p (.mov (.t 13))⟩])
 (.seq
 (.reg [
 ⟨(some 14), none, .p (.mov (.t 4))⟩,
 ⟨(some 15), none, .p (.bin .neq (.i .i64) (.t 14) (.c (i64 0)))⟩])
 (.cond (.t 15)
 (.seq
 (.reg [
 ⟨(some 16), none, .p (.mov (.t 4))⟩,
 ⟨(some 2), none, .p (.mov (.c (.val (.slice none 0 0))))⟩,
 ⟨(some 3), none, .p (.mov (.t 16))⟩])
 .ret)
 .skip)))
 (.seq
 (.drw [0, 1, 2, 4, 5, 6, 7, 3, 8, 9] [
 ⟨(some 17), none, .p (.fa 0 (.t 1))⟩,
 ⟨(some 18), none, .p (.ld1 (.t 17))⟩,
 ⟨(some 19), none, .p (.cvi .u8 (.t 18))⟩,
 ⟨(some 21), none, .p (.fa 2 (.t 1))⟩,
 ⟨(some 22), none, .p (.ld1 (.t 21))⟩,
 ⟨(some 23), none, .p (.len (.t 22))⟩,
 ⟨(some 24), none, .q (.c (.fn (.func 42) [] [])) [(.t 23)]⟩,
 ⟨(some 20), none, .e (.bsl 5 1 4 [.val (.int .u8 0)] [(0, (.c (.val (.int .u8 80)))), (1, (.c (.val (.int .u8 71)))), (2, (.c (.val (.int .u8 1)))), (3, (.t 19))])⟩,
 ⟨(some 25), none, .e (.app 5 1 1 (.t 20) (.t 24))⟩,
 ⟨(some 5), none, .p (.mov (.t 25))⟩])
 (.seq
 (.seq
 (.reg [
 ⟨(some 6), none, .p (.mov (.c (i64 0)))⟩])
 (.blk 0
 (.loop l12_0)))
 (.seq
 (.seq
 (.reg [
 ⟨(some 7), none, .p (.mov (.c (i64 0)))⟩])
 (.blk 2
 (.loop l12_1)))
 (.seq
 (.reg [
 ⟨(some 123), none, .p (.mov (.t 5))⟩,
 ⟨(some 124), none, .e (.call (.c (.fn (.func 43) [] [])) [(.t 123)])⟩,
 ⟨(some 2), none, .p (.mov (.t 124))⟩,
 ⟨(some 3), none, .p (.mov (.c (i64 0)))⟩])
 .ret))))))
def r12 : List RS := [.t 2, .t 3]
theorem c12 : chkF Try.prog drawB Try.f12 i12 r12 = true := by kernel_rfl
def l13_1 : IC := .keep [6, 31, 32, 33, 43, 44, 45]
 (.seq
 (.reg [
 ⟨(some 46), none, .p (.bin .lss (.i .i64) (.t 45) (.t 44))⟩])
 (.seq
 (.cond (.t 46)
 .skip
 (.exit 2))
 (.seq
 (.blk 3
 (.seq
 (.reg [
 ⟨(some 47), none, .p (.ia 1 (.t 43) (.t 45))⟩,
 ⟨(some 48), none, .p (.ld1 (.t 47))⟩,
 ⟨(some 10), none, .p (.mov (.t 48))⟩])
 (.reg [
 ⟨(some 49), none, .p (.mov (.t 6))⟩,
 ⟨(some 50), none, .p (.mov (.t 10))⟩,
 ⟨(some 51), none, .e (.call (.c (.fn (.func 38) [] [])) [(.t 49), (.t 50)])⟩,
 ⟨(some 6), none, .p (.mov (.t 51))⟩])))
 (.reg [
 ⟨(some 52), none, .p (.bin .add (.i .i64) (.t 45) (.c (i64 1)))⟩,
 ⟨(some 45), none, .p (.mov (.t 52))⟩]))))
def l13_0 : IC := .keep [6, 31, 32, 33]
 (.seq
 (.reg [
 ⟨(some 34), none, .p (.bin .lss (.i .i64) (.t 33) (.t 32))⟩])
 (.seq
 (.cond (.t 34)
 .skip
 (.exit 0))
 (.seq
 (.blk 1
 (.seq
 (.reg [
 ⟨(some 35), none, .p (.ia 1 (.t 31) (.t 33))⟩,
 ⟨(some 36), none, .p (.ld1 (.t 35))⟩,
 ⟨(some 8), none, .p (.mov (.t 36))⟩])
 (.seq
 (.reg [
 ⟨(some 37), none, .p (.mov (.t 6))⟩,
 ⟨(some 38), none, .p (.mov (.t 8))⟩,
 ⟨(some 39), none, .p (.len (.t 38))⟩,
 ⟨(some 40), none, .p (.cvi .u8 (.t 39))⟩,
 ⟨(some 41), none, .e (.bsl 5 1 1 [.val (.int .u8 0)] [(0, (.t 40))])⟩,
 ⟨(some 42), none, .e (.app 5 1 1 (.t 37) (.t 41))⟩,
 ⟨(some 6), none, .p (.mov (.t 42))⟩])
 (.seq
 (.reg [
 ⟨(some 43), none, .p (.mov (.t 8))⟩,
 ⟨(some 44), none, .p (.len (.t 43))⟩,
 ⟨(some 45), none, .p (.mov (.c (i64 0)))⟩])
 (.blk 2
 (.loop l13_1))))))
 (.reg [
 ⟨(some 53), none, .p (.bin .add (.i .i64) (.t 33) (.c (i64 1)))⟩,
 ⟨(some 33), none, .p (.mov (.t 53))⟩]))))
/-- parlour/pack.Table -/
def i13 : IC :=
 (.seq
 (.reg [
 ⟨(some 1), none, .e (.box 28 (.t 0))⟩,
 ⟨(some 2), none, .p (.mov (.c (.val (.slice none 0 0))))⟩,
 ⟨(some 3), none, .p (.mov (.c (i64 0)))⟩])
 (.seq
 (.seq
 (.reg [
 ⟨(some 11), none, .p (.ldn 2 (.t 1))⟩,
 ⟨(some 12), none, .e (.call (.c (.fn (.func 44) [] [])) [(.t 11)])⟩,
 ⟨(some 4), none, .p (.mov (.t 12))⟩])
 (.seq
 (.reg [
 ⟨(some 13), none, .p (.mov (.t 4))⟩,
 ⟨(some 14), none, .p (.bin .neq (.i .i64) (.t 13) (.c (i64 0)))⟩])
 (.cond (.t 14)
 (.seq
 (.reg [
 ⟨(some 15), none, .p (.mov (.t 4))⟩,
 ⟨(some 2), none, .p (.mov (.c (.val (.slice none 0 0))))⟩,
 ⟨(some 3), none, .p (.mov (.t 15))⟩])
 .ret)
 .skip)))
 (.seq
 (.reg [
 ⟨(some 16), none, .e (.call (.c (.fn (.func 37) [] [])) [(.c (.val (.int .u8 84)))])⟩,
 ⟨(some 5), none, .e (.alc 68 [.val (.int .u8 0), .val (.int .u8 0), .val (.int .u8 0)])⟩,
 ⟨none, none, .e (.st 3 (.t 5) (.t 16))⟩])
 (.seq
 (.reg [
 ⟨(some 17), none, .p (.sla 3 1 (.t 5) none none)⟩,
 ⟨(some 18), none, .e (.app 5 1 1 (.c (.val (.slice none 0 0))) (.t 17))⟩,
 ⟨(some 6), none, .p (.mov (.t 18))⟩])
 (.seq
 (.reg [
 ⟨(some 19), none, .p (.mov (.t 6))⟩,
 ⟨(some 20), none, .p (.fa 0 (.t 1))⟩,
 ⟨(some 21), none, .p (.ld1 (.t 20))⟩,
 ⟨(some 22), none, .p (.cvi .u8 (.t 21))⟩,
 ⟨(some 23), none, .e (.bsl 5 1 1 [.val (.int .u8 0)] [(0, (.t 22))])⟩,
 ⟨(some 24), none, .e (.app 5 1 1 (.t 19) (.t 23))⟩,
 ⟨(some 6), none, .p (.mov (.t 24))⟩])
 (.seq
 (.reg [
 ⟨(some 25), none, .p (.mov (.t 6))⟩,
 ⟨(some 26), none, .p (.fa 1 (.t 1))⟩,
 ⟨(some 27), none, .p (.ld1 (.t 26))⟩,
 ⟨(some 28), none, .p (.len (.t 27))⟩,
 ⟨(some 29), none, .e (.call (.c (.fn (.func 38) [] [])) [(.t 25), (.t 28)])⟩,
 ⟨(some 6), none, .p (.mov (.t 29))⟩])
 (.seq
 (.seq
 (.reg [
 ⟨(some 30), none, .p (.fa 1 (.t 1))⟩,
 ⟨(some 31), none, .p (.ld1 (.t 30))⟩,
 ⟨(some 32), none, .p (.len (.t 31))⟩,
 ⟨(some 33), none, .p (.mov (.c (i64 0)))⟩])
 (.blk 0
 (.loop l13_0)))
 (.seq
 (.reg [
 ⟨(some 54), none, .p (.mov (.t 6))⟩,
 ⟨(some 55), none, .e (.call (.c (.fn (.func 40) [] [])) [(.t 54)])⟩,
 ⟨(some 2), none, .p (.mov (.t 55))⟩,
 ⟨(some 3), none, .p (.mov (.c (i64 0)))⟩])
 .ret))))))))
def r13 : List RS := [.t 2, .t 3]
theorem c13 : chkF Try.prog drawB Try.f13 i13 r13 = true := by kernel_rfl
def l14_1 : IC := .keep [1, 5, 6, 7]
 (.seq
 (.seq
 (.reg [
 ⟨(some 39), none, .p (.mov (.t 7))⟩,
 ⟨(some 40), none, .p (.fa 1 (.t 1))⟩,
 ⟨(some 41), none, .p (.ld1 (.t 40))⟩,
 ⟨(some 42), none, .p (.mov (.t 6))⟩,
 ⟨(some 43), none, .p (.ia 1 (.t 41) (.t 42))⟩,
 ⟨(some 44), none, .p (.ld1 (.t 43))⟩,
 ⟨(some 45), none, .p (.len (.t 44))⟩,
 ⟨(some 46), none, .p (.bin .lss (.i .i64) (.t 39) (.t 45))⟩])
 (.cond (.t 46)
 .skip
 (.exit 2)))
 (.seq
 (.blk 3
 (.reg [
 ⟨(some 49), none, .p (.mov (.t 5))⟩,
 ⟨(some 50), none, .p (.fa 1 (.t 1))⟩,
 ⟨(some 51), none, .p (.ld1 (.t 50))⟩,
 ⟨(some 52), none, .p (.mov (.t 6))⟩,
 ⟨(some 53), none, .p (.ia 1 (.t 51) (.t 52))⟩,
 ⟨(some 54), none, .p (.ld1 (.t 53))⟩,
 ⟨(some 55), none, .p (.mov (.t 7))⟩,
 ⟨(some 56), none, .p (.ia 1 (.t 54) (.t 55))⟩,
 ⟨(some 57), none, .p (.ld1 (.t 56))⟩,
 ⟨(some 58), none, .e (.call (.c (.fn (.func 42) [] [])) [(.t 57)])⟩,
 ⟨(some 59), none, .e (.app 5 1 1 (.t 49) (.t 58))⟩,
 ⟨(some 5), none, .p (.mov (.t 59))⟩]))
 (.reg [
 ⟨(some 47), none, .p (.mov (.t 7))⟩,
 ⟨(some 48), none, .p (.bin .add (.i .i64) (.t 47) (.c (i64 1)))⟩,
 ⟨(some 7), none, .p (.mov (.t 48))⟩])))
def l14_0 : IC := .keep [1, 5, 6]
 (.seq
 (.seq
 (.reg [
 ⟨(some 22), none, .p (.mov (.t 6))⟩,
 ⟨(some 23), none, .p (.fa 1 (.t 1))⟩,
 ⟨(some 24), none, .p (.ld1 (.t 23))⟩,
 ⟨(some 25), none, .p (.len (.t 24))⟩,
 ⟨(some 26), none, .p (.bin .lss (.i .i64) (.t 22) (.t 25))⟩])
 (.cond (.t 26)
 .skip
 (.exit 0)))
 (.seq
 (.blk 1
 (.seq
 (.reg [
 ⟨(some 29), none, .p (.mov (.t 5))⟩,
 ⟨(some 30), none, .p (.fa 1 (.t 1))⟩,
 ⟨(some 31), none, .p (.ld1 (.t 30))⟩,
 ⟨(some 32), none, .p (.mov (.t 6))⟩,
 ⟨(some 33), none, .p (.ia 1 (.t 31) (.t 32))⟩,
 ⟨(some 34), none, .p (.ld1 (.t 33))⟩,
 ⟨(some 35), none, .p (.len (.t 34))⟩,
 ⟨(some 36), none, .p (.cvi .u8 (.t 35))⟩,
 ⟨(some 37), none, .e (.bsl 5 1 1 [.val (.int .u8 0)] [(0, (.t 36))])⟩,
 ⟨(some 38), none, .e (.app 5 1 1 (.t 29) (.t 37))⟩,
 ⟨(some 5), none, .p (.mov (.t 38))⟩])
 (.seq
 (.reg [
 ⟨(some 7), none, .p (.mov (.c (i64 0)))⟩])
 (.blk 2
 (.loop l14_1)))))
 (.reg [
 ⟨(some 27), none, .p (.mov (.t 6))⟩,
 ⟨(some 28), none, .p (.bin .add (.i .i64) (.t 27) (.c (i64 1)))⟩,
 ⟨(some 6), none, .p (.mov (.t 28))⟩])))
/-- parlour/parlourref32.Table -/
def i14 : IC :=
 (.seq
 (.reg [
 ⟨(some 1), none, .e (.box 28 (.t 0))⟩,
 ⟨(some 2), none, .p (.mov (.c (.val (.slice none 0 0))))⟩,
 ⟨(some 3), none, .p (.mov (.c (i64 0)))⟩])
 (.seq
 (.seq
 (.reg [
 ⟨(some 8), none, .p (.ldn 2 (.t 1))⟩,
 ⟨(some 9), none, .e (.call (.c (.fn (.func 45) [] [])) [(.t 8)])⟩,
 ⟨(some 4), none, .p (.mov (.t 9))⟩])
 (.seq
 (.reg [
 ⟨(some 10), none, .p (.mov (.t 4))⟩,
 ⟨(some 11), none, .p (.bin .neq (.i .i64) (.t 10) (.c (i64 0)))⟩])
 (.cond (.t 11)
 (.seq
 (.reg [
 ⟨(some 12), none, .p (.mov (.t 4))⟩,
 ⟨(some 2), none, .p (.mov (.c (.val (.slice none 0 0))))⟩,
 ⟨(some 3), none, .p (.mov (.t 12))⟩])
 .ret)
 .skip)))
 (.seq
 (.drw [0, 1, 2, 4, 5, 6, 7, 3, 8, 9] [
 ⟨(some 13), none, .p (.fa 0 (.t 1))⟩,
 ⟨(some 14), none, .p (.ld1 (.t 13))⟩,
 ⟨(some 15), none, .p (.cvi .u8 (.t 14))⟩,
 ⟨(some 17), none, .p (.fa 1 (.t 1))⟩,
 ⟨(some 18), none, .p (.ld1 (.t 17))⟩,
 ⟨(some 19), none, .p (.len (.t 18))⟩,
 ⟨(some 20), none, .q (.c (.fn (.func 42) [] [])) [(.t 19)]⟩,
 ⟨(some 16), none, .e (.bsl 5 1 4 [.val (.int .u8 0)] [(0, (.c (.val (.int .u8 80)))), (1, (.c (.val (.int .u8 84)))), (2, (.c (.val (.int .u8 1)))), (3, (.t 15))])⟩,
 ⟨(some 21), none, .e (.app 5 1 1 (.t 16) (.t 20))⟩,
 ⟨(some 5), none, .p (.mov (.t 21))⟩])
 (.seq
 (.seq
 (.reg [
 ⟨(some 6), none, .p (.mov (.c (i64 0)))⟩])
 (.blk 0
 (.loop l14_0)))
 (.seq
 (.reg [
 ⟨(some 60), none, .p (.mov (.t 5))⟩,
 ⟨(some 61), none, .e (.call (.c (.fn (.func 43) [] [])) [(.t 60)])⟩,
 ⟨(some 2), none, .p (.mov (.t 61))⟩,
 ⟨(some 3), none, .p (.mov (.c (i64 0)))⟩])
 .ret)))))
def r14 : List RS := [.t 2, .t 3]
theorem c14 : chkF Try.prog drawB Try.f14 i14 r14 = true := by kernel_rfl
def l15_0 : IC := .keep [0, 1, 5]
 (.seq
 (.seq
 (.reg [
 ⟨(some 11), none, .p (.mov (.t 5))⟩,
 ⟨(some 12), none, .p (.mov (.t 0))⟩,
 ⟨(some 13), none, .p (.len (.t 12))⟩,
 ⟨(some 14), none, .p (.bin .lss (.i .i64) (.t 11) (.t 13))⟩])
 (.cond (.t 14)
 .skip
 (.exit 0)))
 (.seq
 (.blk 1
 (.seq
 (.drw [0, 1, 2, 3, 4, 5, 6, 7, 8] [
 ⟨(some 17), none, .p (.mov (.t 0))⟩,
 ⟨(some 18), none, .p (.mov (.t 5))⟩,
 ⟨(some 19), none, .p (.ia 1 (.t 17) (.t 18))⟩,
 ⟨(some 20), none, .p (.ld1 (.t 19))⟩,
 ⟨(some 21), none, .p (.mov (.t 1))⟩,
 ⟨(some 22), none, .p (.mov (.t 5))⟩,
 ⟨(some 23), none, .p (.ia 1 (.t 21) (.t 22))⟩,
 ⟨(some 24), none, .p (.ld1 (.t 23))⟩,
 ⟨(some 25), none, .p (.bin .neq (.i .u8) (.t 20) (.t 24))⟩])
 (.cond (.t 25)
 (.seq
 (.reg [
 ⟨(some 4), none, .p (.mov (.c (bl false)))⟩])
 .ret)
 .skip)))
 (.reg [
 ⟨(some 15), none, .p (.mov (.t 5))⟩,
 ⟨(some 16), none, .p (.bin .add (.i .i64) (.t 15) (.c (i64 1)))⟩,
 ⟨(some 5), none, .p (.mov (.t 16))⟩])))
/-- parlour/parlourkit.Alike(byte) -/
def i15 : IC :=
 (.seq
 (.reg [
 ⟨(some 4), none, .p (.mov (.c (bl false)))⟩])
 (.seq
 (.seq
 (.reg [
 ⟨(some 6), none, .p (.mov (.t 0))⟩,
 ⟨(some 7), none, .p (.len (.t 6))⟩,
 ⟨(some 8), none, .p (.mov (.t 1))⟩,
 ⟨(some 9), none, .p (.len (.t 8))⟩,
 ⟨(some 10), none, .p (.bin .neq (.i .i64) (.t 7) (.t 9))⟩])
 (.cond (.t 10)
 (.seq
 (.reg [
 ⟨(some 4), none, .p (.mov (.c (bl false)))⟩])
 .ret)
 .skip))
 (.seq
 (.seq
 (.reg [
 ⟨(some 5), none, .p (.mov (.c (i64 0)))⟩])
 (.blk 0
 (.loop l15_0)))
 (.seq
 (.reg [
 ⟨(some 4), none, .p (.mov (.c (bl true)))⟩])
 .ret))))
def r15 : List RS := [.t 4]
theorem c15 : chkF Try.prog drawB Try.f15 i15 r15 = true := by kernel_rfl
/-- parlour/pack.Put -/
def i16 : IC :=
 (.seq
 (.reg [
 ⟨(some 2), none, .p (.mov (.c (.val (.slice none 0 0))))⟩,
 ⟨(some 3), none, .p (.mov (.c (i64 0)))⟩])
 (.seq
 (.seq
 (.reg [
 ⟨(some 4), none, .p (.mov (.t 0))⟩,
 ⟨(some 5), none, .p (.bin .lss (.i .i64) (.t 4) (.c (i64 0)))⟩,
 ⟨(some 6), none, .p (.mov (.t 5))⟩,
 ⟨(some 7), (some (6, false)), .p (.mov (.t 0))⟩,
 ⟨(some 8), (some (6, false)), .p (.bin .gtr (.i .i64) (.t 7) (.c (i64 4611686018427387903)))⟩,
 ⟨(some 9), none, .p (.pick (.t 6) (.c (bl true)) (.t 8))⟩])
 (.cond (.t 9)
 (.seq
 (.reg [
 ⟨(some 2), none, .p (.mov (.c (.val (.slice none 0 0))))⟩,
 ⟨(some 3), none, .p (.mov (.c (i64 2)))⟩])
 .ret)
 .skip))
 (.seq
 (.reg [
 ⟨(some 10), none, .p (.mov (.t 0))⟩,
 ⟨(some 11), none, .e (.call (.c (.fn (.func 38) [] [])) [(.c (.val (.slice none 0 0))), (.t 10)])⟩,
 ⟨(some 2), none, .p (.mov (.t 11))⟩,
 ⟨(some 3), none, .p (.mov (.c (i64 0)))⟩])
 .ret)))
def r16 : List RS := [.t 2, .t 3]
theorem c16 : chkF Try.prog drawB Try.f16 i16 r16 = true := by kernel_rfl
/-- parlour/parlourref32.Put -/
def i17 : IC :=
 (.seq
 (.reg [
 ⟨(some 2), none, .p (.mov (.c (.val (.slice none 0 0))))⟩,
 ⟨(some 3), none, .p (.mov (.c (i64 0)))⟩])
 (.seq
 (.seq
 (.reg [
 ⟨(some 4), none, .p (.mov (.t 0))⟩,
 ⟨(some 5), none, .p (.bin .lss (.i .i64) (.t 4) (.c (i64 0)))⟩,
 ⟨(some 6), none, .p (.mov (.t 5))⟩,
 ⟨(some 7), (some (6, false)), .p (.mov (.t 0))⟩,
 ⟨(some 8), (some (6, false)), .p (.bin .geq (.i .i64) (.t 7) (.c (i64 4611686018427387904)))⟩,
 ⟨(some 9), none, .p (.pick (.t 6) (.c (bl true)) (.t 8))⟩])
 (.cond (.t 9)
 (.seq
 (.reg [
 ⟨(some 2), none, .p (.mov (.c (.val (.slice none 0 0))))⟩,
 ⟨(some 3), none, .p (.mov (.c (i64 2)))⟩])
 .ret)
 .skip))
 (.seq
 (.reg [
 ⟨(some 10), none, .p (.mov (.t 0))⟩,
 ⟨(some 11), none, .e (.call (.c (.fn (.func 42) [] [])) [(.t 10)])⟩,
 ⟨(some 2), none, .p (.mov (.t 11))⟩,
 ⟨(some 3), none, .p (.mov (.c (i64 0)))⟩])
 .ret)))
def r17 : List RS := [.t 2, .t 3]
theorem c17 : chkF Try.prog drawB Try.f17 i17 r17 = true := by kernel_rfl
def l18_0 : IC := .keep [0, 1, 4, 17]
 (.seq
 (.reg [
 ⟨(some 18), none, .p (.bin .lss (.i .i64) (.t 17) (.c (i64 9)))⟩])
 (.seq
 (.cond (.t 18)
 .skip
 (.exit 0))
 (.seq
 (.blk 1
 (.seq
 (.reg [
 ⟨(some 19), none, .p (.mov (.t 17))⟩,
 ⟨(some 7), none, .p (.mov (.t 19))⟩])
 (.seq
 (.seq
 (.reg [
 ⟨(some 20), none, .p (.mov (.t 1))⟩,
 ⟨(some 21), none, .p (.mov (.t 7))⟩,
 ⟨(some 22), none, .p (.bin .add (.i .i64) (.t 20) (.t 21))⟩,
 ⟨(some 23), none, .p (.mov (.t 0))⟩,
 ⟨(some 24), none, .p (.len (.t 23))⟩,
 ⟨(some 25), none, .p (.bin .eql (.i .i64) (.t 22) (.t 24))⟩])
 (.cond (.t 25)
 (.seq
 (.reg [
 ⟨(some 4), none, .p (.mov (.c (i64 0)))⟩,
 ⟨(some 5), none, .p (.mov (.c (i64 0)))⟩,
 ⟨(some 6), none, .p (.mov (.c (i64 16)))⟩])
 .ret)
 .skip))
 (.seq
 (.reg [
 ⟨(some 26), none, .p (.mov (.t 0))⟩,
 ⟨(some 27), none, .p (.mov (.t 1))⟩,
 ⟨(some 28), none, .p (.mov (.t 7))⟩,
 ⟨(some 29), none, .p (.bin .add (.i .i64) (.t 27) (.t 28))⟩,
 ⟨(some 30), none, .p (.ia 1 (.t 26) (.t 29))⟩,
 ⟨(some 31), none, .p (.ld1 (.t 30))⟩,
 ⟨(some 32), none, .p (.cvi .i64 (.t 31))⟩,
 ⟨(some 8), none, .p (.mov (.t 32))⟩])
 (.seq
 (.reg [
 ⟨(some 33), none, .p (.mov (.t 4))⟩,
 ⟨(some 34), none, .p (.mov (.t 8))⟩,
 ⟨(some 35), none, .p (.bin .and (.i .i64) (.t 34) (.c (i64 127)))⟩,
 ⟨(some 36), none, .p (.mov (.t 7))⟩,
 ⟨(some 37), none, .p (.bin .mul (.i .i64) (.c (i64 7)) (.t 36))⟩,
 ⟨(some 38), none, .p (.bin .shl (.sh .i64 .i64) (.t 35) (.t 37))⟩,
 ⟨(some 39), none, .p (.bin .add (.i .i64) (.t 33) (.t 38))⟩,
 ⟨(some 4), none, .p (.mov (.t 39))⟩])
 (.seq
 (.seq
 (.reg [
 ⟨(some 40), none, .p (.mov (.t 8))⟩,
 ⟨(some 41), none, .p (.bin .gtr (.i .i64) (.t 40) (.c (i64 127)))⟩])
 (.cond (.t 41)
 (.exit 1)
 .skip))
 (.seq
 (.seq
 (.reg [
 ⟨(some 42), none, .p (.mov (.t 4))⟩,
 ⟨(some 43), none, .p (.bin .gtr (.i .i64) (.t 42) (.c (i64 4611686018427387903)))⟩,
 ⟨(some 44), none, .p (.mov (.t 43))⟩,
 ⟨(some 45), (some (44, false)), .p (.mov (.t 8))⟩,
 ⟨(some 46), (some (44, false)), .p (.bin .eql (.i .i64) (.t 45) (.c (i64 0)))⟩,
 ⟨(some 47), (some (44, false)), .p (.mov (.t 46))⟩,
 ⟨(some 48), (some (47, true)), .p (.mov (.t 7))⟩,
 ⟨(some 49), (some (47, true)), .p (.bin .gtr (.i .i64) (.t 48) (.c (i64 0)))⟩,
 ⟨(some 50), (some (44, false)), .p (.pick (.t 47) (.t 49) (.c (bl false)))⟩,
 ⟨(some 51), none, .p (.pick (.t 44) (.c (bl true)) (.t 50))⟩])
 (.cond (.t 51)
 (.seq
 (.reg [
 ⟨(some 4), none, .p (.mov (.c (i64 0)))⟩,
 ⟨(some 5), none, .p (.mov (.c (i64 0)))⟩,
 ⟨(some 6), none, .p (.mov (.c (i64 3)))⟩])
 .ret)
 .skip))
 (.seq
 (.reg [
 ⟨(some 52), none, .p (.mov (.t 4))⟩,
 ⟨(some 53), none, .p (.mov (.t 1))⟩,
 ⟨(some 54), none, .p (.mov (.t 7))⟩,
 ⟨(some 55), none, .p (.bin .add (.i .i64) (.t 53) (.t 54))⟩,
 ⟨(some 56), none, .p (.bin .add (.i .i64) (.t 55) (.c (i64 1)))⟩,
 ⟨(some 4), none, .p (.mov (.t 52))⟩,
 ⟨(some 5), none, .p (.mov (.t 56))⟩,
 ⟨(some 6), none, .p (.mov (.c (i64 0)))⟩])
 .ret))))))))
 (.reg [
 ⟨(some 57), none, .p (.bin .add (.i .i64) (.t 17) (.c (i64 1)))⟩,
 ⟨(some 17), none, .p (.mov (.t 57))⟩]))))
/-- parlour/pack.Get -/
def i18 : IC :=
 (.seq
 (.reg [
 ⟨(some 4), none, .p (.mov (.c (i64 0)))⟩,
 ⟨(some 5), none, .p (.mov (.c (i64 0)))⟩,
 ⟨(some 6), none, .p (.mov (.c (i64 0)))⟩])
 (.seq
 (.seq
 (.reg [
 ⟨(some 9), none, .p (.mov (.t 1))⟩,
 ⟨(some 10), none, .p (.bin .lss (.i .i64) (.t 9) (.c (i64 0)))⟩,
 ⟨(some 11), none, .p (.mov (.t 10))⟩,
 ⟨(some 12), (some (11, false)), .p (.mov (.t 1))⟩,
 ⟨(some 13), (some (11, false)), .p (.mov (.t 0))⟩,
 ⟨(some 14), (some (11, false)), .p (.len (.t 13))⟩,
 ⟨(some 15), (some (11, false)), .p (.bin .gtr (.i .i64) (.t 12) (.t 14))⟩,
 ⟨(some 16), none, .p (.pick (.t 11) (.c (bl true)) (.t 15))⟩])
 (.cond (.t 16)
 (.seq
 (.reg [
 ⟨(some 4), none, .p (.mov (.c (i64 0)))⟩,
 ⟨(some 5), none, .p (.mov (.c (i64 0)))⟩,
 ⟨(some 6), none, .p (.mov (.c (i64 2)))⟩])
 .ret)
 .skip))
 (.seq
 (.seq
 (.reg [
 ⟨(some 17), none, .p (.mov (.c (i64 0)))⟩])
 (.blk 0
 (.loop l18_0)))
 (.seq
 (.reg [
 ⟨(some 4), none, .p (.mov (.c (i64 0)))⟩,
 ⟨(some 5), none, .p (.mov (.c (i64 0)))⟩,
 ⟨(some 6), none, .p (.mov (.c (i64 3)))⟩])
 .ret))))
def r18 : List RS := [.t 4, .t 5, .t 6]
theorem c18 : chkF Try.prog drawB Try.f18 i18 r18 = true := by kernel_rfl
def l19_0 : IC := .keep [0, 1, 4, 7, 8]
 (.seq
 (.seq
 (.reg [
 ⟨(some 18), none, .p (.mov (.t 8))⟩,
 ⟨(some 19), none, .p (.mov (.t 1))⟩,
 ⟨(some 20), none, .p (.bin .add (.i .i64) (.t 19) (.c (i64 9)))⟩,
 ⟨(some 21), none, .p (.bin .lss (.i .i64) (.t 18) (.t 20))⟩])
 (.cond (.t 21)
 .skip
 (.exit 0)))
 (.seq
 (.blk 1
 (.seq
 (.seq
 (.reg [
 ⟨(some 24), none, .p (.mov (.t 8))⟩,
 ⟨(some 25), none, .p (.mov (.t 0))⟩,
 ⟨(some 26), none, .p (.len (.t 25))⟩,
 ⟨(some 27), none, .p (.bin .geq (.i .i64) (.t 24) (.t 26))⟩])
 (.cond (.t 27)
 (.seq
 (.reg [
 ⟨(some 4), none, .p (.mov (.c (i64 0)))⟩,
 ⟨(some 5), none, .p (.mov (.c (i64 0)))⟩,
 ⟨(some 6), none, .p (.mov (.c (i64 16)))⟩])
 .ret)
 .skip))
 (.seq
 (.seq
 (.reg [
 ⟨(some 28), none, .p (.mov (.t 0))⟩,
 ⟨(some 29), none, .p (.mov (.t 8))⟩,
 ⟨(some 30), none, .p (.ia 1 (.t 28) (.t 29))⟩,
 ⟨(some 31), none, .p (.ld1 (.t 30))⟩,
 ⟨(some 32), none, .p (.bin .gtr (.i .u8) (.t 31) (.c (.val (.int .u8 127))))⟩])
 (.cond (.t 32)
 (.seq
 (.reg [
 ⟨(some 33), none, .p (.mov (.t 4))⟩,
 ⟨(some 34), none, .p (.mov (.t 7))⟩,
 ⟨(some 35), none, .p (.mov (.t 0))⟩,
 ⟨(some 36), none, .p (.mov (.t 8))⟩,
 ⟨(some 37), none, .p (.ia 1 (.t 35) (.t 36))⟩,
 ⟨(some 38), none, .p (.ld1 (.t 37))⟩,
 ⟨(some 39), none, .p (.bin .sub (.i .u8) (.t 38) (.c (.val (.int .u8 128))))⟩,
 ⟨(some 40), none, .p (.cvi .i64 (.t 39))⟩,
 ⟨(some 41), none, .p (.bin .mul (.i .i64) (.t 34) (.t 40))⟩,
 ⟨(some 42), none, .p (.bin .add (.i .i64) (.t 33) (.t 41))⟩,
 ⟨(some 4), none, .p (.mov (.t 42))⟩])
 (.seq
 (.seq
 (.reg [
 ⟨(some 43), none, .p (.mov (.t 8))⟩,
 ⟨(some 44), none, .p (.mov (.t 1))⟩,
 ⟨(some 45), none, .p (.bin .add (.i .i64) (.t 44) (.c (i64 8)))⟩,
 ⟨(some 46), none, .p (.bin .lss (.i .i64) (.t 43) (.t 45))⟩])
 (.cond (.t 46)
 (.reg [
 ⟨(some 47), none, .p (.mov (.t 7))⟩,
 ⟨(some 48), none, .p (.bin .mul (.i .i64) (.t 47) (.c (i64 128)))⟩,
 ⟨(some 7), none, .p (.mov (.t 48))⟩])
 .skip))
 (.exit 1)))
 .skip))
 (.seq
 (.seq
 (.reg [
 ⟨(some 49), none, .p (.mov (.t 0))⟩,
 ⟨(some 50), none, .p (.mov (.t 8))⟩,
 ⟨(some 51), none, .p (.ia 1 (.t 49) (.t 50))⟩,
 ⟨(some 52), none, .p (.ld1 (.t 51))⟩,
 ⟨(some 53), none, .p (.bin .eql (.i .u8) (.t 52) (.c (.val (.int .u8 0))))⟩,
 ⟨(some 54), none, .p (.mov (.t 53))⟩,
 ⟨(some 55), (some (54, true)), .p (.mov (.t 8))⟩,
 ⟨(some 56), (some (54, true)), .p (.mov (.t 1))⟩,
 ⟨(some 57), (some (54, true)), .p (.bin .gtr (.i .i64) (.t 55) (.t 56))⟩,
 ⟨(some 58), none, .p (.pick (.t 54) (.t 57) (.c (bl false)))⟩,
 ⟨(some 59), none, .p (.mov (.t 58))⟩,
 ⟨(some 60), (some (59, false)), .p (.mov (.t 8))⟩,
 ⟨(some 61), (some (59, false)), .p (.mov (.t 1))⟩,
 ⟨(some 62), (some (59, false)), .p (.bin .add (.i .i64) (.t 61) (.c (i64 8)))⟩,
 ⟨(some 63), (some (59, false)), .p (.bin .eql (.i .i64) (.t 60) (.t 62))⟩,
 ⟨(some 64), (some (59, false)), .p (.mov (.t 63))⟩,
 ⟨(some 65), (some (64, true)), .p (.mov (.t 0))⟩,
 ⟨(some 66), (some (64, true)), .p (.mov (.t 8))⟩,
 ⟨(some 67), (some (64, true)), .p (.ia 1 (.t 65) (.t 66))⟩,
 ⟨(some 68), (some (64, true)), .p (.ld1 (.t 67))⟩,
 ⟨(some 69), (some (64, true)), .p (.bin .gtr (.i .u8) (.t 68) (.c (.val (.int .u8 63))))⟩,
 ⟨(some 70), (some (59, false)), .p (.pick (.t 64) (.t 69) (.c (bl false)))⟩,
 ⟨(some 71), none, .p (.pick (.t 59) (.c (bl true)) (.t 70))⟩])
 (.cond (.t 71)
 (.seq
 (.reg [
 ⟨(some 4), none, .p (.mov (.c (i64 0)))⟩,
 ⟨(some 5), none, .p (.mov (.c (i64 0)))⟩,
 ⟨(some 6), none, .p (.mov (.c (i64 3)))⟩])
 .ret)
 .skip))
 (.seq
 (.reg [
 ⟨(some 72), none, .p (.mov (.t 4))⟩,
 ⟨(some 73), none, .p (.mov (.t 7))⟩,
 ⟨(some 74), none, .p (.mov (.t 0))⟩,
 ⟨(some 75), none, .p (.mov (.t 8))⟩,
 ⟨(some 76), none, .p (.ia 1 (.t 74) (.t 75))⟩,
 ⟨(some 77), none, .p (.ld1 (.t 76))⟩,
 ⟨(some 78), none, .p (.cvi .i64 (.t 77))⟩,
 ⟨(some 79), none, .p (.bin .mul (.i .i64) (.t 73) (.t 78))⟩,
 ⟨(some 80), none, .p (.bin .add (.i .i64) (.t 72) (.t 79))⟩,
 ⟨(some 81), none, .p (.mov (.t 8))⟩,
 ⟨(some 82), none, .p (.bin .add (.i .i64) (.t 81) (.c (i64 1)))⟩,
 ⟨(some 4), none, .p (.mov (.t 80))⟩,
 ⟨(some 5), none, .p (.mov (.t 82))⟩,
 ⟨(some 6), none, .p (.mov (.c (i64 0)))⟩])
 .ret)))))
 (.reg [
 ⟨(some 22), none, .p (.mov (.t 8))⟩,
 ⟨(some 23), none, .p (.bin .add (.i .i64) (.t 22) (.c (i64 1)))⟩,
 ⟨(some 8), none, .p (.mov (.t 23))⟩])))
/-- parlour/parlourref32.Get -/
def i19 : IC :=
 (.seq
 (.reg [
 ⟨(some 4), none, .p (.mov (.c (i64 0)))⟩,
 ⟨(some 5), none, .p (.mov (.c (i64 0)))⟩,
 ⟨(some 6), none, .p (.mov (.c (i64 0)))⟩])
 (.seq
 (.seq
 (.reg [
 ⟨(some 9), none, .p (.mov (.t 1))⟩,
 ⟨(some 10), none, .p (.bin .lss (.i .i64) (.t 9) (.c (i64 0)))⟩,
 ⟨(some 11), none, .p (.mov (.t 10))⟩,
 ⟨(some 12), (some (11, false)), .p (.mov (.t 1))⟩,
 ⟨(some 13), (some (11, false)), .p (.mov (.t 0))⟩,
 ⟨(some 14), (some (11, false)), .p (.len (.t 13))⟩,
 ⟨(some 15), (some (11, false)), .p (.bin .gtr (.i .i64) (.t 12) (.t 14))⟩,
 ⟨(some 16), none, .p (.pick (.t 11) (.c (bl true)) (.t 15))⟩])
 (.cond (.t 16)
 (.seq
 (.reg [
 ⟨(some 4), none, .p (.mov (.c (i64 0)))⟩,
 ⟨(some 5), none, .p (.mov (.c (i64 0)))⟩,
 ⟨(some 6), none, .p (.mov (.c (i64 2)))⟩])
 .ret)
 .skip))
 (.seq
 (.reg [
 ⟨(some 7), none, .p (.mov (.c (i64 1)))⟩])
 (.seq
 (.seq
 (.reg [
 ⟨(some 17), none, .p (.mov (.t 1))⟩,
 ⟨(some 8), none, .p (.mov (.t 17))⟩])
 (.blk 0
 (.loop l19_0)))
 (.seq
 (.reg [
 ⟨(some 4), none, .p (.mov (.c (i64 0)))⟩,
 ⟨(some 5), none, .p (.mov (.c (i64 0)))⟩,
 ⟨(some 6), none, .p (.mov (.c (i64 3)))⟩])
 .ret)))))
def r19 : List RS := [.t 4, .t 5, .t 6]
theorem c19 : chkF Try.prog drawB Try.f19 i19 r19 = true := by kernel_rfl
def l20_0 : IC := .keep [3, 4, 7, 8, 9]
 (.seq
 (.reg [
 ⟨(some 10), none, .p (.bin .lss (.i .i64) (.t 9) (.t 8))⟩])
 (.seq
 (.cond (.t 10)
 .skip
 (.exit 0))
 (.seq
 (.blk 1
 (.seq
 (.reg [
 ⟨(some 11), none, .p (.ia 1 (.t 7) (.t 9))⟩,
 ⟨(some 12), none, .p (.ld1 (.t 11))⟩,
 ⟨(some 6), none, .p (.mov (.t 12))⟩])
 (.seq
 (.reg [
 ⟨(some 13), none, .p (.mov (.t 3))⟩,
 ⟨(some 14), none, .p (.mov (.t 6))⟩,
 ⟨(some 15), none, .p (.cvi .i64 (.t 14))⟩,
 ⟨(some 16), none, .p (.bin .add (.i .i64) (.t 13) (.t 15))⟩,
 ⟨(some 17), none, .p (.bin .rem (.i .i64) (.t 16) (.c (i64 65521)))⟩,
 ⟨(some 3), none, .p (.mov (.t 17))⟩])
 (.reg [
 ⟨(some 18), none, .p (.mov (.t 4))⟩,
 ⟨(some 19), none, .p (.mov (.t 3))⟩,
 ⟨(some 20), none, .p (.bin .add (.i .i64) (.t 18) (.t 19))⟩,
 ⟨(some 21), none, .p (.bin .rem (.i .i64) (.t 20) (.c (i64 65521)))⟩,
 ⟨(some 4), none, .p (.mov (.t 21))⟩]))))
 (.reg [
 ⟨(some 22), none, .p (.bin .add (.i .i64) (.t 9) (.c (i64 1)))⟩,
 ⟨(some 9), none, .p (.mov (.t 22))⟩]))))
/-- parlour/pack.Sum -/
def i20 : IC :=
 (.seq
 (.reg [
 ⟨(some 2), none, .p (.mov (.c (i64 0)))⟩])
 (.seq
 (.reg [
 ⟨(some 3), none, .p (.mov (.c (i64 1)))⟩,
 ⟨(some 4), none, .p (.mov (.c (i64 0)))⟩])
 (.seq
 (.seq
 (.reg [
 ⟨(some 7), none, .p (.mov (.t 0))⟩,
 ⟨(some 8), none, .p (.len (.t 7))⟩,
 ⟨(some 9), none, .p (.mov (.c (i64 0)))⟩])
 (.blk 0
 (.loop l20_0)))
 (.seq
 (.reg [
 ⟨(some 23), none, .p (.mov (.t 4))⟩,
 ⟨(some 24), none, .p (.bin .shl (.sh .i64 .u64) (.t 23) (.c (.val (.int .u64 16))))⟩,
 ⟨(some 25), none, .p (.mov (.t 3))⟩,
 ⟨(some 26), none, .p (.bin .add (.i .i64) (.t 24) (.t 25))⟩,
 ⟨(some 2), none, .p (.mov (.t 26))⟩])
 .ret))))
def r20 : List RS := [.t 2]
theorem c20 : chkF Try.prog drawB Try.f20 i20 r20 = true := by kernel_rfl
def l21_0 : IC := .keep [0, 3, 4, 5]
 (.seq
 (.seq
 (.reg [
 ⟨(some 6), none, .p (.mov (.t 5))⟩,
 ⟨(some 7), none, .p (.mov (.t 0))⟩,
 ⟨(some 8), none, .p (.len (.t 7))⟩,
 ⟨(some 9), none, .p (.bin .lss (.i .i64) (.t 6) (.t 8))⟩])
 (.cond (.t 9)
 .skip
 (.exit 0)))
 (.seq
 (.blk 1
 (.seq
 (.reg [
 ⟨(some 12), none, .p (.mov (.t 3))⟩,
 ⟨(some 13), none, .p (.mov (.t 0))⟩,
 ⟨(some 14), none, .p (.mov (.t 5))⟩,
 ⟨(some 15), none, .p (.ia 1 (.t 13) (.t 14))⟩,
 ⟨(some 16), none, .p (.ld1 (.t 15))⟩,
 ⟨(some 17), none, .p (.cvi .i64 (.t 16))⟩,
 ⟨(some 18), none, .p (.bin .add (.i .i64) (.t 12) (.t 17))⟩,
 ⟨(some 19), none, .p (.bin .rem (.i .i64) (.t 18) (.c (i64 65521)))⟩,
 ⟨(some 3), none, .p (.mov (.t 19))⟩])
 (.reg [
 ⟨(some 20), none, .p (.mov (.t 4))⟩,
 ⟨(some 21), none, .p (.mov (.t 3))⟩,
 ⟨(some 22), none, .p (.bin .add (.i .i64) (.t 20) (.t 21))⟩,
 ⟨(some 23), none, .p (.bin .rem (.i .i64) (.t 22) (.c (i64 65521)))⟩,
 ⟨(some 4), none, .p (.mov (.t 23))⟩])))
 (.reg [
 ⟨(some 10), none, .p (.mov (.t 5))⟩,
 ⟨(some 11), none, .p (.bin .add (.i .i64) (.t 10) (.c (i64 1)))⟩,
 ⟨(some 5), none, .p (.mov (.t 11))⟩])))
/-- parlour/parlourref32.Sum -/
def i21 : IC :=
 (.seq
 (.reg [
 ⟨(some 2), none, .p (.mov (.c (i64 0)))⟩])
 (.seq
 (.reg [
 ⟨(some 3), none, .p (.mov (.c (i64 1)))⟩,
 ⟨(some 4), none, .p (.mov (.c (i64 0)))⟩])
 (.seq
 (.seq
 (.reg [
 ⟨(some 5), none, .p (.mov (.c (i64 0)))⟩])
 (.blk 0
 (.loop l21_0)))
 (.seq
 (.reg [
 ⟨(some 24), none, .p (.mov (.t 4))⟩,
 ⟨(some 25), none, .p (.bin .mul (.i .i64) (.c (i64 65536)) (.t 24))⟩,
 ⟨(some 26), none, .p (.mov (.t 3))⟩,
 ⟨(some 27), none, .p (.bin .add (.i .i64) (.t 25) (.t 26))⟩,
 ⟨(some 2), none, .p (.mov (.t 27))⟩])
 .ret))))
def r21 : List RS := [.t 2]
theorem c21 : chkF Try.prog drawB Try.f21 i21 r21 = true := by kernel_rfl
/-- parlour/parlourlaw32.puts -/
def i22 : IC :=
 (.seq
 (.reg [
 ⟨(some 4), none, .p (.mov (.c (bl false)))⟩])
 (.seq
 (.reg [
 ⟨(some 8), none, .p (.mov (.t 0))⟩,
 ⟨(some 9), none, .e (.call (.c (.fn (.func 16) [] [])) [(.t 8)])⟩,
 ⟨(some 7), none, .p (.mov (.t 9))⟩,
 ⟨(some 10), none, .p (.ext (.t 7) 0)⟩,
 ⟨(some 11), none, .p (.ext (.t 7) 1)⟩,
 ⟨(some 5), none, .p (.mov (.t 10))⟩,
 ⟨(some 6), none, .p (.mov (.t 11))⟩])
 (.seq
 (.reg [
 ⟨(some 12), none, .p (.mov (.t 6))⟩,
 ⟨(some 13), none, .p (.bin .eql (.i .i64) (.t 12) (.c (i64 0)))⟩,
 ⟨(some 14), none, .p (.mov (.t 13))⟩,
 ⟨(some 15), (some (14, true)), .p (.mov (.t 5))⟩,
 ⟨(some 16), (some (14, true)), .p (.mov (.t 1))⟩,
 ⟨(some 17), (some (14, true)), .q (.c (.fn (.func 15) [] [])) [(.t 15), (.t 16)]⟩,
 ⟨(some 18), none, .p (.pick (.t 14) (.t 17) (.c (bl false)))⟩,
 ⟨(some 4), none, .p (.mov (.t 18))⟩])
 .ret)))
def r22 : List RS := [.t 4]
theorem c22 : chkF Try.prog drawB Try.f22 i22 r22 = true := by kernel_rfl
/-- parlour/parlourlaw32.gets -/
def i23 : IC :=
 (.seq
 (.reg [
 ⟨(some 2), none, .p (.mov (.c (i64 0)))⟩])
 (.seq
 (.reg [
 ⟨(some 7), none, .p (.mov (.t 0))⟩,
 ⟨(some 8), none, .e (.call (.c (.fn (.func 18) [] [])) [(.t 7), (.c (i64 0))])⟩,
 ⟨(some 6), none, .p (.mov (.t 8))⟩,
 ⟨(some 9), none, .p (.ext (.t 6) 0)⟩,
 ⟨(some 10), none, .p (.ext (.t 6) 1)⟩,
 ⟨(some 11), none, .p (.ext (.t 6) 2)⟩,
 ⟨(some 3), none, .p (.mov (.t 9))⟩,
 ⟨(some 4), none, .p (.mov (.t 10))⟩,
 ⟨(some 5), none, .p (.mov (.t 11))⟩])
 (.seq
 (.reg [
 ⟨(some 12), none, .p (.mov (.t 5))⟩,
 ⟨(some 2), none, .p (.mov (.t 12))⟩])
 .ret)))
def r23 : List RS := [.t 2]
theorem c23 : chkF Try.prog drawB Try.f23 i23 r23 = true := by kernel_rfl
/-- parlour/parlourlaw32.example -/
def i25 : IC :=
 (.seq
 (.reg [
 ⟨(some 0), none, .p (.mov (.c (.val (.slice none 0 0))))⟩])
 (.seq
 (.reg [
 ⟨(some 1), none, .e (.bsl 5 1 11 [.val (.int .u8 0)] [(0, (.c (.val (.int .u8 80)))), (1, (.c (.val (.int .u8 71)))), (2, (.c (.val (.int .u8 1)))), (3, (.c (.val (.int .u8 1)))), (4, (.c (.val (.int .u8 0)))), (5, (.c (.val (.int .u8 3)))), (6, (.c (.val (.int .u8 5)))), (7, (.c (.val (.int .u8 3)))), (8, (.c (.val (.int .u8 245)))), (9, (.c (.val (.int .u8 0)))), (10, (.c (.val (.int .u8 162))))])⟩,
 ⟨(some 0), none, .p (.mov (.t 1))⟩])
 .ret))
def r25 : List RS := [.t 0]
theorem c25 : chkF Try.prog drawB Try.f25 i25 r25 = true := by kernel_rfl
def l26_0 : IC := .keep [2, 3, 5]
 (.seq
 (.seq
 (.reg [
 ⟨(some 28), none, .p (.mov (.t 5))⟩,
 ⟨(some 29), none, .p (.fa 1 (.t 2))⟩,
 ⟨(some 30), none, .p (.ld1 (.t 29))⟩,
 ⟨(some 31), none, .p (.len (.t 30))⟩,
 ⟨(some 32), none, .p (.bin .lss (.i .i64) (.t 28) (.t 31))⟩])
 (.cond (.t 32)
 .skip
 (.exit 0)))
 (.seq
 (.blk 1
 (.seq
 (.drw [0, 1, 2, 3, 4, 5, 6, 7, 8, 9, 10, 11] [
 ⟨(some 35), none, .p (.fa 1 (.t 2))⟩,
 ⟨(some 36), none, .p (.ld1 (.t 35))⟩,
 ⟨(some 37), none, .p (.mov (.t 5))⟩,
 ⟨(some 38), none, .p (.ia 6 (.t 36) (.t 37))⟩,
 ⟨(some 39), none, .p (.ldn 6 (.t 38))⟩,
 ⟨(some 40), none, .p (.fa 1 (.t 3))⟩,
 ⟨(some 41), none, .p (.ld1 (.t 40))⟩,
 ⟨(some 42), none, .p (.mov (.t 5))⟩,
 ⟨(some 43), none, .p (.ia 6 (.t 41) (.t 42))⟩,
 ⟨(some 44), none, .p (.ldn 6 (.t 43))⟩,
 ⟨(some 45), none, .q (.c (.fn (.func 55) [] [])) [(.t 39), (.t 44)]⟩,
 ⟨(some 46), none, .p (.not (.t 45))⟩])
 (.cond (.t 46)
 (.seq
 (.reg [
 ⟨(some 4), none, .p (.mov (.c (bl false)))⟩])
 .ret)
 .skip)))
 (.reg [
 ⟨(some 33), none, .p (.mov (.t 5))⟩,
 ⟨(some 34), none, .p (.bin .add (.i .i64) (.t 33) (.c (i64 1)))⟩,
 ⟨(some 5), none, .p (.mov (.t 34))⟩])))
/-- parlour/parlourkit.AlikeGame -/
def i26 : IC :=
 (.seq
 (.reg [
 ⟨(some 2), none, .e (.box 25 (.t 0))⟩,
 ⟨(some 3), none, .e (.box 25 (.t 1))⟩,
 ⟨(some 4), none, .p (.mov (.c (bl false)))⟩])
 (.seq
 (.seq
 (.reg [
 ⟨(some 6), none, .p (.fa 0 (.t 2))⟩,
 ⟨(some 7), none, .p (.ld1 (.t 6))⟩,
 ⟨(some 8), none, .p (.fa 0 (.t 3))⟩,
 ⟨(some 9), none, .p (.ld1 (.t 8))⟩,
 ⟨(some 10), none, .p (.bin .neq (.i .i64) (.t 7) (.t 9))⟩,
 ⟨(some 11), none, .p (.mov (.t 10))⟩,
 ⟨(some 12), (some (11, false)), .p (.fa 1 (.t 2))⟩,
 ⟨(some 13), (some (11, false)), .p (.ld1 (.t 12))⟩,
 ⟨(some 14), (some (11, false)), .p (.len (.t 13))⟩,
 ⟨(some 15), (some (11, false)), .p (.fa 1 (.t 3))⟩,
 ⟨(some 16), (some (11, false)), .p (.ld1 (.t 15))⟩,
 ⟨(some 17), (some (11, false)), .p (.len (.t 16))⟩,
 ⟨(some 18), (some (11, false)), .p (.bin .neq (.i .i64) (.t 14) (.t 17))⟩,
 ⟨(some 19), none, .p (.pick (.t 11) (.c (bl true)) (.t 18))⟩,
 ⟨(some 20), none, .p (.mov (.t 19))⟩,
 ⟨(some 21), (some (20, false)), .p (.fa 2 (.t 2))⟩,
 ⟨(some 22), (some (20, false)), .p (.ld1 (.t 21))⟩,
 ⟨(some 23), (some (20, false)), .p (.fa 2 (.t 3))⟩,
 ⟨(some 24), (some (20, false)), .p (.ld1 (.t 23))⟩,
 ⟨(some 25), (some (20, false)), .q (.c (.fn (.func 54) [] [])) [(.t 22), (.t 24)]⟩,
 ⟨(some 26), (some (20, false)), .p (.not (.t 25))⟩,
 ⟨(some 27), none, .p (.pick (.t 20) (.c (bl true)) (.t 26))⟩])
 (.cond (.t 27)
 (.seq
 (.reg [
 ⟨(some 4), none, .p (.mov (.c (bl false)))⟩])
 .ret)
 .skip))
 (.seq
 (.seq
 (.reg [
 ⟨(some 5), none, .p (.mov (.c (i64 0)))⟩])
 (.blk 0
 (.loop l26_0)))
 (.seq
 (.reg [
 ⟨(some 4), none, .p (.mov (.c (bl true)))⟩])
 .ret))))
def r26 : List RS := [.t 4]
theorem c26 : chkF Try.prog drawB Try.f26 i26 r26 = true := by kernel_rfl
/-- parlour/parlourlaw32.end -/
def i27 : IC :=
 (.seq
 (.reg [
 ⟨(some 0), none, .e (.alc 25 [i64 0, .val (.slice none 0 0), .val (.slice none 0 0)])⟩])
 (.seq
 (.reg [
 ⟨(some 1), none, .e (.bsl 3 1 1 [i64 0] [(0, (.c (i64 (-3))))])⟩,
 ⟨(some 2), none, .p (.bld [i64 0, i64 0, i64 0, .val (.slice none 0 0), .val (.slice none 0 0), .val (.slice none 0 0)] [(0, 1, (.c (i64 3))), (5, 1, (.t 1))])⟩,
 ⟨(some 3), none, .e (.bsl 74 6 1 [i64 0, i64 0, i64 0, .val (.slice none 0 0), .val (.slice none 0 0), .val (.slice none 0 0)] [(0, (.t 2))])⟩,
 ⟨(some 4), none, .p (.bld [i64 0, .val (.slice none 0 0), .val (.slice none 0 0)] [(0, 1, (.c (i64 1))), (1, 1, (.t 3))])⟩,
 ⟨none, none, .e (.st 3 (.t 0) (.t 4))⟩])
 .ret))
def r27 : List RS := [.cn 0 3]
theorem c27 : chkF Try.prog drawB Try.f27 i27 r27 = true := by kernel_rfl
/-- parlour/parlourlaw32.faults -/
def i28 : IC :=
 (.seq
 (.reg [
 ⟨(some 6), none, .p (.mov (.c (bl false)))⟩])
 (.seq
 (.reg [
 ⟨(some 10), none, .p (.mov (.t 0))⟩,
 ⟨(some 11), none, .e (.call (.c (.fn (.func 24) [] [])) [(.t 10)])⟩,
 ⟨(some 9), none, .p (.mov (.t 11))⟩,
 ⟨(some 12), none, .p (.ext (.t 9) 0)⟩,
 ⟨(some 13), none, .p (.ext (.t 9) 1)⟩,
 ⟨(some 7), none, .e (.alc 25 [i64 0, .val (.slice none 0 0), .val (.slice none 0 0)])⟩,
 ⟨(some 8), none, .e (.alc 47 [i64 0, i64 0])⟩,
 ⟨none, none, .e (.st 3 (.t 7) (.t 12))⟩,
 ⟨none, none, .e (.st 2 (.t 8) (.t 13))⟩])
 (.seq
 (.reg [
 ⟨(some 14), none, .p (.ldn 2 (.t 8))⟩,
 ⟨(some 15), none, .p (.mov (.t 1))⟩,
 ⟨(some 16), none, .p (.mov (.t 2))⟩,
 ⟨(some 17), none, .p (.bld [i64 0, i64 0] [(0, 1, (.t 15)), (1, 1, (.t 16))])⟩,
 ⟨(some 18), none, .p (.eqf false [.i .i64, .i .i64] (.t 14) (.t 17))⟩,
 ⟨(some 19), none, .p (.mov (.t 18))⟩,
 ⟨(some 20), (some (19, true)), .p (.fa 1 (.t 7))⟩,
 ⟨(some 21), (some (19, true)), .p (.ld1 (.t 20))⟩,
 ⟨(some 22), (some (19, true)), .p (.len (.t 21))⟩,
 ⟨(some 23), (some (19, true)), .p (.bin .eql (.i .i64) (.t 22) (.c (i64 0)))⟩,
 ⟨(some 24), none, .p (.pick (.t 19) (.t 23) (.c (bl false)))⟩,
 ⟨(some 6), none, .p (.mov (.t 24))⟩])
 .ret)))
def r28 : List RS := [.t 6]
theorem c28 : chkF Try.prog drawB Try.f28 i28 r28 = true := by kernel_rfl
def l29_0 : IC := .keep [1, 8, 9, 10]
 (.seq
 (.seq
 (.reg [
 ⟨(some 29), none, .p (.mov (.t 10))⟩,
 ⟨(some 30), none, .p (.bin .gtr (.i .i64) (.t 29) (.c (i64 0)))⟩])
 (.cond (.t 30)
 .skip
 (.exit 0)))
 (.seq
 (.blk 1
 (.drw [0, 1, 2, 3, 4, 5, 6, 7, 8, 9, 10, 13, 14, 15, 16, 19, 20, 21, 22, 11, 12, 17, 18, 23, 24, 25, 26, 27, 28, 29] [
 ⟨(some 33), none, .p (.mov (.t 9))⟩,
 ⟨(some 34), none, .p (.mov (.t 9))⟩,
 ⟨(some 35), none, .p (.nck (.t 34))⟩,
 ⟨(some 36), none, .p (.fa 1 (.t 35))⟩,
 ⟨(some 37), none, .p (.ld1 (.t 36))⟩,
 ⟨(some 38), none, .p (.mov (.t 9))⟩,
 ⟨(some 39), none, .p (.nck (.t 38))⟩,
 ⟨(some 40), none, .p (.fa 0 (.t 39))⟩,
 ⟨(some 41), none, .p (.ld1 (.t 40))⟩,
 ⟨(some 42), none, .p (.mov (.t 1))⟩,
 ⟨(some 43), none, .p (.bin .add (.i .i64) (.t 42) (.c (i64 1)))⟩,
 ⟨(some 46), none, .p (.mov (.t 9))⟩,
 ⟨(some 47), none, .p (.nck (.t 46))⟩,
 ⟨(some 48), none, .p (.fa 0 (.t 47))⟩,
 ⟨(some 49), none, .p (.ld1 (.t 48))⟩,
 ⟨(some 52), none, .p (.mov (.t 9))⟩,
 ⟨(some 53), none, .p (.nck (.t 52))⟩,
 ⟨(some 54), none, .p (.fa 0 (.t 53))⟩,
 ⟨(some 55), none, .p (.ld1 (.t 54))⟩,
 ⟨(some 44), none, .e (.call (.c (.fn (.func 35) [] [])) [(.t 41), (.t 43)])⟩,
 ⟨(some 45), none, .p (.bin .sub (.i .i64) (.t 44) (.c (i64 1)))⟩,
 ⟨(some 50), none, .e (.call (.c (.fn (.func 35) [] [])) [(.t 49), (.c (i64 2))])⟩,
 ⟨(some 51), none, .p (.bin .add (.i .i64) (.c (i64 2)) (.t 50))⟩,
 ⟨(some 56), none, .e (.call (.c (.fn (.func 35) [] [])) [(.t 55), (.c (i64 16))])⟩,
 ⟨(some 57), none, .p (.bld [i64 0, i64 0, i64 0] [(0, 1, (.t 45)), (1, 1, (.t 51)), (2, 1, (.t 56))])⟩,
 ⟨(some 58), none, .e (.bsl 95 3 1 [i64 0, i64 0, i64 0] [(0, (.t 57))])⟩,
 ⟨(some 59), none, .e (.app 95 3 24 (.t 37) (.t 58))⟩,
 ⟨(some 60), none, .p (.nck (.t 33))⟩,
 ⟨(some 61), none, .p (.fa 1 (.t 60))⟩,
 ⟨none, none, .e (.stw [55, 49, 41, 37] 1 (.t 61) (.t 59))⟩]))
 (.reg [
 ⟨(some 31), none, .p (.mov (.t 10))⟩,
 ⟨(some 32), none, .p (.bin .sub (.i .i64) (.t 31) (.c (i64 1)))⟩,
 ⟨(some 10), none, .p (.mov (.t 32))⟩])))
/-- parlour/parlourkit.GameOf -/
def i29 : IC :=
 (.seq
 (.reg [
 ⟨(some 8), none, .e (.alc 25 [i64 0, .val (.slice none 0 0), .val (.slice none 0 0)])⟩])
 (.seq
 (.reg [
 ⟨(some 11), none, .p (.mov (.t 0))⟩,
 ⟨(some 12), none, .p (.bld [.val (.slice none 0 0), i64 0] [(0, 1, (.t 11))])⟩,
 ⟨(some 13), none, .e (.box 63 (.t 12))⟩,
 ⟨(some 14), none, .p (.mov (.t 2))⟩,
 ⟨(some 15), none, .p (.mov (.t 3))⟩,
 ⟨(some 16), none, .p (.bld [.val (.pointer none), .val (.slice none 0 0), .val (.slice none 0 0), i64 0, i64 0, bl false, bl false, i64 0, .val (.slice none 0 0), .val (.slice none 0 0)] [(0, 1, (.t 13)), (3, 1, (.t 14)), (4, 1, (.c (i64 1))), (5, 1, (.t 15))])⟩,
 ⟨(some 17), none, .e (.box 93 (.t 16))⟩,
 ⟨(some 9), none, .p (.mov (.t 17))⟩])
 (.seq
 (.reg [
 ⟨(some 18), none, .p (.mov (.t 9))⟩,
 ⟨(some 19), none, .p (.mov (.t 1))⟩,
 ⟨(some 20), none, .p (.nck (.t 18))⟩,
 ⟨(some 21), none, .p (.fa 7 (.t 20))⟩,
 ⟨(some 22), none, .p (.fa 0 (.t 21))⟩,
 ⟨none, none, .e (.st 1 (.t 22) (.t 19))⟩])
 (.seq
 (.seq
 (.reg [
 ⟨(some 23), none, .p (.mov (.t 9))⟩,
 ⟨(some 24), none, .p (.nck (.t 23))⟩,
 ⟨(some 25), none, .p (.fa 0 (.t 24))⟩,
 ⟨(some 26), none, .p (.ld1 (.t 25))⟩,
 ⟨(some 27), none, .e (.call (.c (.fn (.func 35) [] [])) [(.t 26), (.c (i64 5))])⟩,
 ⟨(some 28), none, .p (.bin .add (.i .i64) (.c (i64 1)) (.t 27))⟩,
 ⟨(some 10), none, .p (.mov (.t 28))⟩])
 (.blk 0
 (.loop l29_0)))
 (.seq
 (.reg [
 ⟨(some 62), none, .p (.mov (.t 9))⟩,
 ⟨(some 63), none, .p (.mov (.t 1))⟩,
 ⟨(some 64), none, .e (.mks 30 1 24 [.val (.slice none 0 0)] (.t 63) (.t 63))⟩,
 ⟨(some 65), none, .e (.call (.c (.fn (.func 56) [] [])) [(.t 62), (.c (i64 0)), (.t 64)])⟩])
 (.seq
 (.reg [
 ⟨(some 66), none, .p (.mov (.t 9))⟩,
 ⟨(some 67), none, .p (.nck (.t 66))⟩,
 ⟨(some 68), none, .p (.fa 7 (.t 67))⟩,
 ⟨(some 69), none, .p (.ldn 3 (.t 68))⟩,
 ⟨none, none, .e (.st 3 (.t 8) (.t 69))⟩])
 .ret))))))
def r29 : List RS := [.cn 8 3]
theorem c29 : chkF Try.prog drawB Try.f29 i29 r29 = true := by kernel_rfl
/-- parlour/parlourkit.Mod -/
def i30 : IC :=
 (.seq
 (.reg [
 ⟨(some 4), none, .p (.mov (.c (i64 0)))⟩])
 (.seq
 (.reg [
 ⟨(some 5), none, .p (.mov (.t 0))⟩,
 ⟨(some 6), none, .p (.mov (.t 1))⟩,
 ⟨(some 7), none, .p (.bin .rem (.i .i64) (.t 5) (.t 6))⟩,
 ⟨(some 0), none, .p (.mov (.t 7))⟩])
 (.seq
 (.seq
 (.reg [
 ⟨(some 8), none, .p (.mov (.t 0))⟩,
 ⟨(some 9), none, .p (.bin .lss (.i .i64) (.t 8) (.c (i64 0)))⟩])
 (.cond (.t 9)
 (.reg [
 ⟨(some 10), none, .p (.mov (.t 0))⟩,
 ⟨(some 11), none, .p (.mov (.t 1))⟩,
 ⟨(some 12), none, .p (.bin .add (.i .i64) (.t 10) (.t 11))⟩,
 ⟨(some 0), none, .p (.mov (.t 12))⟩])
 .skip))
 (.seq
 (.reg [
 ⟨(some 13), none, .p (.mov (.t 0))⟩,
 ⟨(some 4), none, .p (.mov (.t 13))⟩])
 .ret))))
def r30 : List RS := [.t 4]
theorem c30 : chkF Try.prog drawB Try.f30 i30 r30 = true := by kernel_rfl
def l31_0 : IC := .keep [2, 3, 4, 5, 6]
 (.seq
 (.seq
 (.reg [
 ⟨(some 16), none, .p (.mov (.t 6))⟩,
 ⟨(some 17), none, .p (.bin .gtr (.i .i64) (.t 16) (.c (i64 0)))⟩,
 ⟨(some 18), none, .p (.mov (.t 17))⟩,
 ⟨(some 19), (some (18, true)), .p (.mov (.t 4))⟩,
 ⟨(some 20), (some (18, true)), .p (.nck (.t 19))⟩,
 ⟨(some 21), (some (18, true)), .p (.fa 2 (.t 20))⟩,
 ⟨(some 22), (some (18, true)), .p (.fa 0 (.t 21))⟩,
 ⟨(some 23), (some (18, true)), .p (.ld1 (.t 22))⟩,
 ⟨(some 24), (some (18, true)), .p (.bin .eql (.i .i64) (.t 23) (.c (i64 0)))⟩,
 ⟨(some 25), none, .p (.pick (.t 18) (.t 24) (.c (bl false)))⟩])
 (.cond (.t 25)
 .skip
 (.exit 0)))
 (.seq
 (.blk 1
 (.seq
 (.reg [
 ⟨(some 28), none, .p (.mov (.t 4))⟩,
 ⟨(some 29), none, .p (.fa 0 (.t 5))⟩,
 ⟨(some 30), none, .p (.ld1 (.t 29))⟩,
 ⟨(some 31), none, .p (.bin .sub (.i .i64) (.t 30) (.c (i64 1)))⟩,
 ⟨(some 32), none, .e (.call (.c (.fn (.func 58) [] [])) [(.t 28), (.c (i64 0)), (.t 31)])⟩,
 ⟨(some 33), none, .p (.bld [i64 0, i64 0] [(0, 1, (.t 32))])⟩,
 ⟨(some 7), none, .e (.alc 72 [i64 0, i64 0])⟩,
 ⟨none, none, .e (.st 2 (.t 7) (.t 33))⟩])
 (.seq
 (.reg [
 ⟨(some 34), none, .p (.mov (.t 4))⟩,
 ⟨(some 35), none, .e (.call (.c (.fn (.func 58) [] [])) [(.t 34), (.c (i64 1)), (.c (i64 10))])⟩,
 ⟨(some 36), none, .p (.fa 1 (.t 7))⟩,
 ⟨none, none, .e (.st 1 (.t 36) (.t 35))⟩])
 (.reg [
 ⟨(some 37), none, .p (.fa 2 (.t 5))⟩,
 ⟨(some 38), none, .p (.ld1 (.t 37))⟩,
 ⟨(some 39), none, .p (.ldn 2 (.t 7))⟩,
 ⟨(some 40), none, .e (.bsl 72 2 1 [i64 0, i64 0] [(0, (.t 39))])⟩,
 ⟨(some 41), none, .e (.app 72 2 16 (.t 38) (.t 40))⟩,
 ⟨(some 42), none, .p (.fa 2 (.t 5))⟩,
 ⟨none, none, .e (.st 1 (.t 42) (.t 41))⟩]))))
 (.reg [
 ⟨(some 26), none, .p (.mov (.t 6))⟩,
 ⟨(some 27), none, .p (.bin .sub (.i .i64) (.t 26) (.c (i64 1)))⟩,
 ⟨(some 6), none, .p (.mov (.t 27))⟩])))
/-- parlour/parlourref32.ReadGame -/
def i31 : IC :=
 (.seq
 (.reg [
 ⟨(some 2), none, .e (.alc 25 [i64 0, .val (.slice none 0 0), .val (.slice none 0 0)])⟩,
 ⟨(some 3), none, .e (.alc 47 [i64 0, i64 0])⟩])
 (.seq
 (.reg [
 ⟨(some 9), none, .p (.mov (.t 0))⟩,
 ⟨(some 10), none, .e (.call (.c (.fn (.func 57) [] [])) [(.t 9), (.c (.val (.int .u8 71)))])⟩,
 ⟨(some 4), none, .p (.mov (.t 10))⟩])
 (.seq
 (.reg [
 ⟨(some 11), none, .p (.mov (.t 4))⟩,
 ⟨(some 12), none, .e (.call (.c (.fn (.func 58) [] [])) [(.t 11), (.c (i64 1)), (.c (i64 4))])⟩,
 ⟨(some 13), none, .p (.bld [i64 0, .val (.slice none 0 0), .val (.slice none 0 0)] [(0, 1, (.t 12))])⟩,
 ⟨(some 5), none, .e (.alc 25 [i64 0, .val (.slice none 0 0), .val (.slice none 0 0)])⟩,
 ⟨none, none, .e (.st 3 (.t 5) (.t 13))⟩])
 (.seq
 (.seq
 (.reg [
 ⟨(some 14), none, .p (.mov (.t 4))⟩,
 ⟨(some 15), none, .e (.call (.c (.fn (.func 59) [] [])) [(.t 14), (.c (i64 0)), (.c (i64 200))])⟩,
 ⟨(some 6), none, .p (.mov (.t 15))⟩])
 (.blk 0
 (.loop l31_0)))
 (.seq
 (.reg [
 ⟨(some 43), none, .p (.mov (.t 4))⟩,
 ⟨(some 44), none, .e (.call (.c (.fn (.func 60) [] [])) [(.t 43), (.t 5), (.c (i64 0))])⟩])
 (.seq
 (.seq
 (.drw [0, 1, 2, 3, 4, 5, 6, 7, 8, 9] [
 ⟨(some 45), none, .p (.mov (.t 4))⟩,
 ⟨(some 46), none, .p (.nck (.t 45))⟩,
 ⟨(some 47), none, .p (.fa 1 (.t 46))⟩,
 ⟨(some 48), none, .p (.ld1 (.t 47))⟩,
 ⟨(some 49), none, .p (.mov (.t 4))⟩,
 ⟨(some 50), none, .p (.nck (.t 49))⟩,
 ⟨(some 51), none, .p (.fa 0 (.t 50))⟩,
 ⟨(some 52), none, .p (.ld1 (.t 51))⟩,
 ⟨(some 53), none, .p (.len (.t 52))⟩,
 ⟨(some 54), none, .p (.bin .lss (.i .i64) (.t 48) (.t 53))⟩])
 (.cond (.t 54)
 (.reg [
 ⟨(some 55), none, .p (.mov (.t 4))⟩,
 ⟨(some 56), none, .p (.mov (.t 4))⟩,
 ⟨(some 57), none, .p (.nck (.t 56))⟩,
 ⟨(some 58), none, .p (.fa 1 (.t 57))⟩,
 ⟨(some 59), none, .p (.ld1 (.t 58))⟩,
 ⟨(some 60), none, .e (.call (.c (.fn (.func 61) [] [])) [(.t 55), (.c (i64 4)), (.t 59)])⟩])
 .skip))
 (.seq
 (.seq
 (.reg [
 ⟨(some 61), none, .p (.mov (.t 4))⟩,
 ⟨(some 62), none, .p (.nck (.t 61))⟩,
 ⟨(some 63), none, .p (.fa 2 (.t 62))⟩,
 ⟨(some 64), none, .p (.fa 0 (.t 63))⟩,
 ⟨(some 65), none, .p (.ld1 (.t 64))⟩,
 ⟨(some 66), none, .p (.bin .eql (.i .i64) (.t 65) (.c (i64 0)))⟩])
 (.cond (.t 66)
 (.seq
 (.reg [
 ⟨(some 67), none, .p (.ldn 3 (.t 5))⟩,
 ⟨(some 68), none, .e (.call (.c (.fn (.func 41) [] [])) [(.t 67)])⟩,
 ⟨(some 8), none, .p (.mov (.t 68))⟩])
 (.seq
 (.reg [
 ⟨(some 69), none, .p (.mov (.t 8))⟩,
 ⟨(some 70), none, .p (.bin .neq (.i .i64) (.t 69) (.c (i64 0)))⟩])
 (.cond (.t 70)
 (.reg [
 ⟨(some 71), none, .p (.mov (.t 4))⟩,
 ⟨(some 72), none, .p (.mov (.t 8))⟩,
 ⟨(some 73), none, .p (.mov (.t 4))⟩,
 ⟨(some 74), none, .p (.nck (.t 73))⟩,
 ⟨(some 75), none, .p (.fa 0 (.t 74))⟩,
 ⟨(some 76), none, .p (.ld1 (.t 75))⟩,
 ⟨(some 77), none, .p (.len (.t 76))⟩,
 ⟨(some 78), none, .e (.call (.c (.fn (.func 61) [] [])) [(.t 71), (.t 72), (.t 77)])⟩])
 .skip)))
 .skip))
 (.seq
 (.seq
 (.reg [
 ⟨(some 79), none, .p (.mov (.t 4))⟩,
 ⟨(some 80), none, .p (.nck (.t 79))⟩,
 ⟨(some 81), none, .p (.fa 2 (.t 80))⟩,
 ⟨(some 82), none, .p (.fa 0 (.t 81))⟩,
 ⟨(some 83), none, .p (.ld1 (.t 82))⟩,
 ⟨(some 84), none, .p (.bin .neq (.i .i64) (.t 83) (.c (i64 0)))⟩])
 (.cond (.t 84)
 (.seq
 (.drw [0, 1, 2, 3, 4, 5, 6] [
 ⟨(some 85), none, .p (.bld [i64 0, .val (.slice none 0 0), .val (.slice none 0 0)] [])⟩,
 ⟨(some 86), none, .p (.mov (.t 4))⟩,
 ⟨(some 87), none, .p (.nck (.t 86))⟩,
 ⟨(some 88), none, .p (.fa 2 (.t 87))⟩,
 ⟨(some 89), none, .p (.ldn 2 (.t 88))⟩,
 ⟨none, none, .e (.st 3 (.t 2) (.t 85))⟩,
 ⟨none, none, .e (.st 2 (.t 3) (.t 89))⟩])
 .ret)
 .skip))
 (.seq
 (.reg [
 ⟨(some 90), none, .p (.ldn 3 (.t 5))⟩,
 ⟨(some 91), none, .p (.bld [i64 0, i64 0] [])⟩,
 ⟨none, none, .e (.st 3 (.t 2) (.t 90))⟩,
 ⟨none, none, .e (.st 2 (.t 3) (.t 91))⟩])
 .ret)))))))))
def r31 : List RS := [.cn 2 3, .cn 3 2]
theorem c31 : chkF Try.prog drawB Try.f31 i31 r31 = true := by kernel_rfl
def l33_1 : IC := .keep [2, 3, 4, 5, 6, 7, 8]
 (.seq
 (.seq
 (.reg [
 ⟨(some 31), none, .p (.mov (.t 8))⟩,
 ⟨(some 32), none, .p (.bin .gtr (.i .i64) (.t 31) (.c (i64 0)))⟩])
 (.cond (.t 32)
 .skip
 (.exit 2)))
 (.seq
 (.blk 3
 (.reg [
 ⟨(some 35), none, .p (.mov (.t 7))⟩,
 ⟨(some 36), none, .p (.mov (.t 4))⟩,
 ⟨(some 37), none, .e (.call (.c (.fn (.func 59) [] [])) [(.t 36), (.c (i64 0)), (.c (i64 4611686018427387903))])⟩,
 ⟨(some 38), none, .e (.bsl 3 1 1 [i64 0] [(0, (.t 37))])⟩,
 ⟨(some 39), none, .e (.app 3 1 8 (.t 35) (.t 38))⟩,
 ⟨(some 7), none, .p (.mov (.t 39))⟩]))
 (.reg [
 ⟨(some 33), none, .p (.mov (.t 8))⟩,
 ⟨(some 34), none, .p (.bin .sub (.i .i64) (.t 33) (.c (i64 1)))⟩,
 ⟨(some 8), none, .p (.mov (.t 34))⟩])))
def l33_0 : IC := .keep [2, 3, 4, 5, 6]
 (.seq
 (.seq
 (.reg [
 ⟨(some 17), none, .p (.mov (.t 6))⟩,
 ⟨(some 18), none, .p (.bin .gtr (.i .i64) (.t 17) (.c (i64 0)))⟩,
 ⟨(some 19), none, .p (.mov (.t 18))⟩,
 ⟨(some 20), (some (19, true)), .p (.mov (.t 4))⟩,
 ⟨(some 21), (some (19, true)), .p (.nck (.t 20))⟩,
 ⟨(some 22), (some (19, true)), .p (.fa 2 (.t 21))⟩,
 ⟨(some 23), (some (19, true)), .p (.fa 0 (.t 22))⟩,
 ⟨(some 24), (some (19, true)), .p (.ld1 (.t 23))⟩,
 ⟨(some 25), (some (19, true)), .p (.bin .eql (.i .i64) (.t 24) (.c (i64 0)))⟩,
 ⟨(some 26), none, .p (.pick (.t 19) (.t 25) (.c (bl false)))⟩])
 (.cond (.t 26)
 .skip
 (.exit 0)))
 (.seq
 (.blk 1
 (.seq
 (.reg [
 ⟨(some 7), none, .e (.nil 3 1 (.c (.val (.slice none 0 0))))⟩])
 (.seq
 (.seq
 (.reg [
 ⟨(some 29), none, .p (.mov (.t 4))⟩,
 ⟨(some 30), none, .e (.call (.c (.fn (.func 58) [] [])) [(.t 29), (.c (i64 1)), (.c (i64 10))])⟩,
 ⟨(some 8), none, .p (.mov (.t 30))⟩])
 (.blk 2
 (.loop l33_1)))
 (.reg [
 ⟨(some 40), none, .p (.fa 1 (.t 5))⟩,
 ⟨(some 41), none, .p (.ld1 (.t 40))⟩,
 ⟨(some 42), none, .p (.mov (.t 7))⟩,
 ⟨(some 43), none, .e (.bsl 30 1 1 [.val (.slice none 0 0)] [(0, (.t 42))])⟩,
 ⟨(some 44), none, .e (.app 30 1 24 (.t 41) (.t 43))⟩,
 ⟨(some 45), none, .p (.fa 1 (.t 5))⟩,
 ⟨none, none, .e (.st 1 (.t 45) (.t 44))⟩]))))
 (.reg [
 ⟨(some 27), none, .p (.mov (.t 6))⟩,
 ⟨(some 28), none, .p (.bin .sub (.i .i64) (.t 27) (.c (i64 1)))⟩,
 ⟨(some 6), none, .p (.mov (.t 28))⟩])))
/-- parlour/parlourref32.ReadTable -/
def i33 : IC :=
 (.seq
 (.reg [
 ⟨(some 2), none, .e (.alc 28 [i64 0, .val (.slice none 0 0)])⟩,
 ⟨(some 3), none, .e (.alc 47 [i64 0, i64 0])⟩])
 (.seq
 (.reg [
 ⟨(some 10), none, .p (.mov (.t 0))⟩,
 ⟨(some 11), none, .e (.call (.c (.fn (.func 57) [] [])) [(.t 10), (.c (.val (.int .u8 84)))])⟩,
 ⟨(some 4), none, .p (.mov (.t 11))⟩])
 (.seq
 (.reg [
 ⟨(some 12), none, .p (.mov (.t 4))⟩,
 ⟨(some 13), none, .e (.call (.c (.fn (.func 58) [] [])) [(.t 12), (.c (i64 0)), (.c (i64 255))])⟩,
 ⟨(some 14), none, .p (.bld [i64 0, .val (.slice none 0 0)] [(0, 1, (.t 13))])⟩,
 ⟨(some 5), none, .e (.alc 28 [i64 0, .val (.slice none 0 0)])⟩,
 ⟨none, none, .e (.st 2 (.t 5) (.t 14))⟩])
 (.seq
 (.seq
 (.reg [
 ⟨(some 15), none, .p (.mov (.t 4))⟩,
 ⟨(some 16), none, .e (.call (.c (.fn (.func 59) [] [])) [(.t 15), (.c (i64 0)), (.c (i64 200))])⟩,
 ⟨(some 6), none, .p (.mov (.t 16))⟩])
 (.blk 0
 (.loop l33_0)))
 (.seq
 (.seq
 (.drw [0, 1, 2, 3, 4, 5, 6, 7, 8, 9] [
 ⟨(some 46), none, .p (.mov (.t 4))⟩,
 ⟨(some 47), none, .p (.nck (.t 46))⟩,
 ⟨(some 48), none, .p (.fa 1 (.t 47))⟩,
 ⟨(some 49), none, .p (.ld1 (.t 48))⟩,
 ⟨(some 50), none, .p (.mov (.t 4))⟩,
 ⟨(some 51), none, .p (.nck (.t 50))⟩,
 ⟨(some 52), none, .p (.fa 0 (.t 51))⟩,
 ⟨(some 53), none, .p (.ld1 (.t 52))⟩,
 ⟨(some 54), none, .p (.len (.t 53))⟩,
 ⟨(some 55), none, .p (.bin .lss (.i .i64) (.t 49) (.t 54))⟩])
 (.cond (.t 55)
 (.reg [
 ⟨(some 56), none, .p (.mov (.t 4))⟩,
 ⟨(some 57), none, .p (.mov (.t 4))⟩,
 ⟨(some 58), none, .p (.nck (.t 57))⟩,
 ⟨(some 59), none, .p (.fa 1 (.t 58))⟩,
 ⟨(some 60), none, .p (.ld1 (.t 59))⟩,
 ⟨(some 61), none, .e (.call (.c (.fn (.func 61) [] [])) [(.t 56), (.c (i64 4)), (.t 60)])⟩])
 .skip))
 (.seq
 (.seq
 (.reg [
 ⟨(some 62), none, .p (.mov (.t 4))⟩,
 ⟨(some 63), none, .p (.nck (.t 62))⟩,
 ⟨(some 64), none, .p (.fa 2 (.t 63))⟩,
 ⟨(some 65), none, .p (.fa 0 (.t 64))⟩,
 ⟨(some 66), none, .p (.ld1 (.t 65))⟩,
 ⟨(some 67), none, .p (.bin .eql (.i .i64) (.t 66) (.c (i64 0)))⟩])
 (.cond (.t 67)
 (.seq
 (.reg [
 ⟨(some 68), none, .p (.ldn 2 (.t 5))⟩,
 ⟨(some 69), none, .e (.call (.c (.fn (.func 45) [] [])) [(.t 68)])⟩,
 ⟨(some 9), none, .p (.mov (.t 69))⟩])
 (.seq
 (.reg [
 ⟨(some 70), none, .p (.mov (.t 9))⟩,
 ⟨(some 71), none, .p (.bin .neq (.i .i64) (.t 70) (.c (i64 0)))⟩])
 (.cond (.t 71)
 (.reg [
 ⟨(some 72), none, .p (.mov (.t 4))⟩,
 ⟨(some 73), none, .p (.mov (.t 9))⟩,
 ⟨(some 74), none, .p (.mov (.t 4))⟩,
 ⟨(some 75), none, .p (.nck (.t 74))⟩,
 ⟨(some 76), none, .p (.fa 0 (.t 75))⟩,
 ⟨(some 77), none, .p (.ld1 (.t 76))⟩,
 ⟨(some 78), none, .p (.len (.t 77))⟩,
 ⟨(some 79), none, .e (.call (.c (.fn (.func 61) [] [])) [(.t 72), (.t 73), (.t 78)])⟩])
 .skip)))
 .skip))
 (.seq
 (.seq
 (.reg [
 ⟨(some 80), none, .p (.mov (.t 4))⟩,
 ⟨(some 81), none, .p (.nck (.t 80))⟩,
 ⟨(some 82), none, .p (.fa 2 (.t 81))⟩,
 ⟨(some 83), none, .p (.fa 0 (.t 82))⟩,
 ⟨(some 84), none, .p (.ld1 (.t 83))⟩,
 ⟨(some 85), none, .p (.bin .neq (.i .i64) (.t 84) (.c (i64 0)))⟩])
 (.cond (.t 85)
 (.seq
 (.drw [0, 1, 2, 3, 4, 5, 6] [
 ⟨(some 86), none, .p (.bld [i64 0, .val (.slice none 0 0)] [])⟩,
 ⟨(some 87), none, .p (.mov (.t 4))⟩,
 ⟨(some 88), none, .p (.nck (.t 87))⟩,
 ⟨(some 89), none, .p (.fa 2 (.t 88))⟩,
 ⟨(some 90), none, .p (.ldn 2 (.t 89))⟩,
 ⟨none, none, .e (.st 2 (.t 2) (.t 86))⟩,
 ⟨none, none, .e (.st 2 (.t 3) (.t 90))⟩])
 .ret)
 .skip))
 (.seq
 (.reg [
 ⟨(some 91), none, .p (.ldn 2 (.t 5))⟩,
 ⟨(some 92), none, .p (.bld [i64 0, i64 0] [])⟩,
 ⟨none, none, .e (.st 2 (.t 2) (.t 91))⟩,
 ⟨none, none, .e (.st 2 (.t 3) (.t 92))⟩])
 .ret))))))))
def r33 : List RS := [.cn 2 2, .cn 3 2]
theorem c33 : chkF Try.prog drawB Try.f33 i33 r33 = true := by kernel_rfl
/-- parlour/parlourlaw32.sameTable -/
def i34 : IC :=
 (.seq
 (.reg [
 ⟨(some 2), none, .e (.box 28 (.t 0))⟩,
 ⟨(some 3), none, .e (.box 28 (.t 1))⟩,
 ⟨(some 4), none, .p (.mov (.c (bl false)))⟩])
 (.seq
 (.reg [
 ⟨(some 5), none, .p (.fa 0 (.t 2))⟩,
 ⟨(some 6), none, .p (.ld1 (.t 5))⟩,
 ⟨(some 7), none, .p (.fa 0 (.t 3))⟩,
 ⟨(some 8), none, .p (.ld1 (.t 7))⟩,
 ⟨(some 9), none, .p (.bin .eql (.i .i64) (.t 6) (.t 8))⟩,
 ⟨(some 10), none, .p (.mov (.t 9))⟩,
 ⟨(some 11), (some (10, true)), .p (.fa 1 (.t 2))⟩,
 ⟨(some 12), (some (10, true)), .p (.ld1 (.t 11))⟩,
 ⟨(some 13), (some (10, true)), .p (.fa 1 (.t 3))⟩,
 ⟨(some 14), (some (10, true)), .p (.ld1 (.t 13))⟩,
 ⟨(some 15), (some (10, true)), .q (.c (.fn (.func 63) [] [])) [(.t 12), (.t 14)]⟩,
 ⟨(some 16), none, .p (.pick (.t 10) (.t 15) (.c (bl false)))⟩,
 ⟨(some 4), none, .p (.mov (.t 16))⟩])
 .ret))
def r34 : List RS := [.t 4]
theorem c34 : chkF Try.prog drawB Try.f34 i34 r34 = true := by kernel_rfl
/-- (*parlour/parlourkit.Draws).Next -/
def i35 : IC :=
 (.seq
 (.reg [
 ⟨(some 4), none, .p (.mov (.c (i64 0)))⟩])
 (.seq
 (.seq
 (.drw [0, 1, 2, 3, 4, 5, 6, 7, 8, 9, 10, 11, 12, 13] [
 ⟨(some 5), none, .p (.mov (.t 0))⟩,
 ⟨(some 6), none, .p (.nck (.t 5))⟩,
 ⟨(some 7), none, .p (.fa 1 (.t 6))⟩,
 ⟨(some 8), none, .p (.ld1 (.t 7))⟩,
 ⟨(some 9), none, .p (.mov (.t 0))⟩,
 ⟨(some 10), none, .p (.nck (.t 9))⟩,
 ⟨(some 11), none, .p (.fa 0 (.t 10))⟩,
 ⟨(some 12), none, .p (.ld1 (.t 11))⟩,
 ⟨(some 13), none, .p (.len (.t 12))⟩,
 ⟨(some 14), none, .p (.bin .geq (.i .i64) (.t 8) (.t 13))⟩,
 ⟨(some 15), none, .p (.mov (.t 14))⟩,
 ⟨(some 16), (some (15, false)), .p (.mov (.t 1))⟩,
 ⟨(some 17), (some (15, false)), .p (.bin .lss (.i .i64) (.t 16) (.c (i64 1)))⟩,
 ⟨(some 18), none, .p (.pick (.t 15) (.c (bl true)) (.t 17))⟩])
 (.cond (.t 18)
 (.seq
 (.reg [
 ⟨(some 4), none, .p (.mov (.c (i64 0)))⟩])
 .ret)
 .skip))
 (.seq
 (.reg [
 ⟨(some 19), none, .p (.mov (.t 0))⟩,
 ⟨(some 20), none, .p (.nck (.t 19))⟩,
 ⟨(some 21), none, .p (.fa 1 (.t 20))⟩,
 ⟨(some 22), none, .p (.ld1 (.t 21))⟩,
 ⟨(some 23), none, .p (.bin .add (.i .i64) (.t 22) (.c (i64 1)))⟩,
 ⟨(some 24), none, .p (.nck (.t 19))⟩,
 ⟨(some 25), none, .p (.fa 1 (.t 24))⟩,
 ⟨none, none, .e (.st 1 (.t 25) (.t 23))⟩])
 (.seq
 (.drw [0, 1, 2, 3, 4, 5, 6, 7, 8, 9, 10, 11, 12, 13] [
 ⟨(some 26), none, .p (.mov (.t 0))⟩,
 ⟨(some 27), none, .p (.nck (.t 26))⟩,
 ⟨(some 28), none, .p (.fa 0 (.t 27))⟩,
 ⟨(some 29), none, .p (.ld1 (.t 28))⟩,
 ⟨(some 30), none, .p (.mov (.t 0))⟩,
 ⟨(some 31), none, .p (.nck (.t 30))⟩,
 ⟨(some 32), none, .p (.fa 1 (.t 31))⟩,
 ⟨(some 33), none, .p (.ld1 (.t 32))⟩,
 ⟨(some 34), none, .p (.bin .sub (.i .i64) (.t 33) (.c (i64 1)))⟩,
 ⟨(some 35), none, .p (.ia 1 (.t 29) (.t 34))⟩,
 ⟨(some 36), none, .p (.ld1 (.t 35))⟩,
 ⟨(some 37), none, .p (.mov (.t 1))⟩,
 ⟨(some 38), none, .q (.c (.fn (.func 30) [] [])) [(.t 36), (.t 37)]⟩,
 ⟨(some 4), none, .p (.mov (.t 38))⟩])
 .ret))))
def r35 : List RS := [.t 4]
theorem c35 : chkF Try.prog drawB Try.f35 i35 r35 = true := by kernel_rfl
/-- parlour/recall.Form -/
def i36 : IC :=
 (.seq
 (.reg [
 ⟨(some 1), none, .e (.box 25 (.t 0))⟩,
 ⟨(some 2), none, .p (.mov (.c (i64 0)))⟩])
 (.seq
 (.reg [
 ⟨(some 6), none, .p (.ldn 3 (.t 1))⟩,
 ⟨(some 7), none, .e (.call (.c (.fn (.func 64) [] [])) [(.t 6)])⟩,
 ⟨(some 5), none, .p (.mov (.t 7))⟩,
 ⟨(some 8), none, .p (.ext (.t 5) 0)⟩,
 ⟨(some 9), none, .p (.ext (.t 5) 1)⟩,
 ⟨(some 3), none, .p (.mov (.t 8))⟩,
 ⟨(some 4), none, .p (.mov (.t 9))⟩])
 (.seq
 (.reg [
 ⟨(some 10), none, .p (.mov (.t 4))⟩,
 ⟨(some 2), none, .p (.mov (.t 10))⟩])
 .ret)))
def r36 : List RS := [.t 2]
theorem c36 : chkF Try.prog drawB Try.f36 i36 r36 = true := by kernel_rfl
/-- parlour/pack.magic -/
def i37 : IC :=
 (.seq
 (.reg [
 ⟨(some 2), none, .e (.alc 68 [.val (.int .u8 0), .val (.int .u8 0), .val (.int .u8 0)])⟩])
 (.seq
 (.reg [
 ⟨(some 3), none, .p (.mov (.t 0))⟩,
 ⟨(some 4), none, .p (.bld [.val (.int .u8 0), .val (.int .u8 0), .val (.int .u8 0)] [(0, 1, (.c (.val (.int .u8 80)))), (1, 1, (.t 3)), (2, 1, (.c (.val (.int .u8 1))))])⟩,
 ⟨none, none, .e (.st 3 (.t 2) (.t 4))⟩])
 .ret))
def r37 : List RS := [.cn 2 3]
theorem c37 : chkF Try.prog drawB Try.f37 i37 r37 = true := by kernel_rfl
def ya38_0 : IC :=
 (.reg [
 ⟨(some 5), none, .p (.mov (.t 8))⟩])
def yb38_0 : IC :=
 (.blk 1
 (.reg [
 ⟨(some 9), none, .p (.ld1 (.t 2))⟩,
 ⟨(some 10), none, .p (.mov (.t 5))⟩,
 ⟨(some 11), none, .e (.bsl 5 1 1 [.val (.int .u8 0)] [(0, (.t 10))])⟩,
 ⟨(some 12), none, .e (.app 5 1 1 (.t 9) (.t 11))⟩,
 ⟨none, none, .e (.st 1 (.t 2) (.t 12))⟩]))
/-- parlour/pack.put -/
def i38 : IC :=
 (.seq
 (.reg [
 ⟨(some 2), none, .e (.box 31 (.t 0))⟩,
 ⟨(some 4), none, .p (.mov (.c (.val (.slice none 0 0))))⟩])
 (.seq
 (.seq
 (.reg [
 ⟨(some 6), none, .p (.mov (.t 1))⟩,
 ⟨(some 7), none, .e (.call (.c (.fn (.func 65) [] [])) [(.t 6)])⟩])
 (.blk 0
 (.keep [2, 7] (.rng 0 (.t 7) [8] ya38_0 yb38_0))))
 (.seq
 (.reg [
 ⟨(some 13), none, .p (.ld1 (.t 2))⟩,
 ⟨(some 4), none, .p (.mov (.t 13))⟩])
 .ret)))
def r38 : List RS := [.t 4]
theorem c38 : chkF Try.prog drawB Try.f38 i38 r38 = true := by kernel_rfl
/-- parlour/pack.putSigned -/
def i39 : IC :=
 (.seq
 (.reg [
 ⟨(some 4), none, .p (.mov (.c (.val (.slice none 0 0))))⟩])
 (.seq
 (.seq
 (.reg [
 ⟨(some 5), none, .p (.mov (.t 1))⟩,
 ⟨(some 6), none, .p (.bin .lss (.i .i64) (.t 5) (.c (i64 0)))⟩])
 (.cond (.t 6)
 (.seq
 (.reg [
 ⟨(some 7), none, .p (.mov (.t 0))⟩,
 ⟨(some 8), none, .p (.mov (.t 1))⟩,
 ⟨(some 9), none, .p (.bin .mul (.i .i64) (.c (i64 (-2))) (.t 8))⟩,
 ⟨(some 10), none, .p (.bin .sub (.i .i64) (.t 9) (.c (i64 1)))⟩,
 ⟨(some 11), none, .e (.call (.c (.fn (.func 38) [] [])) [(.t 7), (.t 10)])⟩,
 ⟨(some 4), none, .p (.mov (.t 11))⟩])
 .ret)
 .skip))
 (.seq
 (.reg [
 ⟨(some 12), none, .p (.mov (.t 0))⟩,
 ⟨(some 13), none, .p (.mov (.t 1))⟩,
 ⟨(some 14), none, .p (.bin .mul (.i .i64) (.c (i64 2)) (.t 13))⟩,
 ⟨(some 15), none, .e (.call (.c (.fn (.func 38) [] [])) [(.t 12), (.t 14)])⟩,
 ⟨(some 4), none, .p (.mov (.t 15))⟩])
 .ret)))
def r39 : List RS := [.t 4]
theorem c39 : chkF Try.prog drawB Try.f39 i39 r39 = true := by kernel_rfl
/-- parlour/pack.sealed -/
def i40 : IC :=
 (.seq
 (.reg [
 ⟨(some 2), none, .p (.mov (.c (.val (.slice none 0 0))))⟩])
 (.seq
 (.reg [
 ⟨(some 5), none, .p (.mov (.t 0))⟩,
 ⟨(some 6), none, .e (.call (.c (.fn (.func 20) [] [])) [(.t 5)])⟩,
 ⟨(some 3), none, .p (.mov (.t 6))⟩])
 (.seq
 (.reg [
 ⟨(some 7), none, .p (.mov (.t 3))⟩,
 ⟨(some 8), none, .p (.bin .shr (.sh .i64 .u64) (.t 7) (.c (.val (.int .u64 24))))⟩,
 ⟨(some 9), none, .p (.cvi .u8 (.t 8))⟩,
 ⟨(some 10), none, .p (.mov (.t 3))⟩,
 ⟨(some 11), none, .p (.bin .shr (.sh .i64 .u64) (.t 10) (.c (.val (.int .u64 16))))⟩,
 ⟨(some 12), none, .p (.cvi .u8 (.t 11))⟩,
 ⟨(some 13), none, .p (.mov (.t 3))⟩,
 ⟨(some 14), none, .p (.bin .shr (.sh .i64 .u64) (.t 13) (.c (.val (.int .u64 8))))⟩,
 ⟨(some 15), none, .p (.cvi .u8 (.t 14))⟩,
 ⟨(some 16), none, .p (.mov (.t 3))⟩,
 ⟨(some 17), none, .p (.cvi .u8 (.t 16))⟩,
 ⟨(some 18), none, .p (.bld [.val (.int .u8 0), .val (.int .u8 0), .val (.int .u8 0), .val (.int .u8 0)] [(0, 1, (.t 9)), (1, 1, (.t 12)), (2, 1, (.t 15)), (3, 1, (.t 17))])⟩,
 ⟨(some 4), none, .e (.alc 109 [.val (.int .u8 0), .val (.int .u8 0), .val (.int .u8 0), .val (.int .u8 0)])⟩,
 ⟨none, none, .e (.st 4 (.t 4) (.t 18))⟩])
 (.seq
 (.reg [
 ⟨(some 19), none, .p (.mov (.t 0))⟩,
 ⟨(some 20), none, .p (.sla 4 1 (.t 4) none none)⟩,
 ⟨(some 21), none, .e (.app 5 1 1 (.t 19) (.t 20))⟩,
 ⟨(some 2), none, .p (.mov (.t 21))⟩])
 .ret))))
def r40 : List RS := [.t 2]
theorem c40 : chkF Try.prog drawB Try.f40 i40 r40 = true := by kernel_rfl
def l41_0 : IC := .keep [1, 3]
 (.seq
 (.seq
 (.reg [
 ⟨(some 37), none, .p (.mov (.t 3))⟩,
 ⟨(some 38), none, .p (.fa 1 (.t 1))⟩,
 ⟨(some 39), none, .p (.ld1 (.t 38))⟩,
 ⟨(some 40), none, .p (.len (.t 39))⟩,
 ⟨(some 41), none, .p (.bin .lss (.i .i64) (.t 37) (.t 40))⟩])
 (.cond (.t 41)
 .skip
 (.exit 0)))
 (.seq
 (.blk 1
 (.seq
 (.drw [0, 1, 2, 3, 4, 5, 6, 7] [
 ⟨(some 44), none, .p (.ldn 3 (.t 1))⟩,
 ⟨(some 45), none, .p (.fa 1 (.t 1))⟩,
 ⟨(some 46), none, .p (.ld1 (.t 45))⟩,
 ⟨(some 47), none, .p (.mov (.t 3))⟩,
 ⟨(some 48), none, .p (.ia 6 (.t 46) (.t 47))⟩,
 ⟨(some 49), none, .p (.ldn 6 (.t 48))⟩,
 ⟨(some 50), none, .q (.c (.fn (.func 66) [] [])) [(.t 44), (.t 49)]⟩,
 ⟨(some 4), none, .p (.mov (.t 50))⟩])
 (.seq
 (.reg [
 ⟨(some 51), none, .p (.mov (.t 4))⟩,
 ⟨(some 52), none, .p (.bin .neq (.i .i64) (.t 51) (.c (i64 0)))⟩])
 (.cond (.t 52)
 (.seq
 (.reg [
 ⟨(some 53), none, .p (.mov (.t 4))⟩,
 ⟨(some 2), none, .p (.mov (.t 53))⟩])
 .ret)
 .skip))))
 (.reg [
 ⟨(some 42), none, .p (.mov (.t 3))⟩,
 ⟨(some 43), none, .p (.bin .add (.i .i64) (.t 42) (.c (i64 1)))⟩,
 ⟨(some 3), none, .p (.mov (.t 43))⟩])))
def l41_1 : IC := .keep [1, 6]
 (.seq
 (.seq
 (.reg [
 ⟨(some 62), none, .p (.mov (.t 6))⟩,
 ⟨(some 63), none, .p (.fa 1 (.t 1))⟩,
 ⟨(some 64), none, .p (.ld1 (.t 63))⟩,
 ⟨(some 65), none, .p (.len (.t 64))⟩,
 ⟨(some 66), none, .p (.bin .lss (.i .i64) (.t 62) (.t 65))⟩])
 (.cond (.t 66)
 .skip
 (.exit 2)))
 (.seq
 (.blk 3
 (.seq
 (.reg [
 ⟨(some 69), none, .p (.fa 1 (.t 1))⟩,
 ⟨(some 70), none, .p (.ld1 (.t 69))⟩,
 ⟨(some 71), none, .p (.mov (.t 6))⟩,
 ⟨(some 72), none, .p (.ia 6 (.t 70) (.t 71))⟩,
 ⟨(some 73), none, .p (.ldn 6 (.t 72))⟩,
 ⟨(some 7), none, .e (.alc 74 [i64 0, i64 0, i64 0, .val (.slice none 0 0), .val (.slice none 0 0), .val (.slice none 0 0)])⟩,
 ⟨none, none, .e (.st 6 (.t 7) (.t 73))⟩])
 (.seq
 (.drw [0, 1, 2, 3, 4, 5, 6, 7, 8, 9, 10, 11, 12, 13, 14, 15, 16, 17, 18, 19, 20, 21, 22, 23, 24, 25, 26, 27] [
 ⟨(some 74), none, .p (.fa 0 (.t 7))⟩,
 ⟨(some 75), none, .p (.ld1 (.t 74))⟩,
 ⟨(some 76), none, .p (.bin .eql (.i .i64) (.t 75) (.c (i64 2)))⟩,
 ⟨(some 77), none, .p (.mov (.t 76))⟩,
 ⟨(some 78), (some (77, true)), .p (.fa 2 (.t 1))⟩,
 ⟨(some 79), (some (77, true)), .p (.ld1 (.t 78))⟩,
 ⟨(some 80), (some (77, true)), .p (.fa 2 (.t 7))⟩,
 ⟨(some 81), (some (77, true)), .p (.ld1 (.t 80))⟩,
 ⟨(some 82), (some (77, true)), .p (.ia 2 (.t 79) (.t 81))⟩,
 ⟨(some 83), (some (77, true)), .p (.fa 0 (.t 82))⟩,
 ⟨(some 84), (some (77, true)), .p (.ld1 (.t 83))⟩,
 ⟨(some 85), (some (77, true)), .p (.fa 1 (.t 7))⟩,
 ⟨(some 86), (some (77, true)), .p (.ld1 (.t 85))⟩,
 ⟨(some 87), (some (77, true)), .p (.bin .neq (.i .i64) (.t 84) (.t 86))⟩,
 ⟨(some 88), (some (77, true)), .p (.mov (.t 87))⟩,
 ⟨(some 89), (some (88, false)), .p (.fa 2 (.t 1))⟩,
 ⟨(some 90), (some (88, false)), .p (.ld1 (.t 89))⟩,
 ⟨(some 91), (some (88, false)), .p (.fa 2 (.t 7))⟩,
 ⟨(some 92), (some (88, false)), .p (.ld1 (.t 91))⟩,
 ⟨(some 93), (some (88, false)), .p (.ia 2 (.t 90) (.t 92))⟩,
 ⟨(some 94), (some (88, false)), .p (.fa 1 (.t 93))⟩,
 ⟨(some 95), (some (88, false)), .p (.ld1 (.t 94))⟩,
 ⟨(some 96), (some (88, false)), .p (.fa 3 (.t 7))⟩,
 ⟨(some 97), (some (88, false)), .p (.ld1 (.t 96))⟩,
 ⟨(some 98), (some (88, false)), .p (.len (.t 97))⟩,
 ⟨(some 99), (some (88, false)), .p (.bin .neq (.i .i64) (.t 95) (.t 98))⟩,
 ⟨(some 100), (some (77, true)), .p (.pick (.t 88) (.c (bl true)) (.t 99))⟩,
 ⟨(some 101), none, .p (.pick (.t 77) (.t 100) (.c (bl false)))⟩])
 (.cond (.t 101)
 (.seq
 (.reg [
 ⟨(some 2), none, .p (.mov (.c (i64 10)))⟩])
 .ret)
 .skip))))
 (.reg [
 ⟨(some 67), none, .p (.mov (.t 6))⟩,
 ⟨(some 68), none, .p (.bin .add (.i .i64) (.t 67) (.c (i64 1)))⟩,
 ⟨(some 6), none, .p (.mov (.t 68))⟩])))
def l41_2 : IC := .keep [8, 9]
 (.seq
 (.seq
 (.reg [
 ⟨(some 104), none, .p (.mov (.t 9))⟩,
 ⟨(some 105), none, .p (.mov (.t 8))⟩,
 ⟨(some 106), none, .p (.len (.t 105))⟩,
 ⟨(some 107), none, .p (.bin .lss (.i .i64) (.t 104) (.t 106))⟩])
 (.cond (.t 107)
 .skip
 (.exit 4)))
 (.seq
 (.blk 5
 (.seq
 (.reg [
 ⟨(some 110), none, .p (.mov (.t 8))⟩,
 ⟨(some 111), none, .p (.mov (.t 9))⟩,
 ⟨(some 112), none, .p (.ia 1 (.t 110) (.t 111))⟩,
 ⟨(some 113), none, .p (.ld1 (.t 112))⟩,
 ⟨(some 114), none, .p (.len (.t 113))⟩,
 ⟨(some 115), none, .p (.bin .eql (.i .i64) (.t 114) (.c (i64 0)))⟩])
 (.cond (.t 115)
 (.seq
 (.reg [
 ⟨(some 2), none, .p (.mov (.c (i64 18)))⟩])
 .ret)
 .skip)))
 (.reg [
 ⟨(some 108), none, .p (.mov (.t 9))⟩,
 ⟨(some 109), none, .p (.bin .add (.i .i64) (.t 108) (.c (i64 1)))⟩,
 ⟨(some 9), none, .p (.mov (.t 109))⟩])))
def l41_3 : IC := .keep [8, 10]
 (.seq
 (.seq
 (.reg [
 ⟨(some 116), none, .p (.mov (.t 10))⟩,
 ⟨(some 117), none, .p (.mov (.t 8))⟩,
 ⟨(some 118), none, .p (.len (.t 117))⟩,
 ⟨(some 119), none, .p (.bin .lss (.i .i64) (.t 116) (.t 118))⟩])
 (.cond (.t 119)
 .skip
 (.exit 6)))
 (.seq
 (.blk 7
 (.seq
 (.drw [0, 1, 2, 3, 4, 5, 6, 7, 8, 9, 10, 11, 12, 13] [
 ⟨(some 122), none, .p (.mov (.t 8))⟩,
 ⟨(some 123), none, .p (.mov (.t 10))⟩,
 ⟨(some 124), none, .p (.ia 1 (.t 122) (.t 123))⟩,
 ⟨(some 125), none, .p (.ld1 (.t 124))⟩,
 ⟨(some 126), none, .p (.ia 1 (.t 125) (.c (i64 0)))⟩,
 ⟨(some 127), none, .p (.ld1 (.t 126))⟩,
 ⟨(some 128), none, .p (.mov (.t 8))⟩,
 ⟨(some 129), none, .p (.mov (.t 10))⟩,
 ⟨(some 130), none, .p (.bin .sub (.i .i64) (.t 129) (.c (i64 1)))⟩,
 ⟨(some 131), none, .p (.ia 1 (.t 128) (.t 130))⟩,
 ⟨(some 132), none, .p (.ld1 (.t 131))⟩,
 ⟨(some 133), none, .p (.ia 1 (.t 132) (.c (i64 0)))⟩,
 ⟨(some 134), none, .p (.ld1 (.t 133))⟩,
 ⟨(some 135), none, .p (.bin .lss (.i .i64) (.t 127) (.t 134))⟩])
 (.cond (.t 135)
 (.seq
 (.reg [
 ⟨(some 2), none, .p (.mov (.c (i64 9)))⟩])
 .ret)
 .skip)))
 (.reg [
 ⟨(some 120), none, .p (.mov (.t 10))⟩,
 ⟨(some 121), none, .p (.bin .add (.i .i64) (.t 120) (.c (i64 1)))⟩,
 ⟨(some 10), none, .p (.mov (.t 121))⟩])))
/-- parlour/parlourref11.Form -/
def i41 : IC :=
 (.seq
 (.reg [
 ⟨(some 1), none, .e (.box 25 (.t 0))⟩,
 ⟨(some 2), none, .p (.mov (.c (i64 0)))⟩])
 (.seq
 (.seq
 (.reg [
 ⟨(some 11), none, .p (.fa 0 (.t 1))⟩,
 ⟨(some 12), none, .p (.ld1 (.t 11))⟩,
 ⟨(some 13), none, .p (.bin .lss (.i .i64) (.t 12) (.c (i64 1)))⟩,
 ⟨(some 14), none, .p (.mov (.t 13))⟩,
 ⟨(some 15), (some (14, false)), .p (.fa 0 (.t 1))⟩,
 ⟨(some 16), (some (14, false)), .p (.ld1 (.t 15))⟩,
 ⟨(some 17), (some (14, false)), .p (.bin .gtr (.i .i64) (.t 16) (.c (i64 4)))⟩,
 ⟨(some 18), none, .p (.pick (.t 14) (.c (bl true)) (.t 17))⟩,
 ⟨(some 19), none, .p (.mov (.t 18))⟩,
 ⟨(some 20), (some (19, false)), .p (.fa 1 (.t 1))⟩,
 ⟨(some 21), (some (19, false)), .p (.ld1 (.t 20))⟩,
 ⟨(some 22), (some (19, false)), .p (.len (.t 21))⟩,
 ⟨(some 23), (some (19, false)), .p (.bin .lss (.i .i64) (.t 22) (.c (i64 1)))⟩,
 ⟨(some 24), none, .p (.pick (.t 19) (.c (bl true)) (.t 23))⟩,
 ⟨(some 25), none, .p (.mov (.t 24))⟩,
 ⟨(some 26), (some (25, false)), .p (.fa 1 (.t 1))⟩,
 ⟨(some 27), (some (25, false)), .p (.ld1 (.t 26))⟩,
 ⟨(some 28), (some (25, false)), .p (.len (.t 27))⟩,
 ⟨(some 29), (some (25, false)), .p (.bin .gtr (.i .i64) (.t 28) (.c (i64 2000)))⟩,
 ⟨(some 30), none, .p (.pick (.t 25) (.c (bl true)) (.t 29))⟩,
 ⟨(some 31), none, .p (.mov (.t 30))⟩,
 ⟨(some 32), (some (31, false)), .p (.fa 2 (.t 1))⟩,
 ⟨(some 33), (some (31, false)), .p (.ld1 (.t 32))⟩,
 ⟨(some 34), (some (31, false)), .p (.len (.t 33))⟩,
 ⟨(some 35), (some (31, false)), .p (.bin .gtr (.i .i64) (.t 34) (.c (i64 200)))⟩,
 ⟨(some 36), none, .p (.pick (.t 31) (.c (bl true)) (.t 35))⟩])
 (.cond (.t 36)
 (.seq
 (.reg [
 ⟨(some 2), none, .p (.mov (.c (i64 2)))⟩])
 .ret)
 .skip))
 (.seq
 (.seq
 (.reg [
 ⟨(some 3), none, .p (.mov (.c (i64 0)))⟩])
 (.blk 0
 (.loop l41_0)))
 (.seq
 (.reg [
 ⟨(some 5), none, .e (.alc 3 [i64 0])⟩,
 ⟨none, none, .e (.st 1 (.t 5) (.c (i64 0)))⟩])
 (.seq
 (.seq
 (.drw [0, 2, 3, 4, 1, 5] [
 ⟨(some 54), none, .p (.ldn 3 (.t 1))⟩,
 ⟨(some 56), none, .p (.fa 1 (.t 1))⟩,
 ⟨(some 57), none, .p (.ld1 (.t 56))⟩,
 ⟨(some 58), none, .p (.len (.t 57))⟩,
 ⟨(some 55), none, .e (.call (.c (.fn (.func 67) [] [])) [(.t 54), (.c (i64 0)), (.c (i64 0)), (.t 5)])⟩,
 ⟨(some 59), none, .p (.bin .neq (.i .i64) (.t 55) (.t 58))⟩])
 (.cond (.t 59)
 (.seq
 (.reg [
 ⟨(some 2), none, .p (.mov (.c (i64 9)))⟩])
 .ret)
 .skip))
 (.seq
 (.seq
 (.reg [
 ⟨(some 60), none, .p (.ld1 (.t 5))⟩,
 ⟨(some 61), none, .p (.bin .gtr (.i .i64) (.t 60) (.c (i64 40)))⟩])
 (.cond (.t 61)
 (.seq
 (.reg [
 ⟨(some 2), none, .p (.mov (.c (i64 5)))⟩])
 .ret)
 .skip))
 (.seq
 (.seq
 (.reg [
 ⟨(some 6), none, .p (.mov (.c (i64 0)))⟩])
 (.blk 2
 (.loop l41_1)))
 (.seq
 (.reg [
 ⟨(some 102), none, .p (.ldn 3 (.t 1))⟩,
 ⟨(some 103), none, .e (.call (.c (.fn (.func 68) [] [])) [(.t 102)])⟩,
 ⟨(some 8), none, .p (.mov (.t 103))⟩])
 (.seq
 (.seq
 (.reg [
 ⟨(some 9), none, .p (.mov (.c (i64 0)))⟩])
 (.blk 4
 (.loop l41_2)))
 (.seq
 (.seq
 (.reg [
 ⟨(some 10), none, .p (.mov (.c (i64 1)))⟩])
 (.blk 6
 (.loop l41_3)))
 (.seq
 (.reg [
 ⟨(some 2), none, .p (.mov (.c (i64 0)))⟩])
 .ret)))))))))))
def r41 : List RS := [.t 2]
theorem c41 : chkF Try.prog drawB Try.f41 i41 r41 = true := by kernel_rfl
def l42_0 : IC := .keep [0, 3]
 (.seq
 (.seq
 (.reg [
 ⟨(some 4), none, .p (.mov (.t 0))⟩,
 ⟨(some 5), none, .p (.bin .gtr (.i .i64) (.t 4) (.c (i64 127)))⟩])
 (.cond (.t 5)
 .skip
 (.exit 0)))
 (.blk 1
 (.seq
 (.reg [
 ⟨(some 6), none, .p (.mov (.t 3))⟩,
 ⟨(some 7), none, .p (.mov (.t 0))⟩,
 ⟨(some 8), none, .p (.bin .rem (.i .i64) (.t 7) (.c (i64 128)))⟩,
 ⟨(some 9), none, .p (.bin .add (.i .i64) (.c (i64 128)) (.t 8))⟩,
 ⟨(some 10), none, .p (.cvi .u8 (.t 9))⟩,
 ⟨(some 11), none, .e (.bsl 5 1 1 [.val (.int .u8 0)] [(0, (.t 10))])⟩,
 ⟨(some 12), none, .e (.app 5 1 1 (.t 6) (.t 11))⟩,
 ⟨(some 3), none, .p (.mov (.t 12))⟩])
 (.reg [
 ⟨(some 13), none, .p (.mov (.t 0))⟩,
 ⟨(some 14), none, .p (.bin .quo (.i .i64) (.t 13) (.c (i64 128)))⟩,
 ⟨(some 0), none, .p (.mov (.t 14))⟩]))))
/-- parlour/parlourref32.put -/
def i42 : IC :=
 (.seq
 (.reg [
 ⟨(some 2), none, .p (.mov (.c (.val (.slice none 0 0))))⟩])
 (.seq
 (.reg [
 ⟨(some 3), none, .e (.nil 5 1 (.c (.val (.slice none 0 0))))⟩])
 (.seq
 (.blk 0
 (.loop l42_0))
 (.seq
 (.reg [
 ⟨(some 15), none, .p (.mov (.t 3))⟩,
 ⟨(some 16), none, .p (.mov (.t 0))⟩,
 ⟨(some 17), none, .p (.cvi .u8 (.t 16))⟩,
 ⟨(some 18), none, .e (.bsl 5 1 1 [.val (.int .u8 0)] [(0, (.t 17))])⟩,
 ⟨(some 19), none, .e (.app 5 1 1 (.t 15) (.t 18))⟩,
 ⟨(some 2), none, .p (.mov (.t 19))⟩])
 .ret))))
def r42 : List RS := [.t 2]
theorem c42 : chkF Try.prog drawB Try.f42 i42 r42 = true := by kernel_rfl
/-- parlour/parlourref32.sealed -/
def i43 : IC :=
 (.seq
 (.reg [
 ⟨(some 2), none, .p (.mov (.c (.val (.slice none 0 0))))⟩])
 (.seq
 (.reg [
 ⟨(some 4), none, .p (.mov (.t 0))⟩,
 ⟨(some 5), none, .e (.call (.c (.fn (.func 21) [] [])) [(.t 4)])⟩,
 ⟨(some 3), none, .p (.mov (.t 5))⟩])
 (.seq
 (.reg [
 ⟨(some 6), none, .p (.mov (.t 0))⟩,
 ⟨(some 7), none, .p (.mov (.t 3))⟩,
 ⟨(some 8), none, .p (.bin .shr (.sh .i64 .u64) (.t 7) (.c (.val (.int .u64 24))))⟩,
 ⟨(some 9), none, .p (.cvi .u8 (.t 8))⟩,
 ⟨(some 10), none, .p (.mov (.t 3))⟩,
 ⟨(some 11), none, .p (.bin .shr (.sh .i64 .u64) (.t 10) (.c (.val (.int .u64 16))))⟩,
 ⟨(some 12), none, .p (.cvi .u8 (.t 11))⟩,
 ⟨(some 13), none, .p (.mov (.t 3))⟩,
 ⟨(some 14), none, .p (.bin .shr (.sh .i64 .u64) (.t 13) (.c (.val (.int .u64 8))))⟩,
 ⟨(some 15), none, .p (.cvi .u8 (.t 14))⟩,
 ⟨(some 16), none, .p (.mov (.t 3))⟩,
 ⟨(some 17), none, .p (.cvi .u8 (.t 16))⟩,
 ⟨(some 18), none, .e (.bsl 5 1 4 [.val (.int .u8 0)] [(0, (.t 9)), (1, (.t 12)), (2, (.t 15)), (3, (.t 17))])⟩,
 ⟨(some 19), none, .e (.app 5 1 1 (.t 6) (.t 18))⟩,
 ⟨(some 2), none, .p (.mov (.t 19))⟩])
 .ret)))
def r43 : List RS := [.t 2]
theorem c43 : chkF Try.prog drawB Try.f43 i43 r43 = true := by kernel_rfl
def l44_0 : IC := .keep [1, 2, 4, 31, 32, 33]
 (.seq
 (.reg [
 ⟨(some 34), none, .p (.bin .lss (.i .i64) (.t 33) (.t 32))⟩])
 (.seq
 (.cond (.t 34)
 .skip
 (.exit 2))
 (.seq
 (.blk 3
 (.seq
 (.reg [
 ⟨(some 35), none, .p (.ia 1 (.t 31) (.t 33))⟩,
 ⟨(some 36), none, .p (.ld1 (.t 35))⟩,
 ⟨(some 6), none, .p (.mov (.t 36))⟩])
 (.seq
 (.seq
 (.reg [
 ⟨(some 37), none, .p (.mov (.t 6))⟩,
 ⟨(some 38), none, .p (.bin .lss (.i .i64) (.t 37) (.c (i64 0)))⟩,
 ⟨(some 39), none, .p (.mov (.t 38))⟩,
 ⟨(some 40), (some (39, false)), .p (.mov (.t 6))⟩,
 ⟨(some 41), (some (39, false)), .p (.fa 0 (.t 1))⟩,
 ⟨(some 42), (some (39, false)), .p (.ld1 (.t 41))⟩,
 ⟨(some 43), (some (39, false)), .p (.bin .shl (.sh .i64 .i64) (.c (i64 1)) (.t 42))⟩,
 ⟨(some 44), (some (39, false)), .p (.bin .gtr (.i .i64) (.t 40) (.t 43))⟩,
 ⟨(some 45), none, .p (.pick (.t 39) (.c (bl true)) (.t 44))⟩])
 (.cond (.t 45)
 (.seq
 (.reg [
 ⟨none, none, .e (.st 1 (.t 2) (.c (i64 2)))⟩])
 .ret)
 .skip))
 (.reg [
 ⟨(some 46), none, .p (.mov (.t 4))⟩,
 ⟨(some 47), none, .p (.mov (.t 6))⟩,
 ⟨(some 48), none, .p (.bin .add (.i .i64) (.t 46) (.t 47))⟩,
 ⟨(some 4), none, .p (.mov (.t 48))⟩]))))
 (.reg [
 ⟨(some 49), none, .p (.bin .add (.i .i64) (.t 33) (.c (i64 1)))⟩,
 ⟨(some 33), none, .p (.mov (.t 49))⟩]))))
def ya44_0 : IC :=
 (.reg [
 ⟨(some 3), none, .p (.mov (.t 22))⟩])
def yb44_0 : IC :=
 (.blk 1
 (.seq
 (.seq
 (.reg [
 ⟨(some 23), none, .p (.mov (.t 3))⟩,
 ⟨(some 24), none, .p (.len (.t 23))⟩,
 ⟨(some 25), none, .p (.bin .lss (.i .i64) (.t 24) (.c (i64 1)))⟩,
 ⟨(some 26), none, .p (.mov (.t 25))⟩,
 ⟨(some 27), (some (26, false)), .p (.mov (.t 3))⟩,
 ⟨(some 28), (some (26, false)), .p (.len (.t 27))⟩,
 ⟨(some 29), (some (26, false)), .p (.bin .gtr (.i .i64) (.t 28) (.c (i64 10)))⟩,
 ⟨(some 30), none, .p (.pick (.t 26) (.c (bl true)) (.t 29))⟩])
 (.cond (.t 30)
 (.seq
 (.reg [
 ⟨none, none, .e (.st 1 (.t 2) (.c (i64 3)))⟩])
 .ret)
 .skip))
 (.seq
 (.reg [
 ⟨(some 4), none, .p (.mov (.c (i64 0)))⟩])
 (.seq
 (.seq
 (.reg [
 ⟨(some 31), none, .p (.mov (.t 3))⟩,
 ⟨(some 32), none, .p (.len (.t 31))⟩,
 ⟨(some 33), none, .p (.mov (.c (i64 0)))⟩])
 (.blk 2
 (.loop l44_0)))
 (.seq
 (.reg [
 ⟨(some 50), none, .p (.mov (.t 4))⟩,
 ⟨(some 51), none, .p (.fa 0 (.t 1))⟩,
 ⟨(some 52), none, .p (.ld1 (.t 51))⟩,
 ⟨(some 53), none, .p (.bin .shl (.sh .i64 .i64) (.c (i64 1)) (.t 52))⟩,
 ⟨(some 54), none, .p (.bin .neq (.i .i64) (.t 50) (.t 53))⟩])
 (.cond (.t 54)
 (.seq
 (.reg [
 ⟨none, none, .e (.st 1 (.t 2) (.c (i64 14)))⟩])
 .ret)
 .skip))))))
/-- parlour/table.Check -/
def i44 : IC :=
 (.seq
 (.reg [
 ⟨(some 1), none, .e (.box 28 (.t 0))⟩,
 ⟨(some 2), none, .e (.alc 32 [i64 0])⟩])
 (.seq
 (.seq
 (.reg [
 ⟨(some 7), none, .p (.fa 0 (.t 1))⟩,
 ⟨(some 8), none, .p (.ld1 (.t 7))⟩,
 ⟨(some 9), none, .p (.bin .lss (.i .i64) (.t 8) (.c (i64 1)))⟩,
 ⟨(some 10), none, .p (.mov (.t 9))⟩,
 ⟨(some 11), (some (10, false)), .p (.fa 0 (.t 1))⟩,
 ⟨(some 12), (some (10, false)), .p (.ld1 (.t 11))⟩,
 ⟨(some 13), (some (10, false)), .p (.bin .gtr (.i .i64) (.t 12) (.c (i64 30)))⟩,
 ⟨(some 14), none, .p (.pick (.t 10) (.c (bl true)) (.t 13))⟩])
 (.cond (.t 14)
 (.seq
 (.reg [
 ⟨none, none, .e (.st 1 (.t 2) (.c (i64 2)))⟩])
 .ret)
 .skip))
 (.seq
 (.seq
 (.reg [
 ⟨(some 15), none, .p (.fa 1 (.t 1))⟩,
 ⟨(some 16), none, .p (.ld1 (.t 15))⟩,
 ⟨(some 17), none, .p (.len (.t 16))⟩,
 ⟨(some 18), none, .p (.bin .gtr (.i .i64) (.t 17) (.c (i64 200)))⟩])
 (.cond (.t 18)
 (.seq
 (.reg [
 ⟨none, none, .e (.st 1 (.t 2) (.c (i64 4)))⟩])
 .ret)
 .skip))
 (.seq
 (.seq
 (.reg [
 ⟨(some 19), none, .p (.fa 1 (.t 1))⟩,
 ⟨(some 20), none, .p (.ld1 (.t 19))⟩,
 ⟨(some 21), none, .e (.call (.c (.fn (.func 69) [] [])) [(.t 20)])⟩])
 (.blk 0
 (.keep [1, 2, 21] (.rng 1 (.t 21) [22] ya44_0 yb44_0))))
 (.seq
 (.reg [
 ⟨none, none, .e (.st 1 (.t 2) (.c (i64 0)))⟩])
 .ret)))))
def r44 : List RS := [.c1 2]
theorem c44 : chkF Try.prog drawB Try.f44 i44 r44 = true := by kernel_rfl
def l45_1 : IC := .keep [1, 3, 4, 5, 6]
 (.seq
 (.seq
 (.reg [
 ⟨(some 39), none, .p (.mov (.t 6))⟩,
 ⟨(some 40), none, .p (.mov (.t 4))⟩,
 ⟨(some 41), none, .p (.len (.t 40))⟩,
 ⟨(some 42), none, .p (.bin .lss (.i .i64) (.t 39) (.t 41))⟩])
 (.cond (.t 42)
 .skip
 (.exit 2)))
 (.seq
 (.blk 3
 (.seq
 (.seq
 (.drw [0, 1, 2, 3, 4, 5, 6, 7, 8, 9, 10, 11, 12, 13, 14] [
 ⟨(some 45), none, .p (.mov (.t 4))⟩,
 ⟨(some 46), none, .p (.mov (.t 6))⟩,
 ⟨(some 47), none, .p (.ia 1 (.t 45) (.t 46))⟩,
 ⟨(some 48), none, .p (.ld1 (.t 47))⟩,
 ⟨(some 49), none, .p (.bin .lss (.i .i64) (.t 48) (.c (i64 0)))⟩,
 ⟨(some 50), none, .p (.mov (.t 49))⟩,
 ⟨(some 51), (some (50, false)), .p (.mov (.t 4))⟩,
 ⟨(some 52), (some (50, false)), .p (.mov (.t 6))⟩,
 ⟨(some 53), (some (50, false)), .p (.ia 1 (.t 51) (.t 52))⟩,
 ⟨(some 54), (some (50, false)), .p (.ld1 (.t 53))⟩,
 ⟨(some 55), (some (50, false)), .p (.fa 0 (.t 1))⟩,
 ⟨(some 56), (some (50, false)), .p (.ld1 (.t 55))⟩,
 ⟨(some 57), (some (50, false)), .p (.bin .shl (.sh .i64 .i64) (.c (i64 1)) (.t 56))⟩,
 ⟨(some 58), (some (50, false)), .p (.bin .gtr (.i .i64) (.t 54) (.t 57))⟩,
 ⟨(some 59), none, .p (.pick (.t 50) (.c (bl true)) (.t 58))⟩])
 (.cond (.t 59)
 (.seq
 (.reg [
 ⟨(some 2), none, .p (.mov (.c (i64 2)))⟩])
 .ret)
 .skip))
 (.reg [
 ⟨(some 60), none, .p (.mov (.t 5))⟩,
 ⟨(some 61), none, .p (.mov (.t 4))⟩,
 ⟨(some 62), none, .p (.mov (.t 6))⟩,
 ⟨(some 63), none, .p (.ia 1 (.t 61) (.t 62))⟩,
 ⟨(some 64), none, .p (.ld1 (.t 63))⟩,
 ⟨(some 65), none, .p (.bin .add (.i .i64) (.t 60) (.t 64))⟩,
 ⟨(some 5), none, .p (.mov (.t 65))⟩])))
 (.reg [
 ⟨(some 43), none, .p (.mov (.t 6))⟩,
 ⟨(some 44), none, .p (.bin .add (.i .i64) (.t 43) (.c (i64 1)))⟩,
 ⟨(some 6), none, .p (.mov (.t 44))⟩])))
def l45_0 : IC := .keep [1, 3]
 (.seq
 (.seq
 (.reg [
 ⟨(some 19), none, .p (.mov (.t 3))⟩,
 ⟨(some 20), none, .p (.fa 1 (.t 1))⟩,
 ⟨(some 21), none, .p (.ld1 (.t 20))⟩,
 ⟨(some 22), none, .p (.len (.t 21))⟩,
 ⟨(some 23), none, .p (.bin .lss (.i .i64) (.t 19) (.t 22))⟩])
 (.cond (.t 23)
 .skip
 (.exit 0)))
 (.seq
 (.blk 1
 (.seq
 (.reg [
 ⟨(some 26), none, .p (.fa 1 (.t 1))⟩,
 ⟨(some 27), none, .p (.ld1 (.t 26))⟩,
 ⟨(some 28), none, .p (.mov (.t 3))⟩,
 ⟨(some 29), none, .p (.ia 1 (.t 27) (.t 28))⟩,
 ⟨(some 30), none, .p (.ld1 (.t 29))⟩,
 ⟨(some 4), none, .p (.mov (.t 30))⟩])
 (.seq
 (.seq
 (.reg [
 ⟨(some 31), none, .p (.mov (.t 4))⟩,
 ⟨(some 32), none, .p (.len (.t 31))⟩,
 ⟨(some 33), none, .p (.bin .lss (.i .i64) (.t 32) (.c (i64 1)))⟩,
 ⟨(some 34), none, .p (.mov (.t 33))⟩,
 ⟨(some 35), (some (34, false)), .p (.mov (.t 4))⟩,
 ⟨(some 36), (some (34, false)), .p (.len (.t 35))⟩,
 ⟨(some 37), (some (34, false)), .p (.bin .gtr (.i .i64) (.t 36) (.c (i64 10)))⟩,
 ⟨(some 38), none, .p (.pick (.t 34) (.c (bl true)) (.t 37))⟩])
 (.cond (.t 38)
 (.seq
 (.reg [
 ⟨(some 2), none, .p (.mov (.c (i64 3)))⟩])
 .ret)
 .skip))
 (.seq
 (.reg [
 ⟨(some 5), none, .p (.mov (.c (i64 0)))⟩])
 (.seq
 (.seq
 (.reg [
 ⟨(some 6), none, .p (.mov (.c (i64 0)))⟩])
 (.blk 2
 (.loop l45_1)))
 (.seq
 (.reg [
 ⟨(some 66), none, .p (.mov (.t 5))⟩,
 ⟨(some 67), none, .p (.fa 0 (.t 1))⟩,
 ⟨(some 68), none, .p (.ld1 (.t 67))⟩,
 ⟨(some 69), none, .p (.bin .shl (.sh .i64 .i64) (.c (i64 1)) (.t 68))⟩,
 ⟨(some 70), none, .p (.bin .neq (.i .i64) (.t 66) (.t 69))⟩])
 (.cond (.t 70)
 (.seq
 (.reg [
 ⟨(some 2), none, .p (.mov (.c (i64 14)))⟩])
 .ret)
 .skip)))))))
 (.reg [
 ⟨(some 24), none, .p (.mov (.t 3))⟩,
 ⟨(some 25), none, .p (.bin .add (.i .i64) (.t 24) (.c (i64 1)))⟩,
 ⟨(some 3), none, .p (.mov (.t 25))⟩])))
/-- parlour/parlourref31.Check -/
def i45 : IC :=
 (.seq
 (.reg [
 ⟨(some 1), none, .e (.box 28 (.t 0))⟩,
 ⟨(some 2), none, .p (.mov (.c (i64 0)))⟩])
 (.seq
 (.seq
 (.reg [
 ⟨(some 7), none, .p (.fa 0 (.t 1))⟩,
 ⟨(some 8), none, .p (.ld1 (.t 7))⟩,
 ⟨(some 9), none, .p (.bin .lss (.i .i64) (.t 8) (.c (i64 1)))⟩,
 ⟨(some 10), none, .p (.mov (.t 9))⟩,
 ⟨(some 11), (some (10, false)), .p (.fa 0 (.t 1))⟩,
 ⟨(some 12), (some (10, false)), .p (.ld1 (.t 11))⟩,
 ⟨(some 13), (some (10, false)), .p (.bin .gtr (.i .i64) (.t 12) (.c (i64 30)))⟩,
 ⟨(some 14), none, .p (.pick (.t 10) (.c (bl true)) (.t 13))⟩])
 (.cond (.t 14)
 (.seq
 (.reg [
 ⟨(some 2), none, .p (.mov (.c (i64 2)))⟩])
 .ret)
 .skip))
 (.seq
 (.seq
 (.reg [
 ⟨(some 15), none, .p (.fa 1 (.t 1))⟩,
 ⟨(some 16), none, .p (.ld1 (.t 15))⟩,
 ⟨(some 17), none, .p (.len (.t 16))⟩,
 ⟨(some 18), none, .p (.bin .gtr (.i .i64) (.t 17) (.c (i64 200)))⟩])
 (.cond (.t 18)
 (.seq
 (.reg [
 ⟨(some 2), none, .p (.mov (.c (i64 4)))⟩])
 .ret)
 .skip))
 (.seq
 (.seq
 (.reg [
 ⟨(some 3), none, .p (.mov (.c (i64 0)))⟩])
 (.blk 0
 (.loop l45_0)))
 (.seq
 (.reg [
 ⟨(some 2), none, .p (.mov (.c (i64 0)))⟩])
 .ret)))))
def r45 : List RS := [.t 2]
theorem c45 : chkF Try.prog drawB Try.f45 i45 r45 = true := by kernel_rfl
/-- parlour/pack.ReadGame$1 -/
def i46 : IC :=
 (.seq
 (.reg [
 ⟨(some 2), none, .p .no⟩,
 ⟨(some 3), none, .e (.call (.c (.fn (.func 47) [] [])) [(.t 2), (.t 0)])⟩])
 (.seq
 (.reg [
 ⟨(some 4), none, .p (.fa 0 (.t 0))⟩,
 ⟨(some 5), none, .p (.ld1 (.t 4))⟩,
 ⟨(some 6), none, .p (.bin .neq (.i .i64) (.t 5) (.c (i64 0)))⟩])
 (.cond (.t 6)
 (.reg [
 ⟨(some 7), none, .p (.bld [i64 0, .val (.slice none 0 0), .val (.slice none 0 0)] [])⟩,
 ⟨none, none, .e (.st 3 (.t 1) (.t 7))⟩])
 .skip)))
def r46 : List RS := []
theorem c46 : chkF Try.prog drawB Try.f46 i46 r46 = true := by kernel_rfl
/-- parlour/pack.caught -/
def i47 : IC :=
 (.seq
 (.seq
 (.reg [
 ⟨(some 6), none, .p (.mov (.t 0))⟩,
 ⟨(some 7), none, .p .no⟩])
 (.cond (.t 7)
 .ret
 .skip))
 (.seq
 (.reg [
 ⟨(some 8), none, .p (.mov (.t 1))⟩,
 ⟨(some 9), none, .p (.bld [i64 0, i64 0] [(0, 1, (.c (i64 13)))])⟩,
 ⟨(some 10), none, .p (.nck (.t 8))⟩,
 ⟨none, none, .e (.st 2 (.t 10) (.t 9))⟩])
 (.seq
 (.reg [
 ⟨(some 12), none, .p (.mov (.t 0))⟩,
 ⟨(some 13), none, .p .no⟩,
 ⟨(some 11), none, .p (.mov (.t 13))⟩,
 ⟨(some 14), none, .p (.ext (.t 11) 0)⟩,
 ⟨(some 15), none, .p (.ext (.t 11) 1)⟩,
 ⟨(some 4), none, .e (.alc 47 [i64 0, i64 0])⟩,
 ⟨none, none, .e (.st 2 (.t 4) (.t 14))⟩,
 ⟨(some 5), none, .p (.mov (.t 15))⟩])
 (.seq
 (.reg [
 ⟨(some 16), none, .p (.mov (.t 5))⟩])
 (.cond (.t 16)
 (.reg [
 ⟨(some 17), none, .p (.mov (.t 1))⟩,
 ⟨(some 18), none, .p (.ldn 2 (.t 4))⟩,
 ⟨(some 19), none, .p (.nck (.t 17))⟩,
 ⟨none, none, .e (.st 2 (.t 19) (.t 18))⟩])
 .skip)))))
def r47 : List RS := []
theorem c47 : chkF Try.prog drawB Try.f47 i47 r47 = true := by kernel_rfl
def l48_0 : IC := .keep [0, 3, 5, 6, 26, 27, 28]
 (.seq
 (.reg [
 ⟨(some 29), none, .p (.bin .lss (.i .i64) (.t 28) (.t 27))⟩])
 (.seq
 (.cond (.t 29)
 .skip
 (.exit 0))
 (.seq
 (.blk 1
 (.seq
 (.reg [
 ⟨(some 30), none, .p (.ia 1 (.t 26) (.t 28))⟩,
 ⟨(some 31), none, .p (.ld1 (.t 30))⟩,
 ⟨(some 8), none, .p (.mov (.t 31))⟩])
 (.reg [
 ⟨(some 32), none, .p (.mov (.t 6))⟩,
 ⟨(some 33), none, .p (.bin .shl (.sh .i64 .u64) (.t 32) (.c (.val (.int .u64 8))))⟩,
 ⟨(some 34), none, .p (.mov (.t 8))⟩,
 ⟨(some 35), none, .p (.cvi .i64 (.t 34))⟩,
 ⟨(some 36), none, .p (.bin .add (.i .i64) (.t 33) (.t 35))⟩,
 ⟨(some 6), none, .p (.mov (.t 36))⟩])))
 (.reg [
 ⟨(some 37), none, .p (.bin .add (.i .i64) (.t 28) (.c (i64 1)))⟩,
 ⟨(some 28), none, .p (.mov (.t 37))⟩]))))
def l48_1 : IC := .keep [0, 5, 46, 47]
 (.seq
 (.reg [
 ⟨(some 48), none, .p (.bin .lss (.i .i64) (.t 47) (.c (i64 3)))⟩])
 (.seq
 (.cond (.t 48)
 .skip
 (.exit 2))
 (.seq
 (.blk 3
 (.seq
 (.reg [
 ⟨(some 49), none, .p (.mov (.t 47))⟩,
 ⟨(some 50), none, .p (.ixa 3 1 true (.t 46) (.t 47))⟩,
 ⟨(some 9), none, .p (.mov (.t 49))⟩,
 ⟨(some 10), none, .p (.mov (.t 50))⟩])
 (.seq
 (.reg [
 ⟨(some 51), none, .p (.mov (.t 0))⟩,
 ⟨(some 52), none, .p (.mov (.t 9))⟩,
 ⟨(some 53), none, .p (.ia 1 (.t 51) (.t 52))⟩,
 ⟨(some 54), none, .p (.ld1 (.t 53))⟩,
 ⟨(some 55), none, .p (.mov (.t 10))⟩,
 ⟨(some 56), none, .p (.bin .neq (.i .u8) (.t 54) (.t 55))⟩])
 (.cond (.t 56)
 (.reg [
 ⟨(some 57), none, .p (.mov (.t 9))⟩,
 ⟨(some 58), none, .e (.call (.c (.fn (.func 53) [] [])) [(.c (i64 3)), (.t 57)])⟩])
 .skip))))
 (.reg [
 ⟨(some 59), none, .p (.bin .add (.i .i64) (.t 47) (.c (i64 1)))⟩,
 ⟨(some 47), none, .p (.mov (.t 59))⟩]))))
end Go.Proofs.Ytoghpbjllompaaa

