/-
  Steps of the proof: contracts of functions and plain facts that the statement rests on.
-/
import Derived.Test.YtoghpbjllompaaaCore4
import Derived.Test.YtoghpbjllompaaaRows
set_option linter.all false
namespace Go.Proofs.Ytoghpbjllompaaa
open Go.Ab
def l3_0 : IC := .keep [2, 3, 5]
 (.seq
 (.seq
 (.reg [
 ⟨(some 37), none, .p (.mov (.t 5))⟩,
 ⟨(some 38), none, .p (.fa 1 (.t 3))⟩,
 ⟨(some 39), none, .p (.ld1 (.t 38))⟩,
 ⟨(some 40), none, .p (.len (.t 39))⟩,
 ⟨(some 41), none, .p (.bin .lss (.i .i64) (.t 37) (.t 40))⟩])
 (.cond (.t 41)
 .skip
 (.exit 0)))
 (.seq
 (.blk 1
 (.seq
 (.reg [
 ⟨(some 44), none, .p (.fa 1 (.t 3))⟩,
 ⟨(some 45), none, .p (.ld1 (.t 44))⟩,
 ⟨(some 46), none, .p (.mov (.t 5))⟩,
 ⟨(some 47), none, .p (.ia 1 (.t 45) (.t 46))⟩,
 ⟨(some 48), none, .p (.ld1 (.t 47))⟩,
 ⟨(some 49), none, .p (.len (.t 48))⟩,
 ⟨(some 50), none, .p (.bin .gtr (.i .i64) (.t 49) (.c (i64 20)))⟩])
 (.cond (.t 50)
 (.seq
 (.reg [
 ⟨(some 51), none, .e (.call (.c (.fn (.func 10) [] [])) [])⟩,
 ⟨(some 4), none, .p (.mov (.t 51))⟩])
 .ret)
 .skip)))
 (.reg [
 ⟨(some 42), none, .p (.mov (.t 5))⟩,
 ⟨(some 43), none, .p (.bin .add (.i .i64) (.t 42) (.c (i64 1)))⟩,
 ⟨(some 5), none, .p (.mov (.t 43))⟩])))
/-- parlour/parlourlaw32.PackWrites -/
def i3 : IC :=
 (.seq
 (.reg [
 ⟨(some 2), none, .e (.box 25 (.t 0))⟩,
 ⟨(some 3), none, .e (.box 28 (.t 1))⟩,
 ⟨(some 4), none, .p (.mov (.c (bl false)))⟩])
 (.seq
 (.seq
 (.reg [
 ⟨(some 14), none, .p (.fa 1 (.t 2))⟩,
 ⟨(some 15), none, .p (.ld1 (.t 14))⟩,
 ⟨(some 16), none, .p (.len (.t 15))⟩,
 ⟨(some 17), none, .p (.bin .gtr (.i .i64) (.t 16) (.c (i64 60)))⟩,
 ⟨(some 18), none, .p (.mov (.t 17))⟩,
 ⟨(some 19), (some (18, true)), .p (.fa 1 (.t 2))⟩,
 ⟨(some 20), (some (18, true)), .p (.ld1 (.t 19))⟩,
 ⟨(some 21), (some (18, true)), .p (.len (.t 20))⟩,
 ⟨(some 22), (some (18, true)), .p (.bin .leq (.i .i64) (.t 21) (.c (i64 2000)))⟩,
 ⟨(some 23), none, .p (.pick (.t 18) (.t 22) (.c (bl false)))⟩,
 ⟨(some 24), none, .p (.mov (.t 23))⟩,
 ⟨(some 25), (some (24, false)), .p (.fa 1 (.t 2))⟩,
 ⟨(some 26), (some (24, false)), .p (.ld1 (.t 25))⟩,
 ⟨(some 27), (some (24, false)), .p (.len (.t 26))⟩,
 ⟨(some 28), (some (24, false)), .p (.bin .gtr (.i .i64) (.t 27) (.c (i64 2010)))⟩,
 ⟨(some 29), none, .p (.pick (.t 24) (.c (bl true)) (.t 28))⟩,
 ⟨(some 30), none, .p (.mov (.t 29))⟩,
 ⟨(some 31), (some (30, false)), .p (.fa 1 (.t 3))⟩,
 ⟨(some 32), (some (30, false)), .p (.ld1 (.t 31))⟩,
 ⟨(some 33), (some (30, false)), .p (.len (.t 32))⟩,
 ⟨(some 34), (some (30, false)), .p (.bin .gtr (.i .i64) (.t 33) (.c (i64 205)))⟩,
 ⟨(some 35), none, .p (.pick (.t 30) (.c (bl true)) (.t 34))⟩])
 (.cond (.t 35)
 (.seq
 (.reg [
 ⟨(some 36), none, .e (.call (.c (.fn (.func 10) [] [])) [])⟩,
 ⟨(some 4), none, .p (.mov (.t 36))⟩])
 .ret)
 .skip))
 (.seq
 (.seq
 (.reg [
 ⟨(some 5), none, .p (.mov (.c (i64 0)))⟩])
 (.blk 0
 (.loop l3_0)))
 (.seq
 (.reg [
 ⟨(some 53), none, .p (.ldn 3 (.t 2))⟩,
 ⟨(some 54), none, .e (.call (.c (.fn (.func 11) [] [])) [(.t 53)])⟩,
 ⟨(some 52), none, .p (.mov (.t 54))⟩,
 ⟨(some 55), none, .p (.ext (.t 52) 0)⟩,
 ⟨(some 56), none, .p (.ext (.t 52) 1)⟩,
 ⟨(some 6), none, .p (.mov (.t 55))⟩,
 ⟨(some 7), none, .p (.mov (.t 56))⟩])
 (.seq
 (.reg [
 ⟨(some 58), none, .p (.ldn 3 (.t 2))⟩,
 ⟨(some 59), none, .e (.call (.c (.fn (.func 12) [] [])) [(.t 58)])⟩,
 ⟨(some 57), none, .p (.mov (.t 59))⟩,
 ⟨(some 60), none, .p (.ext (.t 57) 0)⟩,
 ⟨(some 61), none, .p (.ext (.t 57) 1)⟩,
 ⟨(some 8), none, .p (.mov (.t 60))⟩,
 ⟨(some 9), none, .p (.mov (.t 61))⟩])
 (.seq
 (.reg [
 ⟨(some 63), none, .p (.ldn 2 (.t 3))⟩,
 ⟨(some 64), none, .e (.call (.c (.fn (.func 13) [] [])) [(.t 63)])⟩,
 ⟨(some 62), none, .p (.mov (.t 64))⟩,
 ⟨(some 65), none, .p (.ext (.t 62) 0)⟩,
 ⟨(some 66), none, .p (.ext (.t 62) 1)⟩,
 ⟨(some 10), none, .p (.mov (.t 65))⟩,
 ⟨(some 11), none, .p (.mov (.t 66))⟩])
 (.seq
 (.reg [
 ⟨(some 68), none, .p (.ldn 2 (.t 3))⟩,
 ⟨(some 69), none, .e (.call (.c (.fn (.func 14) [] [])) [(.t 68)])⟩,
 ⟨(some 67), none, .p (.mov (.t 69))⟩,
 ⟨(some 70), none, .p (.ext (.t 67) 0)⟩,
 ⟨(some 71), none, .p (.ext (.t 67) 1)⟩,
 ⟨(some 12), none, .p (.mov (.t 70))⟩,
 ⟨(some 13), none, .p (.mov (.t 71))⟩])
 (.seq
 (.reg [
 ⟨(some 72), none, .p (.mov (.t 6))⟩,
 ⟨(some 73), none, .p (.mov (.t 8))⟩,
 ⟨(some 74), none, .e (.call (.c (.fn (.func 15) [] [])) [(.t 72), (.t 73)])⟩,
 ⟨(some 75), none, .p (.mov (.t 74))⟩,
 ⟨(some 76), (some (75, true)), .p (.mov (.t 7))⟩,
 ⟨(some 77), (some (75, true)), .p (.mov (.t 9))⟩,
 ⟨(some 78), (some (75, true)), .p (.bin .eql (.i .i64) (.t 76) (.t 77))⟩,
 ⟨(some 79), none, .p (.pick (.t 75) (.t 78) (.c (bl false)))⟩,
 ⟨(some 80), none, .p (.mov (.t 79))⟩,
 ⟨(some 81), (some (80, true)), .p (.mov (.t 10))⟩,
 ⟨(some 82), (some (80, true)), .p (.mov (.t 12))⟩,
 ⟨(some 83), (some (80, true)), .q (.c (.fn (.func 15) [] [])) [(.t 81), (.t 82)]⟩,
 ⟨(some 84), none, .p (.pick (.t 80) (.t 83) (.c (bl false)))⟩,
 ⟨(some 85), none, .p (.mov (.t 84))⟩,
 ⟨(some 86), (some (85, true)), .p (.mov (.t 11))⟩,
 ⟨(some 87), (some (85, true)), .p (.mov (.t 13))⟩,
 ⟨(some 88), (some (85, true)), .p (.bin .eql (.i .i64) (.t 86) (.t 87))⟩,
 ⟨(some 89), none, .p (.pick (.t 85) (.t 88) (.c (bl false)))⟩,
 ⟨(some 90), none, .p (.mov (.t 89))⟩,
 ⟨(some 91), (some (90, true)), .q (.c (.fn (.func 10) [] [])) []⟩,
 ⟨(some 92), none, .p (.pick (.t 90) (.t 91) (.c (bl false)))⟩,
 ⟨(some 4), none, .p (.mov (.t 92))⟩])
 .ret))))))))
def r3 : List RS := [.t 4]
theorem c3 : chkF Try.prog drawB Try.f3 i3 r3 = true := by kernel_rfl
def l9_1 : IC := .keep [2, 3, 4, 11, 12, 13, 14, 15, 16]
 (.seq
 (.seq
 (.reg [
 ⟨(some 49), none, .p (.mov (.t 16))⟩,
 ⟨(some 50), none, .p (.mov (.t 14))⟩,
 ⟨(some 51), none, .p (.len (.t 50))⟩,
 ⟨(some 52), none, .p (.bin .lss (.i .i64) (.t 49) (.t 51))⟩])
 (.cond (.t 52)
 .skip
 (.exit 2)))
 (.seq
 (.blk 3
 (.seq
 (.reg [
 ⟨(some 55), none, .p (.mov (.t 14))⟩,
 ⟨(some 56), none, .p (.mov (.t 16))⟩,
 ⟨(some 57), none, .p (.mov (.t 11))⟩,
 ⟨(some 58), none, .p (.mov (.t 15))⟩,
 ⟨(some 59), none, .p (.bin .add (.i .i64) (.t 58) (.c (i64 1)))⟩,
 ⟨(some 60), none, .e (.call (.c (.fn (.func 35) [] [])) [(.t 57), (.t 59)])⟩,
 ⟨(some 61), none, .p (.ia 1 (.t 55) (.t 56))⟩,
 ⟨none, none, .e (.st 1 (.t 61) (.t 60))⟩])
 (.reg [
 ⟨(some 62), none, .p (.mov (.t 15))⟩,
 ⟨(some 63), none, .p (.mov (.t 14))⟩,
 ⟨(some 64), none, .p (.mov (.t 16))⟩,
 ⟨(some 65), none, .p (.ia 1 (.t 63) (.t 64))⟩,
 ⟨(some 66), none, .p (.ld1 (.t 65))⟩,
 ⟨(some 67), none, .p (.bin .sub (.i .i64) (.t 62) (.t 66))⟩,
 ⟨(some 15), none, .p (.mov (.t 67))⟩])))
 (.reg [
 ⟨(some 53), none, .p (.mov (.t 16))⟩,
 ⟨(some 54), none, .p (.bin .add (.i .i64) (.t 53) (.c (i64 1)))⟩,
 ⟨(some 16), none, .p (.mov (.t 54))⟩])))
def l9_0 : IC := .keep [2, 3, 4, 11, 12, 13]
 (.seq
 (.seq
 (.reg [
 ⟨(some 38), none, .p (.mov (.t 13))⟩,
 ⟨(some 39), none, .p (.bin .gtr (.i .i64) (.t 38) (.c (i64 0)))⟩])
 (.cond (.t 39)
 .skip
 (.exit 0)))
 (.seq
 (.blk 1
 (.seq
 (.reg [
 ⟨(some 42), none, .p (.mov (.t 11))⟩,
 ⟨(some 43), none, .e (.call (.c (.fn (.func 35) [] [])) [(.t 42), (.c (i64 5))])⟩,
 ⟨(some 44), none, .p (.bin .add (.i .i64) (.c (i64 1)) (.t 43))⟩,
 ⟨(some 45), none, .e (.mks 3 1 8 [i64 0] (.t 44) (.t 44))⟩,
 ⟨(some 14), none, .p (.mov (.t 45))⟩])
 (.seq
 (.reg [
 ⟨(some 46), none, .p (.fa 0 (.t 12))⟩,
 ⟨(some 47), none, .p (.ld1 (.t 46))⟩,
 ⟨(some 48), none, .p (.bin .shl (.sh .i64 .i64) (.c (i64 1)) (.t 47))⟩,
 ⟨(some 15), none, .p (.mov (.t 48))⟩])
 (.seq
 (.seq
 (.reg [
 ⟨(some 16), none, .p (.mov (.c (i64 1)))⟩])
 (.blk 2
 (.loop l9_1)))
 (.seq
 (.reg [
 ⟨(some 68), none, .p (.mov (.t 14))⟩,
 ⟨(some 69), none, .p (.mov (.t 15))⟩,
 ⟨(some 70), none, .p (.ia 1 (.t 68) (.c (i64 0)))⟩,
 ⟨none, none, .e (.st 1 (.t 70) (.t 69))⟩])
 (.reg [
 ⟨(some 71), none, .p (.fa 1 (.t 12))⟩,
 ⟨(some 72), none, .p (.ld1 (.t 71))⟩,
 ⟨(some 73), none, .p (.mov (.t 14))⟩,
 ⟨(some 74), none, .e (.bsl 30 1 1 [.val (.slice none 0 0)] [(0, (.t 73))])⟩,
 ⟨(some 75), none, .e (.app 30 1 24 (.t 72) (.t 74))⟩,
 ⟨(some 76), none, .p (.fa 1 (.t 12))⟩,
 ⟨none, none, .e (.st 1 (.t 76) (.t 75))⟩]))))))
 (.reg [
 ⟨(some 40), none, .p (.mov (.t 13))⟩,
 ⟨(some 41), none, .p (.bin .sub (.i .i64) (.t 40) (.c (i64 1)))⟩,
 ⟨(some 13), none, .p (.mov (.t 41))⟩])))
/-- parlour/parlourlaw32.PackTables -/
def i9 : IC :=
 (.seq
 (.reg [
 ⟨(some 10), none, .p (.mov (.c (bl false)))⟩])
 (.seq
 (.reg [
 ⟨(some 29), none, .p (.mov (.t 0))⟩,
 ⟨(some 30), none, .p (.bld [.val (.slice none 0 0), i64 0] [(0, 1, (.t 29))])⟩,
 ⟨(some 31), none, .e (.box 63 (.t 30))⟩,
 ⟨(some 11), none, .p (.mov (.t 31))⟩])
 (.seq
 (.reg [
 ⟨(some 32), none, .p (.mov (.t 1))⟩,
 ⟨(some 33), none, .e (.call (.c (.fn (.func 30) [] [])) [(.t 32), (.c (i64 30))])⟩,
 ⟨(some 34), none, .p (.bin .add (.i .i64) (.c (i64 1)) (.t 33))⟩,
 ⟨(some 35), none, .p (.bld [i64 0, .val (.slice none 0 0)] [(0, 1, (.t 34))])⟩,
 ⟨(some 12), none, .e (.alc 28 [i64 0, .val (.slice none 0 0)])⟩,
 ⟨none, none, .e (.st 2 (.t 12) (.t 35))⟩])
 (.seq
 (.seq
 (.reg [
 ⟨(some 36), none, .p (.mov (.t 11))⟩,
 ⟨(some 37), none, .e (.call (.c (.fn (.func 35) [] [])) [(.t 36), (.c (i64 9))])⟩,
 ⟨(some 13), none, .p (.mov (.t 37))⟩])
 (.blk 0
 (.loop l9_0)))
 (.seq
 (.reg [
 ⟨(some 78), none, .p (.ldn 2 (.t 12))⟩,
 ⟨(some 79), none, .e (.call (.c (.fn (.func 13) [] [])) [(.t 78)])⟩,
 ⟨(some 77), none, .p (.mov (.t 79))⟩,
 ⟨(some 80), none, .p (.ext (.t 77) 0)⟩,
 ⟨(some 81), none, .p (.ext (.t 77) 1)⟩,
 ⟨(some 17), none, .p (.mov (.t 80))⟩,
 ⟨(some 18), none, .p (.mov (.t 81))⟩])
 (.seq
 (.reg [
 ⟨(some 83), none, .p (.mov (.t 17))⟩,
 ⟨(some 84), none, .e (.call (.c (.fn (.func 32) [] [])) [(.t 83)])⟩,
 ⟨(some 82), none, .p (.mov (.t 84))⟩,
 ⟨(some 85), none, .p (.ext (.t 82) 0)⟩,
 ⟨(some 86), none, .p (.ext (.t 82) 1)⟩,
 ⟨(some 19), none, .e (.alc 28 [i64 0, .val (.slice none 0 0)])⟩,
 ⟨(some 20), none, .e (.alc 47 [i64 0, i64 0])⟩,
 ⟨none, none, .e (.st 2 (.t 19) (.t 85))⟩,
 ⟨none, none, .e (.st 2 (.t 20) (.t 86))⟩])
 (.seq
 (.seq
 (.reg [
 ⟨(some 87), none, .p (.mov (.t 18))⟩,
 ⟨(some 88), none, .p (.bin .neq (.i .i64) (.t 87) (.c (i64 0)))⟩,
 ⟨(some 89), none, .p (.mov (.t 88))⟩,
 ⟨(some 90), (some (89, false)), .p (.ldn 2 (.t 20))⟩,
 ⟨(some 91), (some (89, false)), .p (.bld [i64 0, i64 0] [])⟩,
 ⟨(some 92), (some (89, false)), .p (.eqf true [.i .i64, .i .i64] (.t 90) (.t 91))⟩,
 ⟨(some 93), none, .p (.pick (.t 89) (.c (bl true)) (.t 92))⟩,
 ⟨(some 94), none, .p (.mov (.t 93))⟩,
 ⟨(some 95), (some (94, false)), .p (.ldn 2 (.t 19))⟩,
 ⟨(some 96), (some (94, false)), .p (.ldn 2 (.t 12))⟩,
 ⟨(some 97), (some (94, false)), .q (.c (.fn (.func 34) [] [])) [(.t 95), (.t 96)]⟩,
 ⟨(some 98), (some (94, false)), .p (.not (.t 97))⟩,
 ⟨(some 99), none, .p (.pick (.t 94) (.c (bl true)) (.t 98))⟩,
 ⟨(some 100), none, .p (.mov (.t 99))⟩,
 ⟨(some 101), (some (100, false)), .p (.mov (.t 17))⟩,
 ⟨(some 102), (some (100, false)), .p (.len (.t 101))⟩,
 ⟨(some 103), (some (100, false)), .p (.bin .eql (.i .i64) (.t 102) (.c (i64 0)))⟩,
 ⟨(some 104), none, .p (.pick (.t 100) (.c (bl true)) (.t 103))⟩])
 (.cond (.t 104)
 (.seq
 (.reg [
 ⟨(some 10), none, .p (.mov (.c (bl false)))⟩])
 .ret)
 .skip))
 (.seq
 (.reg [
 ⟨(some 105), none, .p (.mov (.t 2))⟩,
 ⟨(some 106), none, .p (.mov (.t 17))⟩,
 ⟨(some 107), none, .p (.len (.t 106))⟩,
 ⟨(some 108), none, .e (.call (.c (.fn (.func 30) [] [])) [(.t 105), (.t 107)])⟩,
 ⟨(some 21), none, .p (.mov (.t 108))⟩])
 (.seq
 (.drw [0, 1, 2, 3, 4, 5, 6, 7, 8, 9, 10, 11, 12] [
 ⟨(some 109), none, .p (.mov (.t 17))⟩,
 ⟨(some 110), none, .p (.mov (.t 21))⟩,
 ⟨(some 111), none, .p (.mov (.t 17))⟩,
 ⟨(some 112), none, .p (.mov (.t 21))⟩,
 ⟨(some 113), none, .p (.ia 1 (.t 111) (.t 112))⟩,
 ⟨(some 114), none, .p (.ld1 (.t 113))⟩,
 ⟨(some 115), none, .p (.mov (.t 3))⟩,
 ⟨(some 116), none, .q (.c (.fn (.func 30) [] [])) [(.t 115), (.c (i64 255))]⟩,
 ⟨(some 117), none, .p (.bin .add (.i .i64) (.c (i64 1)) (.t 116))⟩,
 ⟨(some 118), none, .p (.cvi .u8 (.t 117))⟩,
 ⟨(some 119), none, .p (.bin .xor (.i .u8) (.t 114) (.t 118))⟩,
 ⟨(some 120), none, .p (.ia 1 (.t 109) (.t 110))⟩,
 ⟨none, none, .e (.st 1 (.t 120) (.t 119))⟩])
 (.seq
 (.reg [
 ⟨(some 122), none, .p (.mov (.t 17))⟩,
 ⟨(some 123), none, .e (.call (.c (.fn (.func 32) [] [])) [(.t 122)])⟩,
 ⟨(some 121), none, .p (.mov (.t 123))⟩,
 ⟨(some 124), none, .p (.ext (.t 121) 0)⟩,
 ⟨(some 125), none, .p (.ext (.t 121) 1)⟩,
 ⟨none, none, .e (.st 2 (.t 20) (.t 125))⟩])
 (.seq
 (.seq
 (.reg [
 ⟨(some 126), none, .p (.fa 0 (.t 20))⟩,
 ⟨(some 127), none, .p (.ld1 (.t 126))⟩,
 ⟨(some 128), none, .p (.bin .eql (.i .i64) (.t 127) (.c (i64 0)))⟩,
 ⟨(some 129), none, .p (.mov (.t 128))⟩,
 ⟨(some 130), (some (129, false)), .p (.mov (.t 4))⟩,
 ⟨(some 131), (some (129, false)), .p (.len (.t 130))⟩,
 ⟨(some 132), (some (129, false)), .p (.bin .gtr (.i .i64) (.t 131) (.c (i64 60)))⟩,
 ⟨(some 133), none, .p (.pick (.t 129) (.c (bl true)) (.t 132))⟩])
 (.cond (.t 133)
 (.seq
 (.reg [
 ⟨(some 134), none, .p (.fa 0 (.t 20))⟩,
 ⟨(some 135), none, .p (.ld1 (.t 134))⟩,
 ⟨(some 136), none, .p (.bin .neq (.i .i64) (.t 135) (.c (i64 0)))⟩,
 ⟨(some 137), none, .p (.mov (.t 136))⟩,
 ⟨(some 138), (some (137, true)), .q (.c (.fn (.func 10) [] [])) []⟩,
 ⟨(some 139), none, .p (.pick (.t 137) (.t 138) (.c (bl false)))⟩,
 ⟨(some 10), none, .p (.mov (.t 139))⟩])
 .ret)
 .skip))
 (.seq
 (.reg [
 ⟨(some 140), none, .p (.mov (.t 4))⟩,
 ⟨(some 141), none, .e (.call (.c (.fn (.func 20) [] [])) [(.t 140)])⟩,
 ⟨(some 22), none, .p (.mov (.t 141))⟩])
 (.seq
 (.reg [
 ⟨(some 142), none, .e (.bsl 5 1 0 [.val (.int .u8 0)] [])⟩,
 ⟨(some 143), none, .p (.mov (.t 4))⟩,
 ⟨(some 144), none, .e (.app 5 1 1 (.t 142) (.t 143))⟩,
 ⟨(some 145), none, .p (.mov (.t 22))⟩,
 ⟨(some 146), none, .p (.bin .shr (.sh .i64 .u64) (.t 145) (.c (.val (.int .u64 24))))⟩,
 ⟨(some 147), none, .p (.cvi .u8 (.t 146))⟩,
 ⟨(some 148), none, .p (.mov (.t 22))⟩,
 ⟨(some 149), none, .p (.bin .shr (.sh .i64 .u64) (.t 148) (.c (.val (.int .u64 16))))⟩,
 ⟨(some 150), none, .p (.cvi .u8 (.t 149))⟩,
 ⟨(some 151), none, .p (.mov (.t 22))⟩,
 ⟨(some 152), none, .p (.bin .shr (.sh .i64 .u64) (.t 151) (.c (.val (.int .u64 8))))⟩,
 ⟨(some 153), none, .p (.cvi .u8 (.t 152))⟩,
 ⟨(some 154), none, .p (.mov (.t 22))⟩,
 ⟨(some 155), none, .p (.cvi .u8 (.t 154))⟩,
 ⟨(some 156), none, .e (.bsl 5 1 4 [.val (.int .u8 0)] [(0, (.t 147)), (1, (.t 150)), (2, (.t 153)), (3, (.t 155))])⟩,
 ⟨(some 157), none, .e (.app 5 1 1 (.t 144) (.t 156))⟩,
 ⟨(some 23), none, .p (.mov (.t 157))⟩])
 (.seq
 (.seq
 (.reg [
 ⟨(some 159), none, .p (.mov (.t 23))⟩,
 ⟨(some 160), none, .e (.call (.c (.fn (.func 32) [] [])) [(.t 159)])⟩,
 ⟨(some 158), none, .p (.mov (.t 160))⟩,
 ⟨(some 161), none, .p (.ext (.t 158) 0)⟩,
 ⟨(some 162), none, .p (.ext (.t 158) 1)⟩,
 ⟨none, none, .e (.st 2 (.t 19) (.t 161))⟩,
 ⟨none, none, .e (.st 2 (.t 20) (.t 162))⟩])
 (.seq
 (.reg [
 ⟨(some 163), none, .p (.fa 0 (.t 20))⟩,
 ⟨(some 164), none, .p (.ld1 (.t 163))⟩,
 ⟨(some 165), none, .p (.bin .eql (.i .i64) (.t 164) (.c (i64 0)))⟩])
 (.cond (.t 165)
 (.seq
 (.reg [
 ⟨(some 167), none, .p (.ldn 2 (.t 19))⟩,
 ⟨(some 168), none, .e (.call (.c (.fn (.func 13) [] [])) [(.t 167)])⟩,
 ⟨(some 166), none, .p (.mov (.t 168))⟩,
 ⟨(some 169), none, .p (.ext (.t 166) 0)⟩,
 ⟨(some 170), none, .p (.ext (.t 166) 1)⟩,
 ⟨(some 24), none, .p (.mov (.t 169))⟩,
 ⟨(some 25), none, .p (.mov (.t 170))⟩])
 (.seq
 (.reg [
 ⟨(some 171), none, .p (.mov (.t 25))⟩,
 ⟨(some 172), none, .p (.bin .neq (.i .i64) (.t 171) (.c (i64 0)))⟩,
 ⟨(some 173), none, .p (.mov (.t 172))⟩,
 ⟨(some 174), (some (173, false)), .p (.mov (.t 24))⟩,
 ⟨(some 175), (some (173, false)), .p (.mov (.t 23))⟩,
 ⟨(some 176), (some (173, false)), .q (.c (.fn (.func 15) [] [])) [(.t 174), (.t 175)]⟩,
 ⟨(some 177), (some (173, false)), .p (.not (.t 176))⟩,
 ⟨(some 178), none, .p (.pick (.t 173) (.c (bl true)) (.t 177))⟩])
 (.cond (.t 178)
 (.seq
 (.reg [
 ⟨(some 10), none, .p (.mov (.c (bl false)))⟩])
 .ret)
 .skip)))
 .skip)))
 (.seq
 (.reg [
 ⟨(some 180), none, .p (.mov (.t 23))⟩,
 ⟨(some 181), none, .e (.call (.c (.fn (.func 24) [] [])) [(.t 180)])⟩,
 ⟨(some 179), none, .p (.mov (.t 181))⟩,
 ⟨(some 182), none, .p (.ext (.t 179) 0)⟩,
 ⟨(some 183), none, .p (.ext (.t 179) 1)⟩,
 ⟨(some 26), none, .e (.alc 25 [i64 0, .val (.slice none 0 0), .val (.slice none 0 0)])⟩,
 ⟨none, none, .e (.st 3 (.t 26) (.t 182))⟩,
 ⟨none, none, .e (.st 2 (.t 20) (.t 183))⟩])
 (.seq
 (.seq
 (.reg [
 ⟨(some 184), none, .p (.fa 0 (.t 20))⟩,
 ⟨(some 185), none, .p (.ld1 (.t 184))⟩,
 ⟨(some 186), none, .p (.bin .eql (.i .i64) (.t 185) (.c (i64 0)))⟩])
 (.cond (.t 186)
 (.seq
 (.reg [
 ⟨(some 188), none, .p (.ldn 3 (.t 26))⟩,
 ⟨(some 189), none, .e (.call (.c (.fn (.func 11) [] [])) [(.t 188)])⟩,
 ⟨(some 187), none, .p (.mov (.t 189))⟩,
 ⟨(some 190), none, .p (.ext (.t 187) 0)⟩,
 ⟨(some 191), none, .p (.ext (.t 187) 1)⟩,
 ⟨(some 27), none, .p (.mov (.t 190))⟩,
 ⟨(some 28), none, .p (.mov (.t 191))⟩])
 (.seq
 (.reg [
 ⟨(some 192), none, .p (.mov (.t 28))⟩,
 ⟨(some 193), none, .p (.bin .neq (.i .i64) (.t 192) (.c (i64 0)))⟩,
 ⟨(some 194), none, .p (.mov (.t 193))⟩,
 ⟨(some 195), (some (194, false)), .p (.mov (.t 27))⟩,
 ⟨(some 196), (some (194, false)), .p (.mov (.t 23))⟩,
 ⟨(some 197), (some (194, false)), .q (.c (.fn (.func 15) [] [])) [(.t 195), (.t 196)]⟩,
 ⟨(some 198), (some (194, false)), .p (.not (.t 197))⟩,
 ⟨(some 199), none, .p (.pick (.t 194) (.c (bl true)) (.t 198))⟩])
 (.cond (.t 199)
 (.seq
 (.reg [
 ⟨(some 10), none, .p (.mov (.c (bl false)))⟩])
 .ret)
 .skip)))
 .skip))
 (.seq
 (.reg [
 ⟨(some 200), none, .e (.call (.c (.fn (.func 10) [] [])) [])⟩,
 ⟨(some 10), none, .p (.mov (.t 200))⟩])
 .ret)))))))))))))))))
def r9 : List RS := [.t 10]
theorem c9 : chkF Try.prog drawB Try.f9 i9 r9 = true := by kernel_rfl
/-- parlour/parlourlaw32.awake -/
def i10 : IC :=
 (.seq
 (.reg [
 ⟨(some 0), none, .p (.mov (.c (bl false)))⟩])
 (.seq
 (.reg [
 ⟨(some 6), none, .e (.call (.c (.fn (.func 27) [] [])) [])⟩,
 ⟨(some 7), none, .e (.call (.c (.fn (.func 11) [] [])) [(.t 6)])⟩,
 ⟨(some 5), none, .p (.mov (.t 7))⟩,
 ⟨(some 8), none, .p (.ext (.t 5) 0)⟩,
 ⟨(some 9), none, .p (.ext (.t 5) 1)⟩,
 ⟨(some 1), none, .p (.mov (.t 8))⟩,
 ⟨(some 2), none, .p (.mov (.t 9))⟩])
 (.seq
 (.reg [
 ⟨(some 11), none, .e (.bsl 3 1 2 [i64 0] [(0, (.c (i64 1))), (1, (.c (i64 1)))])⟩,
 ⟨(some 12), none, .e (.bsl 30 1 1 [.val (.slice none 0 0)] [(0, (.t 11))])⟩,
 ⟨(some 13), none, .p (.bld [i64 0, .val (.slice none 0 0)] [(0, 1, (.c (i64 1))), (1, 1, (.t 12))])⟩,
 ⟨(some 14), none, .e (.call (.c (.fn (.func 13) [] [])) [(.t 13)])⟩,
 ⟨(some 10), none, .p (.mov (.t 14))⟩,
 ⟨(some 15), none, .p (.ext (.t 10) 0)⟩,
 ⟨(some 16), none, .p (.ext (.t 10) 1)⟩,
 ⟨(some 3), none, .p (.mov (.t 15))⟩,
 ⟨(some 4), none, .p (.mov (.t 16))⟩])
 (.seq
 (.reg [
 ⟨(some 17), none, .e (.bsl 5 1 2 [.val (.int .u8 0)] [(0, (.c (.val (.int .u8 172)))), (1, (.c (.val (.int .u8 2))))])⟩,
 ⟨(some 18), none, .e (.call (.c (.fn (.func 22) [] [])) [(.c (i64 300)), (.t 17)])⟩,
 ⟨(some 19), none, .p (.mov (.t 18))⟩,
 ⟨(some 20), (some (19, true)), .e (.bsl 5 1 2 [.val (.int .u8 0)] [(0, (.c (.val (.int .u8 1)))), (1, (.c (.val (.int .u8 2))))])⟩,
 ⟨(some 21), (some (19, true)), .q (.c (.fn (.func 20) [] [])) [(.t 20)]⟩,
 ⟨(some 22), (some (19, true)), .p (.bin .eql (.i .i64) (.t 21) (.c (i64 393220)))⟩,
 ⟨(some 23), none, .p (.pick (.t 19) (.t 22) (.c (bl false)))⟩,
 ⟨(some 24), none, .p (.mov (.t 23))⟩,
 ⟨(some 25), (some (24, true)), .p (.mov (.t 2))⟩,
 ⟨(some 26), (some (24, true)), .p (.bin .eql (.i .i64) (.t 25) (.c (i64 0)))⟩,
 ⟨(some 27), none, .p (.pick (.t 24) (.t 26) (.c (bl false)))⟩,
 ⟨(some 28), none, .p (.mov (.t 27))⟩,
 ⟨(some 29), (some (28, true)), .p (.mov (.t 1))⟩,
 ⟨(some 30), (some (28, true)), .q (.c (.fn (.func 25) [] [])) []⟩,
 ⟨(some 31), (some (28, true)), .q (.c (.fn (.func 15) [] [])) [(.t 29), (.t 30)]⟩,
 ⟨(some 32), none, .p (.pick (.t 28) (.t 31) (.c (bl false)))⟩,
 ⟨(some 33), none, .p (.mov (.t 32))⟩,
 ⟨(some 34), (some (33, true)), .p (.mov (.t 4))⟩,
 ⟨(some 35), (some (33, true)), .p (.bin .eql (.i .i64) (.t 34) (.c (i64 0)))⟩,
 ⟨(some 36), none, .p (.pick (.t 33) (.t 35) (.c (bl false)))⟩,
 ⟨(some 37), none, .p (.mov (.t 36))⟩,
 ⟨(some 38), (some (37, true)), .p (.mov (.t 3))⟩,
 ⟨(some 39), (some (37, true)), .e (.bsl 5 1 12 [.val (.int .u8 0)] [(0, (.c (.val (.int .u8 80)))), (1, (.c (.val (.int .u8 84)))), (2, (.c (.val (.int .u8 1)))), (3, (.c (.val (.int .u8 1)))), (4, (.c (.val (.int .u8 1)))), (5, (.c (.val (.int .u8 2)))), (6, (.c (.val (.int .u8 1)))), (7, (.c (.val (.int .u8 1)))), (8, (.c (.val (.int .u8 4)))), (9, (.c (.val (.int .u8 236)))), (10, (.c (.val (.int .u8 0)))), (11, (.c (.val (.int .u8 172))))])⟩,
 ⟨(some 40), (some (37, true)), .q (.c (.fn (.func 15) [] [])) [(.t 38), (.t 39)]⟩,
 ⟨(some 41), none, .p (.pick (.t 37) (.t 40) (.c (bl false)))⟩,
 ⟨(some 0), none, .p (.mov (.t 41))⟩])
 .ret))))
def r10 : List RS := [.t 0]
theorem c10 : chkF Try.prog drawB Try.f10 i10 r10 = true := by kernel_rfl
def l11_0 : IC := .keep [1, 6, 35, 36, 37]
 (.seq
 (.reg [
 ⟨(some 38), none, .p (.bin .lss (.i .i64) (.t 37) (.t 36))⟩])
 (.seq
 (.cond (.t 38)
 .skip
 (.exit 0))
 (.seq
 (.blk 1
 (.seq
 (.reg [
 ⟨(some 39), none, .p (.ia 2 (.t 35) (.t 37))⟩,
 ⟨(some 40), none, .p (.ldn 2 (.t 39))⟩,
 ⟨(some 8), none, .e (.alc 72 [i64 0, i64 0])⟩,
 ⟨none, none, .e (.st 2 (.t 8) (.t 40))⟩])
 (.reg [
 ⟨(some 41), none, .p (.mov (.t 6))⟩,
 ⟨(some 42), none, .p (.fa 0 (.t 8))⟩,
 ⟨(some 43), none, .p (.ld1 (.t 42))⟩,
 ⟨(some 44), none, .p (.cvi .u8 (.t 43))⟩,
 ⟨(some 45), none, .p (.fa 1 (.t 8))⟩,
 ⟨(some 46), none, .p (.ld1 (.t 45))⟩,
 ⟨(some 47), none, .p (.cvi .u8 (.t 46))⟩,
 ⟨(some 48), none, .e (.bsl 5 1 2 [.val (.int .u8 0)] [(0, (.t 44)), (1, (.t 47))])⟩,
 ⟨(some 49), none, .e (.app 5 1 1 (.t 41) (.t 48))⟩,
 ⟨(some 6), none, .p (.mov (.t 49))⟩])))
 (.reg [
 ⟨(some 50), none, .p (.bin .add (.i .i64) (.t 37) (.c (i64 1)))⟩,
 ⟨(some 37), none, .p (.mov (.t 50))⟩]))))
def l11_2 : IC := .keep [6, 52, 53, 54, 76, 77, 78]
 (.seq
 (.reg [
 ⟨(some 79), none, .p (.bin .lss (.i .i64) (.t 78) (.t 77))⟩])
 (.seq
 (.cond (.t 79)
 .skip
 (.exit 5))
 (.seq
 (.blk 6
 (.seq
 (.reg [
 ⟨(some 80), none, .p (.ia 1 (.t 76) (.t 78))⟩,
 ⟨(some 81), none, .p (.ld1 (.t 80))⟩,
 ⟨(some 12), none, .p (.mov (.t 81))⟩])
 (.reg [
 ⟨(some 82), none, .p (.mov (.t 6))⟩,
 ⟨(some 83), none, .p (.mov (.t 12))⟩,
 ⟨(some 84), none, .e (.call (.c (.fn (.func 38) [] [])) [(.t 82), (.t 83)])⟩,
 ⟨(some 6), none, .p (.mov (.t 84))⟩])))
 (.reg [
 ⟨(some 85), none, .p (.bin .add (.i .i64) (.t 78) (.c (i64 1)))⟩,
 ⟨(some 78), none, .p (.mov (.t 85))⟩]))))
def l11_3 : IC := .keep [6, 52, 53, 54, 95, 96, 97]
 (.seq
 (.reg [
 ⟨(some 98), none, .p (.bin .lss (.i .i64) (.t 97) (.t 96))⟩])
 (.seq
 (.cond (.t 98)
 .skip
 (.exit 7))
 (.seq
 (.blk 8
 (.seq
 (.reg [
 ⟨(some 99), none, .p (.ia 1 (.t 95) (.t 97))⟩,
 ⟨(some 100), none, .p (.ld1 (.t 99))⟩,
 ⟨(some 14), none, .p (.mov (.t 100))⟩])
 (.reg [
 ⟨(some 101), none, .p (.mov (.t 6))⟩,
 ⟨(some 102), none, .p (.mov (.t 14))⟩,
 ⟨(some 103), none, .e (.call (.c (.fn (.func 39) [] [])) [(.t 101), (.t 102)])⟩,
 ⟨(some 6), none, .p (.mov (.t 103))⟩])))
 (.reg [
 ⟨(some 104), none, .p (.bin .add (.i .i64) (.t 97) (.c (i64 1)))⟩,
 ⟨(some 97), none, .p (.mov (.t 104))⟩]))))
def l11_1 : IC := .keep [6, 52, 53, 54]
 (.seq
 (.reg [
 ⟨(some 55), none, .p (.bin .lss (.i .i64) (.t 54) (.t 53))⟩])
 (.seq
 (.cond (.t 55)
 .skip
 (.exit 2))
 (.seq
 (.blk 3
 (.seq
 (.reg [
 ⟨(some 56), none, .p (.ia 6 (.t 52) (.t 54))⟩,
 ⟨(some 57), none, .p (.ldn 6 (.t 56))⟩,
 ⟨(some 10), none, .e (.alc 74 [i64 0, i64 0, i64 0, .val (.slice none 0 0), .val (.slice none 0 0), .val (.slice none 0 0)])⟩,
 ⟨none, none, .e (.st 6 (.t 10) (.t 57))⟩])
 (.seq
 (.reg [
 ⟨(some 58), none, .p (.mov (.t 6))⟩,
 ⟨(some 59), none, .p (.fa 0 (.t 10))⟩,
 ⟨(some 60), none, .p (.ld1 (.t 59))⟩,
 ⟨(some 61), none, .p (.cvi .u8 (.t 60))⟩,
 ⟨(some 62), none, .e (.bsl 5 1 1 [.val (.int .u8 0)] [(0, (.t 61))])⟩,
 ⟨(some 63), none, .e (.app 5 1 1 (.t 58) (.t 62))⟩,
 ⟨(some 6), none, .p (.mov (.t 63))⟩])
 (.seq
 (.reg [
 ⟨(some 64), none, .p (.fa 0 (.t 10))⟩,
 ⟨(some 65), none, .p (.ld1 (.t 64))⟩])
 (.blk 4
 (.seq
 (.reg [
 ⟨(some 67), none, .p (.bin .eql (.i .i64) (.t 65) (.c (i64 1)))⟩,
 ⟨(some 66), none, .p (.mov (.t 67))⟩])
 (.cond (.t 66)
 (.seq
 (.reg [
 ⟨(some 68), none, .p (.mov (.t 6))⟩,
 ⟨(some 69), none, .p (.fa 3 (.t 10))⟩,
 ⟨(some 70), none, .p (.ld1 (.t 69))⟩,
 ⟨(some 71), none, .p (.len (.t 70))⟩,
 ⟨(some 72), none, .p (.cvi .u8 (.t 71))⟩,
 ⟨(some 73), none, .e (.bsl 5 1 1 [.val (.int .u8 0)] [(0, (.t 72))])⟩,
 ⟨(some 74), none, .e (.app 5 1 1 (.t 68) (.t 73))⟩,
 ⟨(some 6), none, .p (.mov (.t 74))⟩])
 (.seq
 (.reg [
 ⟨(some 75), none, .p (.fa 4 (.t 10))⟩,
 ⟨(some 76), none, .p (.ld1 (.t 75))⟩,
 ⟨(some 77), none, .p (.len (.t 76))⟩,
 ⟨(some 78), none, .p (.mov (.c (i64 0)))⟩])
 (.blk 5
 (.loop l11_2))))
 (.seq
 (.reg [
 ⟨(some 87), none, .p (.bin .eql (.i .i64) (.t 65) (.c (i64 2)))⟩,
 ⟨(some 86), none, .p (.mov (.t 87))⟩])
 (.cond (.t 86)
 (.reg [
 ⟨(some 88), none, .p (.mov (.t 6))⟩,
 ⟨(some 89), none, .p (.fa 2 (.t 10))⟩,
 ⟨(some 90), none, .p (.ld1 (.t 89))⟩,
 ⟨(some 91), none, .e (.call (.c (.fn (.func 38) [] [])) [(.t 88), (.t 90)])⟩,
 ⟨(some 6), none, .p (.mov (.t 91))⟩])
 (.seq
 (.reg [
 ⟨(some 93), none, .p (.bin .eql (.i .i64) (.t 65) (.c (i64 3)))⟩,
 ⟨(some 92), none, .p (.mov (.t 93))⟩])
 (.cond (.t 92)
 (.seq
 (.reg [
 ⟨(some 94), none, .p (.fa 5 (.t 10))⟩,
 ⟨(some 95), none, .p (.ld1 (.t 94))⟩,
 ⟨(some 96), none, .p (.len (.t 95))⟩,
 ⟨(some 97), none, .p (.mov (.c (i64 0)))⟩])
 (.blk 7
 (.loop l11_3)))
 .skip)))))))))))
 (.reg [
 ⟨(some 105), none, .p (.bin .add (.i .i64) (.t 54) (.c (i64 1)))⟩,
 ⟨(some 54), none, .p (.mov (.t 105))⟩]))))
/-- parlour/pack.Game -/
def i11 : IC :=
 (.seq
 (.reg [
 ⟨(some 1), none, .e (.box 25 (.t 0))⟩,
 ⟨(some 2), none, .p (.mov (.c (.val (.slice none 0 0))))⟩,
 ⟨(some 3), none, .p (.mov (.c (i64 0)))⟩])
 (.seq
 (.seq
 (.reg [
 ⟨(some 15), none, .p (.ldn 3 (.t 1))⟩,
 ⟨(some 16), none, .e (.call (.c (.fn (.func 36) [] [])) [(.t 15)])⟩,
 ⟨(some 4), none, .p (.mov (.t 16))⟩])
 (.seq
 (.reg [
 ⟨(some 17), none, .p (.mov (.t 4))⟩,
 ⟨(some 18), none, .p (.bin .neq (.i .i64) (.t 17) (.c (i64 0)))⟩])
 (.cond (.t 18)
 (.seq
 (.reg [
 ⟨(some 19), none, .p (.mov (.t 4))⟩,
 ⟨(some 2), none, .p (.mov (.c (.val (.slice none 0 0))))⟩,
 ⟨(some 3), none, .p (.mov (.t 19))⟩])
 .ret)
 .skip)))
 (.seq
 (.reg [
 ⟨(some 20), none, .e (.call (.c (.fn (.func 37) [] [])) [(.c (.val (.int .u8 71)))])⟩,
 ⟨(some 5), none, .e (.alc 68 [.val (.int .u8 0), .val (.int .u8 0), .val (.int .u8 0)])⟩,
 ⟨none, none, .e (.st 3 (.t 5) (.t 20))⟩])
 (.seq
 (.reg [
 ⟨(some 21), none, .p (.sla 3 1 (.t 5) none none)⟩,
 ⟨(some 22), none, .e (.app 5 1 1 (.c (.val (.slice none 0 0))) (.t 21))⟩,
 ⟨(some 6), none, .p (.mov (.t 22))⟩])
 (.seq
 (.reg [
 ⟨(some 23), none, .p (.mov (.t 6))⟩,
 ⟨(some 24), none, .p (.fa 0 (.t 1))⟩,
 ⟨(some 25), none, .p (.ld1 (.t 24))⟩,
 ⟨(some 26), none, .p (.cvi .u8 (.t 25))⟩,
 ⟨(some 27), none, .e (.bsl 5 1 1 [.val (.int .u8 0)] [(0, (.t 26))])⟩,
 ⟨(some 28), none, .e (.app 5 1 1 (.t 23) (.t 27))⟩,
 ⟨(some 6), none, .p (.mov (.t 28))⟩])
 (.seq
 (.reg [
 ⟨(some 29), none, .p (.mov (.t 6))⟩,
 ⟨(some 30), none, .p (.fa 2 (.t 1))⟩,
 ⟨(some 31), none, .p (.ld1 (.t 30))⟩,
 ⟨(some 32), none, .p (.len (.t 31))⟩,
 ⟨(some 33), none, .e (.call (.c (.fn (.func 38) [] [])) [(.t 29), (.t 32)])⟩,
 ⟨(some 6), none, .p (.mov (.t 33))⟩])
 (.seq
 (.seq
 (.reg [
 ⟨(some 34), none, .p (.fa 2 (.t 1))⟩,
 ⟨(some 35), none, .p (.ld1 (.t 34))⟩,
 ⟨(some 36), none, .p (.len (.t 35))⟩,
 ⟨(some 37), none, .p (.mov (.c (i64 0)))⟩])
 (.blk 0
 (.loop l11_0)))
 (.seq
 (.seq
 (.reg [
 ⟨(some 51), none, .p (.fa 1 (.t 1))⟩,
 ⟨(some 52), none, .p (.ld1 (.t 51))⟩,
 ⟨(some 53), none, .p (.len (.t 52))⟩,
 ⟨(some 54), none, .p (.mov (.c (i64 0)))⟩])
 (.blk 2
 (.loop l11_1)))
 (.seq
 (.reg [
 ⟨(some 106), none, .p (.mov (.t 6))⟩,
 ⟨(some 107), none, .e (.call (.c (.fn (.func 40) [] [])) [(.t 106)])⟩,
 ⟨(some 2), none, .p (.mov (.t 107))⟩,
 ⟨(some 3), none, .p (.mov (.c (i64 0)))⟩])
 .ret)))))))))
def r11 : List RS := [.t 2, .t 3]
theorem c11 : chkF Try.prog drawB Try.f11 i11 r11 = true := by kernel_rfl
def l13_1 : IC := .keep [6, 31, 32, 33, 43, 44, 45]
 (.seq
 (.reg [
 ⟨(some 46), none, .p (.bin .lss (.i .i64) (.t 45) (.t 44))⟩])
 (.seq
 (.cond (.t 46)
 .skip
 (.exit 2))
 (.seq
 (.blk 3
 (.seq
 (.reg [
 ⟨(some 47), none, .p (.ia 1 (.t 43) (.t 45))⟩,
 ⟨(some 48), none, .p (.ld1 (.t 47))⟩,
 ⟨(some 10), none, .p (.mov (.t 48))⟩])
 (.reg [
 ⟨(some 49), none, .p (.mov (.t 6))⟩,
 ⟨(some 50), none, .p (.mov (.t 10))⟩,
 ⟨(some 51), none, .e (.call (.c (.fn (.func 38) [] [])) [(.t 49), (.t 50)])⟩,
 ⟨(some 6), none, .p (.mov (.t 51))⟩])))
 (.reg [
 ⟨(some 52), none, .p (.bin .add (.i .i64) (.t 45) (.c (i64 1)))⟩,
 ⟨(some 45), none, .p (.mov (.t 52))⟩]))))
def l13_0 : IC := .keep [6, 31, 32, 33]
 (.seq
 (.reg [
 ⟨(some 34), none, .p (.bin .lss (.i .i64) (.t 33) (.t 32))⟩])
 (.seq
 (.cond (.t 34)
 .skip
 (.exit 0))
 (.seq
 (.blk 1
 (.seq
 (.reg [
 ⟨(some 35), none, .p (.ia 1 (.t 31) (.t 33))⟩,
 ⟨(some 36), none, .p (.ld1 (.t 35))⟩,
 ⟨(some 8), none, .p (.mov (.t 36))⟩])
 (.seq
 (.reg [
 ⟨(some 37), none, .p (.mov (.t 6))⟩,
 ⟨(some 38), none, .p (.mov (.t 8))⟩,
 ⟨(some 39), none, .p (.len (.t 38))⟩,
 ⟨(some 40), none, .p (.cvi .u8 (.t 39))⟩,
 ⟨(some 41), none, .e (.bsl 5 1 1 [.val (.int .u8 0)] [(0, (.t 40))])⟩,
 ⟨(some 42), none, .e (.app 5 1 1 (.t 37) (.t 41))⟩,
 ⟨(some 6), none, .p (.mov (.t 42))⟩])
 (.seq
 (.reg [
 ⟨(some 43), none, .p (.mov (.t 8))⟩,
 ⟨(some 44), none, .p (.len (.t 43))⟩,
 ⟨(some 45), none, .p (.mov (.c (i64 0)))⟩])
 (.blk 2
 (.loop l13_1))))))
 (.reg [
 ⟨(some 53), none, .p (.bin .add (.i .i64) (.t 33) (.c (i64 1)))⟩,
 ⟨(some 33), none, .p (.mov (.t 53))⟩]))))
/-- parlour/pack.Table -/
def i13 : IC :=
 (.seq
 (.reg [
 ⟨(some 1), none, .e (.box 28 (.t 0))⟩,
 ⟨(some 2), none, .p (.mov (.c (.val (.slice none 0 0))))⟩,
 ⟨(some 3), none, .p (.mov (.c (i64 0)))⟩])
 (.seq
 (.seq
 (.reg [
 ⟨(some 11), none, .p (.ldn 2 (.t 1))⟩,
 ⟨(some 12), none, .e (.call (.c (.fn (.func 44) [] [])) [(.t 11)])⟩,
 ⟨(some 4), none, .p (.mov (.t 12))⟩])
 (.seq
 (.reg [
 ⟨(some 13), none, .p (.mov (.t 4))⟩,
 ⟨(some 14), none, .p (.bin .neq (.i .i64) (.t 13) (.c (i64 0)))⟩])
 (.cond (.t 14)
 (.seq
 (.reg [
 ⟨(some 15), none, .p (.mov (.t 4))⟩,
 ⟨(some 2), none, .p (.mov (.c (.val (.slice none 0 0))))⟩,
 ⟨(some 3), none, .p (.mov (.t 15))⟩])
 .ret)
 .skip)))
 (.seq
 (.reg [
 ⟨(some 16), none, .e (.call (.c (.fn (.func 37) [] [])) [(.c (.val (.int .u8 84)))])⟩,
 ⟨(some 5), none, .e (.alc 68 [.val (.int .u8 0), .val (.int .u8 0), .val (.int .u8 0)])⟩,
 ⟨none, none, .e (.st 3 (.t 5) (.t 16))⟩])
 (.seq
 (.reg [
 ⟨(some 17), none, .p (.sla 3 1 (.t 5) none none)⟩,
 ⟨(some 18), none, .e (.app 5 1 1 (.c (.val (.slice none 0 0))) (.t 17))⟩,
 ⟨(some 6), none, .p (.mov (.t 18))⟩])
 (.seq
 (.reg [
 ⟨(some 19), none, .p (.mov (.t 6))⟩,
 ⟨(some 20), none, .p (.fa 0 (.t 1))⟩,
 ⟨(some 21), none, .p (.ld1 (.t 20))⟩,
 ⟨(some 22), none, .p (.cvi .u8 (.t 21))⟩,
 ⟨(some 23), none, .e (.bsl 5 1 1 [.val (.int .u8 0)] [(0, (.t 22))])⟩,
 ⟨(some 24), none, .e (.app 5 1 1 (.t 19) (.t 23))⟩,
 ⟨(some 6), none, .p (.mov (.t 24))⟩])
 (.seq
 (.reg [
 ⟨(some 25), none, .p (.mov (.t 6))⟩,
 ⟨(some 26), none, .p (.fa 1 (.t 1))⟩,
 ⟨(some 27), none, .p (.ld1 (.t 26))⟩,
 ⟨(some 28), none, .p (.len (.t 27))⟩,
 ⟨(some 29), none, .e (.call (.c (.fn (.func 38) [] [])) [(.t 25), (.t 28)])⟩,
 ⟨(some 6), none, .p (.mov (.t 29))⟩])
 (.seq
 (.seq
 (.reg [
 ⟨(some 30), none, .p (.fa 1 (.t 1))⟩,
 ⟨(some 31), none, .p (.ld1 (.t 30))⟩,
 ⟨(some 32), none, .p (.len (.t 31))⟩,
 ⟨(some 33), none, .p (.mov (.c (i64 0)))⟩])
 (.blk 0
 (.loop l13_0)))
 (.seq
 (.reg [
 ⟨(some 54), none, .p (.mov (.t 6))⟩,
 ⟨(some 55), none, .e (.call (.c (.fn (.func 40) [] [])) [(.t 54)])⟩,
 ⟨(some 2), none, .p (.mov (.t 55))⟩,
 ⟨(some 3), none, .p (.mov (.c (i64 0)))⟩])
 .ret))))))))
def r13 : List RS := [.t 2, .t 3]
theorem c13 : chkF Try.prog drawB Try.f13 i13 r13 = true := by kernel_rfl
def l15_0 : IC := .keep [0, 1, 5]
 (.seq
 (.seq
 (.reg [
 ⟨(some 11), none, .p (.mov (.t 5))⟩,
 ⟨(some 12), none, .p (.mov (.t 0))⟩,
 ⟨(some 13), none, .p (.len (.t 12))⟩,
 ⟨(some 14), none, .p (.bin .lss (.i .i64) (.t 11) (.t 13))⟩])
 (.cond (.t 14)
 .skip
 (.exit 0)))
 (.seq
 (.blk 1
 (.seq
 (.drw [0, 1, 2, 3, 4, 5, 6, 7, 8] [
 ⟨(some 17), none, .p (.mov (.t 0))⟩,
 ⟨(some 18), none, .p (.mov (.t 5))⟩,
 ⟨(some 19), none, .p (.ia 1 (.t 17) (.t 18))⟩,
 ⟨(some 20), none, .p (.ld1 (.t 19))⟩,
 ⟨(some 21), none, .p (.mov (.t 1))⟩,
 ⟨(some 22), none, .p (.mov (.t 5))⟩,
 ⟨(some 23), none, .p (.ia 1 (.t 21) (.t 22))⟩,
 ⟨(some 24), none, .p (.ld1 (.t 23))⟩,
 ⟨(some 25), none, .p (.bin .neq (.i .u8) (.t 20) (.t 24))⟩])
 (.cond (.t 25)
 (.seq
 (.reg [
 ⟨(some 4), none, .p (.mov (.c (bl false)))⟩])
 .ret)
 .skip)))
 (.reg [
 ⟨(some 15), none, .p (.mov (.t 5))⟩,
 ⟨(some 16), none, .p (.bin .add (.i .i64) (.t 15) (.c (i64 1)))⟩,
 ⟨(some 5), none, .p (.mov (.t 16))⟩])))
/-- parlour/parlourkit.Alike(byte) -/
def i15 : IC :=
 (.seq
 (.reg [
 ⟨(some 4), none, .p (.mov (.c (bl false)))⟩])
 (.seq
 (.seq
 (.reg [
 ⟨(some 6), none, .p (.mov (.t 0))⟩,
 ⟨(some 7), none, .p (.len (.t 6))⟩,
 ⟨(some 8), none, .p (.mov (.t 1))⟩,
 ⟨(some 9), none, .p (.len (.t 8))⟩,
 ⟨(some 10), none, .p (.bin .neq (.i .i64) (.t 7) (.t 9))⟩])
 (.cond (.t 10)
 (.seq
 (.reg [
 ⟨(some 4), none, .p (.mov (.c (bl false)))⟩])
 .ret)
 .skip))
 (.seq
 (.seq
 (.reg [
 ⟨(some 5), none, .p (.mov (.c (i64 0)))⟩])
 (.blk 0
 (.loop l15_0)))
 (.seq
 (.reg [
 ⟨(some 4), none, .p (.mov (.c (bl true)))⟩])
 .ret))))
def r15 : List RS := [.t 4]
theorem c15 : chkF Try.prog drawB Try.f15 i15 r15 = true := by kernel_rfl
/-- parlour/pack.Put -/
def i16 : IC :=
 (.seq
 (.reg [
 ⟨(some 2), none, .p (.mov (.c (.val (.slice none 0 0))))⟩,
 ⟨(some 3), none, .p (.mov (.c (i64 0)))⟩])
 (.seq
 (.seq
 (.reg [
 ⟨(some 4), none, .p (.mov (.t 0))⟩,
 ⟨(some 5), none, .p (.bin .lss (.i .i64) (.t 4) (.c (i64 0)))⟩,
 ⟨(some 6), none, .p (.mov (.t 5))⟩,
 ⟨(some 7), (some (6, false)), .p (.mov (.t 0))⟩,
 ⟨(some 8), (some (6, false)), .p (.bin .gtr (.i .i64) (.t 7) (.c (i64 4611686018427387903)))⟩,
 ⟨(some 9), none, .p (.pick (.t 6) (.c (bl true)) (.t 8))⟩])
 (.cond (.t 9)
 (.seq
 (.reg [
 ⟨(some 2), none, .p (.mov (.c (.val (.slice none 0 0))))⟩,
 ⟨(some 3), none, .p (.mov (.c (i64 2)))⟩])
 .ret)
 .skip))
 (.seq
 (.reg [
 ⟨(some 10), none, .p (.mov (.t 0))⟩,
 ⟨(some 11), none, .e (.call (.c (.fn (.func 38) [] [])) [(.c (.val (.slice none 0 0))), (.t 10)])⟩,
 ⟨(some 2), none, .p (.mov (.t 11))⟩,
 ⟨(some 3), none, .p (.mov (.c (i64 0)))⟩])
 .ret)))
def r16 : List RS := [.t 2, .t 3]
theorem c16 : chkF Try.prog drawB Try.f16 i16 r16 = true := by kernel_rfl
def l18_0 : IC := .keep [0, 1, 4, 17]
 (.seq
 (.reg [
 ⟨(some 18), none, .p (.bin .lss (.i .i64) (.t 17) (.c (i64 9)))⟩])
 (.seq
 (.cond (.t 18)
 .skip
 (.exit 0))
 (.seq
 (.blk 1
 (.seq
 (.reg [
 ⟨(some 19), none, .p (.mov (.t 17))⟩,
 ⟨(some 7), none, .p (.mov (.t 19))⟩])
 (.seq
 (.seq
 (.reg [
 ⟨(some 20), none, .p (.mov (.t 1))⟩,
 ⟨(some 21), none, .p (.mov (.t 7))⟩,
 ⟨(some 22), none, .p (.bin .add (.i .i64) (.t 20) (.t 21))⟩,
 ⟨(some 23), none, .p (.mov (.t 0))⟩,
 ⟨(some 24), none, .p (.len (.t 23))⟩,
 ⟨(some 25), none, .p (.bin .eql (.i .i64) (.t 22) (.t 24))⟩])
 (.cond (.t 25)
 (.seq
 (.reg [
 ⟨(some 4), none, .p (.mov (.c (i64 0)))⟩,
 ⟨(some 5), none, .p (.mov (.c (i64 0)))⟩,
 ⟨(some 6), none, .p (.mov (.c (i64 16)))⟩])
 .ret)
 .skip))
 (.seq
 (.reg [
 ⟨(some 26), none, .p (.mov (.t 0))⟩,
 ⟨(some 27), none, .p (.mov (.t 1))⟩,
 ⟨(some 28), none, .p (.mov (.t 7))⟩,
 ⟨(some 29), none, .p (.bin .add (.i .i64) (.t 27) (.t 28))⟩,
 ⟨(some 30), none, .p (.ia 1 (.t 26) (.t 29))⟩,
 ⟨(some 31), none, .p (.ld1 (.t 30))⟩,
 ⟨(some 32), none, .p (.cvi .i64 (.t 31))⟩,
 ⟨(some 8), none, .p (.mov (.t 32))⟩])
 (.seq
 (.reg [
 ⟨(some 33), none, .p (.mov (.t 4))⟩,
 ⟨(some 34), none, .p (.mov (.t 8))⟩,
 ⟨(some 35), none, .p (.bin .and (.i .i64) (.t 34) (.c (i64 127)))⟩,
 ⟨(some 36), none, .p (.mov (.t 7))⟩,
 ⟨(some 37), none, .p (.bin .mul (.i .i64) (.c (i64 7)) (.t 36))⟩,
 ⟨(some 38), none, .p (.bin .shl (.sh .i64 .i64) (.t 35) (.t 37))⟩,
 ⟨(some 39), none, .p (.bin .add (.i .i64) (.t 33) (.t 38))⟩,
 ⟨(some 4), none, .p (.mov (.t 39))⟩])
 (.seq
 (.seq
 (.reg [
 ⟨(some 40), none, .p (.mov (.t 8))⟩,
 ⟨(some 41), none, .p (.bin .gtr (.i .i64) (.t 40) (.c (i64 127)))⟩])
 (.cond (.t 41)
 (.exit 1)
 .skip))
 (.seq
 (.seq
 (.reg [
 ⟨(some 42), none, .p (.mov (.t 4))⟩,
 ⟨(some 43), none, .p (.bin .gtr (.i .i64) (.t 42) (.c (i64 4611686018427387903)))⟩,
 ⟨(some 44), none, .p (.mov (.t 43))⟩,
 ⟨(some 45), (some (44, false)), .p (.mov (.t 8))⟩,
 ⟨(some 46), (some (44, false)), .p (.bin .eql (.i .i64) (.t 45) (.c (i64 0)))⟩,
 ⟨(some 47), (some (44, false)), .p (.mov (.t 46))⟩,
 ⟨(some 48), (some (47, true)), .p (.mov (.t 7))⟩,
 ⟨(some 49), (some (47, true)), .p (.bin .gtr (.i .i64) (.t 48) (.c (i64 0)))⟩,
 ⟨(some 50), (some (44, false)), .p (.pick (.t 47) (.t 49) (.c (bl false)))⟩,
 ⟨(some 51), none, .p (.pick (.t 44) (.c (bl true)) (.t 50))⟩])
 (.cond (.t 51)
 (.seq
 (.reg [
 ⟨(some 4), none, .p (.mov (.c (i64 0)))⟩,
 ⟨(some 5), none, .p (.mov (.c (i64 0)))⟩,
 ⟨(some 6), none, .p (.mov (.c (i64 3)))⟩])
 .ret)
 .skip))
 (.seq
 (.reg [
 ⟨(some 52), none, .p (.mov (.t 4))⟩,
 ⟨(some 53), none, .p (.mov (.t 1))⟩,
 ⟨(some 54), none, .p (.mov (.t 7))⟩,
 ⟨(some 55), none, .p (.bin .add (.i .i64) (.t 53) (.t 54))⟩,
 ⟨(some 56), none, .p (.bin .add (.i .i64) (.t 55) (.c (i64 1)))⟩,
 ⟨(some 4), none, .p (.mov (.t 52))⟩,
 ⟨(some 5), none, .p (.mov (.t 56))⟩,
 ⟨(some 6), none, .p (.mov (.c (i64 0)))⟩])
 .ret))))))))
 (.reg [
 ⟨(some 57), none, .p (.bin .add (.i .i64) (.t 17) (.c (i64 1)))⟩,
 ⟨(some 17), none, .p (.mov (.t 57))⟩]))))
/-- parlour/pack.Get -/
def i18 : IC :=
 (.seq
 (.reg [
 ⟨(some 4), none, .p (.mov (.c (i64 0)))⟩,
 ⟨(some 5), none, .p (.mov (.c (i64 0)))⟩,
 ⟨(some 6), none, .p (.mov (.c (i64 0)))⟩])
 (.seq
 (.seq
 (.reg [
 ⟨(some 9), none, .p (.mov (.t 1))⟩,
 ⟨(some 10), none, .p (.bin .lss (.i .i64) (.t 9) (.c (i64 0)))⟩,
 ⟨(some 11), none, .p (.mov (.t 10))⟩,
 ⟨(some 12), (some (11, false)), .p (.mov (.t 1))⟩,
 ⟨(some 13), (some (11, false)), .p (.mov (.t 0))⟩,
 ⟨(some 14), (some (11, false)), .p (.len (.t 13))⟩,
 ⟨(some 15), (some (11, false)), .p (.bin .gtr (.i .i64) (.t 12) (.t 14))⟩,
 ⟨(some 16), none, .p (.pick (.t 11) (.c (bl true)) (.t 15))⟩])
 (.cond (.t 16)
 (.seq
 (.reg [
 ⟨(some 4), none, .p (.mov (.c (i64 0)))⟩,
 ⟨(some 5), none, .p (.mov (.c (i64 0)))⟩,
 ⟨(some 6), none, .p (.mov (.c (i64 2)))⟩])
 .ret)
 .skip))
 (.seq
 (.seq
 (.reg [
 ⟨(some 17), none, .p (.mov (.c (i64 0)))⟩])
 (.blk 0
 (.loop l18_0)))
 (.seq
 (.reg [
 ⟨(some 4), none, .p (.mov (.c (i64 0)))⟩,
 ⟨(some 5), none, .p (.mov (.c (i64 0)))⟩,
 ⟨(some 6), none, .p (.mov (.c (i64 3)))⟩])
 .ret))))
def r18 : List RS := [.t 4, .t 5, .t 6]
theorem c18 : chkF Try.prog drawB Try.f18 i18 r18 = true := by kernel_rfl
def l20_0 : IC := .keep [3, 4, 7, 8, 9]
 (.seq
 (.reg [
 ⟨(some 10), none, .p (.bin .lss (.i .i64) (.t 9) (.t 8))⟩])
 (.seq
 (.cond (.t 10)
 .skip
 (.exit 0))
 (.seq
 (.blk 1
 (.seq
 (.reg [
 ⟨(some 11), none, .p (.ia 1 (.t 7) (.t 9))⟩,
 ⟨(some 12), none, .p (.ld1 (.t 11))⟩,
 ⟨(some 6), none, .p (.mov (.t 12))⟩])
 (.seq
 (.reg [
 ⟨(some 13), none, .p (.mov (.t 3))⟩,
 ⟨(some 14), none, .p (.mov (.t 6))⟩,
 ⟨(some 15), none, .p (.cvi .i64 (.t 14))⟩,
 ⟨(some 16), none, .p (.bin .add (.i .i64) (.t 13) (.t 15))⟩,
 ⟨(some 17), none, .p (.bin .rem (.i .i64) (.t 16) (.c (i64 65521)))⟩,
 ⟨(some 3), none, .p (.mov (.t 17))⟩])
 (.reg [
 ⟨(some 18), none, .p (.mov (.t 4))⟩,
 ⟨(some 19), none, .p (.mov (.t 3))⟩,
 ⟨(some 20), none, .p (.bin .add (.i .i64) (.t 18) (.t 19))⟩,
 ⟨(some 21), none, .p (.bin .rem (.i .i64) (.t 20) (.c (i64 65521)))⟩,
 ⟨(some 4), none, .p (.mov (.t 21))⟩]))))
 (.reg [
 ⟨(some 22), none, .p (.bin .add (.i .i64) (.t 9) (.c (i64 1)))⟩,
 ⟨(some 9), none, .p (.mov (.t 22))⟩]))))
/-- parlour/pack.Sum -/
def i20 : IC :=
 (.seq
 (.reg [
 ⟨(some 2), none, .p (.mov (.c (i64 0)))⟩])
 (.seq
 (.reg [
 ⟨(some 3), none, .p (.mov (.c (i64 1)))⟩,
 ⟨(some 4), none, .p (.mov (.c (i64 0)))⟩])
 (.seq
 (.seq
 (.reg [
 ⟨(some 7), none, .p (.mov (.t 0))⟩,
 ⟨(some 8), none, .p (.len (.t 7))⟩,
 ⟨(some 9), none, .p (.mov (.c (i64 0)))⟩])
 (.blk 0
 (.loop l20_0)))
 (.seq
 (.reg [
 ⟨(some 23), none, .p (.mov (.t 4))⟩,
 ⟨(some 24), none, .p (.bin .shl (.sh .i64 .u64) (.t 23) (.c (.val (.int .u64 16))))⟩,
 ⟨(some 25), none, .p (.mov (.t 3))⟩,
 ⟨(some 26), none, .p (.bin .add (.i .i64) (.t 24) (.t 25))⟩,
 ⟨(some 2), none, .p (.mov (.t 26))⟩])
 .ret))))
def r20 : List RS := [.t 2]
theorem c20 : chkF Try.prog drawB Try.f20 i20 r20 = true := by kernel_rfl
/-- parlour/parlourlaw32.puts -/
def i22 : IC :=
 (.seq
 (.reg [
 ⟨(some 4), none, .p (.mov (.c (bl false)))⟩])
 (.seq
 (.reg [
 ⟨(some 8), none, .p (.mov (.t 0))⟩,
 ⟨(some 9), none, .e (.call (.c (.fn (.func 16) [] [])) [(.t 8)])⟩,
 ⟨(some 7), none, .p (.mov (.t 9))⟩,
 ⟨(some 10), none, .p (.ext (.t 7) 0)⟩,
 ⟨(some 11), none, .p (.ext (.t 7) 1)⟩,
 ⟨(some 5), none, .p (.mov (.t 10))⟩,
 ⟨(some 6), none, .p (.mov (.t 11))⟩])
 (.seq
 (.reg [
 ⟨(some 12), none, .p (.mov (.t 6))⟩,
 ⟨(some 13), none, .p (.bin .eql (.i .i64) (.t 12) (.c (i64 0)))⟩,
 ⟨(some 14), none, .p (.mov (.t 13))⟩,
 ⟨(some 15), (some (14, true)), .p (.mov (.t 5))⟩,
 ⟨(some 16), (some (14, true)), .p (.mov (.t 1))⟩,
 ⟨(some 17), (some (14, true)), .q (.c (.fn (.func 15) [] [])) [(.t 15), (.t 16)]⟩,
 ⟨(some 18), none, .p (.pick (.t 14) (.t 17) (.c (bl false)))⟩,
 ⟨(some 4), none, .p (.mov (.t 18))⟩])
 .ret)))
def r22 : List RS := [.t 4]
theorem c22 : chkF Try.prog drawB Try.f22 i22 r22 = true := by kernel_rfl
def l24_0 : IC := .keep [2, 3, 4, 15, 16]
 (.seq
 (.reg [
 ⟨(some 17), none, .p (.bin .lss (.i .i64) (.t 16) (.t 15))⟩])
 (.seq
 (.cond (.t 17)
 .skip
 (.exit 0))
 (.seq
 (.blk 1
 (.seq
 (.reg [
 ⟨(some 18), none, .p (.mov (.t 4))⟩,
 ⟨(some 19), none, .p (.fa 0 (.t 2))⟩,
 ⟨(some 20), none, .p (.ld1 (.t 19))⟩,
 ⟨(some 21), none, .p (.bin .sub (.i .i64) (.t 20) (.c (i64 1)))⟩,
 ⟨(some 22), none, .e (.call (.c (.fn (.func 49) [] [])) [(.t 18), (.c (i64 0)), (.t 21)])⟩,
 ⟨(some 5), none, .p (.mov (.t 22))⟩])
 (.drw [0, 1, 2, 3, 4, 5, 6, 7, 8, 9] [
 ⟨(some 23), none, .p (.fa 2 (.t 2))⟩,
 ⟨(some 24), none, .p (.ld1 (.t 23))⟩,
 ⟨(some 25), none, .p (.mov (.t 5))⟩,
 ⟨(some 26), none, .p (.mov (.t 4))⟩,
 ⟨(some 27), none, .e (.call (.c (.fn (.func 49) [] [])) [(.t 26), (.c (i64 1)), (.c (i64 10))])⟩,
 ⟨(some 28), none, .p (.bld [i64 0, i64 0] [(0, 1, (.t 25)), (1, 1, (.t 27))])⟩,
 ⟨(some 29), none, .e (.bsl 72 2 1 [i64 0, i64 0] [(0, (.t 28))])⟩,
 ⟨(some 30), none, .e (.app 72 2 16 (.t 24) (.t 29))⟩,
 ⟨(some 31), none, .p (.fa 2 (.t 2))⟩,
 ⟨none, none, .e (.stw [24] 1 (.t 31) (.t 30))⟩])))
 (.reg [
 ⟨(some 32), none, .p (.bin .add (.i .i64) (.t 16) (.c (i64 1)))⟩,
 ⟨(some 16), none, .p (.mov (.t 32))⟩]))))
/-- parlour/pack.ReadGame -/
def i24a : IC :=
 (.reg [
 ⟨(some 2), none, .e (.alc 25 [i64 0, .val (.slice none 0 0), .val (.slice none 0 0)])⟩,
 ⟨(some 3), none, .e (.alc 47 [i64 0, i64 0])⟩])
def i24s : Ins := ⟨(some 7), none, .p (.mkf (.func 46) [] [(.t 3), (.t 2)])⟩
def i24f : Od := .t 7
def i24 : IC :=
 (.seq
 (.reg [
 ⟨(some 8), none, .p (.mov (.t 0))⟩,
 ⟨(some 9), none, .e (.call (.c (.fn (.func 37) [] [])) [(.c (.val (.int .u8 71)))])⟩,
 ⟨(some 10), none, .e (.call (.c (.fn (.func 48) [] [])) [(.t 8), (.t 9)])⟩,
 ⟨(some 4), none, .p (.mov (.t 10))⟩])
 (.seq
 (.reg [
 ⟨(some 11), none, .p (.mov (.t 4))⟩,
 ⟨(some 12), none, .e (.call (.c (.fn (.func 49) [] [])) [(.t 11), (.c (i64 1)), (.c (i64 4))])⟩,
 ⟨(some 13), none, .p (.fa 0 (.t 2))⟩,
 ⟨none, none, .e (.st 1 (.t 13) (.t 12))⟩])
 (.seq
 (.seq
 (.reg [
 ⟨(some 14), none, .p (.mov (.t 4))⟩,
 ⟨(some 15), none, .e (.call (.c (.fn (.func 50) [] [])) [(.t 14), (.c (i64 0)), (.c (i64 200))])⟩,
 ⟨(some 16), none, .p (.mov (.c (i64 0)))⟩])
 (.blk 0
 (.loop l24_0)))
 (.seq
 (.reg [
 ⟨(some 33), none, .p (.mov (.t 4))⟩,
 ⟨(some 34), none, .e (.call (.c (.fn (.func 51) [] [])) [(.t 33), (.t 2)])⟩])
 (.seq
 (.reg [
 ⟨(some 35), none, .p (.mov (.t 4))⟩,
 ⟨(some 36), none, .e (.call (.c (.fn (.func 52) [] [])) [(.t 35)])⟩])
 (.seq
 (.seq
 (.reg [
 ⟨(some 37), none, .p (.ldn 3 (.t 2))⟩,
 ⟨(some 38), none, .e (.call (.c (.fn (.func 36) [] [])) [(.t 37)])⟩,
 ⟨(some 6), none, .p (.mov (.t 38))⟩])
 (.seq
 (.reg [
 ⟨(some 39), none, .p (.mov (.t 6))⟩,
 ⟨(some 40), none, .p (.bin .neq (.i .i64) (.t 39) (.c (i64 0)))⟩])
 (.cond (.t 40)
 (.reg [
 ⟨(some 41), none, .p (.mov (.t 6))⟩,
 ⟨(some 42), none, .p (.mov (.t 4))⟩,
 ⟨(some 43), none, .p (.nck (.t 42))⟩,
 ⟨(some 44), none, .p (.fa 0 (.t 43))⟩,
 ⟨(some 45), none, .p (.ld1 (.t 44))⟩,
 ⟨(some 46), none, .p (.len (.t 45))⟩,
 ⟨(some 47), none, .e (.call (.c (.fn (.func 53) [] [])) [(.t 41), (.t 46)])⟩])
 .skip)))
 (.seq
 (.reg [
 ⟨(some 48), none, .p (.ldn 3 (.t 2))⟩,
 ⟨(some 49), none, .p (.bld [i64 0, i64 0] [])⟩,
 ⟨none, none, .e (.st 3 (.t 2) (.t 48))⟩,
 ⟨none, none, .e (.st 2 (.t 3) (.t 49))⟩])
 .ret)))))))
def r24 : List RS := [.cn 2 3, .cn 3 2]
theorem c24 : chkDf Try.prog drawB Try.f24 i24a i24s i24f i24 r24 = true := by kernel_rfl
/-- parlour/parlourlaw32.example -/
def i25 : IC :=
 (.seq
 (.reg [
 ⟨(some 0), none, .p (.mov (.c (.val (.slice none 0 0))))⟩])
 (.seq
 (.reg [
 ⟨(some 1), none, .e (.bsl 5 1 11 [.val (.int .u8 0)] [(0, (.c (.val (.int .u8 80)))), (1, (.c (.val (.int .u8 71)))), (2, (.c (.val (.int .u8 1)))), (3, (.c (.val (.int .u8 1)))), (4, (.c (.val (.int .u8 0)))), (5, (.c (.val (.int .u8 3)))), (6, (.c (.val (.int .u8 5)))), (7, (.c (.val (.int .u8 3)))), (8, (.c (.val (.int .u8 245)))), (9, (.c (.val (.int .u8 0)))), (10, (.c (.val (.int .u8 162))))])⟩,
 ⟨(some 0), none, .p (.mov (.t 1))⟩])
 .ret))
def r25 : List RS := [.t 0]
theorem c25 : chkF Try.prog drawB Try.f25 i25 r25 = true := by kernel_rfl
/-- parlour/parlourlaw32.end -/
def i27 : IC :=
 (.seq
 (.reg [
 ⟨(some 0), none, .e (.alc 25 [i64 0, .val (.slice none 0 0), .val (.slice none 0 0)])⟩])
 (.seq
 (.reg [
 ⟨(some 1), none, .e (.bsl 3 1 1 [i64 0] [(0, (.c (i64 (-3))))])⟩,
 ⟨(some 2), none, .p (.bld [i64 0, i64 0, i64 0, .val (.slice none 0 0), .val (.slice none 0 0), .val (.slice none 0 0)] [(0, 1, (.c (i64 3))), (5, 1, (.t 1))])⟩,
 ⟨(some 3), none, .e (.bsl 74 6 1 [i64 0, i64 0, i64 0, .val (.slice none 0 0), .val (.slice none 0 0), .val (.slice none 0 0)] [(0, (.t 2))])⟩,
 ⟨(some 4), none, .p (.bld [i64 0, .val (.slice none 0 0), .val (.slice none 0 0)] [(0, 1, (.c (i64 1))), (1, 1, (.t 3))])⟩,
 ⟨none, none, .e (.st 3 (.t 0) (.t 4))⟩])
 .ret))
def r27 : List RS := [.cn 0 3]
theorem c27 : chkF Try.prog drawB Try.f27 i27 r27 = true := by kernel_rfl
/-- parlour/parlourkit.Mod -/
def i30 : IC :=
 (.seq
 (.reg [
 ⟨(some 4), none, .p (.mov (.c (i64 0)))⟩])
 (.seq
 (.reg [
 ⟨(some 5), none, .p (.mov (.t 0))⟩,
 ⟨(some 6), none, .p (.mov (.t 1))⟩,
 ⟨(some 7), none, .p (.bin .rem (.i .i64) (.t 5) (.t 6))⟩,
 ⟨(some 0), none, .p (.mov (.t 7))⟩])
 (.seq
 (.seq
 (.reg [
 ⟨(some 8), none, .p (.mov (.t 0))⟩,
 ⟨(some 9), none, .p (.bin .lss (.i .i64) (.t 8) (.c (i64 0)))⟩])
 (.cond (.t 9)
 (.reg [
 ⟨(some 10), none, .p (.mov (.t 0))⟩,
 ⟨(some 11), none, .p (.mov (.t 1))⟩,
 ⟨(some 12), none, .p (.bin .add (.i .i64) (.t 10) (.t 11))⟩,
 ⟨(some 0), none, .p (.mov (.t 12))⟩])
 .skip))
 (.seq
 (.reg [
 ⟨(some 13), none, .p (.mov (.t 0))⟩,
 ⟨(some 4), none, .p (.mov (.t 13))⟩])
 .ret))))
def r30 : List RS := [.t 4]
theorem c30 : chkF Try.prog drawB Try.f30 i30 r30 = true := by kernel_rfl
def l32_1 : IC := .keep [2, 3, 4, 5, 16, 17, 23, 24]
 (.seq
 (.reg [
 ⟨(some 25), none, .p (.bin .lss (.i .i64) (.t 24) (.t 23))⟩])
 (.seq
 (.cond (.t 25)
 .skip
 (.exit 2))
 (.seq
 (.blk 3
 (.seq
 (.reg [
 ⟨(some 26), none, .p (.mov (.t 24))⟩,
 ⟨(some 6), none, .p (.mov (.t 26))⟩])
 (.reg [
 ⟨(some 27), none, .p (.mov (.t 5))⟩,
 ⟨(some 28), none, .p (.mov (.t 6))⟩,
 ⟨(some 29), none, .p (.mov (.t 4))⟩,
 ⟨(some 30), none, .e (.call (.c (.fn (.func 50) [] [])) [(.t 29), (.c (i64 0)), (.c (i64 4611686018427387903))])⟩,
 ⟨(some 31), none, .p (.ia 1 (.t 27) (.t 28))⟩,
 ⟨none, none, .e (.st 1 (.t 31) (.t 30))⟩])))
 (.reg [
 ⟨(some 32), none, .p (.bin .add (.i .i64) (.t 24) (.c (i64 1)))⟩,
 ⟨(some 24), none, .p (.mov (.t 32))⟩]))))
def l32_0 : IC := .keep [2, 3, 4, 16, 17]
 (.seq
 (.reg [
 ⟨(some 18), none, .p (.bin .lss (.i .i64) (.t 17) (.t 16))⟩])
 (.seq
 (.cond (.t 18)
 .skip
 (.exit 0))
 (.seq
 (.blk 1
 (.seq
 (.reg [
 ⟨(some 19), none, .p (.mov (.t 4))⟩,
 ⟨(some 20), none, .e (.call (.c (.fn (.func 49) [] [])) [(.t 19), (.c (i64 1)), (.c (i64 10))])⟩,
 ⟨(some 21), none, .e (.mks 3 1 8 [i64 0] (.t 20) (.t 20))⟩,
 ⟨(some 5), none, .p (.mov (.t 21))⟩])
 (.seq
 (.seq
 (.reg [
 ⟨(some 22), none, .p (.mov (.t 5))⟩,
 ⟨(some 23), none, .p (.len (.t 22))⟩,
 ⟨(some 24), none, .p (.mov (.c (i64 0)))⟩])
 (.blk 2
 (.loop l32_1)))
 (.reg [
 ⟨(some 33), none, .p (.fa 1 (.t 2))⟩,
 ⟨(some 34), none, .p (.ld1 (.t 33))⟩,
 ⟨(some 35), none, .p (.mov (.t 5))⟩,
 ⟨(some 36), none, .e (.bsl 30 1 1 [.val (.slice none 0 0)] [(0, (.t 35))])⟩,
 ⟨(some 37), none, .e (.app 30 1 24 (.t 34) (.t 36))⟩,
 ⟨(some 38), none, .p (.fa 1 (.t 2))⟩,
 ⟨none, none, .e (.st 1 (.t 38) (.t 37))⟩]))))
 (.reg [
 ⟨(some 39), none, .p (.bin .add (.i .i64) (.t 17) (.c (i64 1)))⟩,
 ⟨(some 17), none, .p (.mov (.t 39))⟩]))))
/-- parlour/pack.ReadTable -/
def i32a : IC :=
 (.reg [
 ⟨(some 2), none, .e (.alc 28 [i64 0, .val (.slice none 0 0)])⟩,
 ⟨(some 3), none, .e (.alc 47 [i64 0, i64 0])⟩])
def i32s : Ins := ⟨(some 8), none, .p (.mkf (.func 62) [] [(.t 3), (.t 2)])⟩
def i32f : Od := .t 8
def i32 : IC :=
 (.seq
 (.reg [
 ⟨(some 9), none, .p (.mov (.t 0))⟩,
 ⟨(some 10), none, .e (.call (.c (.fn (.func 37) [] [])) [(.c (.val (.int .u8 84)))])⟩,
 ⟨(some 11), none, .e (.call (.c (.fn (.func 48) [] [])) [(.t 9), (.t 10)])⟩,
 ⟨(some 4), none, .p (.mov (.t 11))⟩])
 (.seq
 (.reg [
 ⟨(some 12), none, .p (.mov (.t 4))⟩,
 ⟨(some 13), none, .e (.call (.c (.fn (.func 49) [] [])) [(.t 12), (.c (i64 0)), (.c (i64 255))])⟩,
 ⟨(some 14), none, .p (.fa 0 (.t 2))⟩,
 ⟨none, none, .e (.st 1 (.t 14) (.t 13))⟩])
 (.seq
 (.seq
 (.reg [
 ⟨(some 15), none, .p (.mov (.t 4))⟩,
 ⟨(some 16), none, .e (.call (.c (.fn (.func 50) [] [])) [(.t 15), (.c (i64 0)), (.c (i64 200))])⟩,
 ⟨(some 17), none, .p (.mov (.c (i64 0)))⟩])
 (.blk 0
 (.loop l32_0)))
 (.seq
 (.reg [
 ⟨(some 40), none, .p (.mov (.t 4))⟩,
 ⟨(some 41), none, .e (.call (.c (.fn (.func 52) [] [])) [(.t 40)])⟩])
 (.seq
 (.seq
 (.reg [
 ⟨(some 42), none, .p (.ldn 2 (.t 2))⟩,
 ⟨(some 43), none, .e (.call (.c (.fn (.func 44) [] [])) [(.t 42)])⟩,
 ⟨(some 7), none, .p (.mov (.t 43))⟩])
 (.seq
 (.reg [
 ⟨(some 44), none, .p (.mov (.t 7))⟩,
 ⟨(some 45), none, .p (.bin .neq (.i .i64) (.t 44) (.c (i64 0)))⟩])
 (.cond (.t 45)
 (.reg [
 ⟨(some 46), none, .p (.mov (.t 7))⟩,
 ⟨(some 47), none, .p (.mov (.t 4))⟩,
 ⟨(some 48), none, .p (.nck (.t 47))⟩,
 ⟨(some 49), none, .p (.fa 0 (.t 48))⟩,
 ⟨(some 50), none, .p (.ld1 (.t 49))⟩,
 ⟨(some 51), none, .p (.len (.t 50))⟩,
 ⟨(some 52), none, .e (.call (.c (.fn (.func 53) [] [])) [(.t 46), (.t 51)])⟩])
 .skip)))
 (.seq
 (.reg [
 ⟨(some 53), none, .p (.ldn 2 (.t 2))⟩,
 ⟨(some 54), none, .p (.bld [i64 0, i64 0] [])⟩,
 ⟨none, none, .e (.st 2 (.t 2) (.t 53))⟩,
 ⟨none, none, .e (.st 2 (.t 3) (.t 54))⟩])
 .ret))))))
def r32 : List RS := [.cn 2 2, .cn 3 2]
theorem c32 : chkDf Try.prog drawB Try.f32 i32a i32s i32f i32 r32 = true := by kernel_rfl
/-- parlour/parlourlaw32.sameTable -/
def i34 : IC :=
 (.seq
 (.reg [
 ⟨(some 2), none, .e (.box 28 (.t 0))⟩,
 ⟨(some 3), none, .e (.box 28 (.t 1))⟩,
 ⟨(some 4), none, .p (.mov (.c (bl false)))⟩])
 (.seq
 (.reg [
 ⟨(some 5), none, .p (.fa 0 (.t 2))⟩,
 ⟨(some 6), none, .p (.ld1 (.t 5))⟩,
 ⟨(some 7), none, .p (.fa 0 (.t 3))⟩,
 ⟨(some 8), none, .p (.ld1 (.t 7))⟩,
 ⟨(some 9), none, .p (.bin .eql (.i .i64) (.t 6) (.t 8))⟩,
 ⟨(some 10), none, .p (.mov (.t 9))⟩,
 ⟨(some 11), (some (10, true)), .p (.fa 1 (.t 2))⟩,
 ⟨(some 12), (some (10, true)), .p (.ld1 (.t 11))⟩,
 ⟨(some 13), (some (10, true)), .p (.fa 1 (.t 3))⟩,
 ⟨(some 14), (some (10, true)), .p (.ld1 (.t 13))⟩,
 ⟨(some 15), (some (10, true)), .q (.c (.fn (.func 63) [] [])) [(.t 12), (.t 14)]⟩,
 ⟨(some 16), none, .p (.pick (.t 10) (.t 15) (.c (bl false)))⟩,
 ⟨(some 4), none, .p (.mov (.t 16))⟩])
 .ret))
def r34 : List RS := [.t 4]
theorem c34 : chkF Try.prog drawB Try.f34 i34 r34 = true := by kernel_rfl
/-- (*parlour/parlourkit.Draws).Next -/
def i35 : IC :=
 (.seq
 (.reg [
 ⟨(some 4), none, .p (.mov (.c (i64 0)))⟩])
 (.seq
 (.seq
 (.drw [0, 1, 2, 3, 4, 5, 6, 7, 8, 9, 10, 11, 12, 13] [
 ⟨(some 5), none, .p (.mov (.t 0))⟩,
 ⟨(some 6), none, .p (.nck (.t 5))⟩,
 ⟨(some 7), none, .p (.fa 1 (.t 6))⟩,
 ⟨(some 8), none, .p (.ld1 (.t 7))⟩,
 ⟨(some 9), none, .p (.mov (.t 0))⟩,
 ⟨(some 10), none, .p (.nck (.t 9))⟩,
 ⟨(some 11), none, .p (.fa 0 (.t 10))⟩,
 ⟨(some 12), none, .p (.ld1 (.t 11))⟩,
 ⟨(some 13), none, .p (.len (.t 12))⟩,
 ⟨(some 14), none, .p (.bin .geq (.i .i64) (.t 8) (.t 13))⟩,
 ⟨(some 15), none, .p (.mov (.t 14))⟩,
 ⟨(some 16), (some (15, false)), .p (.mov (.t 1))⟩,
 ⟨(some 17), (some (15, false)), .p (.bin .lss (.i .i64) (.t 16) (.c (i64 1)))⟩,
 ⟨(some 18), none, .p (.pick (.t 15) (.c (bl true)) (.t 17))⟩])
 (.cond (.t 18)
 (.seq
 (.reg [
 ⟨(some 4), none, .p (.mov (.c (i64 0)))⟩])
 .ret)
 .skip))
 (.seq
 (.reg [
 ⟨(some 19), none, .p (.mov (.t 0))⟩,
 ⟨(some 20), none, .p (.nck (.t 19))⟩,
 ⟨(some 21), none, .p (.fa 1 (.t 20))⟩,
 ⟨(some 22), none, .p (.ld1 (.t 21))⟩,
 ⟨(some 23), none, .p (.bin .add (.i .i64) (.t 22) (.c (i64 1)))⟩,
 ⟨(some 24), none, .p (.nck (.t 19))⟩,
 ⟨(some 25), none, .p (.fa 1 (.t 24))⟩,
 ⟨none, none, .e (.st 1 (.t 25) (.t 23))⟩])
 (.seq
 (.drw [0, 1, 2, 3, 4, 5, 6, 7, 8, 9, 10, 11, 12, 13] [
 ⟨(some 26), none, .p (.mov (.t 0))⟩,
 ⟨(some 27), none, .p (.nck (.t 26))⟩,
 ⟨(some 28), none, .p (.fa 0 (.t 27))⟩,
 ⟨(some 29), none, .p (.ld1 (.t 28))⟩,
 ⟨(some 30), none, .p (.mov (.t 0))⟩,
 ⟨(some 31), none, .p (.nck (.t 30))⟩,
 ⟨(some 32), none, .p (.fa 1 (.t 31))⟩,
 ⟨(some 33), none, .p (.ld1 (.t 32))⟩,
 ⟨(some 34), none, .p (.bin .sub (.i .i64) (.t 33) (.c (i64 1)))⟩,
 ⟨(some 35), none, .p (.ia 1 (.t 29) (.t 34))⟩,
 ⟨(some 36), none, .p (.ld1 (.t 35))⟩,
 ⟨(some 37), none, .p (.mov (.t 1))⟩,
 ⟨(some 38), none, .q (.c (.fn (.func 30) [] [])) [(.t 36), (.t 37)]⟩,
 ⟨(some 4), none, .p (.mov (.t 38))⟩])
 .ret))))
def r35 : List RS := [.t 4]
theorem c35 : chkF Try.prog drawB Try.f35 i35 r35 = true := by kernel_rfl
/-- parlour/recall.Form -/
def i36 : IC :=
 (.seq
 (.reg [
 ⟨(some 1), none, .e (.box 25 (.t 0))⟩,
 ⟨(some 2), none, .p (.mov (.c (i64 0)))⟩])
 (.seq
 (.reg [
 ⟨(some 6), none, .p (.ldn 3 (.t 1))⟩,
 ⟨(some 7), none, .e (.call (.c (.fn (.func 64) [] [])) [(.t 6)])⟩,
 ⟨(some 5), none, .p (.mov (.t 7))⟩,
 ⟨(some 8), none, .p (.ext (.t 5) 0)⟩,
 ⟨(some 9), none, .p (.ext (.t 5) 1)⟩,
 ⟨(some 3), none, .p (.mov (.t 8))⟩,
 ⟨(some 4), none, .p (.mov (.t 9))⟩])
 (.seq
 (.reg [
 ⟨(some 10), none, .p (.mov (.t 4))⟩,
 ⟨(some 2), none, .p (.mov (.t 10))⟩])
 .ret)))
def r36 : List RS := [.t 2]
theorem c36 : chkF Try.prog drawB Try.f36 i36 r36 = true := by kernel_rfl
/-- parlour/pack.magic -/
def i37 : IC :=
 (.seq
 (.reg [
 ⟨(some 2), none, .e (.alc 68 [.val (.int .u8 0), .val (.int .u8 0), .val (.int .u8 0)])⟩])
 (.seq
 (.reg [
 ⟨(some 3), none, .p (.mov (.t 0))⟩,
 ⟨(some 4), none, .p (.bld [.val (.int .u8 0), .val (.int .u8 0), .val (.int .u8 0)] [(0, 1, (.c (.val (.int .u8 80)))), (1, 1, (.t 3)), (2, 1, (.c (.val (.int .u8 1))))])⟩,
 ⟨none, none, .e (.st 3 (.t 2) (.t 4))⟩])
 .ret))
def r37 : List RS := [.cn 2 3]
theorem c37 : chkF Try.prog drawB Try.f37 i37 r37 = true := by kernel_rfl
def ya38_0 : IC :=
 (.reg [
 ⟨(some 5), none, .p (.mov (.t 8))⟩])
def yb38_0 : IC :=
 (.blk 1
 (.reg [
 ⟨(some 9), none, .p (.ld1 (.t 2))⟩,
 ⟨(some 10), none, .p (.mov (.t 5))⟩,
 ⟨(some 11), none, .e (.bsl 5 1 1 [.val (.int .u8 0)] [(0, (.t 10))])⟩,
 ⟨(some 12), none, .e (.app 5 1 1 (.t 9) (.t 11))⟩,
 ⟨none, none, .e (.st 1 (.t 2) (.t 12))⟩]))
/-- parlour/pack.put -/
def i38 : IC :=
 (.seq
 (.reg [
 ⟨(some 2), none, .e (.box 31 (.t 0))⟩,
 ⟨(some 4), none, .p (.mov (.c (.val (.slice none 0 0))))⟩])
 (.seq
 (.seq
 (.reg [
 ⟨(some 6), none, .p (.mov (.t 1))⟩,
 ⟨(some 7), none, .e (.call (.c (.fn (.func 65) [] [])) [(.t 6)])⟩])
 (.blk 0
 (.keep [2, 7] (.rng 0 (.t 7) [8] ya38_0 yb38_0))))
 (.seq
 (.reg [
 ⟨(some 13), none, .p (.ld1 (.t 2))⟩,
 ⟨(some 4), none, .p (.mov (.t 13))⟩])
 .ret)))
def r38 : List RS := [.t 4]
theorem c38 : chkF Try.prog drawB Try.f38 i38 r38 = true := by kernel_rfl
/-- parlour/pack.putSigned -/
def i39 : IC :=
 (.seq
 (.reg [
 ⟨(some 4), none, .p (.mov (.c (.val (.slice none 0 0))))⟩])
 (.seq
 (.seq
 (.reg [
 ⟨(some 5), none, .p (.mov (.t 1))⟩,
 ⟨(some 6), none, .p (.bin .lss (.i .i64) (.t 5) (.c (i64 0)))⟩])
 (.cond (.t 6)
 (.seq
 (.reg [
 ⟨(some 7), none, .p (.mov (.t 0))⟩,
 ⟨(some 8), none, .p (.mov (.t 1))⟩,
 ⟨(some 9), none, .p (.bin .mul (.i .i64) (.c (i64 (-2))) (.t 8))⟩,
 ⟨(some 10), none, .p (.bin .sub (.i .i64) (.t 9) (.c (i64 1)))⟩,
 ⟨(some 11), none, .e (.call (.c (.fn (.func 38) [] [])) [(.t 7), (.t 10)])⟩,
 ⟨(some 4), none, .p (.mov (.t 11))⟩])
 .ret)
 .skip))
 (.seq
 (.reg [
 ⟨(some 12), none, .p (.mov (.t 0))⟩,
 ⟨(some 13), none, .p (.mov (.t 1))⟩,
 ⟨(some 14), none, .p (.bin .mul (.i .i64) (.c (i64 2)) (.t 13))⟩,
 ⟨(some 15), none, .e (.call (.c (.fn (.func 38) [] [])) [(.t 12), (.t 14)])⟩,
 ⟨(some 4), none, .p (.mov (.t 15))⟩])
 .ret)))
def r39 : List RS := [.t 4]
theorem c39 : chkF Try.prog drawB Try.f39 i39 r39 = true := by kernel_rfl
/-- parlour/pack.sealed -/
def i40 : IC :=
 (.seq
 (.reg [
 ⟨(some 2), none, .p (.mov (.c (.val (.slice none 0 0))))⟩])
 (.seq
 (.reg [
 ⟨(some 5), none, .p (.mov (.t 0))⟩,
 ⟨(some 6), none, .e (.call (.c (.fn (.func 20) [] [])) [(.t 5)])⟩,
 ⟨(some 3), none, .p (.mov (.t 6))⟩])
 (.seq
 (.reg [
 ⟨(some 7), none, .p (.mov (.t 3))⟩,
 ⟨(some 8), none, .p (.bin .shr (.sh .i64 .u64) (.t 7) (.c (.val (.int .u64 24))))⟩,
 ⟨(some 9), none, .p (.cvi .u8 (.t 8))⟩,
 ⟨(some 10), none, .p (.mov (.t 3))⟩,
 ⟨(some 11), none, .p (.bin .shr (.sh .i64 .u64) (.t 10) (.c (.val (.int .u64 16))))⟩,
 ⟨(some 12), none, .p (.cvi .u8 (.t 11))⟩,
 ⟨(some 13), none, .p (.mov (.t 3))⟩,
 ⟨(some 14), none, .p (.bin .shr (.sh .i64 .u64) (.t 13) (.c (.val (.int .u64 8))))⟩,
 ⟨(some 15), none, .p (.cvi .u8 (.t 14))⟩,
 ⟨(some 16), none, .p (.mov (.t 3))⟩,
 ⟨(some 17), none, .p (.cvi .u8 (.t 16))⟩,
 ⟨(some 18), none, .p (.bld [.val (.int .u8 0), .val (.int .u8 0), .val (.int .u8 0), .val (.int .u8 0)] [(0, 1, (.t 9)), (1, 1, (.t 12)), (2, 1, (.t 15)), (3, 1, (.t 17))])⟩,
 ⟨(some 4), none, .e (.alc 109 [.val (.int .u8 0), .val (.int .u8 0), .val (.int .u8 0), .val (.int .u8 0)])⟩,
 ⟨none, none, .e (.st 4 (.t 4) (.t 18))⟩])
 (.seq
 (.reg [
 ⟨(some 19), none, .p (.mov (.t 0))⟩,
 ⟨(some 20), none, .p (.sla 4 1 (.t 4) none none)⟩,
 ⟨(some 21), none, .e (.app 5 1 1 (.t 19) (.t 20))⟩,
 ⟨(some 2), none, .p (.mov (.t 21))⟩])
 .ret))))
def r40 : List RS := [.t 2]
theorem c40 : chkF Try.prog drawB Try.f40 i40 r40 = true := by kernel_rfl
def l44_0 : IC := .keep [1, 2, 4, 31, 32, 33]
 (.seq
 (.reg [
 ⟨(some 34), none, .p (.bin .lss (.i .i64) (.t 33) (.t 32))⟩])
 (.seq
 (.cond (.t 34)
 .skip
 (.exit 2))
 (.seq
 (.blk 3
 (.seq
 (.reg [
 ⟨(some 35), none, .p (.ia 1 (.t 31) (.t 33))⟩,
 ⟨(some 36), none, .p (.ld1 (.t 35))⟩,
 ⟨(some 6), none, .p (.mov (.t 36))⟩])
 (.seq
 (.seq
 (.reg [
 ⟨(some 37), none, .p (.mov (.t 6))⟩,
 ⟨(some 38), none, .p (.bin .lss (.i .i64) (.t 37) (.c (i64 0)))⟩,
 ⟨(some 39), none, .p (.mov (.t 38))⟩,
 ⟨(some 40), (some (39, false)), .p (.mov (.t 6))⟩,
 ⟨(some 41), (some (39, false)), .p (.fa 0 (.t 1))⟩,
 ⟨(some 42), (some (39, false)), .p (.ld1 (.t 41))⟩,
 ⟨(some 43), (some (39, false)), .p (.bin .shl (.sh .i64 .i64) (.c (i64 1)) (.t 42))⟩,
 ⟨(some 44), (some (39, false)), .p (.bin .gtr (.i .i64) (.t 40) (.t 43))⟩,
 ⟨(some 45), none, .p (.pick (.t 39) (.c (bl true)) (.t 44))⟩])
 (.cond (.t 45)
 (.seq
 (.reg [
 ⟨none, none, .e (.st 1 (.t 2) (.c (i64 2)))⟩])
 .ret)
 .skip))
 (.reg [
 ⟨(some 46), none, .p (.mov (.t 4))⟩,
 ⟨(some 47), none, .p (.mov (.t 6))⟩,
 ⟨(some 48), none, .p (.bin .add (.i .i64) (.t 46) (.t 47))⟩,
 ⟨(some 4), none, .p (.mov (.t 48))⟩]))))
 (.reg [
 ⟨(some 49), none, .p (.bin .add (.i .i64) (.t 33) (.c (i64 1)))⟩,
 ⟨(some 33), none, .p (.mov (.t 49))⟩]))))
def ya44_0 : IC :=
 (.reg [
 ⟨(some 3), none, .p (.mov (.t 22))⟩])
def yb44_0 : IC :=
 (.blk 1
 (.seq
 (.seq
 (.reg [
 ⟨(some 23), none, .p (.mov (.t 3))⟩,
 ⟨(some 24), none, .p (.len (.t 23))⟩,
 ⟨(some 25), none, .p (.bin .lss (.i .i64) (.t 24) (.c (i64 1)))⟩,
 ⟨(some 26), none, .p (.mov (.t 25))⟩,
 ⟨(some 27), (some (26, false)), .p (.mov (.t 3))⟩,
 ⟨(some 28), (some (26, false)), .p (.len (.t 27))⟩,
 ⟨(some 29), (some (26, false)), .p (.bin .gtr (.i .i64) (.t 28) (.c (i64 10)))⟩,
 ⟨(some 30), none, .p (.pick (.t 26) (.c (bl true)) (.t 29))⟩])
 (.cond (.t 30)
 (.seq
 (.reg [
 ⟨none, none, .e (.st 1 (.t 2) (.c (i64 3)))⟩])
 .ret)
 .skip))
 (.seq
 (.reg [
 ⟨(some 4), none, .p (.mov (.c (i64 0)))⟩])
 (.seq
 (.seq
 (.reg [
 ⟨(some 31), none, .p (.mov (.t 3))⟩,
 ⟨(some 32), none, .p (.len (.t 31))⟩,
 ⟨(some 33), none, .p (.mov (.c (i64 0)))⟩])
 (.blk 2
 (.loop l44_0)))
 (.seq
 (.reg [
 ⟨(some 50), none, .p (.mov (.t 4))⟩,
 ⟨(some 51), none, .p (.fa 0 (.t 1))⟩,
 ⟨(some 52), none, .p (.ld1 (.t 51))⟩,
 ⟨(some 53), none, .p (.bin .shl (.sh .i64 .i64) (.c (i64 1)) (.t 52))⟩,
 ⟨(some 54), none, .p (.bin .neq (.i .i64) (.t 50) (.t 53))⟩])
 (.cond (.t 54)
 (.seq
 (.reg [
 ⟨none, none, .e (.st 1 (.t 2) (.c (i64 14)))⟩])
 .ret)
 .skip))))))
/-- parlour/table.Check -/
def i44 : IC :=
 (.seq
 (.reg [
 ⟨(some 1), none, .e (.box 28 (.t 0))⟩,
 ⟨(some 2), none, .e (.alc 32 [i64 0])⟩])
 (.seq
 (.seq
 (.reg [
 ⟨(some 7), none, .p (.fa 0 (.t 1))⟩,
 ⟨(some 8), none, .p (.ld1 (.t 7))⟩,
 ⟨(some 9), none, .p (.bin .lss (.i .i64) (.t 8) (.c (i64 1)))⟩,
 ⟨(some 10), none, .p (.mov (.t 9))⟩,
 ⟨(some 11), (some (10, false)), .p (.fa 0 (.t 1))⟩,
 ⟨(some 12), (some (10, false)), .p (.ld1 (.t 11))⟩,
 ⟨(some 13), (some (10, false)), .p (.bin .gtr (.i .i64) (.t 12) (.c (i64 30)))⟩,
 ⟨(some 14), none, .p (.pick (.t 10) (.c (bl true)) (.t 13))⟩])
 (.cond (.t 14)
 (.seq
 (.reg [
 ⟨none, none, .e (.st 1 (.t 2) (.c (i64 2)))⟩])
 .ret)
 .skip))
 (.seq
 (.seq
 (.reg [
 ⟨(some 15), none, .p (.fa 1 (.t 1))⟩,
 ⟨(some 16), none, .p (.ld1 (.t 15))⟩,
 ⟨(some 17), none, .p (.len (.t 16))⟩,
 ⟨(some 18), none, .p (.bin .gtr (.i .i64) (.t 17) (.c (i64 200)))⟩])
 (.cond (.t 18)
 (.seq
 (.reg [
 ⟨none, none, .e (.st 1 (.t 2) (.c (i64 4)))⟩])
 .ret)
 .skip))
 (.seq
 (.seq
 (.reg [
 ⟨(some 19), none, .p (.fa 1 (.t 1))⟩,
 ⟨(some 20), none, .p (.ld1 (.t 19))⟩,
 ⟨(some 21), none, .e (.call (.c (.fn (.func 69) [] [])) [(.t 20)])⟩])
 (.blk 0
 (.keep [1, 2, 21] (.rng 1 (.t 21) [22] ya44_0 yb44_0))))
 (.seq
 (.reg [
 ⟨none, none, .e (.st 1 (.t 2) (.c (i64 0)))⟩])
 .ret)))))
def r44 : List RS := [.c1 2]
theorem c44 : chkF Try.prog drawB Try.f44 i44 r44 = true := by kernel_rfl
/-- parlour/pack.ReadGame$1 -/
def i46s : List Ins := [⟨(some 3), none, .e (.call (.c (.fn (.func 47) [] [])) [(.t 2), (.t 0)])⟩]
def i46 : IC :=
 (.seq
 (.reg [
 ⟨(some 4), none, .p (.fa 0 (.t 0))⟩,
 ⟨(some 5), none, .p (.ld1 (.t 4))⟩,
 ⟨(some 6), none, .p (.bin .neq (.i .i64) (.t 5) (.c (i64 0)))⟩])
 (.cond (.t 6)
 (.reg [
 ⟨(some 7), none, .p (.bld [i64 0, .val (.slice none 0 0), .val (.slice none 0 0)] [])⟩,
 ⟨none, none, .e (.st 3 (.t 1) (.t 7))⟩])
 .skip))
theorem c46 : chkRc Try.prog drawB Try.f46 2 i46s i46 = true := by kernel_rfl
/-- parlour/pack.caught -/
def i47 : IC :=
 (.seq
 (.seq
 (.reg [
 ⟨(some 6), none, .p (.mov (.t 0))⟩,
 ⟨(some 7), none, .p (.ifn false true (.t 6))⟩])
 (.cond (.t 7)
 .ret
 .skip))
 (.seq
 (.reg [
 ⟨(some 8), none, .p (.mov (.t 1))⟩,
 ⟨(some 9), none, .p (.bld [i64 0, i64 0] [(0, 1, (.c (i64 13)))])⟩,
 ⟨(some 10), none, .p (.nck (.t 8))⟩,
 ⟨none, none, .e (.st 2 (.t 10) (.t 9))⟩])
 (.seq
 (.reg [
 ⟨(some 12), none, .p (.mov (.t 0))⟩,
 ⟨(some 13), none, .p (.tas 47 true (.agg [i64 0, i64 0]) (.t 12))⟩,
 ⟨(some 11), none, .p (.mov (.t 13))⟩,
 ⟨(some 14), none, .p (.ext (.t 11) 0)⟩,
 ⟨(some 15), none, .p (.ext (.t 11) 1)⟩,
 ⟨(some 4), none, .e (.alc 47 [i64 0, i64 0])⟩,
 ⟨none, none, .e (.st 2 (.t 4) (.t 14))⟩,
 ⟨(some 5), none, .p (.mov (.t 15))⟩])
 (.seq
 (.reg [
 ⟨(some 16), none, .p (.mov (.t 5))⟩])
 (.cond (.t 16)
 (.reg [
 ⟨(some 17), none, .p (.mov (.t 1))⟩,
 ⟨(some 18), none, .p (.ldn 2 (.t 4))⟩,
 ⟨(some 19), none, .p (.nck (.t 17))⟩,
 ⟨none, none, .e (.st 2 (.t 19) (.t 18))⟩])
 .skip)))))
def r47 : List RS := []
theorem c47 : chkF Try.prog drawB Try.f47 i47 r47 = true := by kernel_rfl
def l48_0 : IC := .keep [0, 3, 5, 6, 26, 27, 28]
 (.seq
 (.reg [
 ⟨(some 29), none, .p (.bin .lss (.i .i64) (.t 28) (.t 27))⟩])
 (.seq
 (.cond (.t 29)
 .skip
 (.exit 0))
 (.seq
 (.blk 1
 (.seq
 (.reg [
 ⟨(some 30), none, .p (.ia 1 (.t 26) (.t 28))⟩,
 ⟨(some 31), none, .p (.ld1 (.t 30))⟩,
 ⟨(some 8), none, .p (.mov (.t 31))⟩])
 (.reg [
 ⟨(some 32), none, .p (.mov (.t 6))⟩,
 ⟨(some 33), none, .p (.bin .shl (.sh .i64 .u64) (.t 32) (.c (.val (.int .u64 8))))⟩,
 ⟨(some 34), none, .p (.mov (.t 8))⟩,
 ⟨(some 35), none, .p (.cvi .i64 (.t 34))⟩,
 ⟨(some 36), none, .p (.bin .add (.i .i64) (.t 33) (.t 35))⟩,
 ⟨(some 6), none, .p (.mov (.t 36))⟩])))
 (.reg [
 ⟨(some 37), none, .p (.bin .add (.i .i64) (.t 28) (.c (i64 1)))⟩,
 ⟨(some 28), none, .p (.mov (.t 37))⟩]))))
def l48_1 : IC := .keep [0, 5, 46, 47]
 (.seq
 (.reg [
 ⟨(some 48), none, .p (.bin .lss (.i .i64) (.t 47) (.c (i64 3)))⟩])
 (.seq
 (.cond (.t 48)
 .skip
 (.exit 2))
 (.seq
 (.blk 3
 (.seq
 (.reg [
 ⟨(some 49), none, .p (.mov (.t 47))⟩,
 ⟨(some 50), none, .p (.ixa 3 1 true (.t 46) (.t 47))⟩,
 ⟨(some 9), none, .p (.mov (.t 49))⟩,
 ⟨(some 10), none, .p (.mov (.t 50))⟩])
 (.seq
 (.reg [
 ⟨(some 51), none, .p (.mov (.t 0))⟩,
 ⟨(some 52), none, .p (.mov (.t 9))⟩,
 ⟨(some 53), none, .p (.ia 1 (.t 51) (.t 52))⟩,
 ⟨(some 54), none, .p (.ld1 (.t 53))⟩,
 ⟨(some 55), none, .p (.mov (.t 10))⟩,
 ⟨(some 56), none, .p (.bin .neq (.i .u8) (.t 54) (.t 55))⟩])
 (.cond (.t 56)
 (.reg [
 ⟨(some 57), none, .p (.mov (.t 9))⟩,
 ⟨(some 58), none, .e (.call (.c (.fn (.func 53) [] [])) [(.c (i64 3)), (.t 57)])⟩])
 .skip))))
 (.reg [
 ⟨(some 59), none, .p (.bin .add (.i .i64) (.t 47) (.c (i64 1)))⟩,
 ⟨(some 47), none, .p (.mov (.t 59))⟩]))))
/-- parlour/pack.open -/
def i48 : IC :=
 (.seq
 (.reg [
 ⟨(some 3), none, .e (.box 68 (.t 1))⟩,
 ⟨(some 4), none, .p (.mov (.c (.val (.pointer none))))⟩])
 (.seq
 (.seq
 (.reg [
 ⟨(some 11), none, .p (.mov (.t 0))⟩,
 ⟨(some 12), none, .p (.len (.t 11))⟩,
 ⟨(some 13), none, .p (.bin .gtr (.i .i64) (.t 12) (.c (i64 100000)))⟩])
 (.cond (.t 13)
 (.reg [
 ⟨(some 14), none, .e (.call (.c (.fn (.func 53) [] [])) [(.c (i64 4)), (.c (i64 100000))])⟩])
 .skip))
 (.seq
 (.seq
 (.reg [
 ⟨(some 15), none, .p (.mov (.t 0))⟩,
 ⟨(some 16), none, .p (.len (.t 15))⟩,
 ⟨(some 17), none, .p (.bin .lss (.i .i64) (.t 16) (.c (i64 7)))⟩])
 (.cond (.t 17)
 (.reg [
 ⟨(some 18), none, .p (.mov (.t 0))⟩,
 ⟨(some 19), none, .p (.len (.t 18))⟩,
 ⟨(some 20), none, .e (.call (.c (.fn (.func 53) [] [])) [(.c (i64 16)), (.t 19)])⟩])
 .skip))
 (.seq
 (.reg [
 ⟨(some 21), none, .p (.mov (.t 0))⟩,
 ⟨(some 22), none, .p (.len (.t 21))⟩,
 ⟨(some 23), none, .p (.bin .sub (.i .i64) (.t 22) (.c (i64 4)))⟩,
 ⟨(some 5), none, .p (.mov (.t 23))⟩])
 (.seq
 (.reg [
 ⟨(some 6), none, .p (.mov (.c (i64 0)))⟩])
 (.seq
 (.seq
 (.reg [
 ⟨(some 24), none, .p (.mov (.t 0))⟩,
 ⟨(some 25), none, .p (.mov (.t 5))⟩,
 ⟨(some 26), none, .p (.sl 1 (.t 24) (some (.t 25)) none)⟩,
 ⟨(some 27), none, .p (.len (.t 26))⟩,
 ⟨(some 28), none, .p (.mov (.c (i64 0)))⟩])
 (.blk 0
 (.loop l48_0)))
 (.seq
 (.seq
 (.reg [
 ⟨(some 38), none, .p (.mov (.t 6))⟩,
 ⟨(some 39), none, .p (.mov (.t 0))⟩,
 ⟨(some 40), none, .p (.mov (.t 5))⟩,
 ⟨(some 41), none, .p (.sl 1 (.t 39) none (some (.t 40)))⟩,
 ⟨(some 42), none, .e (.call (.c (.fn (.func 20) [] [])) [(.t 41)])⟩,
 ⟨(some 43), none, .p (.bin .neq (.i .i64) (.t 38) (.t 42))⟩])
 (.cond (.t 43)
 (.reg [
 ⟨(some 44), none, .p (.mov (.t 5))⟩,
 ⟨(some 45), none, .e (.call (.c (.fn (.func 53) [] [])) [(.c (i64 14)), (.t 44)])⟩])
 .skip))
 (.seq
 (.seq
 (.reg [
 ⟨(some 46), none, .p (.ldn 3 (.t 3))⟩,
 ⟨(some 47), none, .p (.mov (.c (i64 0)))⟩])
 (.blk 2
 (.loop l48_1)))
 (.seq
 (.reg [
 ⟨(some 60), none, .p (.mov (.t 0))⟩,
 ⟨(some 61), none, .p (.mov (.t 5))⟩,
 ⟨(some 62), none, .p (.sl 1 (.t 60) none (some (.t 61)))⟩,
 ⟨(some 63), none, .p (.bld [.val (.slice none 0 0), i64 0] [(0, 1, (.t 62)), (1, 1, (.c (i64 3)))])⟩,
 ⟨(some 64), none, .e (.box 86 (.t 63))⟩,
 ⟨(some 4), none, .p (.mov (.t 64))⟩])
 .ret)))))))))
def r48 : List RS := [.t 4]
theorem c48 : chkF Try.prog drawB Try.f48 i48 r48 = true := by kernel_rfl
/-- (*parlour/pack.reader).octet -/
def i49 : IC :=
 (.seq
 (.reg [
 ⟨(some 6), none, .p (.mov (.c (i64 0)))⟩])
 (.seq
 (.seq
 (.drw [0, 1, 2, 3, 4, 5, 6, 7, 8, 9] [
 ⟨(some 7), none, .p (.mov (.t 0))⟩,
 ⟨(some 8), none, .p (.nck (.t 7))⟩,
 ⟨(some 9), none, .p (.fa 1 (.t 8))⟩,
 ⟨(some 10), none, .p (.ld1 (.t 9))⟩,
 ⟨(some 11), none, .p (.mov (.t 0))⟩,
 ⟨(some 12), none, .p (.nck (.t 11))⟩,
 ⟨(some 13), none, .p (.fa 0 (.t 12))⟩,
 ⟨(some 14), none, .p (.ld1 (.t 13))⟩,
 ⟨(some 15), none, .p (.len (.t 14))⟩,
 ⟨(some 16), none, .p (.bin .eql (.i .i64) (.t 10) (.t 15))⟩])
 (.cond (.t 16)
 (.reg [
 ⟨(some 17), none, .p (.mov (.t 0))⟩,
 ⟨(some 18), none, .p (.nck (.t 17))⟩,
 ⟨(some 19), none, .p (.fa 1 (.t 18))⟩,
 ⟨(some 20), none, .p (.ld1 (.t 19))⟩,
 ⟨(some 21), none, .e (.call (.c (.fn (.func 53) [] [])) [(.c (i64 16)), (.t 20)])⟩])
 .skip))
 (.seq
 (.reg [
 ⟨(some 22), none, .p (.mov (.t 0))⟩,
 ⟨(some 23), none, .p (.nck (.t 22))⟩,
 ⟨(some 24), none, .p (.fa 1 (.t 23))⟩,
 ⟨(some 25), none, .p (.ld1 (.t 24))⟩,
 ⟨(some 26), none, .p (.bin .add (.i .i64) (.t 25) (.c (i64 1)))⟩,
 ⟨(some 27), none, .p (.nck (.t 22))⟩,
 ⟨(some 28), none, .p (.fa 1 (.t 27))⟩,
 ⟨none, none, .e (.st 1 (.t 28) (.t 26))⟩])
 (.seq
 (.drw [0, 1, 2, 3, 4, 5, 6, 7, 8, 9, 10, 11, 12, 13, 14, 15, 16, 17, 18, 19, 20] [
 ⟨(some 29), none, .p (.mov (.t 0))⟩,
 ⟨(some 30), none, .p (.nck (.t 29))⟩,
 ⟨(some 31), none, .p (.fa 0 (.t 30))⟩,
 ⟨(some 32), none, .p (.ld1 (.t 31))⟩,
 ⟨(some 33), none, .p (.mov (.t 0))⟩,
 ⟨(some 34), none, .p (.nck (.t 33))⟩,
 ⟨(some 35), none, .p (.fa 1 (.t 34))⟩,
 ⟨(some 36), none, .p (.ld1 (.t 35))⟩,
 ⟨(some 37), none, .p (.bin .sub (.i .i64) (.t 36) (.c (i64 1)))⟩,
 ⟨(some 38), none, .p (.ia 1 (.t 32) (.t 37))⟩,
 ⟨(some 39), none, .p (.ld1 (.t 38))⟩,
 ⟨(some 40), none, .p (.cvi .i64 (.t 39))⟩,
 ⟨(some 41), none, .p (.mov (.t 1))⟩,
 ⟨(some 42), none, .p (.mov (.t 2))⟩,
 ⟨(some 43), none, .p (.mov (.t 0))⟩,
 ⟨(some 44), none, .p (.nck (.t 43))⟩,
 ⟨(some 45), none, .p (.fa 1 (.t 44))⟩,
 ⟨(some 46), none, .p (.ld1 (.t 45))⟩,
 ⟨(some 47), none, .p (.bin .sub (.i .i64) (.t 46) (.c (i64 1)))⟩,
 ⟨(some 48), none, .e (.call (.c (.fn (.func 70) [] [])) [(.t 40), (.t 41), (.t 42), (.t 47)])⟩,
 ⟨(some 6), none, .p (.mov (.t 48))⟩])
 .ret))))
def r49 : List RS := [.t 6]
theorem c49 : chkF Try.prog drawB Try.f49 i49 r49 = true := by kernel_rfl
/-- (*parlour/pack.reader).number -/
def i50 : IC :=
 (.seq
 (.reg [
 ⟨(some 6), none, .p (.mov (.c (i64 0)))⟩])
 (.seq
 (.reg [
 ⟨(some 11), none, .p (.mov (.t 0))⟩,
 ⟨(some 12), none, .p (.nck (.t 11))⟩,
 ⟨(some 13), none, .p (.fa 1 (.t 12))⟩,
 ⟨(some 14), none, .p (.ld1 (.t 13))⟩,
 ⟨(some 7), none, .p (.mov (.t 14))⟩])
 (.seq
 (.reg [
 ⟨(some 16), none, .p (.mov (.t 0))⟩,
 ⟨(some 17), none, .p (.nck (.t 16))⟩,
 ⟨(some 18), none, .p (.fa 0 (.t 17))⟩,
 ⟨(some 19), none, .p (.ld1 (.t 18))⟩,
 ⟨(some 20), none, .p (.mov (.t 7))⟩,
 ⟨(some 21), none, .e (.call (.c (.fn (.func 18) [] [])) [(.t 19), (.t 20)])⟩,
 ⟨(some 15), none, .p (.mov (.t 21))⟩,
 ⟨(some 22), none, .p (.ext (.t 15) 0)⟩,
 ⟨(some 23), none, .p (.ext (.t 15) 1)⟩,
 ⟨(some 24), none, .p (.ext (.t 15) 2)⟩,
 ⟨(some 8), none, .p (.mov (.t 22))⟩,
 ⟨(some 9), none, .p (.mov (.t 23))⟩,
 ⟨(some 10), none, .p (.mov (.t 24))⟩])
 (.seq
 (.seq
 (.reg [
 ⟨(some 25), none, .p (.mov (.t 10))⟩,
 ⟨(some 26), none, .p (.bin .neq (.i .i64) (.t 25) (.c (i64 0)))⟩])
 (.cond (.t 26)
 (.reg [
 ⟨(some 27), none, .p (.mov (.t 10))⟩,
 ⟨(some 28), none, .p (.mov (.t 7))⟩,
 ⟨(some 29), none, .e (.call (.c (.fn (.func 53) [] [])) [(.t 27), (.t 28)])⟩])
 .skip))
 (.seq
 (.reg [
 ⟨(some 30), none, .p (.mov (.t 0))⟩,
 ⟨(some 31), none, .p (.mov (.t 9))⟩,
 ⟨(some 32), none, .p (.nck (.t 30))⟩,
 ⟨(some 33), none, .p (.fa 1 (.t 32))⟩,
 ⟨none, none, .e (.st 1 (.t 33) (.t 31))⟩])
 (.seq
 (.reg [
 ⟨(some 34), none, .p (.mov (.t 8))⟩,
 ⟨(some 35), none, .p (.mov (.t 1))⟩,
 ⟨(some 36), none, .p (.mov (.t 2))⟩,
 ⟨(some 37), none, .p (.mov (.t 7))⟩,
 ⟨(some 38), none, .e (.call (.c (.fn (.func 70) [] [])) [(.t 34), (.t 35), (.t 36), (.t 37)])⟩,
 ⟨(some 6), none, .p (.mov (.t 38))⟩])
 .ret))))))
def r50 : List RS := [.t 6]
theorem c50 : chkF Try.prog drawB Try.f50 i50 r50 = true := by kernel_rfl
/-- (*parlour/pack.reader).tree -/
def i51 : IC :=
 (.seq
 (.reg [
 ⟨(some 2), none, .e (.box 80 (.t 0))⟩,
 ⟨(some 3), none, .e (.box 83 (.t 1))⟩])
 (.seq
 (.reg [
 ⟨(some 4), none, .e (.alc 119 [.val .nilFunc])⟩])
 (.seq
 (.reg [
 ⟨(some 5), none, .p (.mkf (.func 71) [] [(.t 3), (.t 2), (.t 4)])⟩,
 ⟨none, none, .e (.st 1 (.t 4) (.t 5))⟩])
 (.reg [
 ⟨(some 6), none, .p (.ld1 (.t 4))⟩,
 ⟨(some 7), none, .e (.call (.t 6) [(.c (i64 0))])⟩]))))
def r51 : List RS := []
theorem c51 : chkF Try.prog drawB Try.f51 i51 r51 = true := by kernel_rfl
/-- (*parlour/pack.reader).finish -/
def i52 : IC :=
 (.seq
 (.drw [0, 1, 2, 3, 4, 5, 6, 7, 8, 9] [
 ⟨(some 2), none, .p (.mov (.t 0))⟩,
 ⟨(some 3), none, .p (.nck (.t 2))⟩,
 ⟨(some 4), none, .p (.fa 1 (.t 3))⟩,
 ⟨(some 5), none, .p (.ld1 (.t 4))⟩,
 ⟨(some 6), none, .p (.mov (.t 0))⟩,
 ⟨(some 7), none, .p (.nck (.t 6))⟩,
 ⟨(some 8), none, .p (.fa 0 (.t 7))⟩,
 ⟨(some 9), none, .p (.ld1 (.t 8))⟩,
 ⟨(some 10), none, .p (.len (.t 9))⟩,
 ⟨(some 11), none, .p (.bin .lss (.i .i64) (.t 5) (.t 10))⟩])
 (.cond (.t 11)
 (.reg [
 ⟨(some 12), none, .p (.mov (.t 0))⟩,
 ⟨(some 13), none, .p (.nck (.t 12))⟩,
 ⟨(some 14), none, .p (.fa 1 (.t 13))⟩,
 ⟨(some 15), none, .p (.ld1 (.t 14))⟩,
 ⟨(some 16), none, .e (.call (.c (.fn (.func 53) [] [])) [(.c (i64 4)), (.t 15)])⟩])
 .skip))
def r52 : List RS := []
theorem c52 : chkF Try.prog drawB Try.f52 i52 r52 = true := by kernel_rfl
/-- parlour/pack.fail -/
def i53 : IC :=
 (.reg [
 ⟨(some 4), none, .p (.mov (.t 0))⟩,
 ⟨(some 5), none, .p (.mov (.t 1))⟩,
 ⟨(some 6), none, .p (.bld [i64 0, i64 0] [(0, 1, (.t 4)), (1, 1, (.t 5))])⟩,
 ⟨(some 7), none, .p (.mki 47 (.t 6))⟩,
 ⟨none, none, .e (.pan (.t 7))⟩])
def r53 : List RS := []
theorem c53 : chkF Try.prog drawB Try.f53 i53 r53 = true := by kernel_rfl
def l56_1 : IC := .keep [0, 1, 2, 7, 8, 9, 11, 12, 13, 14]
 (.seq
 (.seq
 (.reg [
 ⟨(some 150), none, .p (.mov (.t 14))⟩,
 ⟨(some 151), none, .p (.mov (.t 2))⟩,
 ⟨(some 152), none, .p (.len (.t 151))⟩,
 ⟨(some 153), none, .p (.bin .lss (.i .i64) (.t 150) (.t 152))⟩])
 (.cond (.t 153)
 .skip
 (.exit 2)))
 (.seq
 (.blk 3
 (.seq
 (.reg [
 ⟨(some 156), none, .e (.bsl 3 1 0 [i64 0] [])⟩,
 ⟨(some 157), none, .p (.mov (.t 2))⟩,
 ⟨(some 158), none, .p (.mov (.t 14))⟩,
 ⟨(some 159), none, .p (.ia 1 (.t 157) (.t 158))⟩,
 ⟨(some 160), none, .p (.ld1 (.t 159))⟩,
 ⟨(some 161), none, .e (.app 3 1 8 (.t 156) (.t 160))⟩,
 ⟨(some 15), none, .p (.mov (.t 161))⟩])
 (.seq
 (.seq
 (.reg [
 ⟨(some 162), none, .p (.mov (.t 14))⟩,
 ⟨(some 163), none, .p (.fa 0 (.t 8))⟩,
 ⟨(some 164), none, .p (.ld1 (.t 163))⟩,
 ⟨(some 165), none, .p (.bin .eql (.i .i64) (.t 162) (.t 164))⟩,
 ⟨(some 166), none, .p (.mov (.t 165))⟩,
 ⟨(some 167), (some (166, false)), .p (.fa 2 (.t 8))⟩,
 ⟨(some 168), (some (166, false)), .p (.ld1 (.t 167))⟩,
 ⟨(some 169), (some (166, false)), .p (.mov (.t 14))⟩,
 ⟨(some 170), (some (166, false)), .p (.bin .shr (.sh .i64 .i64) (.t 168) (.t 169))⟩,
 ⟨(some 171), (some (166, false)), .p (.bin .and (.i .i64) (.t 170) (.c (i64 1)))⟩,
 ⟨(some 172), (some (166, false)), .p (.bin .eql (.i .i64) (.t 171) (.c (i64 1)))⟩,
 ⟨(some 173), none, .p (.pick (.t 166) (.c (bl true)) (.t 172))⟩])
 (.cond (.t 173)
 (.reg [
 ⟨(some 174), none, .p (.mov (.t 15))⟩,
 ⟨(some 175), none, .p (.mov (.t 12))⟩,
 ⟨(some 176), none, .e (.bsl 3 1 1 [i64 0] [(0, (.t 175))])⟩,
 ⟨(some 177), none, .e (.app 3 1 8 (.t 174) (.t 176))⟩,
 ⟨(some 15), none, .p (.mov (.t 177))⟩])
 (.reg [
 ⟨(some 178), none, .p (.mov (.t 15))⟩,
 ⟨(some 179), none, .e (.bsl 3 1 1 [i64 0] [(0, (.c (i64 (-1))))])⟩,
 ⟨(some 180), none, .e (.app 3 1 8 (.t 178) (.t 179))⟩,
 ⟨(some 15), none, .p (.mov (.t 180))⟩])))
 (.reg [
 ⟨(some 181), none, .p (.mov (.t 13))⟩,
 ⟨(some 182), none, .p (.mov (.t 15))⟩,
 ⟨(some 183), none, .e (.bsl 30 1 1 [.val (.slice none 0 0)] [(0, (.t 182))])⟩,
 ⟨(some 184), none, .e (.app 30 1 24 (.t 181) (.t 183))⟩,
 ⟨(some 13), none, .p (.mov (.t 184))⟩]))))
 (.reg [
 ⟨(some 154), none, .p (.mov (.t 14))⟩,
 ⟨(some 155), none, .p (.bin .add (.i .i64) (.t 154) (.c (i64 1)))⟩,
 ⟨(some 14), none, .p (.mov (.t 155))⟩])))
def l56_0 : IC := .keep [0, 1, 2, 7, 8, 9, 11, 12]
 (.seq
 (.seq
 (.reg [
 ⟨(some 131), none, .p (.mov (.t 12))⟩,
 ⟨(some 132), none, .p (.mov (.t 9))⟩,
 ⟨(some 133), none, .p (.bin .lss (.i .i64) (.t 131) (.t 132))⟩])
 (.cond (.t 133)
 .skip
 (.exit 0)))
 (.seq
 (.blk 1
 (.seq
 (.seq
 (.reg [
 ⟨(some 136), none, .p (.fa 0 (.t 8))⟩,
 ⟨(some 137), none, .p (.ld1 (.t 136))⟩,
 ⟨(some 138), none, .p (.bin .lss (.i .i64) (.t 137) (.c (i64 0)))⟩])
 (.cond (.t 138)
 (.drw [0, 1, 2, 3, 4, 5, 6, 7, 8, 9, 10, 11] [
 ⟨(some 139), none, .p (.fa 4 (.t 11))⟩,
 ⟨(some 140), none, .p (.ld1 (.t 139))⟩,
 ⟨(some 141), none, .p (.mov (.t 0))⟩,
 ⟨(some 142), none, .p (.nck (.t 141))⟩,
 ⟨(some 143), none, .p (.fa 0 (.t 142))⟩,
 ⟨(some 144), none, .p (.ld1 (.t 143))⟩,
 ⟨(some 145), none, .e (.call (.c (.fn (.func 35) [] [])) [(.t 144), (.c (i64 3))])⟩,
 ⟨(some 146), none, .p (.bin .add (.i .i64) (.c (i64 1)) (.t 145))⟩,
 ⟨(some 147), none, .e (.bsl 3 1 1 [i64 0] [(0, (.t 146))])⟩,
 ⟨(some 148), none, .e (.app 3 1 8 (.t 140) (.t 147))⟩,
 ⟨(some 149), none, .p (.fa 4 (.t 11))⟩,
 ⟨none, none, .e (.stw [144, 140] 1 (.t 149) (.t 148))⟩])
 .skip))
 (.seq
 (.reg [
 ⟨(some 13), none, .e (.nil 30 1 (.c (.val (.slice none 0 0))))⟩])
 (.seq
 (.seq
 (.reg [
 ⟨(some 14), none, .p (.mov (.c (i64 0)))⟩])
 (.blk 2
 (.loop l56_1)))
 (.drw [0, 1, 2, 3, 4, 5, 6, 7, 8, 9, 10] [
 ⟨(some 185), none, .p (.fa 3 (.t 11))⟩,
 ⟨(some 186), none, .p (.ld1 (.t 185))⟩,
 ⟨(some 187), none, .p (.mov (.t 0))⟩,
 ⟨(some 188), none, .p (.mov (.t 1))⟩,
 ⟨(some 189), none, .p (.bin .add (.i .i64) (.t 188) (.c (i64 1)))⟩,
 ⟨(some 190), none, .p (.mov (.t 13))⟩,
 ⟨(some 191), none, .e (.call (.c (.fn (.func 56) [] [])) [(.t 187), (.t 189), (.t 190)])⟩,
 ⟨(some 192), none, .e (.bsl 3 1 1 [i64 0] [(0, (.t 191))])⟩,
 ⟨(some 193), none, .e (.app 3 1 8 (.t 186) (.t 192))⟩,
 ⟨(some 194), none, .p (.fa 3 (.t 11))⟩,
 ⟨none, none, .e (.stw [186] 1 (.t 194) (.t 193))⟩])))))
 (.reg [
 ⟨(some 134), none, .p (.mov (.t 12))⟩,
 ⟨(some 135), none, .p (.bin .add (.i .i64) (.t 134) (.c (i64 1)))⟩,
 ⟨(some 12), none, .p (.mov (.t 135))⟩])))
/-- (*parlour/parlourkit.maker).build -/
def i56 : IC :=
 (.seq
 (.reg [
 ⟨(some 6), none, .p (.mov (.c (i64 0)))⟩])
 (.seq
 (.reg [
 ⟨(some 16), none, .p (.mov (.t 0))⟩,
 ⟨(some 17), none, .p (.nck (.t 16))⟩,
 ⟨(some 18), none, .p (.fa 7 (.t 17))⟩,
 ⟨(some 19), none, .p (.fa 1 (.t 18))⟩,
 ⟨(some 20), none, .p (.ld1 (.t 19))⟩,
 ⟨(some 21), none, .p (.len (.t 20))⟩,
 ⟨(some 7), none, .p (.mov (.t 21))⟩])
 (.seq
 (.reg [
 ⟨(some 22), none, .p (.mov (.t 0))⟩,
 ⟨(some 23), none, .p (.nck (.t 22))⟩,
 ⟨(some 24), none, .p (.fa 4 (.t 23))⟩,
 ⟨(some 25), none, .p (.ld1 (.t 24))⟩,
 ⟨(some 26), none, .p (.bin .sub (.i .i64) (.t 25) (.c (i64 1)))⟩,
 ⟨(some 27), none, .p (.nck (.t 22))⟩,
 ⟨(some 28), none, .p (.fa 4 (.t 27))⟩,
 ⟨none, none, .e (.st 1 (.t 28) (.t 26))⟩])
 (.seq
 (.reg [
 ⟨(some 29), none, .p (.mov (.t 0))⟩,
 ⟨(some 30), none, .p (.mov (.t 0))⟩,
 ⟨(some 31), none, .p (.nck (.t 30))⟩,
 ⟨(some 32), none, .p (.fa 7 (.t 31))⟩,
 ⟨(some 33), none, .p (.fa 1 (.t 32))⟩,
 ⟨(some 34), none, .p (.ld1 (.t 33))⟩,
 ⟨(some 35), none, .p (.bld [i64 0, i64 0, i64 0, .val (.slice none 0 0), .val (.slice none 0 0), .val (.slice none 0 0)] [])⟩,
 ⟨(some 36), none, .e (.bsl 74 6 1 [i64 0, i64 0, i64 0, .val (.slice none 0 0), .val (.slice none 0 0), .val (.slice none 0 0)] [(0, (.t 35))])⟩,
 ⟨(some 37), none, .e (.app 74 6 96 (.t 34) (.t 36))⟩,
 ⟨(some 38), none, .p (.nck (.t 29))⟩,
 ⟨(some 39), none, .p (.fa 7 (.t 38))⟩,
 ⟨(some 40), none, .p (.fa 1 (.t 39))⟩,
 ⟨none, none, .e (.st 1 (.t 40) (.t 37))⟩])
 (.seq
 (.seq
 (.reg [
 ⟨(some 41), none, .p (.mov (.t 1))⟩,
 ⟨(some 42), none, .p (.mov (.t 0))⟩,
 ⟨(some 43), none, .p (.nck (.t 42))⟩,
 ⟨(some 44), none, .p (.fa 1 (.t 43))⟩,
 ⟨(some 45), none, .p (.ld1 (.t 44))⟩,
 ⟨(some 46), none, .p (.len (.t 45))⟩,
 ⟨(some 47), none, .p (.bin .eql (.i .i64) (.t 41) (.t 46))⟩,
 ⟨(some 48), none, .p (.mov (.t 47))⟩,
 ⟨(some 49), (some (48, false)), .p (.mov (.t 0))⟩,
 ⟨(some 50), (some (48, false)), .p (.nck (.t 49))⟩,
 ⟨(some 51), (some (48, false)), .p (.fa 0 (.t 50))⟩,
 ⟨(some 52), (some (48, false)), .p (.ld1 (.t 51))⟩,
 ⟨(some 53), (some (48, false)), .e (.call (.c (.fn (.func 35) [] [])) [(.t 52), (.c (i64 8))])⟩,
 ⟨(some 54), (some (48, false)), .p (.bin .eql (.i .i64) (.t 53) (.c (i64 1)))⟩,
 ⟨(some 55), none, .p (.pick (.t 48) (.c (bl true)) (.t 54))⟩])
 (.cond (.t 55)
 (.seq
 (.reg [
 ⟨(some 56), none, .p (.mov (.t 0))⟩,
 ⟨(some 57), none, .p (.mov (.t 7))⟩,
 ⟨(some 58), none, .e (.call (.c (.fn (.func 74) [] [])) [(.t 56), (.t 57)])⟩])
 (.seq
 (.reg [
 ⟨(some 59), none, .p (.mov (.t 7))⟩,
 ⟨(some 6), none, .p (.mov (.t 59))⟩])
 .ret))
 .skip))
 (.seq
 (.reg [
 ⟨(some 60), none, .p (.mov (.t 0))⟩,
 ⟨(some 61), none, .p (.nck (.t 60))⟩,
 ⟨(some 62), none, .p (.fa 1 (.t 61))⟩,
 ⟨(some 63), none, .p (.ld1 (.t 62))⟩,
 ⟨(some 64), none, .p (.mov (.t 1))⟩,
 ⟨(some 65), none, .p (.ia 3 (.t 63) (.t 64))⟩,
 ⟨(some 66), none, .p (.ldn 3 (.t 65))⟩,
 ⟨(some 8), none, .e (.alc 95 [i64 0, i64 0, i64 0])⟩,
 ⟨none, none, .e (.st 3 (.t 8) (.t 66))⟩])
 (.seq
 (.reg [
 ⟨(some 67), none, .p (.fa 1 (.t 8))⟩,
 ⟨(some 68), none, .p (.ld1 (.t 67))⟩,
 ⟨(some 9), none, .p (.mov (.t 68))⟩,
 ⟨(some 10), none, .p (.mov (.c (i64 0)))⟩])
 (.seq
 (.seq
 (.reg [
 ⟨(some 69), none, .p (.fa 0 (.t 8))⟩,
 ⟨(some 70), none, .p (.ld1 (.t 69))⟩,
 ⟨(some 71), none, .p (.bin .geq (.i .i64) (.t 70) (.c (i64 0)))⟩])
 (.cond (.t 71)
 (.seq
 (.drw [0, 1, 2, 3, 4, 5, 6, 7, 8, 9, 10] [
 ⟨(some 72), none, .p (.mov (.t 0))⟩,
 ⟨(some 73), none, .p (.fa 0 (.t 8))⟩,
 ⟨(some 74), none, .p (.ld1 (.t 73))⟩,
 ⟨(some 75), none, .p (.mov (.t 1))⟩,
 ⟨(some 76), none, .p (.mov (.t 2))⟩,
 ⟨(some 77), none, .p (.fa 0 (.t 8))⟩,
 ⟨(some 78), none, .p (.ld1 (.t 77))⟩,
 ⟨(some 79), none, .p (.ia 1 (.t 76) (.t 78))⟩,
 ⟨(some 80), none, .p (.ld1 (.t 79))⟩,
 ⟨(some 81), none, .e (.call (.c (.fn (.func 75) [] [])) [(.t 72), (.t 74), (.t 75), (.t 80)])⟩,
 ⟨(some 10), none, .p (.mov (.t 81))⟩])
 (.reg [
 ⟨(some 82), none, .p (.mov (.t 0))⟩,
 ⟨(some 83), none, .p (.nck (.t 82))⟩,
 ⟨(some 84), none, .p (.fa 7 (.t 83))⟩,
 ⟨(some 85), none, .p (.fa 2 (.t 84))⟩,
 ⟨(some 86), none, .p (.ld1 (.t 85))⟩,
 ⟨(some 87), none, .p (.mov (.t 10))⟩,
 ⟨(some 88), none, .p (.ia 2 (.t 86) (.t 87))⟩,
 ⟨(some 89), none, .p (.fa 1 (.t 88))⟩,
 ⟨(some 90), none, .p (.ld1 (.t 89))⟩,
 ⟨(some 9), none, .p (.mov (.t 90))⟩]))
 .skip))
 (.seq
 (.seq
 (.drw [0, 1, 2, 3, 4, 5, 6, 7, 8, 9, 10, 11, 12, 13] [
 ⟨(some 91), none, .p (.mov (.t 7))⟩,
 ⟨(some 92), none, .p (.bin .add (.i .i64) (.t 91) (.c (i64 1)))⟩,
 ⟨(some 93), none, .p (.mov (.t 0))⟩,
 ⟨(some 94), none, .p (.nck (.t 93))⟩,
 ⟨(some 95), none, .p (.fa 4 (.t 94))⟩,
 ⟨(some 96), none, .p (.ld1 (.t 95))⟩,
 ⟨(some 97), none, .p (.bin .add (.i .i64) (.t 92) (.t 96))⟩,
 ⟨(some 98), none, .p (.mov (.t 9))⟩,
 ⟨(some 99), none, .p (.bin .add (.i .i64) (.t 97) (.t 98))⟩,
 ⟨(some 100), none, .p (.mov (.t 0))⟩,
 ⟨(some 101), none, .p (.nck (.t 100))⟩,
 ⟨(some 102), none, .p (.fa 3 (.t 101))⟩,
 ⟨(some 103), none, .p (.ld1 (.t 102))⟩,
 ⟨(some 104), none, .p (.bin .gtr (.i .i64) (.t 99) (.t 103))⟩])
 (.cond (.t 104)
 (.seq
 (.reg [
 ⟨(some 105), none, .p (.mov (.t 0))⟩,
 ⟨(some 106), none, .p (.mov (.t 10))⟩,
 ⟨(some 107), none, .p (.fa 0 (.t 8))⟩,
 ⟨(some 108), none, .p (.ld1 (.t 107))⟩,
 ⟨(some 109), none, .e (.call (.c (.fn (.func 76) [] [])) [(.t 105), (.t 106), (.t 108)])⟩])
 (.seq
 (.reg [
 ⟨(some 110), none, .p (.mov (.t 0))⟩,
 ⟨(some 111), none, .p (.mov (.t 7))⟩,
 ⟨(some 112), none, .e (.call (.c (.fn (.func 74) [] [])) [(.t 110), (.t 111)])⟩])
 (.seq
 (.reg [
 ⟨(some 113), none, .p (.mov (.t 7))⟩,
 ⟨(some 6), none, .p (.mov (.t 113))⟩])
 .ret)))
 .skip))
 (.seq
 (.reg [
 ⟨(some 114), none, .p (.mov (.t 0))⟩,
 ⟨(some 115), none, .p (.mov (.t 0))⟩,
 ⟨(some 116), none, .p (.nck (.t 115))⟩,
 ⟨(some 117), none, .p (.fa 4 (.t 116))⟩,
 ⟨(some 118), none, .p (.ld1 (.t 117))⟩,
 ⟨(some 119), none, .p (.mov (.t 9))⟩,
 ⟨(some 120), none, .p (.bin .add (.i .i64) (.t 118) (.t 119))⟩,
 ⟨(some 121), none, .p (.nck (.t 114))⟩,
 ⟨(some 122), none, .p (.fa 4 (.t 121))⟩,
 ⟨none, none, .e (.st 1 (.t 122) (.t 120))⟩])
 (.seq
 (.reg [
 ⟨(some 123), none, .p (.bld [i64 0, i64 0, i64 0, .val (.slice none 0 0), .val (.slice none 0 0), .val (.slice none 0 0)] [(0, 1, (.c (i64 1)))])⟩,
 ⟨(some 11), none, .e (.alc 74 [i64 0, i64 0, i64 0, .val (.slice none 0 0), .val (.slice none 0 0), .val (.slice none 0 0)])⟩,
 ⟨none, none, .e (.st 6 (.t 11) (.t 123))⟩])
 (.seq
 (.seq
 (.reg [
 ⟨(some 124), none, .p (.fa 0 (.t 8))⟩,
 ⟨(some 125), none, .p (.ld1 (.t 124))⟩,
 ⟨(some 126), none, .p (.bin .geq (.i .i64) (.t 125) (.c (i64 0)))⟩])
 (.cond (.t 126)
 (.reg [
 ⟨(some 127), none, .p (.fa 0 (.t 8))⟩,
 ⟨(some 128), none, .p (.ld1 (.t 127))⟩,
 ⟨(some 129), none, .p (.mov (.t 10))⟩,
 ⟨(some 130), none, .p (.bld [i64 0, i64 0, i64 0, .val (.slice none 0 0), .val (.slice none 0 0), .val (.slice none 0 0)] [(0, 1, (.c (i64 2))), (1, 1, (.t 128)), (2, 1, (.t 129))])⟩,
 ⟨none, none, .e (.st 6 (.t 11) (.t 130))⟩])
 .skip))
 (.seq
 (.seq
 (.reg [
 ⟨(some 12), none, .p (.mov (.c (i64 0)))⟩])
 (.blk 0
 (.loop l56_0)))
 (.seq
 (.drw [0, 1, 2, 3, 4, 5, 6, 7, 8] [
 ⟨(some 195), none, .p (.mov (.t 0))⟩,
 ⟨(some 196), none, .p (.nck (.t 195))⟩,
 ⟨(some 197), none, .p (.fa 7 (.t 196))⟩,
 ⟨(some 198), none, .p (.fa 1 (.t 197))⟩,
 ⟨(some 199), none, .p (.ld1 (.t 198))⟩,
 ⟨(some 200), none, .p (.mov (.t 7))⟩,
 ⟨(some 201), none, .p (.ldn 6 (.t 11))⟩,
 ⟨(some 202), none, .p (.ia 6 (.t 199) (.t 200))⟩,
 ⟨none, none, .e (.st 6 (.t 202) (.t 201))⟩])
 (.seq
 (.reg [
 ⟨(some 203), none, .p (.mov (.t 7))⟩,
 ⟨(some 6), none, .p (.mov (.t 203))⟩])
 .ret)))))))))))))))
/-- parlour/pack.ReadTable$1 -/
def i62s : List Ins := [⟨(some 3), none, .e (.call (.c (.fn (.func 47) [] [])) [(.t 2), (.t 0)])⟩]
def i62 : IC :=
 (.seq
 (.reg [
 ⟨(some 4), none, .p (.fa 0 (.t 0))⟩,
 ⟨(some 5), none, .p (.ld1 (.t 4))⟩,
 ⟨(some 6), none, .p (.bin .neq (.i .i64) (.t 5) (.c (i64 0)))⟩])
 (.cond (.t 6)
 (.reg [
 ⟨(some 7), none, .p (.bld [i64 0, .val (.slice none 0 0)] [])⟩,
 ⟨none, none, .e (.st 2 (.t 1) (.t 7))⟩])
 .skip))
theorem c62 : chkRc Try.prog drawB Try.f62 2 i62s i62 = true := by kernel_rfl
def l63_0 : IC := .keep [0, 1, 5]
 (.seq
 (.seq
 (.reg [
 ⟨(some 11), none, .p (.mov (.t 5))⟩,
 ⟨(some 12), none, .p (.mov (.t 0))⟩,
 ⟨(some 13), none, .p (.len (.t 12))⟩,
 ⟨(some 14), none, .p (.bin .lss (.i .i64) (.t 11) (.t 13))⟩])
 (.cond (.t 14)
 .skip
 (.exit 0)))
 (.seq
 (.blk 1
 (.seq
 (.drw [0, 1, 2, 3, 4, 5, 6, 7, 8, 9] [
 ⟨(some 17), none, .p (.mov (.t 0))⟩,
 ⟨(some 18), none, .p (.mov (.t 5))⟩,
 ⟨(some 19), none, .p (.ia 1 (.t 17) (.t 18))⟩,
 ⟨(some 20), none, .p (.ld1 (.t 19))⟩,
 ⟨(some 21), none, .p (.mov (.t 1))⟩,
 ⟨(some 22), none, .p (.mov (.t 5))⟩,
 ⟨(some 23), none, .p (.ia 1 (.t 21) (.t 22))⟩,
 ⟨(some 24), none, .p (.ld1 (.t 23))⟩,
 ⟨(some 25), none, .q (.c (.fn (.func 73) [] [])) [(.t 20), (.t 24)]⟩,
 ⟨(some 26), none, .p (.not (.t 25))⟩])
 (.cond (.t 26)
 (.seq
 (.reg [
 ⟨(some 4), none, .p (.mov (.c (bl false)))⟩])
 .ret)
 .skip)))
 (.reg [
 ⟨(some 15), none, .p (.mov (.t 5))⟩,
 ⟨(some 16), none, .p (.bin .add (.i .i64) (.t 15) (.c (i64 1)))⟩,
 ⟨(some 5), none, .p (.mov (.t 16))⟩])))
/-- parlour/parlourkit.AlikeLists(int) -/
def i63 : IC :=
 (.seq
 (.reg [
 ⟨(some 4), none, .p (.mov (.c (bl false)))⟩])
 (.seq
 (.seq
 (.reg [
 ⟨(some 6), none, .p (.mov (.t 0))⟩,
 ⟨(some 7), none, .p (.len (.t 6))⟩,
 ⟨(some 8), none, .p (.mov (.t 1))⟩,
 ⟨(some 9), none, .p (.len (.t 8))⟩,
 ⟨(some 10), none, .p (.bin .neq (.i .i64) (.t 7) (.t 9))⟩])
 (.cond (.t 10)
 (.seq
 (.reg [
 ⟨(some 4), none, .p (.mov (.c (bl false)))⟩])
 .ret)
 .skip))
 (.seq
 (.seq
 (.reg [
 ⟨(some 5), none, .p (.mov (.c (i64 0)))⟩])
 (.blk 0
 (.loop l63_0)))
 (.seq
 (.reg [
 ⟨(some 4), none, .p (.mov (.c (bl true)))⟩])
 .ret))))
def r63 : List RS := [.t 4]
theorem c63 : chkF Try.prog drawB Try.f63 i63 r63 = true := by kernel_rfl
def l64_0 : IC := .keep [1, 4, 40, 41, 42]
 (.seq
 (.reg [
 ⟨(some 43), none, .p (.bin .lss (.i .i64) (.t 42) (.t 41))⟩])
 (.seq
 (.cond (.t 43)
 .skip
 (.exit 0))
 (.seq
 (.blk 1
 (.seq
 (.reg [
 ⟨(some 44), none, .p (.ia 6 (.t 40) (.t 42))⟩,
 ⟨(some 45), none, .p (.ldn 6 (.t 44))⟩,
 ⟨(some 6), none, .e (.alc 74 [i64 0, i64 0, i64 0, .val (.slice none 0 0), .val (.slice none 0 0), .val (.slice none 0 0)])⟩,
 ⟨none, none, .e (.st 6 (.t 6) (.t 45))⟩])
 (.seq
 (.reg [
 ⟨(some 46), none, .p (.mov (.t 4))⟩,
 ⟨(some 47), none, .p (.ldn 6 (.t 6))⟩,
 ⟨(some 48), none, .e (.call (.c (.fn (.func 77) [] [])) [(.t 46), (.t 47)])⟩,
 ⟨(some 7), none, .p (.mov (.t 48))⟩])
 (.seq
 (.reg [
 ⟨(some 49), none, .p (.mov (.t 7))⟩,
 ⟨(some 50), none, .p (.bin .neq (.i .i64) (.t 49) (.c (i64 0)))⟩])
 (.cond (.t 50)
 (.seq
 (.reg [
 ⟨(some 51), none, .p (.mov (.t 7))⟩,
 ⟨(some 2), none, .p (.mov (.c (.val (.pointer none))))⟩,
 ⟨(some 3), none, .p (.mov (.t 51))⟩])
 .ret)
 .skip)))))
 (.reg [
 ⟨(some 52), none, .p (.bin .add (.i .i64) (.t 42) (.c (i64 1)))⟩,
 ⟨(some 42), none, .p (.mov (.t 52))⟩]))))
/-- parlour/recall.walked -/
def i64x : IC :=
 (.seq
 (.reg [
 ⟨(some 1), none, .e (.box 25 (.t 0))⟩,
 ⟨(some 2), none, .p (.mov (.c (.val (.pointer none))))⟩,
 ⟨(some 3), none, .p (.mov (.c (i64 0)))⟩])
 (.seq
 (.seq
 (.reg [
 ⟨(some 10), none, .p (.fa 0 (.t 1))⟩,
 ⟨(some 11), none, .p (.ld1 (.t 10))⟩,
 ⟨(some 12), none, .p (.bin .lss (.i .i64) (.t 11) (.c (i64 1)))⟩,
 ⟨(some 13), none, .p (.mov (.t 12))⟩,
 ⟨(some 14), (some (13, false)), .p (.fa 0 (.t 1))⟩,
 ⟨(some 15), (some (13, false)), .p (.ld1 (.t 14))⟩,
 ⟨(some 16), (some (13, false)), .p (.bin .gtr (.i .i64) (.t 15) (.c (i64 4)))⟩,
 ⟨(some 17), none, .p (.pick (.t 13) (.c (bl true)) (.t 16))⟩,
 ⟨(some 18), none, .p (.mov (.t 17))⟩,
 ⟨(some 19), (some (18, false)), .p (.fa 1 (.t 1))⟩,
 ⟨(some 20), (some (18, false)), .p (.ld1 (.t 19))⟩,
 ⟨(some 21), (some (18, false)), .p (.len (.t 20))⟩,
 ⟨(some 22), (some (18, false)), .p (.bin .lss (.i .i64) (.t 21) (.c (i64 1)))⟩,
 ⟨(some 23), none, .p (.pick (.t 18) (.c (bl true)) (.t 22))⟩,
 ⟨(some 24), none, .p (.mov (.t 23))⟩,
 ⟨(some 25), (some (24, false)), .p (.fa 1 (.t 1))⟩,
 ⟨(some 26), (some (24, false)), .p (.ld1 (.t 25))⟩,
 ⟨(some 27), (some (24, false)), .p (.len (.t 26))⟩,
 ⟨(some 28), (some (24, false)), .p (.bin .gtr (.i .i64) (.t 27) (.c (i64 2000)))⟩,
 ⟨(some 29), none, .p (.pick (.t 24) (.c (bl true)) (.t 28))⟩,
 ⟨(some 30), none, .p (.mov (.t 29))⟩,
 ⟨(some 31), (some (30, false)), .p (.fa 2 (.t 1))⟩,
 ⟨(some 32), (some (30, false)), .p (.ld1 (.t 31))⟩,
 ⟨(some 33), (some (30, false)), .p (.len (.t 32))⟩,
 ⟨(some 34), (some (30, false)), .p (.bin .gtr (.i .i64) (.t 33) (.c (i64 200)))⟩,
 ⟨(some 35), none, .p (.pick (.t 30) (.c (bl true)) (.t 34))⟩])
 (.cond (.t 35)
 (.seq
 (.reg [
 ⟨(some 2), none, .p (.mov (.c (.val (.pointer none))))⟩,
 ⟨(some 3), none, .p (.mov (.c (i64 2)))⟩])
 .ret)
 .skip))
 (.seq
 (.reg [
 ⟨(some 36), none, .p (.ldn 3 (.t 1))⟩,
 ⟨(some 37), none, .p (.bld [i64 0, .val (.slice none 0 0), .val (.slice none 0 0), .val (.slice none 0 0), .val (.slice none 0 0), .val (.slice none 0 0)] [(0, 3, (.t 36))])⟩,
 ⟨(some 38), none, .e (.box 126 (.t 37))⟩,
 ⟨(some 4), none, .p (.mov (.t 38))⟩])
 (.seq
 (.seq
 (.reg [
 ⟨(some 39), none, .p (.fa 1 (.t 1))⟩,
 ⟨(some 40), none, .p (.ld1 (.t 39))⟩,
 ⟨(some 41), none, .p (.len (.t 40))⟩,
 ⟨(some 42), none, .p (.mov (.c (i64 0)))⟩])
 (.blk 0
 (.loop l64_0)))
 (.seq
 (.drf [3, 3, 3] [3, 4, 5, 6, 7, 8, 9, 10, 11, 12, 13, 14, 0, 1, 2, 15, 16, 17, 18, 19, 20, 21, 22, 23] [
 ⟨(some 56), none, .p (.fa 1 (.t 1))⟩,
 ⟨(some 57), none, .p (.ld1 (.t 56))⟩,
 ⟨(some 58), none, .p (.len (.t 57))⟩,
 ⟨(some 59), none, .e (.flo 0 3 1 8 [i64 0] (.t 58) (.t 58))⟩,
 ⟨(some 60), none, .p (.fa 1 (.t 1))⟩,
 ⟨(some 61), none, .p (.ld1 (.t 60))⟩,
 ⟨(some 62), none, .p (.len (.t 61))⟩,
 ⟨(some 63), none, .e (.flo 1 3 1 8 [i64 0] (.t 62) (.t 62))⟩,
 ⟨(some 64), none, .p (.fa 1 (.t 1))⟩,
 ⟨(some 65), none, .p (.ld1 (.t 64))⟩,
 ⟨(some 66), none, .p (.len (.t 65))⟩,
 ⟨(some 67), none, .e (.flo 2 3 1 8 [i64 0] (.t 66) (.t 66))⟩,
 ⟨(some 53), none, .p (.mov (.t 4))⟩,
 ⟨(some 54), none, .p (.mov (.t 4))⟩,
 ⟨(some 55), none, .p (.mov (.t 4))⟩,
 ⟨(some 68), none, .p (.nck (.t 53))⟩,
 ⟨(some 69), none, .p (.fa 3 (.t 68))⟩,
 ⟨none, none, .e (.stw [57] 1 (.t 69) (.t 59))⟩,
 ⟨(some 70), none, .p (.nck (.t 54))⟩,
 ⟨(some 71), none, .p (.fa 4 (.t 70))⟩,
 ⟨none, none, .e (.stw [61, 57] 1 (.t 71) (.t 63))⟩,
 ⟨(some 72), none, .p (.nck (.t 55))⟩,
 ⟨(some 73), none, .p (.fa 5 (.t 72))⟩,
 ⟨none, none, .e (.stw [65, 61, 57] 1 (.t 73) (.t 67))⟩])
 (.seq
 (.seq
 (.reg [
 ⟨(some 75), none, .p (.mov (.t 4))⟩,
 ⟨(some 76), none, .p (.fa 1 (.t 1))⟩,
 ⟨(some 77), none, .p (.ld1 (.t 76))⟩,
 ⟨(some 78), none, .e (.call (.c (.fn (.func 78) [] [])) [(.t 75), (.c (i64 (-1))), (.c (i64 0)), (.t 77)])⟩,
 ⟨(some 74), none, .p (.mov (.t 78))⟩,
 ⟨(some 79), none, .p (.ext (.t 74) 0)⟩,
 ⟨(some 80), none, .p (.ext (.t 74) 1)⟩,
 ⟨(some 8), none, .p (.mov (.t 79))⟩,
 ⟨(some 9), none, .p (.mov (.t 80))⟩])
 (.seq
 (.reg [
 ⟨(some 81), none, .p (.mov (.t 9))⟩,
 ⟨(some 82), none, .p (.not (.t 81))⟩,
 ⟨(some 83), none, .p (.mov (.t 82))⟩,
 ⟨(some 84), (some (83, false)), .p (.mov (.t 8))⟩,
 ⟨(some 85), (some (83, false)), .p (.len (.t 84))⟩,
 ⟨(some 86), (some (83, false)), .p (.bin .gtr (.i .i64) (.t 85) (.c (i64 0)))⟩,
 ⟨(some 87), none, .p (.pick (.t 83) (.c (bl true)) (.t 86))⟩])
 (.cond (.t 87)
 (.seq
 (.reg [
 ⟨(some 2), none, .p (.mov (.c (.val (.pointer none))))⟩,
 ⟨(some 3), none, .p (.mov (.c (i64 9)))⟩])
 .ret)
 .skip)))
 (.seq
 (.seq
 (.reg [
 ⟨(some 88), none, .p (.mov (.t 4))⟩,
 ⟨(some 89), none, .p (.nck (.t 88))⟩,
 ⟨(some 90), none, .p (.fa 4 (.t 89))⟩,
 ⟨(some 91), none, .p (.ld1 (.t 90))⟩,
 ⟨(some 92), none, .e (.call (.c (.fn (.func 79) [] [])) [(.t 91)])⟩,
 ⟨(some 93), none, .p (.bin .gtr (.i .i64) (.t 92) (.c (i64 40)))⟩])
 (.cond (.t 93)
 (.seq
 (.reg [
 ⟨(some 2), none, .p (.mov (.c (.val (.pointer none))))⟩,
 ⟨(some 3), none, .p (.mov (.c (i64 5)))⟩])
 .ret)
 .skip))
 (.seq
 (.reg [
 ⟨(some 94), none, .p (.mov (.t 4))⟩,
 ⟨(some 95), none, .p (.mov (.t 4))⟩,
 ⟨(some 96), none, .e (.call (.c (.fn (.func 80) [] [])) [(.t 95)])⟩,
 ⟨(some 2), none, .p (.mov (.t 94))⟩,
 ⟨(some 3), none, .p (.mov (.t 96))⟩])
 .ret))))))))
def r64 : List RS := [.t 2, .t 3]
theorem c64 : chkF Try.prog drawB Try.f64 i64x r64 = true := by kernel_rfl
/-- parlour/pack.groups -/
def i65 : IC :=
 (.seq
 (.reg [
 ⟨(some 1), none, .e (.box 3 (.t 0))⟩,
 ⟨(some 2), none, .p (.mov (.c (.val .nilFunc)))⟩])
 (.seq
 (.reg [
 ⟨(some 3), none, .p (.mkf (.func 81) [] [(.t 1)])⟩,
 ⟨(some 2), none, .p (.mov (.t 3))⟩])
 .ret))
def r65 : List RS := [.t 2]
theorem c65 : chkF Try.prog drawB Try.f65 i65 r65 = true := by kernel_rfl
/-- parlour/table.rows(int) -/
def i69 : IC :=
 (.seq
 (.reg [
 ⟨(some 1), none, .e (.box 26 (.t 0))⟩,
 ⟨(some 2), none, .p (.mov (.c (.val .nilFunc)))⟩])
 (.seq
 (.reg [
 ⟨(some 3), none, .p (.mkf (.func 82) [] [(.t 1)])⟩,
 ⟨(some 2), none, .p (.mov (.t 3))⟩])
 .ret))
def r69 : List RS := [.t 2]
theorem c69 : chkF Try.prog drawB Try.f69 i69 r69 = true := by kernel_rfl
/-- parlour/pack.within -/
def i70 : IC :=
 (.seq
 (.reg [
 ⟨(some 8), none, .p (.mov (.c (i64 0)))⟩])
 (.seq
 (.seq
 (.reg [
 ⟨(some 9), none, .p (.mov (.t 0))⟩,
 ⟨(some 10), none, .p (.mov (.t 1))⟩,
 ⟨(some 11), none, .p (.bin .lss (.i .i64) (.t 9) (.t 10))⟩,
 ⟨(some 12), none, .p (.mov (.t 11))⟩,
 ⟨(some 13), (some (12, false)), .p (.mov (.t 0))⟩,
 ⟨(some 14), (some (12, false)), .p (.mov (.t 2))⟩,
 ⟨(some 15), (some (12, false)), .p (.bin .gtr (.i .i64) (.t 13) (.t 14))⟩,
 ⟨(some 16), none, .p (.pick (.t 12) (.c (bl true)) (.t 15))⟩])
 (.cond (.t 16)
 (.reg [
 ⟨(some 17), none, .p (.mov (.t 3))⟩,
 ⟨(some 18), none, .e (.call (.c (.fn (.func 53) [] [])) [(.c (i64 2)), (.t 17)])⟩])
 .skip))
 (.seq
 (.reg [
 ⟨(some 19), none, .p (.mov (.t 0))⟩,
 ⟨(some 8), none, .p (.mov (.t 19))⟩])
 .ret)))
def r70 : List RS := [.t 8]
theorem c70 : chkF Try.prog drawB Try.f70 i70 r70 = true := by kernel_rfl
def l71_0 : IC := .keep [0, 1, 3, 5, 44, 45]
 (.seq
 (.reg [
 ⟨(some 46), none, .p (.bin .lss (.i .i64) (.t 45) (.t 44))⟩])
 (.seq
 (.cond (.t 46)
 .skip
 (.exit 0))
 (.seq
 (.blk 1
 (.seq
 (.drw [0, 1, 2, 3, 4, 5, 6, 7, 8, 9, 10, 11, 12, 13, 14, 15, 16, 17, 18, 19, 20, 21, 22] [
 ⟨(some 47), none, .p (.ld1 (.t 1))⟩,
 ⟨(some 48), none, .p (.nck (.t 47))⟩,
 ⟨(some 49), none, .p (.fa 1 (.t 48))⟩,
 ⟨(some 50), none, .p (.ld1 (.t 49))⟩,
 ⟨(some 51), none, .p (.mov (.t 5))⟩,
 ⟨(some 52), none, .p (.ld1 (.t 1))⟩,
 ⟨(some 53), none, .p (.nck (.t 52))⟩,
 ⟨(some 54), none, .p (.fa 1 (.t 53))⟩,
 ⟨(some 55), none, .p (.ld1 (.t 54))⟩,
 ⟨(some 56), none, .p (.mov (.t 5))⟩,
 ⟨(some 57), none, .p (.ia 6 (.t 55) (.t 56))⟩,
 ⟨(some 58), none, .p (.fa 3 (.t 57))⟩,
 ⟨(some 59), none, .p (.ld1 (.t 58))⟩,
 ⟨(some 60), none, .p (.ld1 (.t 1))⟩,
 ⟨(some 61), none, .p (.nck (.t 60))⟩,
 ⟨(some 62), none, .p (.fa 1 (.t 61))⟩,
 ⟨(some 63), none, .p (.ld1 (.t 62))⟩,
 ⟨(some 64), none, .p (.len (.t 63))⟩,
 ⟨(some 65), none, .e (.bsl 3 1 1 [i64 0] [(0, (.t 64))])⟩,
 ⟨(some 66), none, .e (.app 3 1 8 (.t 59) (.t 65))⟩,
 ⟨(some 67), none, .p (.ia 6 (.t 50) (.t 51))⟩,
 ⟨(some 68), none, .p (.fa 3 (.t 67))⟩,
 ⟨none, none, .e (.stw [63, 60, 59, 55, 52] 1 (.t 68) (.t 66))⟩])
 (.reg [
 ⟨(some 69), none, .p (.ld1 (.t 3))⟩,
 ⟨(some 70), none, .p (.mov (.t 0))⟩,
 ⟨(some 71), none, .p (.bin .add (.i .i64) (.t 70) (.c (i64 1)))⟩,
 ⟨(some 72), none, .e (.call (.t 69) [(.t 71)])⟩])))
 (.reg [
 ⟨(some 73), none, .p (.bin .add (.i .i64) (.t 45) (.c (i64 1)))⟩,
 ⟨(some 45), none, .p (.mov (.t 73))⟩]))))
/-- (*parlour/pack.reader).tree$1 -/
def i71 : IC :=
 (.seq
 (.seq
 (.reg [
 ⟨(some 8), none, .p (.ld1 (.t 1))⟩,
 ⟨(some 9), none, .p (.nck (.t 8))⟩,
 ⟨(some 10), none, .p (.fa 1 (.t 9))⟩,
 ⟨(some 11), none, .p (.ld1 (.t 10))⟩,
 ⟨(some 12), none, .p (.len (.t 11))⟩,
 ⟨(some 13), none, .p (.bin .eql (.i .i64) (.t 12) (.c (i64 2000)))⟩,
 ⟨(some 14), none, .p (.mov (.t 13))⟩,
 ⟨(some 15), (some (14, false)), .p (.mov (.t 0))⟩,
 ⟨(some 16), (some (14, false)), .p (.bin .gtr (.i .i64) (.t 15) (.c (i64 40)))⟩,
 ⟨(some 17), none, .p (.pick (.t 14) (.c (bl true)) (.t 16))⟩])
 (.cond (.t 17)
 (.reg [
 ⟨(some 18), none, .p (.ld1 (.t 2))⟩,
 ⟨(some 19), none, .p (.nck (.t 18))⟩,
 ⟨(some 20), none, .p (.fa 1 (.t 19))⟩,
 ⟨(some 21), none, .p (.ld1 (.t 20))⟩,
 ⟨(some 22), none, .e (.call (.c (.fn (.func 53) [] [])) [(.c (i64 5)), (.t 21)])⟩])
 .skip))
 (.seq
 (.reg [
 ⟨(some 23), none, .p (.ld1 (.t 1))⟩,
 ⟨(some 24), none, .p (.nck (.t 23))⟩,
 ⟨(some 25), none, .p (.fa 1 (.t 24))⟩,
 ⟨(some 26), none, .p (.ld1 (.t 25))⟩,
 ⟨(some 27), none, .p (.len (.t 26))⟩,
 ⟨(some 5), none, .p (.mov (.t 27))⟩])
 (.seq
 (.reg [
 ⟨(some 29), none, .p (.ld1 (.t 2))⟩,
 ⟨(some 30), none, .p (.ld1 (.t 1))⟩,
 ⟨(some 31), none, .e (.call (.c (.fn (.func 72) [] [])) [(.t 29), (.t 30)])⟩,
 ⟨(some 28), none, .p (.mov (.t 31))⟩,
 ⟨(some 32), none, .p (.ext (.t 28) 0)⟩,
 ⟨(some 33), none, .p (.ext (.t 28) 1)⟩,
 ⟨(some 6), none, .e (.alc 74 [i64 0, i64 0, i64 0, .val (.slice none 0 0), .val (.slice none 0 0), .val (.slice none 0 0)])⟩,
 ⟨none, none, .e (.st 6 (.t 6) (.t 32))⟩,
 ⟨(some 7), none, .p (.mov (.t 33))⟩])
 (.seq
 (.drw [0, 1, 2, 3, 4, 5, 6, 7, 8, 9, 10] [
 ⟨(some 34), none, .p (.ld1 (.t 1))⟩,
 ⟨(some 35), none, .p (.ld1 (.t 1))⟩,
 ⟨(some 36), none, .p (.nck (.t 35))⟩,
 ⟨(some 37), none, .p (.fa 1 (.t 36))⟩,
 ⟨(some 38), none, .p (.ld1 (.t 37))⟩,
 ⟨(some 39), none, .p (.ldn 6 (.t 6))⟩,
 ⟨(some 40), none, .e (.bsl 74 6 1 [i64 0, i64 0, i64 0, .val (.slice none 0 0), .val (.slice none 0 0), .val (.slice none 0 0)] [(0, (.t 39))])⟩,
 ⟨(some 41), none, .e (.app 74 6 96 (.t 38) (.t 40))⟩,
 ⟨(some 42), none, .p (.nck (.t 34))⟩,
 ⟨(some 43), none, .p (.fa 1 (.t 42))⟩,
 ⟨none, none, .e (.stw [39, 38, 35] 1 (.t 43) (.t 41))⟩])
 (.seq
 (.reg [
 ⟨(some 44), none, .p (.mov (.t 7))⟩,
 ⟨(some 45), none, .p (.mov (.c (i64 0)))⟩])
 (.blk 0
 (.loop l71_0)))))))
def r71 : List RS := []
theorem c71 : chkF Try.prog drawB Try.f71 i71 r71 = true := by kernel_rfl
def l72_0 : IC := .keep [0, 4, 5, 22, 23]
 (.seq
 (.reg [
 ⟨(some 24), none, .p (.bin .lss (.i .i64) (.t 23) (.t 22))⟩])
 (.seq
 (.cond (.t 24)
 .skip
 (.exit 1))
 (.seq
 (.blk 2
 (.drw [0, 1, 2, 3, 4, 5, 6, 7] [
 ⟨(some 25), none, .p (.fa 4 (.t 4))⟩,
 ⟨(some 26), none, .p (.ld1 (.t 25))⟩,
 ⟨(some 27), none, .p (.mov (.t 0))⟩,
 ⟨(some 28), none, .e (.call (.c (.fn (.func 50) [] [])) [(.t 27), (.c (i64 1)), (.c (i64 1000))])⟩,
 ⟨(some 29), none, .e (.bsl 3 1 1 [i64 0] [(0, (.t 28))])⟩,
 ⟨(some 30), none, .e (.app 3 1 8 (.t 26) (.t 29))⟩,
 ⟨(some 31), none, .p (.fa 4 (.t 4))⟩,
 ⟨none, none, .e (.stw [26] 1 (.t 31) (.t 30))⟩]))
 (.reg [
 ⟨(some 32), none, .p (.bin .add (.i .i64) (.t 23) (.c (i64 1)))⟩,
 ⟨(some 23), none, .p (.mov (.t 32))⟩]))))
def l72_1 : IC := .keep [0, 4, 5, 68, 69]
 (.seq
 (.reg [
 ⟨(some 70), none, .p (.bin .lss (.i .i64) (.t 69) (.t 68))⟩])
 (.seq
 (.cond (.t 70)
 .skip
 (.exit 3))
 (.seq
 (.blk 4
 (.drw [0, 1, 2, 3, 4, 5, 6, 7] [
 ⟨(some 71), none, .p (.fa 5 (.t 4))⟩,
 ⟨(some 72), none, .p (.ld1 (.t 71))⟩,
 ⟨(some 73), none, .p (.mov (.t 0))⟩,
 ⟨(some 74), none, .e (.call (.c (.fn (.func 83) [] [])) [(.t 73), (.c (i64 (-1000000))), (.c (i64 1000000))])⟩,
 ⟨(some 75), none, .e (.bsl 3 1 1 [i64 0] [(0, (.t 74))])⟩,
 ⟨(some 76), none, .e (.app 3 1 8 (.t 72) (.t 75))⟩,
 ⟨(some 77), none, .p (.fa 5 (.t 4))⟩,
 ⟨none, none, .e (.stw [72] 1 (.t 77) (.t 76))⟩]))
 (.reg [
 ⟨(some 78), none, .p (.bin .add (.i .i64) (.t 69) (.c (i64 1)))⟩,
 ⟨(some 69), none, .p (.mov (.t 78))⟩]))))
/-- (*parlour/pack.reader).node -/
def i72 : IC :=
 (.seq
 (.reg [
 ⟨(some 4), none, .e (.alc 74 [i64 0, i64 0, i64 0, .val (.slice none 0 0), .val (.slice none 0 0), .val (.slice none 0 0)])⟩,
 ⟨(some 5), none, .p (.mov (.c (i64 0)))⟩])
 (.seq
 (.reg [
 ⟨(some 7), none, .p (.mov (.t 0))⟩,
 ⟨(some 8), none, .p (.nck (.t 7))⟩,
 ⟨(some 9), none, .p (.fa 1 (.t 8))⟩,
 ⟨(some 10), none, .p (.ld1 (.t 9))⟩,
 ⟨(some 6), none, .p (.mov (.t 10))⟩])
 (.seq
 (.reg [
 ⟨(some 11), none, .p (.mov (.t 0))⟩,
 ⟨(some 12), none, .e (.call (.c (.fn (.func 49) [] [])) [(.t 11), (.c (i64 0)), (.c (i64 255))])⟩,
 ⟨(some 13), none, .p (.fa 0 (.t 4))⟩,
 ⟨none, none, .e (.st 1 (.t 13) (.t 12))⟩])
 (.seq
 (.seq
 (.reg [
 ⟨(some 14), none, .p (.fa 0 (.t 4))⟩,
 ⟨(some 15), none, .p (.ld1 (.t 14))⟩])
 (.blk 0
 (.seq
 (.reg [
 ⟨(some 19), none, .p (.bin .eql (.i .i64) (.t 15) (.c (i64 1)))⟩,
 ⟨(some 18), none, .p (.mov (.t 19))⟩])
 (.cond (.t 18)
 (.seq
 (.reg [
 ⟨(some 20), none, .p (.mov (.t 0))⟩,
 ⟨(some 21), none, .e (.call (.c (.fn (.func 49) [] [])) [(.t 20), (.c (i64 1)), (.c (i64 60))])⟩,
 ⟨(some 5), none, .p (.mov (.t 21))⟩])
 (.seq
 (.reg [
 ⟨(some 22), none, .p (.mov (.t 5))⟩,
 ⟨(some 23), none, .p (.mov (.c (i64 0)))⟩])
 (.blk 1
 (.loop l72_0))))
 (.seq
 (.reg [
 ⟨(some 34), none, .p (.bin .eql (.i .i64) (.t 15) (.c (i64 2)))⟩,
 ⟨(some 33), none, .p (.mov (.t 34))⟩])
 (.cond (.t 33)
 (.seq
 (.reg [
 ⟨(some 35), none, .p (.mov (.t 0))⟩,
 ⟨(some 36), none, .p (.mov (.t 1))⟩,
 ⟨(some 37), none, .p (.nck (.t 36))⟩,
 ⟨(some 38), none, .p (.fa 2 (.t 37))⟩,
 ⟨(some 39), none, .p (.ld1 (.t 38))⟩,
 ⟨(some 40), none, .p (.len (.t 39))⟩,
 ⟨(some 41), none, .p (.bin .sub (.i .i64) (.t 40) (.c (i64 1)))⟩,
 ⟨(some 42), none, .e (.call (.c (.fn (.func 50) [] [])) [(.t 35), (.c (i64 0)), (.t 41)])⟩,
 ⟨(some 43), none, .p (.fa 2 (.t 4))⟩,
 ⟨none, none, .e (.st 1 (.t 43) (.t 42))⟩])
 (.drw [0, 1, 2, 3, 4, 5, 6, 7, 8, 9, 10, 11, 12, 13, 14, 15, 16, 17, 18, 19, 20] [
 ⟨(some 44), none, .p (.mov (.t 1))⟩,
 ⟨(some 45), none, .p (.nck (.t 44))⟩,
 ⟨(some 46), none, .p (.fa 2 (.t 45))⟩,
 ⟨(some 47), none, .p (.ld1 (.t 46))⟩,
 ⟨(some 48), none, .p (.fa 2 (.t 4))⟩,
 ⟨(some 49), none, .p (.ld1 (.t 48))⟩,
 ⟨(some 50), none, .p (.ia 2 (.t 47) (.t 49))⟩,
 ⟨(some 51), none, .p (.fa 0 (.t 50))⟩,
 ⟨(some 52), none, .p (.ld1 (.t 51))⟩,
 ⟨(some 53), none, .p (.mov (.t 1))⟩,
 ⟨(some 54), none, .p (.nck (.t 53))⟩,
 ⟨(some 55), none, .p (.fa 2 (.t 54))⟩,
 ⟨(some 56), none, .p (.ld1 (.t 55))⟩,
 ⟨(some 57), none, .p (.fa 2 (.t 4))⟩,
 ⟨(some 58), none, .p (.ld1 (.t 57))⟩,
 ⟨(some 59), none, .p (.ia 2 (.t 56) (.t 58))⟩,
 ⟨(some 60), none, .p (.fa 1 (.t 59))⟩,
 ⟨(some 61), none, .p (.ld1 (.t 60))⟩,
 ⟨(some 62), none, .p (.fa 1 (.t 4))⟩,
 ⟨none, none, .e (.stw [58] 1 (.t 62) (.t 52))⟩,
 ⟨(some 5), none, .p (.mov (.t 61))⟩]))
 (.seq
 (.reg [
 ⟨(some 64), none, .p (.bin .eql (.i .i64) (.t 15) (.c (i64 3)))⟩,
 ⟨(some 63), none, .p (.mov (.t 64))⟩])
 (.cond (.t 63)
 (.seq
 (.reg [
 ⟨(some 65), none, .p (.mov (.t 1))⟩,
 ⟨(some 66), none, .p (.nck (.t 65))⟩,
 ⟨(some 67), none, .p (.fa 0 (.t 66))⟩,
 ⟨(some 68), none, .p (.ld1 (.t 67))⟩,
 ⟨(some 69), none, .p (.mov (.c (i64 0)))⟩])
 (.blk 3
 (.loop l72_1)))
 (.reg [
 ⟨(some 16), none, .p (.mov (.t 6))⟩,
 ⟨(some 17), none, .e (.call (.c (.fn (.func 53) [] [])) [(.c (i64 3)), (.t 16)])⟩])))))))))
 (.seq
 (.reg [
 ⟨(some 79), none, .p (.ldn 6 (.t 4))⟩,
 ⟨(some 80), none, .p (.mov (.t 5))⟩,
 ⟨none, none, .e (.st 6 (.t 4) (.t 79))⟩,
 ⟨(some 5), none, .p (.mov (.t 80))⟩])
 .ret)))))
def r72 : List RS := [.cn 4 6, .t 5]
theorem c72 : chkF Try.prog drawB Try.f72 i72 r72 = true := by kernel_rfl
def l73_0 : IC := .keep [0, 1, 5]
 (.seq
 (.seq
 (.reg [
 ⟨(some 11), none, .p (.mov (.t 5))⟩,
 ⟨(some 12), none, .p (.mov (.t 0))⟩,
 ⟨(some 13), none, .p (.len (.t 12))⟩,
 ⟨(some 14), none, .p (.bin .lss (.i .i64) (.t 11) (.t 13))⟩])
 (.cond (.t 14)
 .skip
 (.exit 0)))
 (.seq
 (.blk 1
 (.seq
 (.drw [0, 1, 2, 3, 4, 5, 6, 7, 8] [
 ⟨(some 17), none, .p (.mov (.t 0))⟩,
 ⟨(some 18), none, .p (.mov (.t 5))⟩,
 ⟨(some 19), none, .p (.ia 1 (.t 17) (.t 18))⟩,
 ⟨(some 20), none, .p (.ld1 (.t 19))⟩,
 ⟨(some 21), none, .p (.mov (.t 1))⟩,
 ⟨(some 22), none, .p (.mov (.t 5))⟩,
 ⟨(some 23), none, .p (.ia 1 (.t 21) (.t 22))⟩,
 ⟨(some 24), none, .p (.ld1 (.t 23))⟩,
 ⟨(some 25), none, .p (.bin .neq (.i .i64) (.t 20) (.t 24))⟩])
 (.cond (.t 25)
 (.seq
 (.reg [
 ⟨(some 4), none, .p (.mov (.c (bl false)))⟩])
 .ret)
 .skip)))
 (.reg [
 ⟨(some 15), none, .p (.mov (.t 5))⟩,
 ⟨(some 16), none, .p (.bin .add (.i .i64) (.t 15) (.c (i64 1)))⟩,
 ⟨(some 5), none, .p (.mov (.t 16))⟩])))
/-- parlour/parlourkit.Alike(int) -/
def i73 : IC :=
 (.seq
 (.reg [
 ⟨(some 4), none, .p (.mov (.c (bl false)))⟩])
 (.seq
 (.seq
 (.reg [
 ⟨(some 6), none, .p (.mov (.t 0))⟩,
 ⟨(some 7), none, .p (.len (.t 6))⟩,
 ⟨(some 8), none, .p (.mov (.t 1))⟩,
 ⟨(some 9), none, .p (.len (.t 8))⟩,
 ⟨(some 10), none, .p (.bin .neq (.i .i64) (.t 7) (.t 9))⟩])
 (.cond (.t 10)
 (.seq
 (.reg [
 ⟨(some 4), none, .p (.mov (.c (bl false)))⟩])
 .ret)
 .skip))
 (.seq
 (.seq
 (.reg [
 ⟨(some 5), none, .p (.mov (.c (i64 0)))⟩])
 (.blk 0
 (.loop l73_0)))
 (.seq
 (.reg [
 ⟨(some 4), none, .p (.mov (.c (bl true)))⟩])
 .ret))))
def r73 : List RS := [.t 4]
theorem c73 : chkF Try.prog drawB Try.f73 i73 r73 = true := by kernel_rfl
/-- (*parlour/recall.walker).node -/
def i77 : IC :=
 (.seq
 (.reg [
 ⟨(some 3), none, .e (.box 74 (.t 1))⟩,
 ⟨(some 4), none, .p (.mov (.c (i64 0)))⟩])
 (.seq
 (.reg [
 ⟨(some 6), none, .p (.bld [.val .nilFunc, .val .nilFunc, .val .nilFunc, .val .nilFunc] [(1, 1, (.c (.fn (.func 84) [] []))), (2, 1, (.c (.fn (.func 85) [] []))), (3, 1, (.c (.fn (.func 86) [] [])))])⟩,
 ⟨(some 5), none, .e (.alc 137 [.val .nilFunc, .val .nilFunc, .val .nilFunc, .val .nilFunc])⟩,
 ⟨none, none, .e (.st 4 (.t 5) (.t 6))⟩])
 (.seq
 (.seq
 (.reg [
 ⟨(some 7), none, .p (.fa 0 (.t 3))⟩,
 ⟨(some 8), none, .p (.ld1 (.t 7))⟩,
 ⟨(some 9), none, .p (.bin .lss (.i .i64) (.t 8) (.c (i64 1)))⟩,
 ⟨(some 10), none, .p (.mov (.t 9))⟩,
 ⟨(some 11), (some (10, false)), .p (.fa 0 (.t 3))⟩,
 ⟨(some 12), (some (10, false)), .p (.ld1 (.t 11))⟩,
 ⟨(some 13), (some (10, false)), .p (.bin .gtr (.i .i64) (.t 12) (.c (i64 3)))⟩,
 ⟨(some 14), none, .p (.pick (.t 10) (.c (bl true)) (.t 13))⟩])
 (.cond (.t 14)
 (.seq
 (.reg [
 ⟨(some 4), none, .p (.mov (.c (i64 3)))⟩])
 .ret)
 .skip))
 (.seq
 (.drw [0, 1, 2, 3, 4, 5, 6, 7] [
 ⟨(some 15), none, .p (.fa 0 (.t 3))⟩,
 ⟨(some 16), none, .p (.ld1 (.t 15))⟩,
 ⟨(some 17), none, .p (.iap 4 1 (.t 5) (.t 16))⟩,
 ⟨(some 18), none, .p (.ld1 (.t 17))⟩,
 ⟨(some 19), none, .p (.mov (.t 0))⟩,
 ⟨(some 20), none, .p (.ldn 6 (.t 3))⟩,
 ⟨(some 21), none, .e (.call (.t 18) [(.t 19), (.t 20)])⟩,
 ⟨(some 4), none, .p (.mov (.t 21))⟩])
 .ret))))
def r77 : List RS := [.t 4]
theorem c77 : chkF Try.prog drawB Try.f77 i77 r77 = true := by kernel_rfl
def l78_0 : IC := .keep [0, 2, 10, 11, 46, 47, 48]
 (.seq
 (.reg [
 ⟨(some 49), none, .p (.bin .lss (.i .i64) (.t 48) (.t 47))⟩])
 (.seq
 (.cond (.t 49)
 .skip
 (.exit 0))
 (.seq
 (.blk 1
 (.seq
 (.reg [
 ⟨(some 50), none, .p (.ia 1 (.t 46) (.t 48))⟩,
 ⟨(some 51), none, .p (.ld1 (.t 50))⟩,
 ⟨(some 14), none, .p (.mov (.t 51))⟩])
 (.seq
 (.seq
 (.reg [
 ⟨(some 52), none, .p (.mov (.t 14))⟩,
 ⟨(some 53), none, .p (.mov (.t 0))⟩,
 ⟨(some 54), none, .p (.nck (.t 53))⟩,
 ⟨(some 55), none, .p (.fa 0 (.t 54))⟩,
 ⟨(some 56), none, .p (.fa 1 (.t 55))⟩,
 ⟨(some 57), none, .p (.ld1 (.t 56))⟩,
 ⟨(some 58), none, .p (.len (.t 57))⟩,
 ⟨(some 59), none, .p (.mov (.t 11))⟩,
 ⟨(some 60), none, .p (.len (.t 59))⟩,
 ⟨(some 61), none, .p (.bin .sub (.i .i64) (.t 58) (.t 60))⟩,
 ⟨(some 62), none, .p (.bin .neq (.i .i64) (.t 52) (.t 61))⟩])
 (.cond (.t 62)
 (.seq
 (.reg [
 ⟨(some 8), none, .p (.mov (.c (.val (.slice none 0 0))))⟩,
 ⟨(some 9), none, .p (.mov (.c (bl false)))⟩])
 .ret)
 .skip))
 (.seq
 (.reg [
 ⟨(some 64), none, .p (.mov (.t 0))⟩,
 ⟨(some 65), none, .p (.mov (.t 10))⟩,
 ⟨(some 66), none, .p (.mov (.t 2))⟩,
 ⟨(some 67), none, .p (.bin .add (.i .i64) (.t 66) (.c (i64 1)))⟩,
 ⟨(some 68), none, .p (.mov (.t 11))⟩,
 ⟨(some 69), none, .e (.call (.c (.fn (.func 78) [] [])) [(.t 64), (.t 65), (.t 67), (.t 68)])⟩,
 ⟨(some 63), none, .p (.mov (.t 69))⟩,
 ⟨(some 70), none, .p (.ext (.t 63) 0)⟩,
 ⟨(some 71), none, .p (.ext (.t 63) 1)⟩,
 ⟨(some 11), none, .p (.mov (.t 70))⟩,
 ⟨(some 12), none, .p (.mov (.t 71))⟩])
 (.seq
 (.reg [
 ⟨(some 72), none, .p (.mov (.t 12))⟩,
 ⟨(some 73), none, .p (.not (.t 72))⟩])
 (.cond (.t 73)
 (.seq
 (.reg [
 ⟨(some 8), none, .p (.mov (.c (.val (.slice none 0 0))))⟩,
 ⟨(some 9), none, .p (.mov (.c (bl false)))⟩])
 .ret)
 .skip))))))
 (.reg [
 ⟨(some 74), none, .p (.bin .add (.i .i64) (.t 48) (.c (i64 1)))⟩,
 ⟨(some 48), none, .p (.mov (.t 74))⟩]))))
/-- (*parlour/recall.walker).walk -/
def i78 : IC :=
 (.seq
 (.reg [
 ⟨(some 8), none, .p (.mov (.c (.val (.slice none 0 0))))⟩,
 ⟨(some 9), none, .p (.mov (.c (bl false)))⟩])
 (.seq
 (.seq
 (.reg [
 ⟨(some 15), none, .p (.mov (.t 3))⟩,
 ⟨(some 16), none, .p (.len (.t 15))⟩,
 ⟨(some 17), none, .p (.bin .eql (.i .i64) (.t 16) (.c (i64 0)))⟩])
 (.cond (.t 17)
 (.seq
 (.reg [
 ⟨(some 8), none, .p (.mov (.c (.val (.slice none 0 0))))⟩,
 ⟨(some 9), none, .p (.mov (.c (bl false)))⟩])
 .ret)
 .skip))
 (.seq
 (.reg [
 ⟨(some 18), none, .p (.mov (.t 0))⟩,
 ⟨(some 19), none, .p (.nck (.t 18))⟩,
 ⟨(some 20), none, .p (.fa 0 (.t 19))⟩,
 ⟨(some 21), none, .p (.fa 1 (.t 20))⟩,
 ⟨(some 22), none, .p (.ld1 (.t 21))⟩,
 ⟨(some 23), none, .p (.len (.t 22))⟩,
 ⟨(some 24), none, .p (.mov (.t 3))⟩,
 ⟨(some 25), none, .p (.len (.t 24))⟩,
 ⟨(some 26), none, .p (.bin .sub (.i .i64) (.t 23) (.t 25))⟩,
 ⟨(some 10), none, .p (.mov (.t 26))⟩])
 (.seq
 (.drw [0, 1, 2, 3, 4, 5, 6, 7, 8, 9, 10, 11, 12, 13, 14, 15] [
 ⟨(some 27), none, .p (.mov (.t 0))⟩,
 ⟨(some 28), none, .p (.nck (.t 27))⟩,
 ⟨(some 29), none, .p (.fa 3 (.t 28))⟩,
 ⟨(some 30), none, .p (.ld1 (.t 29))⟩,
 ⟨(some 31), none, .p (.mov (.t 10))⟩,
 ⟨(some 32), none, .p (.mov (.t 0))⟩,
 ⟨(some 33), none, .p (.nck (.t 32))⟩,
 ⟨(some 34), none, .p (.fa 4 (.t 33))⟩,
 ⟨(some 35), none, .p (.ld1 (.t 34))⟩,
 ⟨(some 36), none, .p (.mov (.t 10))⟩,
 ⟨(some 37), none, .p (.mov (.t 1))⟩,
 ⟨(some 38), none, .p (.mov (.t 2))⟩,
 ⟨(some 39), none, .p (.ia 1 (.t 30) (.t 31))⟩,
 ⟨none, none, .e (.stw [35] 1 (.t 39) (.t 37))⟩,
 ⟨(some 40), none, .p (.ia 1 (.t 35) (.t 36))⟩,
 ⟨none, none, .e (.stw [30] 1 (.t 40) (.t 38))⟩])
 (.seq
 (.reg [
 ⟨(some 41), none, .p (.mov (.t 3))⟩,
 ⟨(some 42), none, .p (.sl 6 (.t 41) (some (.c (i64 1))) none)⟩,
 ⟨(some 11), none, .p (.mov (.t 42))⟩,
 ⟨(some 12), none, .p (.mov (.c (bl true)))⟩])
 (.seq
 (.seq
 (.reg [
 ⟨(some 43), none, .p (.mov (.t 3))⟩,
 ⟨(some 44), none, .p (.ia 6 (.t 43) (.c (i64 0)))⟩,
 ⟨(some 45), none, .p (.fa 3 (.t 44))⟩,
 ⟨(some 46), none, .p (.ld1 (.t 45))⟩,
 ⟨(some 47), none, .p (.len (.t 46))⟩,
 ⟨(some 48), none, .p (.mov (.c (i64 0)))⟩])
 (.blk 0
 (.loop l78_0)))
 (.seq
 (.drw [0, 1, 2, 3, 4, 5, 6, 7, 8, 9, 10, 11, 12, 13, 14, 15, 16] [
 ⟨(some 75), none, .p (.mov (.t 0))⟩,
 ⟨(some 76), none, .p (.nck (.t 75))⟩,
 ⟨(some 77), none, .p (.fa 5 (.t 76))⟩,
 ⟨(some 78), none, .p (.ld1 (.t 77))⟩,
 ⟨(some 79), none, .p (.mov (.t 10))⟩,
 ⟨(some 80), none, .p (.mov (.t 0))⟩,
 ⟨(some 81), none, .p (.nck (.t 80))⟩,
 ⟨(some 82), none, .p (.fa 0 (.t 81))⟩,
 ⟨(some 83), none, .p (.fa 1 (.t 82))⟩,
 ⟨(some 84), none, .p (.ld1 (.t 83))⟩,
 ⟨(some 85), none, .p (.len (.t 84))⟩,
 ⟨(some 86), none, .p (.mov (.t 11))⟩,
 ⟨(some 87), none, .p (.len (.t 86))⟩,
 ⟨(some 88), none, .p (.bin .sub (.i .i64) (.t 85) (.t 87))⟩,
 ⟨(some 89), none, .p (.bin .sub (.i .i64) (.t 88) (.c (i64 1)))⟩,
 ⟨(some 90), none, .p (.ia 1 (.t 78) (.t 79))⟩,
 ⟨none, none, .e (.st 1 (.t 90) (.t 89))⟩])
 (.seq
 (.reg [
 ⟨(some 91), none, .p (.mov (.t 11))⟩,
 ⟨(some 8), none, .p (.mov (.t 91))⟩,
 ⟨(some 9), none, .p (.mov (.c (bl true)))⟩])
 .ret))))))))
def r78 : List RS := [.t 8, .t 9]
theorem c78 : chkF Try.prog drawB Try.f78 i78 r78 = true := by kernel_rfl
def l79_0 : IC := .keep [0, 3, 4]
 (.seq
 (.seq
 (.reg [
 ⟨(some 12), none, .p (.mov (.t 4))⟩,
 ⟨(some 13), none, .p (.mov (.t 0))⟩,
 ⟨(some 14), none, .p (.len (.t 13))⟩,
 ⟨(some 15), none, .p (.bin .lss (.i .i64) (.t 12) (.t 14))⟩])
 (.cond (.t 15)
 .skip
 (.exit 0)))
 (.seq
 (.blk 1
 (.reg [
 ⟨(some 18), none, .p (.mov (.t 3))⟩,
 ⟨(some 19), none, .p (.mov (.t 0))⟩,
 ⟨(some 20), none, .p (.mov (.t 4))⟩,
 ⟨(some 21), none, .p (.ia 1 (.t 19) (.t 20))⟩,
 ⟨(some 22), none, .p (.ld1 (.t 21))⟩,
 ⟨(some 23), none, .p (.mm true .i64 (.t 18) (.t 22))⟩,
 ⟨(some 3), none, .p (.mov (.t 23))⟩]))
 (.reg [
 ⟨(some 16), none, .p (.mov (.t 4))⟩,
 ⟨(some 17), none, .p (.bin .add (.i .i64) (.t 16) (.c (i64 1)))⟩,
 ⟨(some 4), none, .p (.mov (.t 17))⟩])))
/-- slices.Max(()int,int) -/
def i79 : IC :=
 (.seq
 (.reg [
 ⟨(some 2), none, .p (.mov (.c (i64 0)))⟩])
 (.seq
 (.seq
 (.reg [
 ⟨(some 5), none, .p (.mov (.t 0))⟩,
 ⟨(some 6), none, .p (.len (.t 5))⟩,
 ⟨(some 7), none, .p (.bin .lss (.i .i64) (.t 6) (.c (i64 1)))⟩])
 (.cond (.t 7)
 (.reg [
 ⟨(some 8), none, .p (.mki 9 (.c (st ⟨#[115, 108, 105, 99, 101, 115, 46, 77, 97, 120, 58, 32, 101, 109, 112, 116, 121, 32, 108, 105, 115, 116]⟩)))⟩,
 ⟨none, none, .e (.pan (.t 8))⟩])
 .skip))
 (.seq
 (.reg [
 ⟨(some 9), none, .p (.mov (.t 0))⟩,
 ⟨(some 10), none, .p (.ia 1 (.t 9) (.c (i64 0)))⟩,
 ⟨(some 11), none, .p (.ld1 (.t 10))⟩,
 ⟨(some 3), none, .p (.mov (.t 11))⟩])
 (.seq
 (.seq
 (.reg [
 ⟨(some 4), none, .p (.mov (.c (i64 1)))⟩])
 (.blk 0
 (.loop l79_0)))
 (.seq
 (.reg [
 ⟨(some 24), none, .p (.mov (.t 3))⟩,
 ⟨(some 2), none, .p (.mov (.t 24))⟩])
 .ret)))))
def r79 : List RS := [.t 2]
theorem c79 : chkF Try.prog drawB Try.f79 i79 r79 = true := by kernel_rfl
def l80_0 : IC := .keep [0, 3, 4]
 (.seq
 (.seq
 (.reg [
 ⟨(some 22), none, .p (.mov (.t 4))⟩,
 ⟨(some 23), none, .p (.bin .geq (.i .i64) (.t 22) (.c (i64 0)))⟩])
 (.cond (.t 23)
 .skip
 (.exit 0)))
 (.seq
 (.blk 1
 (.seq
 (.reg [
 ⟨(some 26), none, .p (.mov (.t 0))⟩,
 ⟨(some 27), none, .p (.nck (.t 26))⟩,
 ⟨(some 28), none, .p (.fa 0 (.t 27))⟩,
 ⟨(some 29), none, .p (.fa 1 (.t 28))⟩,
 ⟨(some 30), none, .p (.ld1 (.t 29))⟩,
 ⟨(some 31), none, .p (.mov (.t 4))⟩,
 ⟨(some 32), none, .p (.ia 6 (.t 30) (.t 31))⟩,
 ⟨(some 33), none, .p (.ldn 6 (.t 32))⟩,
 ⟨(some 5), none, .e (.alc 74 [i64 0, i64 0, i64 0, .val (.slice none 0 0), .val (.slice none 0 0), .val (.slice none 0 0)])⟩,
 ⟨none, none, .e (.st 6 (.t 5) (.t 33))⟩])
 (.seq
 (.reg [
 ⟨(some 34), none, .p (.fa 0 (.t 5))⟩,
 ⟨(some 35), none, .p (.ld1 (.t 34))⟩,
 ⟨(some 36), none, .p (.bin .eql (.i .i64) (.t 35) (.c (i64 2)))⟩])
 (.cond (.t 36)
 (.reg [
 ⟨(some 37), none, .p (.mov (.t 3))⟩,
 ⟨(some 38), none, .p (.fa 2 (.t 5))⟩,
 ⟨(some 39), none, .p (.ld1 (.t 38))⟩,
 ⟨(some 40), none, .p (.mov (.t 4))⟩,
 ⟨(some 41), none, .p (.bin .add (.i .i64) (.t 40) (.c (i64 1)))⟩,
 ⟨(some 42), none, .p (.ia 1 (.t 37) (.t 39))⟩,
 ⟨none, none, .e (.st 1 (.t 42) (.t 41))⟩])
 .skip))))
 (.reg [
 ⟨(some 24), none, .p (.mov (.t 4))⟩,
 ⟨(some 25), none, .p (.bin .sub (.i .i64) (.t 24) (.c (i64 1)))⟩,
 ⟨(some 4), none, .p (.mov (.t 25))⟩])))
def l80_1 : IC := .keep [0, 3, 47, 48, 49]
 (.seq
 (.reg [
 ⟨(some 50), none, .p (.bin .lss (.i .i64) (.t 49) (.t 48))⟩])
 (.seq
 (.cond (.t 50)
 .skip
 (.exit 2))
 (.seq
 (.blk 3
 (.seq
 (.reg [
 ⟨(some 51), none, .p (.ia 6 (.t 47) (.t 49))⟩,
 ⟨(some 52), none, .p (.ldn 6 (.t 51))⟩,
 ⟨(some 7), none, .e (.alc 74 [i64 0, i64 0, i64 0, .val (.slice none 0 0), .val (.slice none 0 0), .val (.slice none 0 0)])⟩,
 ⟨none, none, .e (.st 6 (.t 7) (.t 52))⟩])
 (.seq
 (.drw [0, 1, 2, 3, 4, 5, 6, 7, 8, 9, 10, 11, 12, 13, 14, 15, 16, 17, 18, 19, 20] [
 ⟨(some 53), none, .p (.fa 0 (.t 7))⟩,
 ⟨(some 54), none, .p (.ld1 (.t 53))⟩,
 ⟨(some 55), none, .p (.bin .eql (.i .i64) (.t 54) (.c (i64 2)))⟩,
 ⟨(some 56), none, .p (.mov (.t 55))⟩,
 ⟨(some 57), (some (56, true)), .p (.mov (.t 0))⟩,
 ⟨(some 58), (some (56, true)), .p (.nck (.t 57))⟩,
 ⟨(some 59), (some (56, true)), .p (.fa 0 (.t 58))⟩,
 ⟨(some 60), (some (56, true)), .p (.fa 2 (.t 59))⟩,
 ⟨(some 61), (some (56, true)), .p (.ld1 (.t 60))⟩,
 ⟨(some 62), (some (56, true)), .p (.fa 2 (.t 7))⟩,
 ⟨(some 63), (some (56, true)), .p (.ld1 (.t 62))⟩,
 ⟨(some 64), (some (56, true)), .p (.ia 2 (.t 61) (.t 63))⟩,
 ⟨(some 65), (some (56, true)), .p (.ldn 2 (.t 64))⟩,
 ⟨(some 66), (some (56, true)), .p (.fa 1 (.t 7))⟩,
 ⟨(some 67), (some (56, true)), .p (.ld1 (.t 66))⟩,
 ⟨(some 68), (some (56, true)), .p (.fa 3 (.t 7))⟩,
 ⟨(some 69), (some (56, true)), .p (.ld1 (.t 68))⟩,
 ⟨(some 70), (some (56, true)), .p (.len (.t 69))⟩,
 ⟨(some 71), (some (56, true)), .p (.bld [i64 0, i64 0] [(0, 1, (.t 67)), (1, 1, (.t 70))])⟩,
 ⟨(some 72), (some (56, true)), .p (.eqf true [.i .i64, .i .i64] (.t 65) (.t 71))⟩,
 ⟨(some 73), none, .p (.pick (.t 56) (.t 72) (.c (bl false)))⟩])
 (.cond (.t 73)
 (.seq
 (.reg [
 ⟨(some 2), none, .p (.mov (.c (i64 10)))⟩])
 .ret)
 .skip))))
 (.reg [
 ⟨(some 74), none, .p (.bin .add (.i .i64) (.t 49) (.c (i64 1)))⟩,
 ⟨(some 49), none, .p (.mov (.t 74))⟩]))))
/-- (*parlour/recall.walker).sets -/
def i80 : IC :=
 (.seq
 (.reg [
 ⟨(some 2), none, .p (.mov (.c (i64 0)))⟩])
 (.seq
 (.reg [
 ⟨(some 8), none, .p (.mov (.t 0))⟩,
 ⟨(some 9), none, .p (.nck (.t 8))⟩,
 ⟨(some 10), none, .p (.fa 0 (.t 9))⟩,
 ⟨(some 11), none, .p (.fa 2 (.t 10))⟩,
 ⟨(some 12), none, .p (.ld1 (.t 11))⟩,
 ⟨(some 13), none, .p (.len (.t 12))⟩,
 ⟨(some 14), none, .e (.mks 3 1 8 [i64 0] (.t 13) (.t 13))⟩,
 ⟨(some 3), none, .p (.mov (.t 14))⟩])
 (.seq
 (.seq
 (.reg [
 ⟨(some 15), none, .p (.mov (.t 0))⟩,
 ⟨(some 16), none, .p (.nck (.t 15))⟩,
 ⟨(some 17), none, .p (.fa 0 (.t 16))⟩,
 ⟨(some 18), none, .p (.fa 1 (.t 17))⟩,
 ⟨(some 19), none, .p (.ld1 (.t 18))⟩,
 ⟨(some 20), none, .p (.len (.t 19))⟩,
 ⟨(some 21), none, .p (.bin .sub (.i .i64) (.t 20) (.c (i64 1)))⟩,
 ⟨(some 4), none, .p (.mov (.t 21))⟩])
 (.blk 0
 (.loop l80_0)))
 (.seq
 (.seq
 (.reg [
 ⟨(some 43), none, .p (.mov (.t 0))⟩,
 ⟨(some 44), none, .p (.nck (.t 43))⟩,
 ⟨(some 45), none, .p (.fa 0 (.t 44))⟩,
 ⟨(some 46), none, .p (.fa 1 (.t 45))⟩,
 ⟨(some 47), none, .p (.ld1 (.t 46))⟩,
 ⟨(some 48), none, .p (.len (.t 47))⟩,
 ⟨(some 49), none, .p (.mov (.c (i64 0)))⟩])
 (.blk 2
 (.loop l80_1)))
 (.seq
 (.seq
 (.reg [
 ⟨(some 75), none, .p (.mov (.t 3))⟩,
 ⟨(some 76), none, .e (.call (.c (.fn (.func 87) [] [])) [(.t 75), (.c (i64 0))])⟩])
 (.cond (.t 76)
 (.seq
 (.reg [
 ⟨(some 2), none, .p (.mov (.c (i64 18)))⟩])
 .ret)
 .skip))
 (.seq
 (.seq
 (.reg [
 ⟨(some 77), none, .p (.mov (.t 3))⟩,
 ⟨(some 78), none, .e (.call (.c (.fn (.func 88) [] [])) [(.t 77)])⟩,
 ⟨(some 79), none, .p (.not (.t 78))⟩])
 (.cond (.t 79)
 (.seq
 (.reg [
 ⟨(some 2), none, .p (.mov (.c (i64 9)))⟩])
 .ret)
 .skip))
 (.seq
 (.reg [
 ⟨(some 2), none, .p (.mov (.c (i64 0)))⟩])
 .ret)))))))
def r80 : List RS := [.t 2]
theorem c80 : chkF Try.prog drawB Try.f80 i80 r80 = true := by kernel_rfl
def l81_0 : IC := .keep [0, 1]
 (.seq
 (.seq
 (.reg [
 ⟨(some 3), none, .p (.ld1 (.t 1))⟩,
 ⟨(some 4), none, .p (.bin .gtr (.i .i64) (.t 3) (.c (i64 127)))⟩])
 (.cond (.t 4)
 .skip
 (.exit 0)))
 (.seq
 (.blk 1
 (.seq
 (.reg [
 ⟨(some 7), none, .p (.mov (.t 0))⟩,
 ⟨(some 8), none, .p (.ld1 (.t 1))⟩,
 ⟨(some 9), none, .p (.bin .and (.i .i64) (.t 8) (.c (i64 127)))⟩,
 ⟨(some 10), none, .p (.bin .add (.i .i64) (.t 9) (.c (i64 128)))⟩,
 ⟨(some 11), none, .p (.cvi .u8 (.t 10))⟩,
 ⟨(some 12), none, .e (.call (.t 7) [(.t 11)])⟩,
 ⟨(some 13), none, .p (.not (.t 12))⟩])
 (.cond (.t 13)
 .ret
 .skip)))
 (.reg [
 ⟨(some 5), none, .p (.ld1 (.t 1))⟩,
 ⟨(some 6), none, .p (.bin .shr (.sh .i64 .u64) (.t 5) (.c (.val (.int .u64 7))))⟩,
 ⟨none, none, .e (.st 1 (.t 1) (.t 6))⟩])))
/-- parlour/pack.groups$1 -/
def i81 : IC :=
 (.seq
 (.blk 0
 (.loop l81_0))
 (.reg [
 ⟨(some 14), none, .p (.mov (.t 0))⟩,
 ⟨(some 15), none, .p (.ld1 (.t 1))⟩,
 ⟨(some 16), none, .p (.cvi .u8 (.t 15))⟩,
 ⟨(some 17), none, .e (.call (.t 14) [(.t 16)])⟩]))
def r81 : List RS := []
theorem c81 : chkF Try.prog drawB Try.f81 i81 r81 = true := by kernel_rfl
def l82_0 : IC := .keep [0, 5, 6, 7]
 (.seq
 (.reg [
 ⟨(some 8), none, .p (.bin .lss (.i .i64) (.t 7) (.t 6))⟩])
 (.seq
 (.cond (.t 8)
 .skip
 (.exit 0))
 (.seq
 (.blk 1
 (.seq
 (.reg [
 ⟨(some 9), none, .p (.ia 1 (.t 5) (.t 7))⟩,
 ⟨(some 10), none, .p (.ld1 (.t 9))⟩,
 ⟨(some 4), none, .p (.mov (.t 10))⟩])
 (.seq
 (.reg [
 ⟨(some 11), none, .p (.mov (.t 0))⟩,
 ⟨(some 12), none, .p (.mov (.t 4))⟩,
 ⟨(some 13), none, .e (.call (.t 11) [(.t 12)])⟩,
 ⟨(some 14), none, .p (.not (.t 13))⟩])
 (.cond (.t 14)
 .ret
 .skip))))
 (.reg [
 ⟨(some 15), none, .p (.bin .add (.i .i64) (.t 7) (.c (i64 1)))⟩,
 ⟨(some 7), none, .p (.mov (.t 15))⟩]))))
/-- parlour/table.rows(int)$1 -/
def i82 : IC :=
 (.seq
 (.reg [
 ⟨(some 5), none, .p (.ld1 (.t 1))⟩,
 ⟨(some 6), none, .p (.len (.t 5))⟩,
 ⟨(some 7), none, .p (.mov (.c (i64 0)))⟩])
 (.blk 0
 (.loop l82_0)))
def r82 : List RS := []
theorem c82 : chkF Try.prog drawB Try.f82 i82 r82 = true := by kernel_rfl
/-- (*parlour/pack.reader).signed -/
def i83 : IC :=
 (.seq
 (.reg [
 ⟨(some 6), none, .p (.mov (.c (i64 0)))⟩])
 (.seq
 (.reg [
 ⟨(some 10), none, .p (.mov (.t 0))⟩,
 ⟨(some 11), none, .p (.nck (.t 10))⟩,
 ⟨(some 12), none, .p (.fa 1 (.t 11))⟩,
 ⟨(some 13), none, .p (.ld1 (.t 12))⟩,
 ⟨(some 7), none, .p (.mov (.t 13))⟩])
 (.seq
 (.reg [
 ⟨(some 14), none, .p (.mov (.t 0))⟩,
 ⟨(some 15), none, .e (.call (.c (.fn (.func 50) [] [])) [(.t 14), (.c (i64 0)), (.c (i64 4611686018427387903))])⟩,
 ⟨(some 8), none, .p (.mov (.t 15))⟩])
 (.seq
 (.reg [
 ⟨(some 16), none, .p (.mov (.t 8))⟩,
 ⟨(some 17), none, .p (.bin .quo (.i .i64) (.t 16) (.c (i64 2)))⟩,
 ⟨(some 9), none, .p (.mov (.t 17))⟩])
 (.seq
 (.seq
 (.reg [
 ⟨(some 18), none, .p (.mov (.t 8))⟩,
 ⟨(some 19), none, .p (.bin .rem (.i .i64) (.t 18) (.c (i64 2)))⟩,
 ⟨(some 20), none, .p (.bin .eql (.i .i64) (.t 19) (.c (i64 1)))⟩])
 (.cond (.t 20)
 (.reg [
 ⟨(some 21), none, .p (.mov (.t 9))⟩,
 ⟨(some 22), none, .p (.neg .i64 (.t 21))⟩,
 ⟨(some 23), none, .p (.bin .sub (.i .i64) (.t 22) (.c (i64 1)))⟩,
 ⟨(some 9), none, .p (.mov (.t 23))⟩])
 .skip))
 (.seq
 (.reg [
 ⟨(some 24), none, .p (.mov (.t 9))⟩,
 ⟨(some 25), none, .p (.mov (.t 1))⟩,
 ⟨(some 26), none, .p (.mov (.t 2))⟩,
 ⟨(some 27), none, .p (.mov (.t 7))⟩,
 ⟨(some 28), none, .e (.call (.c (.fn (.func 70) [] [])) [(.t 24), (.t 25), (.t 26), (.t 27)])⟩,
 ⟨(some 6), none, .p (.mov (.t 28))⟩])
 .ret))))))
def r83 : List RS := [.t 6]
theorem c83 : chkF Try.prog drawB Try.f83 i83 r83 = true := by kernel_rfl
/-- (*parlour/recall.walker).chance -/
def i84 : IC :=
 (.seq
 (.reg [
 ⟨(some 3), none, .e (.box 74 (.t 1))⟩,
 ⟨(some 4), none, .p (.mov (.c (i64 0)))⟩])
 (.seq
 (.seq
 (.reg [
 ⟨(some 5), none, .p (.fa 1 (.t 3))⟩,
 ⟨(some 6), none, .p (.ld1 (.t 5))⟩,
 ⟨(some 7), none, .p (.bin .neq (.i .i64) (.t 6) (.c (i64 0)))⟩,
 ⟨(some 8), none, .p (.mov (.t 7))⟩,
 ⟨(some 9), (some (8, false)), .p (.fa 2 (.t 3))⟩,
 ⟨(some 10), (some (8, false)), .p (.ld1 (.t 9))⟩,
 ⟨(some 11), (some (8, false)), .p (.bin .neq (.i .i64) (.t 10) (.c (i64 0)))⟩,
 ⟨(some 12), none, .p (.pick (.t 8) (.c (bl true)) (.t 11))⟩,
 ⟨(some 13), none, .p (.mov (.t 12))⟩,
 ⟨(some 14), (some (13, false)), .p (.fa 5 (.t 3))⟩,
 ⟨(some 15), (some (13, false)), .p (.ld1 (.t 14))⟩,
 ⟨(some 16), (some (13, false)), .p (.len (.t 15))⟩,
 ⟨(some 17), (some (13, false)), .p (.bin .gtr (.i .i64) (.t 16) (.c (i64 0)))⟩,
 ⟨(some 18), none, .p (.pick (.t 13) (.c (bl true)) (.t 17))⟩,
 ⟨(some 19), none, .p (.mov (.t 18))⟩,
 ⟨(some 20), (some (19, false)), .p (.fa 3 (.t 3))⟩,
 ⟨(some 21), (some (19, false)), .p (.ld1 (.t 20))⟩,
 ⟨(some 22), (some (19, false)), .p (.len (.t 21))⟩,
 ⟨(some 23), (some (19, false)), .p (.bin .lss (.i .i64) (.t 22) (.c (i64 1)))⟩,
 ⟨(some 24), none, .p (.pick (.t 19) (.c (bl true)) (.t 23))⟩,
 ⟨(some 25), none, .p (.mov (.t 24))⟩,
 ⟨(some 26), (some (25, false)), .p (.fa 3 (.t 3))⟩,
 ⟨(some 27), (some (25, false)), .p (.ld1 (.t 26))⟩,
 ⟨(some 28), (some (25, false)), .p (.len (.t 27))⟩,
 ⟨(some 29), (some (25, false)), .p (.bin .gtr (.i .i64) (.t 28) (.c (i64 60)))⟩,
 ⟨(some 30), none, .p (.pick (.t 25) (.c (bl true)) (.t 29))⟩,
 ⟨(some 31), none, .p (.mov (.t 30))⟩,
 ⟨(some 32), (some (31, false)), .p (.fa 4 (.t 3))⟩,
 ⟨(some 33), (some (31, false)), .p (.ld1 (.t 32))⟩,
 ⟨(some 34), (some (31, false)), .p (.len (.t 33))⟩,
 ⟨(some 35), (some (31, false)), .p (.fa 3 (.t 3))⟩,
 ⟨(some 36), (some (31, false)), .p (.ld1 (.t 35))⟩,
 ⟨(some 37), (some (31, false)), .p (.len (.t 36))⟩,
 ⟨(some 38), (some (31, false)), .p (.bin .neq (.i .i64) (.t 34) (.t 37))⟩,
 ⟨(some 39), none, .p (.pick (.t 31) (.c (bl true)) (.t 38))⟩])
 (.cond (.t 39)
 (.seq
 (.reg [
 ⟨(some 4), none, .p (.mov (.c (i64 3)))⟩])
 .ret)
 .skip))
 (.seq
 (.reg [
 ⟨(some 40), none, .p (.fa 4 (.t 3))⟩,
 ⟨(some 41), none, .p (.ld1 (.t 40))⟩,
 ⟨(some 42), none, .e (.call (.c (.fn (.func 89) [] [])) [(.c (i64 1)), (.c (i64 1000)), (.t 41)])⟩,
 ⟨(some 4), none, .p (.mov (.t 42))⟩])
 .ret)))
def r84 : List RS := [.t 4]
theorem c84 : chkF Try.prog drawB Try.f84 i84 r84 = true := by kernel_rfl
/-- (*parlour/recall.walker).move -/
def i85 : IC :=
 (.seq
 (.reg [
 ⟨(some 3), none, .e (.box 74 (.t 1))⟩,
 ⟨(some 4), none, .p (.mov (.c (i64 0)))⟩])
 (.seq
 (.seq
 (.reg [
 ⟨(some 6), none, .p (.fa 4 (.t 3))⟩,
 ⟨(some 7), none, .p (.ld1 (.t 6))⟩,
 ⟨(some 8), none, .p (.len (.t 7))⟩,
 ⟨(some 9), none, .p (.bin .gtr (.i .i64) (.t 8) (.c (i64 0)))⟩,
 ⟨(some 10), none, .p (.mov (.t 9))⟩,
 ⟨(some 11), (some (10, false)), .p (.fa 5 (.t 3))⟩,
 ⟨(some 12), (some (10, false)), .p (.ld1 (.t 11))⟩,
 ⟨(some 13), (some (10, false)), .p (.len (.t 12))⟩,
 ⟨(some 14), (some (10, false)), .p (.bin .gtr (.i .i64) (.t 13) (.c (i64 0)))⟩,
 ⟨(some 15), none, .p (.pick (.t 10) (.c (bl true)) (.t 14))⟩,
 ⟨(some 16), none, .p (.mov (.t 15))⟩,
 ⟨(some 17), (some (16, false)), .p (.fa 3 (.t 3))⟩,
 ⟨(some 18), (some (16, false)), .p (.ld1 (.t 17))⟩,
 ⟨(some 19), (some (16, false)), .p (.len (.t 18))⟩,
 ⟨(some 20), (some (16, false)), .p (.bin .lss (.i .i64) (.t 19) (.c (i64 1)))⟩,
 ⟨(some 21), none, .p (.pick (.t 16) (.c (bl true)) (.t 20))⟩,
 ⟨(some 22), none, .p (.mov (.t 21))⟩,
 ⟨(some 23), (some (22, false)), .p (.fa 3 (.t 3))⟩,
 ⟨(some 24), (some (22, false)), .p (.ld1 (.t 23))⟩,
 ⟨(some 25), (some (22, false)), .p (.len (.t 24))⟩,
 ⟨(some 26), (some (22, false)), .p (.bin .gtr (.i .i64) (.t 25) (.c (i64 10)))⟩,
 ⟨(some 27), none, .p (.pick (.t 22) (.c (bl true)) (.t 26))⟩])
 (.cond (.t 27)
 (.seq
 (.reg [
 ⟨(some 4), none, .p (.mov (.c (i64 3)))⟩])
 .ret)
 .skip))
 (.seq
 (.seq
 (.drw [0, 1, 2, 3, 4, 5, 6, 7, 8, 9, 10] [
 ⟨(some 28), none, .p (.mov (.t 0))⟩,
 ⟨(some 29), none, .p (.nck (.t 28))⟩,
 ⟨(some 30), none, .p (.fa 0 (.t 29))⟩,
 ⟨(some 31), none, .p (.fa 0 (.t 30))⟩,
 ⟨(some 32), none, .p (.ld1 (.t 31))⟩,
 ⟨(some 33), none, .p (.bin .sub (.i .i64) (.t 32) (.c (i64 1)))⟩,
 ⟨(some 34), none, .p (.fa 1 (.t 3))⟩,
 ⟨(some 35), none, .p (.ld1 (.t 34))⟩,
 ⟨(some 36), none, .e (.bsl 3 1 1 [i64 0] [(0, (.t 35))])⟩,
 ⟨(some 37), none, .q (.c (.fn (.func 89) [] [])) [(.c (i64 0)), (.t 33), (.t 36)]⟩,
 ⟨(some 5), none, .p (.mov (.t 37))⟩])
 (.seq
 (.reg [
 ⟨(some 38), none, .p (.mov (.t 5))⟩,
 ⟨(some 39), none, .p (.bin .neq (.i .i64) (.t 38) (.c (i64 0)))⟩])
 (.cond (.t 39)
 (.seq
 (.reg [
 ⟨(some 40), none, .p (.mov (.t 5))⟩,
 ⟨(some 4), none, .p (.mov (.t 40))⟩])
 .ret)
 .skip)))
 (.seq
 (.drw [0, 1, 2, 3, 4, 5, 6, 7, 8, 9, 10, 11] [
 ⟨(some 41), none, .p (.mov (.t 0))⟩,
 ⟨(some 42), none, .p (.nck (.t 41))⟩,
 ⟨(some 43), none, .p (.fa 0 (.t 42))⟩,
 ⟨(some 44), none, .p (.fa 2 (.t 43))⟩,
 ⟨(some 45), none, .p (.ld1 (.t 44))⟩,
 ⟨(some 46), none, .p (.len (.t 45))⟩,
 ⟨(some 47), none, .p (.bin .sub (.i .i64) (.t 46) (.c (i64 1)))⟩,
 ⟨(some 48), none, .p (.fa 2 (.t 3))⟩,
 ⟨(some 49), none, .p (.ld1 (.t 48))⟩,
 ⟨(some 50), none, .e (.bsl 3 1 1 [i64 0] [(0, (.t 49))])⟩,
 ⟨(some 51), none, .q (.c (.fn (.func 89) [] [])) [(.c (i64 0)), (.t 47), (.t 50)]⟩,
 ⟨(some 4), none, .p (.mov (.t 51))⟩])
 .ret))))
def r85 : List RS := [.t 4]
theorem c85 : chkF Try.prog drawB Try.f85 i85 r85 = true := by kernel_rfl
/-- (*parlour/recall.walker).end -/
def i86 : IC :=
 (.seq
 (.reg [
 ⟨(some 3), none, .e (.box 74 (.t 1))⟩,
 ⟨(some 4), none, .p (.mov (.c (i64 0)))⟩])
 (.seq
 (.seq
 (.drw [0, 1, 2, 3, 4, 5, 6, 7, 8, 9, 10, 11, 12, 13, 14, 15, 16, 17, 18, 19, 20, 21, 22, 23, 24, 25, 26, 27, 28, 29, 30] [
 ⟨(some 5), none, .p (.fa 1 (.t 3))⟩,
 ⟨(some 6), none, .p (.ld1 (.t 5))⟩,
 ⟨(some 7), none, .p (.bin .neq (.i .i64) (.t 6) (.c (i64 0)))⟩,
 ⟨(some 8), none, .p (.mov (.t 7))⟩,
 ⟨(some 9), (some (8, false)), .p (.fa 2 (.t 3))⟩,
 ⟨(some 10), (some (8, false)), .p (.ld1 (.t 9))⟩,
 ⟨(some 11), (some (8, false)), .p (.bin .neq (.i .i64) (.t 10) (.c (i64 0)))⟩,
 ⟨(some 12), none, .p (.pick (.t 8) (.c (bl true)) (.t 11))⟩,
 ⟨(some 13), none, .p (.mov (.t 12))⟩,
 ⟨(some 14), (some (13, false)), .p (.fa 3 (.t 3))⟩,
 ⟨(some 15), (some (13, false)), .p (.ld1 (.t 14))⟩,
 ⟨(some 16), (some (13, false)), .p (.len (.t 15))⟩,
 ⟨(some 17), (some (13, false)), .p (.bin .gtr (.i .i64) (.t 16) (.c (i64 0)))⟩,
 ⟨(some 18), none, .p (.pick (.t 13) (.c (bl true)) (.t 17))⟩,
 ⟨(some 19), none, .p (.mov (.t 18))⟩,
 ⟨(some 20), (some (19, false)), .p (.fa 4 (.t 3))⟩,
 ⟨(some 21), (some (19, false)), .p (.ld1 (.t 20))⟩,
 ⟨(some 22), (some (19, false)), .p (.len (.t 21))⟩,
 ⟨(some 23), (some (19, false)), .p (.bin .gtr (.i .i64) (.t 22) (.c (i64 0)))⟩,
 ⟨(some 24), none, .p (.pick (.t 19) (.c (bl true)) (.t 23))⟩,
 ⟨(some 25), none, .p (.mov (.t 24))⟩,
 ⟨(some 26), (some (25, false)), .p (.fa 5 (.t 3))⟩,
 ⟨(some 27), (some (25, false)), .p (.ld1 (.t 26))⟩,
 ⟨(some 28), (some (25, false)), .p (.len (.t 27))⟩,
 ⟨(some 29), (some (25, false)), .p (.mov (.t 0))⟩,
 ⟨(some 30), (some (25, false)), .p (.nck (.t 29))⟩,
 ⟨(some 31), (some (25, false)), .p (.fa 0 (.t 30))⟩,
 ⟨(some 32), (some (25, false)), .p (.fa 0 (.t 31))⟩,
 ⟨(some 33), (some (25, false)), .p (.ld1 (.t 32))⟩,
 ⟨(some 34), (some (25, false)), .p (.bin .neq (.i .i64) (.t 28) (.t 33))⟩,
 ⟨(some 35), none, .p (.pick (.t 25) (.c (bl true)) (.t 34))⟩])
 (.cond (.t 35)
 (.seq
 (.reg [
 ⟨(some 4), none, .p (.mov (.c (i64 3)))⟩])
 .ret)
 .skip))
 (.seq
 (.reg [
 ⟨(some 36), none, .p (.fa 5 (.t 3))⟩,
 ⟨(some 37), none, .p (.ld1 (.t 36))⟩,
 ⟨(some 38), none, .e (.call (.c (.fn (.func 89) [] [])) [(.c (i64 (-1000000))), (.c (i64 1000000)), (.t 37)])⟩,
 ⟨(some 4), none, .p (.mov (.t 38))⟩])
 .ret)))
def r86 : List RS := [.t 4]
theorem c86 : chkF Try.prog drawB Try.f86 i86 r86 = true := by kernel_rfl
/-- slices.Contains(()int,int) -/
def i87 : IC :=
 (.seq
 (.reg [
 ⟨(some 4), none, .p (.mov (.c (bl false)))⟩])
 (.seq
 (.reg [
 ⟨(some 5), none, .p (.mov (.t 0))⟩,
 ⟨(some 6), none, .p (.mov (.t 1))⟩,
 ⟨(some 7), none, .e (.call (.c (.fn (.func 90) [] [])) [(.t 5), (.t 6)])⟩,
 ⟨(some 8), none, .p (.bin .geq (.i .i64) (.t 7) (.c (i64 0)))⟩,
 ⟨(some 4), none, .p (.mov (.t 8))⟩])
 .ret))
def r87 : List RS := [.t 4]
theorem c87 : chkF Try.prog drawB Try.f87 i87 r87 = true := by kernel_rfl
def l88_0 : IC := .keep [0, 3]
 (.seq
 (.seq
 (.reg [
 ⟨(some 7), none, .p (.mov (.t 3))⟩,
 ⟨(some 8), none, .p (.bin .gtr (.i .i64) (.t 7) (.c (i64 0)))⟩])
 (.cond (.t 8)
 .skip
 (.exit 0)))
 (.seq
 (.blk 1
 (.seq
 (.drw [0, 1, 2, 3, 4, 5, 6, 7, 8, 9] [
 ⟨(some 11), none, .p (.mov (.t 0))⟩,
 ⟨(some 12), none, .p (.mov (.t 3))⟩,
 ⟨(some 13), none, .p (.ia 1 (.t 11) (.t 12))⟩,
 ⟨(some 14), none, .p (.ld1 (.t 13))⟩,
 ⟨(some 15), none, .p (.mov (.t 0))⟩,
 ⟨(some 16), none, .p (.mov (.t 3))⟩,
 ⟨(some 17), none, .p (.bin .sub (.i .i64) (.t 16) (.c (i64 1)))⟩,
 ⟨(some 18), none, .p (.ia 1 (.t 15) (.t 17))⟩,
 ⟨(some 19), none, .p (.ld1 (.t 18))⟩,
 ⟨(some 20), none, .q (.c (.fn (.func 91) [] [])) [(.t 14), (.t 19)]⟩])
 (.cond (.t 20)
 (.seq
 (.reg [
 ⟨(some 2), none, .p (.mov (.c (bl false)))⟩])
 .ret)
 .skip)))
 (.reg [
 ⟨(some 9), none, .p (.mov (.t 3))⟩,
 ⟨(some 10), none, .p (.bin .sub (.i .i64) (.t 9) (.c (i64 1)))⟩,
 ⟨(some 3), none, .p (.mov (.t 10))⟩])))
/-- slices.IsSorted(()int,int) -/
def i88 : IC :=
 (.seq
 (.reg [
 ⟨(some 2), none, .p (.mov (.c (bl false)))⟩])
 (.seq
 (.seq
 (.reg [
 ⟨(some 4), none, .p (.mov (.t 0))⟩,
 ⟨(some 5), none, .p (.len (.t 4))⟩,
 ⟨(some 6), none, .p (.bin .sub (.i .i64) (.t 5) (.c (i64 1)))⟩,
 ⟨(some 3), none, .p (.mov (.t 6))⟩])
 (.blk 0
 (.loop l88_0)))
 (.seq
 (.reg [
 ⟨(some 2), none, .p (.mov (.c (bl true)))⟩])
 .ret)))
def r88 : List RS := [.t 2]
theorem c88 : chkF Try.prog drawB Try.f88 i88 r88 = true := by kernel_rfl
/-- parlour/recall.within -/
def i89 : IC :=
 (.seq
 (.reg [
 ⟨(some 3), none, .e (.box 3 (.t 0))⟩,
 ⟨(some 4), none, .e (.box 3 (.t 1))⟩,
 ⟨(some 6), none, .p (.mov (.c (i64 0)))⟩])
 (.seq
 (.seq
 (.reg [
 ⟨(some 7), none, .p (.mov (.t 2))⟩,
 ⟨(some 8), none, .p (.mkf (.func 93) [] [(.t 3), (.t 4)])⟩,
 ⟨(some 9), none, .e (.call (.c (.fn (.func 92) [] [])) [(.t 7), (.t 8)])⟩])
 (.cond (.t 9)
 (.seq
 (.reg [
 ⟨(some 6), none, .p (.mov (.c (i64 2)))⟩])
 .ret)
 .skip))
 (.seq
 (.reg [
 ⟨(some 6), none, .p (.mov (.c (i64 0)))⟩])
 .ret)))
def r89 : List RS := [.t 6]
theorem c89 : chkF Try.prog drawB Try.f89 i89 r89 = true := by kernel_rfl
def l90_0 : IC := .keep [0, 1, 7, 8]
 (.seq
 (.reg [
 ⟨(some 9), none, .p (.bin .lss (.i .i64) (.t 8) (.t 7))⟩])
 (.seq
 (.cond (.t 9)
 .skip
 (.exit 0))
 (.seq
 (.blk 1
 (.seq
 (.reg [
 ⟨(some 10), none, .p (.mov (.t 8))⟩,
 ⟨(some 5), none, .p (.mov (.t 10))⟩])
 (.seq
 (.reg [
 ⟨(some 11), none, .p (.mov (.t 1))⟩,
 ⟨(some 12), none, .p (.mov (.t 0))⟩,
 ⟨(some 13), none, .p (.mov (.t 5))⟩,
 ⟨(some 14), none, .p (.ia 1 (.t 12) (.t 13))⟩,
 ⟨(some 15), none, .p (.ld1 (.t 14))⟩,
 ⟨(some 16), none, .p (.bin .eql (.i .i64) (.t 11) (.t 15))⟩])
 (.cond (.t 16)
 (.seq
 (.reg [
 ⟨(some 17), none, .p (.mov (.t 5))⟩,
 ⟨(some 4), none, .p (.mov (.t 17))⟩])
 .ret)
 .skip))))
 (.reg [
 ⟨(some 18), none, .p (.bin .add (.i .i64) (.t 8) (.c (i64 1)))⟩,
 ⟨(some 8), none, .p (.mov (.t 18))⟩]))))
/-- slices.Index(()int,int) -/
def i90 : IC :=
 (.seq
 (.reg [
 ⟨(some 4), none, .p (.mov (.c (i64 0)))⟩])
 (.seq
 (.seq
 (.reg [
 ⟨(some 6), none, .p (.mov (.t 0))⟩,
 ⟨(some 7), none, .p (.len (.t 6))⟩,
 ⟨(some 8), none, .p (.mov (.c (i64 0)))⟩])
 (.blk 0
 (.loop l90_0)))
 (.seq
 (.reg [
 ⟨(some 4), none, .p (.mov (.c (i64 (-1))))⟩])
 .ret)))
def r90 : List RS := [.t 4]
theorem c90 : chkF Try.prog drawB Try.f90 i90 r90 = true := by kernel_rfl
/-- cmp.Less(int) -/
def i91 : IC :=
 (.seq
 (.reg [
 ⟨(some 4), none, .p (.mov (.c (bl false)))⟩])
 (.seq
 (.reg [
 ⟨(some 5), none, .p (.mov (.t 0))⟩,
 ⟨(some 6), none, .e (.call (.c (.fn (.func 94) [] [])) [(.t 5)])⟩,
 ⟨(some 7), none, .p (.mov (.t 6))⟩,
 ⟨(some 8), (some (7, true)), .p (.mov (.t 1))⟩,
 ⟨(some 9), (some (7, true)), .q (.c (.fn (.func 94) [] [])) [(.t 8)]⟩,
 ⟨(some 10), (some (7, true)), .p (.not (.t 9))⟩,
 ⟨(some 11), none, .p (.pick (.t 7) (.t 10) (.c (bl false)))⟩,
 ⟨(some 12), none, .p (.mov (.t 11))⟩,
 ⟨(some 13), (some (12, false)), .p (.mov (.t 0))⟩,
 ⟨(some 14), (some (12, false)), .p (.mov (.t 1))⟩,
 ⟨(some 15), (some (12, false)), .p (.bin .lss (.i .i64) (.t 13) (.t 14))⟩,
 ⟨(some 16), none, .p (.pick (.t 12) (.c (bl true)) (.t 15))⟩,
 ⟨(some 4), none, .p (.mov (.t 16))⟩])
 .ret))
def r91 : List RS := [.t 4]
theorem c91 : chkF Try.prog drawB Try.f91 i91 r91 = true := by kernel_rfl
/-- slices.ContainsFunc(()int,int) -/
def i92 : IC :=
 (.seq
 (.reg [
 ⟨(some 4), none, .p (.mov (.c (bl false)))⟩])
 (.seq
 (.reg [
 ⟨(some 5), none, .p (.mov (.t 0))⟩,
 ⟨(some 6), none, .p (.mov (.t 1))⟩,
 ⟨(some 7), none, .e (.call (.c (.fn (.func 95) [] [])) [(.t 5), (.t 6)])⟩,
 ⟨(some 8), none, .p (.bin .geq (.i .i64) (.t 7) (.c (i64 0)))⟩,
 ⟨(some 4), none, .p (.mov (.t 8))⟩])
 .ret))
def r92 : List RS := [.t 4]
theorem c92 : chkF Try.prog drawB Try.f92 i92 r92 = true := by kernel_rfl
/-- parlour/recall.within$1 -/
def i93 : IC :=
 (.seq
 (.reg [
 ⟨(some 4), none, .p (.mov (.c (bl false)))⟩])
 (.seq
 (.reg [
 ⟨(some 5), none, .p (.mov (.t 0))⟩,
 ⟨(some 6), none, .p (.ld1 (.t 1))⟩,
 ⟨(some 7), none, .p (.bin .lss (.i .i64) (.t 5) (.t 6))⟩,
 ⟨(some 8), none, .p (.mov (.t 7))⟩,
 ⟨(some 9), (some (8, false)), .p (.mov (.t 0))⟩,
 ⟨(some 10), (some (8, false)), .p (.ld1 (.t 2))⟩,
 ⟨(some 11), (some (8, false)), .p (.bin .gtr (.i .i64) (.t 9) (.t 10))⟩,
 ⟨(some 12), none, .p (.pick (.t 8) (.c (bl true)) (.t 11))⟩,
 ⟨(some 4), none, .p (.mov (.t 12))⟩])
 .ret))
def r93 : List RS := [.t 4]
theorem c93 : chkF Try.prog drawB Try.f93 i93 r93 = true := by kernel_rfl
/-- cmp.isNaN(int) -/
def i94 : IC :=
 (.seq
 (.reg [
 ⟨(some 2), none, .p (.mov (.c (bl false)))⟩])
 (.seq
 (.reg [
 ⟨(some 3), none, .p (.mov (.t 0))⟩,
 ⟨(some 4), none, .p (.mov (.t 0))⟩,
 ⟨(some 5), none, .p (.bin .neq (.i .i64) (.t 3) (.t 4))⟩,
 ⟨(some 2), none, .p (.mov (.t 5))⟩])
 .ret))
def r94 : List RS := [.t 2]
theorem c94 : chkF Try.prog drawB Try.f94 i94 r94 = true := by kernel_rfl
def l95_0 : IC := .keep [0, 1, 7, 8]
 (.seq
 (.reg [
 ⟨(some 9), none, .p (.bin .lss (.i .i64) (.t 8) (.t 7))⟩])
 (.seq
 (.cond (.t 9)
 .skip
 (.exit 0))
 (.seq
 (.blk 1
 (.seq
 (.reg [
 ⟨(some 10), none, .p (.mov (.t 8))⟩,
 ⟨(some 5), none, .p (.mov (.t 10))⟩])
 (.seq
 (.reg [
 ⟨(some 11), none, .p (.mov (.t 1))⟩,
 ⟨(some 12), none, .p (.mov (.t 0))⟩,
 ⟨(some 13), none, .p (.mov (.t 5))⟩,
 ⟨(some 14), none, .p (.ia 1 (.t 12) (.t 13))⟩,
 ⟨(some 15), none, .p (.ld1 (.t 14))⟩,
 ⟨(some 16), none, .e (.call (.t 11) [(.t 15)])⟩])
 (.cond (.t 16)
 (.seq
 (.reg [
 ⟨(some 17), none, .p (.mov (.t 5))⟩,
 ⟨(some 4), none, .p (.mov (.t 17))⟩])
 .ret)
 .skip))))
 (.reg [
 ⟨(some 18), none, .p (.bin .add (.i .i64) (.t 8) (.c (i64 1)))⟩,
 ⟨(some 8), none, .p (.mov (.t 18))⟩]))))
/-- slices.IndexFunc(()int,int) -/
def i95 : IC :=
 (.seq
 (.reg [
 ⟨(some 4), none, .p (.mov (.c (i64 0)))⟩])
 (.seq
 (.seq
 (.reg [
 ⟨(some 6), none, .p (.mov (.t 0))⟩,
 ⟨(some 7), none, .p (.len (.t 6))⟩,
 ⟨(some 8), none, .p (.mov (.c (i64 0)))⟩])
 (.blk 0
 (.loop l95_0)))
 (.seq
 (.reg [
 ⟨(some 4), none, .p (.mov (.c (i64 (-1))))⟩])
 .ret)))
def r95 : List RS := [.t 4]
theorem c95 : chkF Try.prog drawB Try.f95 i95 r95 = true := by kernel_rfl
def rows : List (Option Row) := [none,
 none,
 none,
 none,
 none,
 none,
 none,
 none,
 none,
 none,
 some ⟨i10, r10, 0, false⟩,
 some ⟨i11, r11, 1, false⟩,
 none,
 some ⟨i13, r13, 1, false⟩,
 none,
 some ⟨i15, r15, 2, false⟩,
 some ⟨i16, r16, 1, false⟩,
 none,
 none,
 none,
 some ⟨i20, r20, 1, false⟩,
 none,
 some ⟨i22, r22, 2, false⟩,
 none,
 none,
 some ⟨i25, r25, 0, false⟩,
 none,
 some ⟨i27, r27, 0, false⟩,
 none,
 none,
 none,
 none,
 none,
 none,
 none,
 none,
 some ⟨i36, r36, 1, false⟩,
 some ⟨i37, r37, 1, false⟩,
 some ⟨i38, r38, 2, true⟩,
 some ⟨i39, r39, 2, true⟩,
 some ⟨i40, r40, 1, true⟩,
 none,
 none,
 none,
 some ⟨i44, r44, 1, false⟩,
 none,
 none,
 none,
 none,
 none,
 none,
 none,
 none,
 none,
 none,
 none,
 none,
 none,
 none,
 none,
 none,
 none,
 none,
 none,
 some ⟨i64x, r64, 1, false⟩,
 some ⟨i65, r65, 1, true⟩,
 none,
 none,
 none,
 some ⟨i69, r69, 1, false⟩,
 none,
 none,
 none,
 none,
 none,
 none,
 none,
 some ⟨i77, r77, 2, false⟩,
 some ⟨i78, r78, 4, true⟩,
 some ⟨i79, r79, 1, false⟩,
 some ⟨i80, r80, 1, false⟩,
 some ⟨i81, r81, 2, true⟩,
 some ⟨i82, r82, 2, true⟩,
 none,
 some ⟨i84, r84, 2, false⟩,
 some ⟨i85, r85, 2, false⟩,
 some ⟨i86, r86, 2, false⟩,
 some ⟨i87, r87, 2, false⟩,
 some ⟨i88, r88, 1, false⟩,
 some ⟨i89, r89, 3, false⟩,
 some ⟨i90, r90, 2, false⟩,
 some ⟨i91, r91, 2, false⟩,
 some ⟨i92, r92, 2, false⟩,
 some ⟨i93, r93, 3, false⟩,
 some ⟨i94, r94, 1, false⟩,
 some ⟨i95, r95, 2, false⟩,
 none,
 none,
 none,
 none,
 none,
 none,
 none,
 none,
 none,
 none,
 none,
 none,
 none,
 none,
 none,
 none,
 none,
 none]
def rtL : List RT := [⟨14, [8], ya38_0, yb38_0⟩,
 ⟨55, [22], ya44_0, yb44_0⟩]
def rt : Nat → Option RT := fun k => rtL[k]?
end Go.Proofs.Ytoghpbjllompaaa

