/-
  Steps of the proof: contracts of functions and plain facts that the statement rests on.
-/
import Derived.Test.YtiikfkacbglblaaCore4
import Derived.Test.YtiikfkacbglblaaRows
set_option linter.all false
namespace Go.Proofs.Ytiikfkacbglblaa
open Go.Ab
/-- parlour/parlourlaw11.RecallForms -/
def i3 : IC :=
 (.seq
 (.reg [
 ⟨(some 1), none, .e (.box 25 (.t 0))⟩,
 ⟨(some 2), none, .p (.mov (.c (bl false)))⟩])
 (.seq
 (.seq
 (.reg [
 ⟨(some 4), none, .p (.ldn 3 (.t 1))⟩,
 ⟨(some 5), none, .e (.call (.c (.fn (.func 9) [] [])) [(.t 4)])⟩])
 (.cond (.t 5)
 (.seq
 (.reg [
 ⟨(some 6), none, .e (.call (.c (.fn (.func 10) [] [])) [])⟩,
 ⟨(some 2), none, .p (.mov (.t 6))⟩])
 .ret)
 .skip))
 (.seq
 (.reg [
 ⟨(some 7), none, .p (.ldn 3 (.t 1))⟩,
 ⟨(some 8), none, .e (.call (.c (.fn (.func 11) [] [])) [(.t 7)])⟩,
 ⟨(some 3), none, .e (.alc 25 [i64 0, .val (.slice none 0 0), .val (.slice none 0 0)])⟩,
 ⟨none, none, .e (.st 3 (.t 3) (.t 8))⟩])
 (.seq
 (.drw [0, 1, 2, 3, 4, 5, 6, 7, 8, 9, 10, 11, 12, 13] [
 ⟨(some 9), none, .p (.ldn 3 (.t 1))⟩,
 ⟨(some 10), none, .q (.c (.fn (.func 12) [] [])) [(.t 9)]⟩,
 ⟨(some 11), none, .p (.ldn 3 (.t 1))⟩,
 ⟨(some 12), none, .q (.c (.fn (.func 13) [] [])) [(.t 11)]⟩,
 ⟨(some 13), none, .p (.bin .eql (.i .i64) (.t 10) (.t 12))⟩,
 ⟨(some 14), none, .p (.mov (.t 13))⟩,
 ⟨(some 15), (some (14, true)), .p (.ldn 3 (.t 1))⟩,
 ⟨(some 16), (some (14, true)), .p (.ldn 3 (.t 3))⟩,
 ⟨(some 17), (some (14, true)), .q (.c (.fn (.func 14) [] [])) [(.t 15), (.t 16)]⟩,
 ⟨(some 18), none, .p (.pick (.t 14) (.t 17) (.c (bl false)))⟩,
 ⟨(some 19), none, .p (.mov (.t 18))⟩,
 ⟨(some 20), (some (19, true)), .q (.c (.fn (.func 10) [] [])) []⟩,
 ⟨(some 21), none, .p (.pick (.t 19) (.t 20) (.c (bl false)))⟩,
 ⟨(some 2), none, .p (.mov (.t 21))⟩])
 .ret))))
def r3 : List RS := [.t 2]
theorem c3 : chkF Try.prog drawB Try.f3 i3 r3 = true := by kernel_rfl
/-- parlour/parlourlaw11.RecallKnown -/
def g4_0 : IC :=
 (.reg [
 ⟨(some 0), none, .p (.mov (.c (bl false)))⟩])
def g4_1 : IC :=
 (.reg [
 ⟨(some 27), none, .e (.call (.c (.fn (.func 15) [] [])) [])⟩,
 ⟨(some 28), none, .e (.call (.c (.fn (.func 15) [] [])) [])⟩,
 ⟨(some 29), none, .e (.call (.c (.fn (.func 15) [] [])) [])⟩,
 ⟨(some 30), none, .e (.call (.c (.fn (.func 15) [] [])) [])⟩,
 ⟨(some 31), none, .e (.call (.c (.fn (.func 15) [] [])) [])⟩,
 ⟨(some 32), none, .e (.call (.c (.fn (.func 15) [] [])) [])⟩,
 ⟨(some 33), none, .e (.call (.c (.fn (.func 15) [] [])) [])⟩,
 ⟨(some 1), none, .e (.alc 25 [i64 0, .val (.slice none 0 0), .val (.slice none 0 0)])⟩,
 ⟨(some 2), none, .e (.alc 25 [i64 0, .val (.slice none 0 0), .val (.slice none 0 0)])⟩,
 ⟨(some 3), none, .e (.alc 25 [i64 0, .val (.slice none 0 0), .val (.slice none 0 0)])⟩,
 ⟨(some 4), none, .e (.alc 25 [i64 0, .val (.slice none 0 0), .val (.slice none 0 0)])⟩,
 ⟨(some 5), none, .e (.alc 25 [i64 0, .val (.slice none 0 0), .val (.slice none 0 0)])⟩,
 ⟨(some 6), none, .e (.alc 25 [i64 0, .val (.slice none 0 0), .val (.slice none 0 0)])⟩,
 ⟨(some 7), none, .e (.alc 25 [i64 0, .val (.slice none 0 0), .val (.slice none 0 0)])⟩,
 ⟨none, none, .e (.st 3 (.t 1) (.t 27))⟩,
 ⟨none, none, .e (.st 3 (.t 2) (.t 28))⟩,
 ⟨none, none, .e (.st 3 (.t 3) (.t 29))⟩,
 ⟨none, none, .e (.st 3 (.t 4) (.t 30))⟩,
 ⟨none, none, .e (.st 3 (.t 5) (.t 31))⟩,
 ⟨none, none, .e (.st 3 (.t 6) (.t 32))⟩,
 ⟨none, none, .e (.st 3 (.t 7) (.t 33))⟩])
def g4_2 : IC :=
 (.reg [
 ⟨(some 34), none, .p (.fa 0 (.t 1))⟩,
 ⟨none, none, .e (.st 1 (.t 34) (.c (i64 1)))⟩,
 ⟨(some 35), none, .p (.fa 0 (.t 2))⟩,
 ⟨none, none, .e (.st 1 (.t 35) (.c (i64 5)))⟩])
def g4_3 : IC :=
 (.reg [
 ⟨(some 36), none, .p (.fa 2 (.t 3))⟩,
 ⟨(some 37), none, .p (.ld1 (.t 36))⟩,
 ⟨(some 38), none, .p (.ia 2 (.t 37) (.c (i64 1)))⟩,
 ⟨(some 39), none, .p (.fa 1 (.t 38))⟩,
 ⟨none, none, .e (.st 1 (.t 39) (.c (i64 3)))⟩])
def g4_4 : IC :=
 (.drw [0, 1, 2, 3, 4, 5, 6, 7, 8, 9, 10, 11, 12, 13, 14, 15] [
 ⟨(some 40), none, .p (.fa 2 (.t 4))⟩,
 ⟨(some 41), none, .p (.ld1 (.t 40))⟩,
 ⟨(some 42), none, .p (.fa 2 (.t 4))⟩,
 ⟨(some 43), none, .p (.ld1 (.t 42))⟩,
 ⟨(some 44), none, .p (.fa 2 (.t 4))⟩,
 ⟨(some 45), none, .p (.ld1 (.t 44))⟩,
 ⟨(some 46), none, .p (.ia 2 (.t 45) (.c (i64 1)))⟩,
 ⟨(some 47), none, .p (.ldn 2 (.t 46))⟩,
 ⟨(some 48), none, .p (.fa 2 (.t 4))⟩,
 ⟨(some 49), none, .p (.ld1 (.t 48))⟩,
 ⟨(some 50), none, .p (.ia 2 (.t 49) (.c (i64 0)))⟩,
 ⟨(some 51), none, .p (.ldn 2 (.t 50))⟩,
 ⟨(some 52), none, .p (.ia 2 (.t 41) (.c (i64 0)))⟩,
 ⟨none, none, .e (.stw [51, 49] 2 (.t 52) (.t 47))⟩,
 ⟨(some 53), none, .p (.ia 2 (.t 43) (.c (i64 1)))⟩,
 ⟨none, none, .e (.stw [47, 45, 41] 2 (.t 53) (.t 51))⟩])
def g4_5 : IC :=
 (.drw [0, 1, 2, 3, 4, 5, 6, 7, 8, 9, 10, 11, 12, 13, 14] [
 ⟨(some 54), none, .p (.fa 1 (.t 4))⟩,
 ⟨(some 55), none, .p (.ld1 (.t 54))⟩,
 ⟨(some 56), none, .p (.fa 1 (.t 4))⟩,
 ⟨(some 57), none, .p (.ld1 (.t 56))⟩,
 ⟨(some 58), none, .p (.fa 1 (.t 4))⟩,
 ⟨(some 59), none, .p (.ld1 (.t 58))⟩,
 ⟨(some 60), none, .p (.ia 6 (.t 55) (.c (i64 0)))⟩,
 ⟨(some 61), none, .p (.fa 2 (.t 60))⟩,
 ⟨none, none, .e (.st 1 (.t 61) (.c (i64 1)))⟩,
 ⟨(some 62), none, .p (.ia 6 (.t 57) (.c (i64 1)))⟩,
 ⟨(some 63), none, .p (.fa 2 (.t 62))⟩,
 ⟨none, none, .e (.stw [55] 1 (.t 63) (.c (i64 0)))⟩,
 ⟨(some 64), none, .p (.ia 6 (.t 59) (.c (i64 4)))⟩,
 ⟨(some 65), none, .p (.fa 2 (.t 64))⟩,
 ⟨none, none, .e (.stw [57, 55] 1 (.t 65) (.c (i64 0)))⟩])
def g4_6 : IC :=
 (.reg [
 ⟨(some 66), none, .p (.fa 2 (.t 5))⟩,
 ⟨(some 67), none, .p (.ld1 (.t 66))⟩,
 ⟨(some 68), none, .p (.bld [i64 0, i64 0] [(1, 1, (.c (i64 1)))])⟩,
 ⟨(some 69), none, .e (.bsl 34 2 1 [i64 0, i64 0] [(0, (.t 68))])⟩,
 ⟨(some 70), none, .e (.app 34 2 16 (.t 67) (.t 69))⟩,
 ⟨(some 71), none, .p (.fa 2 (.t 5))⟩,
 ⟨none, none, .e (.st 1 (.t 71) (.t 70))⟩])
def g4_7 : IC :=
 (.reg [
 ⟨(some 72), none, .p (.fa 1 (.t 6))⟩,
 ⟨(some 73), none, .p (.ld1 (.t 72))⟩,
 ⟨(some 74), none, .e (.bsl 3 1 2 [i64 0] [(0, (.c (i64 1))), (1, (.c (i64 1)))])⟩,
 ⟨(some 75), none, .p (.ia 6 (.t 73) (.c (i64 0)))⟩,
 ⟨(some 76), none, .p (.fa 4 (.t 75))⟩,
 ⟨none, none, .e (.st 1 (.t 76) (.t 74))⟩])
def g4_8 : IC :=
 (.reg [
 ⟨(some 77), none, .p (.fa 1 (.t 7))⟩,
 ⟨(some 78), none, .p (.ld1 (.t 77))⟩,
 ⟨(some 79), none, .p (.ia 6 (.t 78) (.c (i64 1)))⟩,
 ⟨(some 80), none, .p (.fa 1 (.t 79))⟩,
 ⟨none, none, .e (.st 1 (.t 80) (.c (i64 2)))⟩])
def g4_9 : IC :=
 (.reg [
 ⟨(some 81), none, .p (.ldn 3 (.t 1))⟩,
 ⟨(some 82), none, .e (.call (.c (.fn (.func 12) [] [])) [(.t 81)])⟩,
 ⟨(some 83), none, .p (.bin .eql (.i .i64) (.t 82) (.c (i64 2)))⟩,
 ⟨(some 84), none, .p (.mov (.t 83))⟩,
 ⟨(some 85), (some (84, true)), .p (.ldn 3 (.t 2))⟩,
 ⟨(some 86), (some (84, true)), .q (.c (.fn (.func 12) [] [])) [(.t 85)]⟩,
 ⟨(some 87), (some (84, true)), .p (.bin .eql (.i .i64) (.t 86) (.c (i64 2)))⟩,
 ⟨(some 88), none, .p (.pick (.t 84) (.t 87) (.c (bl false)))⟩,
 ⟨(some 89), none, .p (.mov (.t 88))⟩,
 ⟨(some 90), (some (89, true)), .p (.ldn 3 (.t 3))⟩,
 ⟨(some 91), (some (89, true)), .q (.c (.fn (.func 12) [] [])) [(.t 90)]⟩,
 ⟨(some 92), (some (89, true)), .p (.bin .eql (.i .i64) (.t 91) (.c (i64 10)))⟩,
 ⟨(some 93), none, .p (.pick (.t 89) (.t 92) (.c (bl false)))⟩,
 ⟨(some 94), none, .p (.mov (.t 93))⟩,
 ⟨(some 95), (some (94, true)), .p (.ldn 3 (.t 4))⟩,
 ⟨(some 96), (some (94, true)), .q (.c (.fn (.func 12) [] [])) [(.t 95)]⟩,
 ⟨(some 97), (some (94, true)), .p (.bin .eql (.i .i64) (.t 96) (.c (i64 9)))⟩,
 ⟨(some 98), none, .p (.pick (.t 94) (.t 97) (.c (bl false)))⟩,
 ⟨(some 99), none, .p (.mov (.t 98))⟩,
 ⟨(some 100), (some (99, true)), .p (.ldn 3 (.t 5))⟩,
 ⟨(some 101), (some (99, true)), .q (.c (.fn (.func 12) [] [])) [(.t 100)]⟩,
 ⟨(some 102), (some (99, true)), .p (.bin .eql (.i .i64) (.t 101) (.c (i64 18)))⟩,
 ⟨(some 103), none, .p (.pick (.t 99) (.t 102) (.c (bl false)))⟩,
 ⟨(some 104), none, .p (.mov (.t 103))⟩,
 ⟨(some 105), (some (104, true)), .p (.ldn 3 (.t 6))⟩,
 ⟨(some 106), (some (104, true)), .q (.c (.fn (.func 12) [] [])) [(.t 105)]⟩,
 ⟨(some 107), (some (104, true)), .p (.bin .eql (.i .i64) (.t 106) (.c (i64 3)))⟩,
 ⟨(some 108), none, .p (.pick (.t 104) (.t 107) (.c (bl false)))⟩,
 ⟨(some 109), none, .p (.mov (.t 108))⟩,
 ⟨(some 110), (some (109, true)), .p (.ldn 3 (.t 7))⟩,
 ⟨(some 111), (some (109, true)), .q (.c (.fn (.func 12) [] [])) [(.t 110)]⟩,
 ⟨(some 112), (some (109, true)), .p (.bin .eql (.i .i64) (.t 111) (.c (i64 2)))⟩,
 ⟨(some 113), none, .p (.pick (.t 109) (.t 112) (.c (bl false)))⟩,
 ⟨(some 8), none, .p (.mov (.t 113))⟩])
def g4_10 : IC :=
 (.reg [
 ⟨(some 115), none, .e (.call (.c (.fn (.func 15) [] [])) [])⟩,
 ⟨(some 116), none, .e (.call (.c (.fn (.func 16) [] [])) [(.t 115), (.c (i64 1))])⟩,
 ⟨(some 114), none, .p (.mov (.t 116))⟩,
 ⟨(some 117), none, .p (.ext (.t 114) 0)⟩,
 ⟨(some 118), none, .p (.ext (.t 114) 1)⟩,
 ⟨(some 9), none, .p (.mov (.t 117))⟩,
 ⟨(some 10), none, .p (.mov (.t 118))⟩])
def g4_11 : IC :=
 (.reg [
 ⟨(some 120), none, .e (.call (.c (.fn (.func 15) [] [])) [])⟩,
 ⟨(some 121), none, .e (.call (.c (.fn (.func 17) [] [])) [(.t 120)])⟩,
 ⟨(some 119), none, .p (.mov (.t 121))⟩,
 ⟨(some 122), none, .p (.ext (.t 119) 0)⟩,
 ⟨(some 123), none, .p (.ext (.t 119) 1)⟩,
 ⟨(some 11), none, .p (.mov (.t 122))⟩,
 ⟨(some 12), none, .p (.mov (.t 123))⟩])
def g4_12 : IC :=
 (.reg [
 ⟨(some 125), none, .e (.call (.c (.fn (.func 15) [] [])) [])⟩,
 ⟨(some 126), none, .e (.call (.c (.fn (.func 16) [] [])) [(.t 125), (.c (i64 2))])⟩,
 ⟨(some 124), none, .p (.mov (.t 126))⟩,
 ⟨(some 127), none, .p (.ext (.t 124) 0)⟩,
 ⟨(some 128), none, .p (.ext (.t 124) 1)⟩,
 ⟨(some 13), none, .p (.mov (.t 127))⟩,
 ⟨(some 14), none, .p (.mov (.t 128))⟩])
def g4_13 : IC :=
 (.reg [
 ⟨(some 129), none, .p (.mov (.t 9))⟩,
 ⟨(some 130), none, .p (.mov (.t 129))⟩,
 ⟨(some 131), (some (130, true)), .p (.mov (.t 10))⟩,
 ⟨(some 132), (some (130, true)), .p (.bin .eql (.i .i64) (.t 131) (.c (i64 0)))⟩,
 ⟨(some 133), none, .p (.pick (.t 130) (.t 132) (.c (bl false)))⟩,
 ⟨(some 134), none, .p (.mov (.t 133))⟩,
 ⟨(some 135), (some (134, true)), .p (.mov (.t 11))⟩,
 ⟨(some 136), (some (134, true)), .p (.len (.t 135))⟩,
 ⟨(some 137), (some (134, true)), .p (.bin .eql (.i .i64) (.t 136) (.c (i64 0)))⟩,
 ⟨(some 138), none, .p (.pick (.t 134) (.t 137) (.c (bl false)))⟩,
 ⟨(some 139), none, .p (.mov (.t 138))⟩,
 ⟨(some 140), (some (139, true)), .p (.mov (.t 12))⟩,
 ⟨(some 141), (some (139, true)), .p (.bin .eql (.i .i64) (.t 140) (.c (i64 0)))⟩,
 ⟨(some 142), none, .p (.pick (.t 139) (.t 141) (.c (bl false)))⟩,
 ⟨(some 143), none, .p (.mov (.t 142))⟩,
 ⟨(some 144), (some (143, true)), .p (.mov (.t 14))⟩,
 ⟨(some 145), (some (143, true)), .p (.bin .eql (.i .i64) (.t 144) (.c (i64 2)))⟩,
 ⟨(some 146), none, .p (.pick (.t 143) (.t 145) (.c (bl false)))⟩,
 ⟨(some 15), none, .p (.mov (.t 146))⟩])
def g4_14 : IC :=
 (.reg [
 ⟨(some 148), none, .e (.call (.c (.fn (.func 15) [] [])) [])⟩,
 ⟨(some 149), none, .e (.call (.c (.fn (.func 18) [] [])) [(.t 148), (.c (i64 5)), (.c (i64 0))])⟩,
 ⟨(some 147), none, .p (.mov (.t 149))⟩,
 ⟨(some 150), none, .p (.ext (.t 147) 0)⟩,
 ⟨(some 151), none, .p (.ext (.t 147) 1)⟩,
 ⟨(some 16), none, .p (.mov (.t 150))⟩,
 ⟨(some 10), none, .p (.mov (.t 151))⟩])
def g4_15 : IC :=
 (.reg [
 ⟨(some 153), none, .e (.call (.c (.fn (.func 15) [] [])) [])⟩,
 ⟨(some 154), none, .e (.call (.c (.fn (.func 18) [] [])) [(.t 153), (.c (i64 5)), (.c (i64 1))])⟩,
 ⟨(some 152), none, .p (.mov (.t 154))⟩,
 ⟨(some 155), none, .p (.ext (.t 152) 0)⟩,
 ⟨(some 156), none, .p (.ext (.t 152) 1)⟩,
 ⟨(some 17), none, .p (.mov (.t 155))⟩,
 ⟨(some 12), none, .p (.mov (.t 156))⟩])
def g4_16 : IC :=
 (.reg [
 ⟨(some 158), none, .e (.call (.c (.fn (.func 15) [] [])) [])⟩,
 ⟨(some 159), none, .e (.call (.c (.fn (.func 18) [] [])) [(.t 158), (.c (i64 0)), (.c (i64 0))])⟩,
 ⟨(some 157), none, .p (.mov (.t 159))⟩,
 ⟨(some 160), none, .p (.ext (.t 157) 0)⟩,
 ⟨(some 161), none, .p (.ext (.t 157) 1)⟩,
 ⟨(some 18), none, .p (.mov (.t 160))⟩,
 ⟨(some 14), none, .p (.mov (.t 161))⟩])
def g4_17 : IC :=
 (.reg [
 ⟨(some 162), none, .p (.mov (.t 10))⟩,
 ⟨(some 163), none, .p (.bin .eql (.i .i64) (.t 162) (.c (i64 0)))⟩,
 ⟨(some 164), none, .p (.mov (.t 163))⟩,
 ⟨(some 165), (some (164, true)), .p (.mov (.t 16))⟩,
 ⟨(some 166), (some (164, true)), .p (.bld [i64 0, i64 0] [(0, 1, (.c (i64 0))), (1, 1, (.c (i64 1)))])⟩,
 ⟨(some 167), (some (164, true)), .e (.bsl 47 2 1 [i64 0, i64 0] [(0, (.t 166))])⟩,
 ⟨(some 168), (some (164, true)), .q (.c (.fn (.func 19) [] [])) [(.t 165), (.t 167)]⟩,
 ⟨(some 169), none, .p (.pick (.t 164) (.t 168) (.c (bl false)))⟩,
 ⟨(some 170), none, .p (.mov (.t 169))⟩,
 ⟨(some 171), (some (170, true)), .p (.mov (.t 12))⟩,
 ⟨(some 172), (some (170, true)), .p (.bin .eql (.i .i64) (.t 171) (.c (i64 0)))⟩,
 ⟨(some 173), none, .p (.pick (.t 170) (.t 172) (.c (bl false)))⟩,
 ⟨(some 174), none, .p (.mov (.t 173))⟩,
 ⟨(some 175), (some (174, true)), .p (.mov (.t 17))⟩,
 ⟨(some 176), (some (174, true)), .p (.bld [i64 0, i64 0] [(0, 1, (.c (i64 1))), (1, 1, (.c (i64 0)))])⟩,
 ⟨(some 177), (some (174, true)), .e (.bsl 47 2 1 [i64 0, i64 0] [(0, (.t 176))])⟩,
 ⟨(some 178), (some (174, true)), .q (.c (.fn (.func 19) [] [])) [(.t 175), (.t 177)]⟩,
 ⟨(some 179), none, .p (.pick (.t 174) (.t 178) (.c (bl false)))⟩,
 ⟨(some 180), none, .p (.mov (.t 179))⟩,
 ⟨(some 181), (some (180, true)), .p (.mov (.t 14))⟩,
 ⟨(some 182), (some (180, true)), .p (.bin .eql (.i .i64) (.t 181) (.c (i64 0)))⟩,
 ⟨(some 183), none, .p (.pick (.t 180) (.t 182) (.c (bl false)))⟩,
 ⟨(some 184), none, .p (.mov (.t 183))⟩,
 ⟨(some 185), (some (184, true)), .p (.mov (.t 18))⟩,
 ⟨(some 186), (some (184, true)), .p (.len (.t 185))⟩,
 ⟨(some 187), (some (184, true)), .p (.bin .eql (.i .i64) (.t 186) (.c (i64 0)))⟩,
 ⟨(some 188), none, .p (.pick (.t 184) (.t 187) (.c (bl false)))⟩,
 ⟨(some 19), none, .p (.mov (.t 188))⟩])
def g4_18 : IC :=
 (.reg [
 ⟨(some 190), none, .e (.call (.c (.fn (.func 15) [] [])) [])⟩,
 ⟨(some 191), none, .e (.call (.c (.fn (.func 20) [] [])) [(.t 190)])⟩,
 ⟨(some 189), none, .p (.mov (.t 191))⟩,
 ⟨(some 192), none, .p (.ext (.t 189) 0)⟩,
 ⟨(some 193), none, .p (.ext (.t 189) 1)⟩,
 ⟨(some 20), none, .p (.mov (.t 192))⟩,
 ⟨(some 10), none, .p (.mov (.t 193))⟩])
def g4_19 : IC :=
 (.reg [
 ⟨(some 195), none, .e (.call (.c (.fn (.func 15) [] [])) [])⟩,
 ⟨(some 196), none, .e (.call (.c (.fn (.func 21) [] [])) [(.t 195)])⟩,
 ⟨(some 194), none, .p (.mov (.t 196))⟩,
 ⟨(some 197), none, .p (.ext (.t 194) 0)⟩,
 ⟨(some 198), none, .p (.ext (.t 194) 1)⟩,
 ⟨(some 21), none, .p (.mov (.t 197))⟩,
 ⟨(some 12), none, .p (.mov (.t 198))⟩])
def g4_20 : IC :=
 (.reg [
 ⟨(some 200), none, .e (.call (.c (.fn (.func 15) [] [])) [])⟩,
 ⟨(some 201), none, .e (.call (.c (.fn (.func 22) [] [])) [(.t 200), (.c (i64 1))])⟩,
 ⟨(some 199), none, .p (.mov (.t 201))⟩,
 ⟨(some 202), none, .p (.ext (.t 199) 0)⟩,
 ⟨(some 203), none, .p (.ext (.t 199) 1)⟩,
 ⟨(some 22), none, .p (.mov (.t 202))⟩,
 ⟨(some 14), none, .p (.mov (.t 203))⟩])
def g4_21 : IC :=
 (.reg [
 ⟨(some 205), none, .e (.call (.c (.fn (.func 15) [] [])) [])⟩,
 ⟨(some 206), none, .e (.call (.c (.fn (.func 22) [] [])) [(.t 205), (.c (i64 0))])⟩,
 ⟨(some 204), none, .p (.mov (.t 206))⟩,
 ⟨(some 207), none, .p (.ext (.t 204) 0)⟩,
 ⟨(some 208), none, .p (.ext (.t 204) 1)⟩,
 ⟨(some 23), none, .p (.mov (.t 207))⟩,
 ⟨(some 24), none, .p (.mov (.t 208))⟩])
def g4_22 : IC :=
 (.reg [
 ⟨(some 209), none, .p (.mov (.t 10))⟩,
 ⟨(some 210), none, .p (.bin .eql (.i .i64) (.t 209) (.c (i64 0)))⟩,
 ⟨(some 211), none, .p (.mov (.t 210))⟩,
 ⟨(some 212), (some (211, true)), .p (.mov (.t 20))⟩,
 ⟨(some 213), (some (211, true)), .e (.bsl 3 1 7 [i64 0] [(0, (.c (i64 0))), (1, (.c (i64 1))), (2, (.c (i64 2))), (3, (.c (i64 2))), (4, (.c (i64 1))), (5, (.c (i64 2))), (6, (.c (i64 2)))])⟩,
 ⟨(some 214), (some (211, true)), .q (.c (.fn (.func 23) [] [])) [(.t 212), (.t 213)]⟩,
 ⟨(some 215), none, .p (.pick (.t 211) (.t 214) (.c (bl false)))⟩,
 ⟨(some 216), none, .p (.mov (.t 215))⟩,
 ⟨(some 217), (some (216, true)), .p (.mov (.t 12))⟩,
 ⟨(some 218), (some (216, true)), .p (.bin .eql (.i .i64) (.t 217) (.c (i64 0)))⟩,
 ⟨(some 219), none, .p (.pick (.t 216) (.t 218) (.c (bl false)))⟩,
 ⟨(some 220), none, .p (.mov (.t 219))⟩,
 ⟨(some 221), (some (220, true)), .p (.mov (.t 21))⟩,
 ⟨(some 222), (some (220, true)), .e (.bsl 3 1 1 [i64 0] [(0, (.c (i64 0)))])⟩,
 ⟨(some 223), (some (220, true)), .e (.bsl 3 1 2 [i64 0] [(0, (.c (i64 1))), (1, (.c (i64 4)))])⟩,
 ⟨(some 224), (some (220, true)), .e (.bsl 35 1 2 [.val (.slice none 0 0)] [(0, (.t 222)), (1, (.t 223))])⟩,
 ⟨(some 225), (some (220, true)), .q (.c (.fn (.func 24) [] [])) [(.t 221), (.t 224)]⟩,
 ⟨(some 226), none, .p (.pick (.t 220) (.t 225) (.c (bl false)))⟩,
 ⟨(some 227), none, .p (.mov (.t 226))⟩,
 ⟨(some 228), (some (227, true)), .p (.mov (.t 22))⟩,
 ⟨(some 229), (some (227, true)), .p (.bin .eql (.i .i64) (.t 228) (.c (i64 3)))⟩,
 ⟨(some 230), none, .p (.pick (.t 227) (.t 229) (.c (bl false)))⟩,
 ⟨(some 231), none, .p (.mov (.t 230))⟩,
 ⟨(some 232), (some (231, true)), .p (.mov (.t 14))⟩,
 ⟨(some 233), (some (231, true)), .p (.bin .eql (.i .i64) (.t 232) (.c (i64 0)))⟩,
 ⟨(some 234), none, .p (.pick (.t 231) (.t 233) (.c (bl false)))⟩,
 ⟨(some 235), none, .p (.mov (.t 234))⟩,
 ⟨(some 236), (some (235, true)), .p (.mov (.t 23))⟩,
 ⟨(some 237), (some (235, true)), .p (.bin .eql (.i .i64) (.t 236) (.c (i64 6)))⟩,
 ⟨(some 238), none, .p (.pick (.t 235) (.t 237) (.c (bl false)))⟩,
 ⟨(some 239), none, .p (.mov (.t 238))⟩,
 ⟨(some 240), (some (239, true)), .p (.mov (.t 24))⟩,
 ⟨(some 241), (some (239, true)), .p (.bin .eql (.i .i64) (.t 240) (.c (i64 0)))⟩,
 ⟨(some 242), none, .p (.pick (.t 239) (.t 241) (.c (bl false)))⟩,
 ⟨(some 25), none, .p (.mov (.t 242))⟩])
def g4_23 : IC :=
 (.reg [
 ⟨(some 243), none, .e (.call (.c (.fn (.func 15) [] [])) [])⟩,
 ⟨(some 26), none, .e (.alc 25 [i64 0, .val (.slice none 0 0), .val (.slice none 0 0)])⟩,
 ⟨none, none, .e (.st 3 (.t 26) (.t 243))⟩])
def g4_24 : IC :=
 (.drw [0, 1, 2, 3, 4, 5, 6, 7, 8, 9, 10, 11, 12, 13, 14] [
 ⟨(some 244), none, .p (.fa 2 (.t 26))⟩,
 ⟨(some 245), none, .p (.ld1 (.t 244))⟩,
 ⟨(some 246), none, .p (.fa 1 (.t 26))⟩,
 ⟨(some 247), none, .p (.ld1 (.t 246))⟩,
 ⟨(some 248), none, .p (.fa 1 (.t 26))⟩,
 ⟨(some 249), none, .p (.ld1 (.t 248))⟩,
 ⟨(some 250), none, .p (.ia 2 (.t 245) (.c (i64 1)))⟩,
 ⟨(some 251), none, .p (.fa 0 (.t 250))⟩,
 ⟨none, none, .e (.st 1 (.t 251) (.c (i64 0)))⟩,
 ⟨(some 252), none, .p (.ia 6 (.t 247) (.c (i64 1)))⟩,
 ⟨(some 253), none, .p (.fa 1 (.t 252))⟩,
 ⟨none, none, .e (.stw [245] 1 (.t 253) (.c (i64 0)))⟩,
 ⟨(some 254), none, .p (.ia 6 (.t 249) (.c (i64 4)))⟩,
 ⟨(some 255), none, .p (.fa 1 (.t 254))⟩,
 ⟨none, none, .e (.stw [247, 245] 1 (.t 255) (.c (i64 0)))⟩])
def g4_25 : IC :=
 (.reg [
 ⟨(some 257), none, .p (.ldn 3 (.t 26))⟩,
 ⟨(some 258), none, .e (.call (.c (.fn (.func 17) [] [])) [(.t 257)])⟩,
 ⟨(some 256), none, .p (.mov (.t 258))⟩,
 ⟨(some 259), none, .p (.ext (.t 256) 0)⟩,
 ⟨(some 260), none, .p (.ext (.t 256) 1)⟩,
 ⟨(some 11), none, .p (.mov (.t 259))⟩,
 ⟨(some 10), none, .p (.mov (.t 260))⟩])
def g4_26 : IC :=
 (.reg [
 ⟨(some 261), none, .e (.call (.c (.fn (.func 10) [] [])) [])⟩,
 ⟨(some 262), none, .p (.mov (.t 261))⟩,
 ⟨(some 263), (some (262, true)), .p (.mov (.t 8))⟩,
 ⟨(some 264), none, .p (.pick (.t 262) (.t 263) (.c (bl false)))⟩,
 ⟨(some 265), none, .p (.mov (.t 264))⟩,
 ⟨(some 266), (some (265, true)), .p (.mov (.t 15))⟩,
 ⟨(some 267), none, .p (.pick (.t 265) (.t 266) (.c (bl false)))⟩,
 ⟨(some 268), none, .p (.mov (.t 267))⟩,
 ⟨(some 269), (some (268, true)), .p (.mov (.t 19))⟩,
 ⟨(some 270), none, .p (.pick (.t 268) (.t 269) (.c (bl false)))⟩,
 ⟨(some 271), none, .p (.mov (.t 270))⟩,
 ⟨(some 272), (some (271, true)), .p (.mov (.t 25))⟩,
 ⟨(some 273), none, .p (.pick (.t 271) (.t 272) (.c (bl false)))⟩,
 ⟨(some 274), none, .p (.mov (.t 273))⟩,
 ⟨(some 275), (some (274, true)), .p (.mov (.t 10))⟩,
 ⟨(some 276), (some (274, true)), .p (.bin .eql (.i .i64) (.t 275) (.c (i64 0)))⟩,
 ⟨(some 277), none, .p (.pick (.t 274) (.t 276) (.c (bl false)))⟩,
 ⟨(some 278), none, .p (.mov (.t 277))⟩,
 ⟨(some 279), (some (278, true)), .p (.mov (.t 11))⟩,
 ⟨(some 280), (some (278, true)), .p (.bld [i64 0, i64 0, i64 0, i64 0] [(0, 1, (.c (i64 2))), (1, 1, (.c (i64 4))), (2, 1, (.c (i64 1))), (3, 1, (.c (i64 1)))])⟩,
 ⟨(some 281), (some (278, true)), .e (.bsl 59 4 1 [i64 0, i64 0, i64 0, i64 0] [(0, (.t 280))])⟩,
 ⟨(some 282), (some (278, true)), .q (.c (.fn (.func 25) [] [])) [(.t 279), (.t 281)]⟩,
 ⟨(some 283), none, .p (.pick (.t 278) (.t 282) (.c (bl false)))⟩,
 ⟨(some 0), none, .p (.mov (.t 283))⟩])
def g4_27 : IC :=
 .ret
def i4 : IC :=
 (.seq g4_0 (.keep [] (.seq g4_1 (.keep [1, 2, 3, 4, 5, 6, 7] (.seq g4_2 (.keep [1, 2, 3, 4, 5, 6, 7] (.seq g4_3 (.keep [1, 2, 3, 4, 5, 6, 7] (.seq g4_4 (.keep [1, 2, 3, 4, 5, 6, 7] (.seq g4_5 (.keep [1, 2, 3, 4, 5, 6, 7] (.seq g4_6 (.keep [1, 2, 3, 4, 5, 6, 7] (.seq g4_7 (.keep [1, 2, 3, 4, 5, 6, 7] (.seq g4_8 (.keep [1, 2, 3, 4, 5, 6, 7] (.seq g4_9 (.keep [8] (.seq g4_10 (.keep [8, 9, 10] (.seq g4_11 (.keep [8, 9, 10, 11, 12] (.seq g4_12 (.keep [8, 9, 10, 11, 12, 14] (.seq g4_13 (.keep [8, 15] (.seq g4_14 (.keep [8, 10, 15, 16] (.seq g4_15 (.keep [8, 10, 12, 15, 16, 17] (.seq g4_16 (.keep [8, 10, 12, 14, 15, 16, 17, 18] (.seq g4_17 (.keep [8, 15, 19] (.seq g4_18 (.keep [8, 10, 15, 19, 20] (.seq g4_19 (.keep [8, 10, 12, 15, 19, 20, 21] (.seq g4_20 (.keep [8, 10, 12, 14, 15, 19, 20, 21, 22] (.seq g4_21 (.keep [8, 10, 12, 14, 15, 19, 20, 21, 22, 23, 24] (.seq g4_22 (.keep [8, 15, 19, 25] (.seq g4_23 (.keep [8, 15, 19, 25, 26] (.seq g4_24 (.keep [8, 15, 19, 25, 26] (.seq g4_25 (.keep [8, 10, 11, 15, 19, 25] (.seq g4_26 (.keep [0] g4_27))))))))))))))))))))))))))))))))))))))))))))))))))))))
-- chain 4: [[], [], [1, 2, 3, 4, 5, 6, 7], [1, 2, 3, 4, 5, 6, 7], [1, 2, 3, 4, 5, 6, 7], [1, 2, 3, 4, 5, 6, 7], [1, 2, 3, 4, 5, 6, 7], [1, 2, 3, 4, 5, 6, 7], [1, 2, 3, 4, 5, 6, 7], [1, 2, 3, 4, 5, 6, 7], [8], [8, 9, 10], [8, 9, 10, 11, 12], [8, 9, 10, 11, 12, 14], [8, 15], [8, 10, 15, 16], [8, 10, 12, 15, 16, 17], [8, 10, 12, 14, 15, 16, 17, 18], [8, 15, 19], [8, 10, 15, 19, 20], [8, 10, 12, 15, 19, 20, 21], [8, 10, 12, 14, 15, 19, 20, 21, 22], [8, 10, 12, 14, 15, 19, 20, 21, 22, 23, 24], [8, 15, 19, 25], [8, 15, 19, 25, 26], [8, 15, 19, 25, 26], [8, 10, 11, 15, 19, 25], [0]]
def r4 : List RS := [.t 0]
theorem c4 : chkF Try.prog drawB Try.f4 i4 r4 = true := by kernel_rfl
def l8_1 : IC := .keep [1, 3, 9, 10, 11, 12, 13, 15]
 (.seq
 (.seq
 (.reg [
 ⟨(some 74), none, .p (.mov (.t 15))⟩,
 ⟨(some 75), none, .p (.fa 3 (.t 11))⟩,
 ⟨(some 76), none, .p (.ld1 (.t 75))⟩,
 ⟨(some 77), none, .p (.len (.t 76))⟩,
 ⟨(some 78), none, .p (.bin .lss (.i .i64) (.t 74) (.t 77))⟩])
 (.cond (.t 78)
 .skip
 (.exit 2)))
 (.seq
 (.blk 3
 (.seq
 (.reg [
 ⟨(some 81), none, .e (.bsl 47 2 0 [i64 0, i64 0] [])⟩,
 ⟨(some 82), none, .p (.mov (.t 13))⟩,
 ⟨(some 83), none, .e (.app 47 2 16 (.t 81) (.t 82))⟩,
 ⟨(some 16), none, .p (.mov (.t 83))⟩])
 (.seq
 (.seq
 (.reg [
 ⟨(some 84), none, .p (.fa 0 (.t 11))⟩,
 ⟨(some 85), none, .p (.ld1 (.t 84))⟩,
 ⟨(some 86), none, .p (.bin .eql (.i .i64) (.t 85) (.c (i64 2)))⟩,
 ⟨(some 87), none, .p (.mov (.t 86))⟩,
 ⟨(some 88), (some (87, true)), .p (.fa 1 (.t 11))⟩,
 ⟨(some 89), (some (87, true)), .p (.ld1 (.t 88))⟩,
 ⟨(some 90), (some (87, true)), .p (.mov (.t 12))⟩,
 ⟨(some 91), (some (87, true)), .p (.bin .eql (.i .i64) (.t 89) (.t 90))⟩,
 ⟨(some 92), none, .p (.pick (.t 87) (.t 91) (.c (bl false)))⟩])
 (.cond (.t 92)
 (.reg [
 ⟨(some 93), none, .p (.mov (.t 16))⟩,
 ⟨(some 94), none, .p (.fa 2 (.t 11))⟩,
 ⟨(some 95), none, .p (.ld1 (.t 94))⟩,
 ⟨(some 96), none, .p (.mov (.t 15))⟩,
 ⟨(some 97), none, .p (.bld [i64 0, i64 0] [(0, 1, (.t 95)), (1, 1, (.t 96))])⟩,
 ⟨(some 98), none, .e (.bsl 47 2 1 [i64 0, i64 0] [(0, (.t 97))])⟩,
 ⟨(some 99), none, .e (.app 47 2 16 (.t 93) (.t 98))⟩,
 ⟨(some 16), none, .p (.mov (.t 99))⟩])
 .skip))
 (.seq
 (.drw [0, 1, 2, 3, 4, 5, 6, 7, 8, 9, 10, 11, 12] [
 ⟨(some 101), none, .p (.ldn 3 (.t 10))⟩,
 ⟨(some 102), none, .p (.fa 3 (.t 11))⟩,
 ⟨(some 103), none, .p (.ld1 (.t 102))⟩,
 ⟨(some 104), none, .p (.mov (.t 15))⟩,
 ⟨(some 105), none, .p (.ia 1 (.t 103) (.t 104))⟩,
 ⟨(some 106), none, .p (.ld1 (.t 105))⟩,
 ⟨(some 107), none, .p (.mov (.t 12))⟩,
 ⟨(some 108), none, .q (.c (.fn (.func 18) [] [])) [(.t 101), (.t 106), (.t 107)]⟩,
 ⟨(some 100), none, .p (.mov (.t 108))⟩,
 ⟨(some 109), none, .p (.ext (.t 100) 0)⟩,
 ⟨(some 110), none, .p (.ext (.t 100) 1)⟩,
 ⟨(some 17), none, .p (.mov (.t 109))⟩,
 ⟨(some 18), none, .p (.mov (.t 110))⟩])
 (.seq
 (.reg [
 ⟨(some 111), none, .p (.mov (.t 18))⟩,
 ⟨(some 112), none, .p (.bin .neq (.i .i64) (.t 111) (.c (i64 0)))⟩,
 ⟨(some 113), none, .p (.mov (.t 112))⟩,
 ⟨(some 114), (some (113, false)), .p (.mov (.t 17))⟩,
 ⟨(some 115), (some (113, false)), .p (.mov (.t 16))⟩,
 ⟨(some 116), (some (113, false)), .q (.c (.fn (.func 19) [] [])) [(.t 114), (.t 115)]⟩,
 ⟨(some 117), (some (113, false)), .p (.not (.t 116))⟩,
 ⟨(some 118), none, .p (.pick (.t 113) (.c (bl true)) (.t 117))⟩])
 (.cond (.t 118)
 (.seq
 (.reg [
 ⟨(some 8), none, .p (.mov (.c (bl false)))⟩])
 .ret)
 .skip))))))
 (.reg [
 ⟨(some 79), none, .p (.mov (.t 15))⟩,
 ⟨(some 80), none, .p (.bin .add (.i .i64) (.t 79) (.c (i64 1)))⟩,
 ⟨(some 15), none, .p (.mov (.t 80))⟩])))
def l8_0 : IC := .keep [1, 3, 9, 10, 11, 12]
 (.seq
 (.seq
 (.reg [
 ⟨(some 51), none, .p (.mov (.t 12))⟩,
 ⟨(some 52), none, .p (.mov (.t 1))⟩,
 ⟨(some 53), none, .p (.bin .lss (.i .i64) (.t 51) (.t 52))⟩])
 (.cond (.t 53)
 .skip
 (.exit 0)))
 (.seq
 (.blk 1
 (.seq
 (.reg [
 ⟨(some 57), none, .p (.ldn 3 (.t 10))⟩,
 ⟨(some 58), none, .p (.mov (.t 3))⟩,
 ⟨(some 59), none, .p (.mov (.t 12))⟩,
 ⟨(some 60), none, .e (.call (.c (.fn (.func 18) [] [])) [(.t 57), (.t 58), (.t 59)])⟩,
 ⟨(some 56), none, .p (.mov (.t 60))⟩,
 ⟨(some 61), none, .p (.ext (.t 56) 0)⟩,
 ⟨(some 62), none, .p (.ext (.t 56) 1)⟩,
 ⟨(some 13), none, .p (.mov (.t 61))⟩,
 ⟨(some 14), none, .p (.mov (.t 62))⟩])
 (.seq
 (.seq
 (.reg [
 ⟨(some 63), none, .p (.mov (.t 14))⟩,
 ⟨(some 64), none, .p (.bin .neq (.i .i64) (.t 63) (.c (i64 0)))⟩,
 ⟨(some 65), none, .p (.mov (.t 64))⟩,
 ⟨(some 66), (some (65, false)), .p (.mov (.t 3))⟩,
 ⟨(some 67), (some (65, false)), .p (.bin .eql (.i .i64) (.t 66) (.c (i64 0)))⟩,
 ⟨(some 68), (some (65, false)), .p (.mov (.t 67))⟩,
 ⟨(some 69), (some (68, true)), .p (.mov (.t 13))⟩,
 ⟨(some 70), (some (68, true)), .p (.len (.t 69))⟩,
 ⟨(some 71), (some (68, true)), .p (.bin .neq (.i .i64) (.t 70) (.c (i64 0)))⟩,
 ⟨(some 72), (some (65, false)), .p (.pick (.t 68) (.t 71) (.c (bl false)))⟩,
 ⟨(some 73), none, .p (.pick (.t 65) (.c (bl true)) (.t 72))⟩])
 (.cond (.t 73)
 (.seq
 (.reg [
 ⟨(some 8), none, .p (.mov (.c (bl false)))⟩])
 .ret)
 .skip))
 (.seq
 (.reg [
 ⟨(some 15), none, .p (.mov (.c (i64 0)))⟩])
 (.blk 2
 (.loop l8_1))))))
 (.reg [
 ⟨(some 54), none, .p (.mov (.t 12))⟩,
 ⟨(some 55), none, .p (.bin .add (.i .i64) (.t 54) (.c (i64 1)))⟩,
 ⟨(some 12), none, .p (.mov (.t 55))⟩])))
def l8_2 : IC := .keep [9, 19, 20]
 (.seq
 (.seq
 (.reg [
 ⟨(some 122), none, .p (.mov (.t 20))⟩,
 ⟨(some 123), none, .p (.fa 1 (.t 19))⟩,
 ⟨(some 124), none, .p (.ld1 (.t 123))⟩,
 ⟨(some 125), none, .p (.len (.t 124))⟩,
 ⟨(some 126), none, .p (.bin .lss (.i .i64) (.t 122) (.t 125))⟩])
 (.cond (.t 126)
 .skip
 (.exit 4)))
 (.seq
 (.blk 5
 (.seq
 (.reg [
 ⟨(some 129), none, .p (.fa 1 (.t 19))⟩,
 ⟨(some 130), none, .p (.ld1 (.t 129))⟩,
 ⟨(some 131), none, .p (.mov (.t 20))⟩,
 ⟨(some 132), none, .p (.ia 6 (.t 130) (.t 131))⟩,
 ⟨(some 133), none, .p (.ldn 6 (.t 132))⟩,
 ⟨(some 21), none, .e (.alc 37 [i64 0, i64 0, i64 0, .val (.slice none 0 0), .val (.slice none 0 0), .val (.slice none 0 0)])⟩,
 ⟨none, none, .e (.st 6 (.t 21) (.t 133))⟩])
 (.seq
 (.reg [
 ⟨(some 134), none, .p (.fa 0 (.t 21))⟩,
 ⟨(some 135), none, .p (.ld1 (.t 134))⟩,
 ⟨(some 136), none, .p (.bin .eql (.i .i64) (.t 135) (.c (i64 2)))⟩])
 (.cond (.t 136)
 (.seq
 (.reg [
 ⟨(some 137), none, .p (.fa 1 (.t 19))⟩,
 ⟨(some 138), none, .p (.ld1 (.t 137))⟩,
 ⟨(some 139), none, .p (.mov (.t 20))⟩,
 ⟨(some 140), none, .p (.fa 2 (.t 19))⟩,
 ⟨(some 141), none, .p (.ld1 (.t 140))⟩,
 ⟨(some 142), none, .p (.len (.t 141))⟩,
 ⟨(some 143), none, .p (.ia 6 (.t 138) (.t 139))⟩,
 ⟨(some 144), none, .p (.fa 2 (.t 143))⟩,
 ⟨none, none, .e (.st 1 (.t 144) (.t 142))⟩])
 (.reg [
 ⟨(some 145), none, .p (.fa 2 (.t 19))⟩,
 ⟨(some 146), none, .p (.ld1 (.t 145))⟩,
 ⟨(some 147), none, .p (.fa 1 (.t 21))⟩,
 ⟨(some 148), none, .p (.ld1 (.t 147))⟩,
 ⟨(some 149), none, .p (.fa 3 (.t 21))⟩,
 ⟨(some 150), none, .p (.ld1 (.t 149))⟩,
 ⟨(some 151), none, .p (.len (.t 150))⟩,
 ⟨(some 152), none, .p (.bld [i64 0, i64 0] [(0, 1, (.t 148)), (1, 1, (.t 151))])⟩,
 ⟨(some 153), none, .e (.bsl 34 2 1 [i64 0, i64 0] [(0, (.t 152))])⟩,
 ⟨(some 154), none, .e (.app 34 2 16 (.t 146) (.t 153))⟩,
 ⟨(some 155), none, .p (.fa 2 (.t 19))⟩,
 ⟨none, none, .e (.st 1 (.t 155) (.t 154))⟩]))
 .skip))))
 (.reg [
 ⟨(some 127), none, .p (.mov (.t 20))⟩,
 ⟨(some 128), none, .p (.bin .add (.i .i64) (.t 127) (.c (i64 1)))⟩,
 ⟨(some 20), none, .p (.mov (.t 128))⟩])))
/-- parlour/parlourlaw11.RecallWays -/
def i8 : IC :=
 (.seq
 (.reg [
 ⟨(some 8), none, .p (.mov (.c (bl false)))⟩])
 (.seq
 (.reg [
 ⟨(some 24), none, .e (.call (.c (.fn (.func 4) [] [])) [])⟩,
 ⟨(some 9), none, .p (.mov (.t 24))⟩])
 (.seq
 (.seq
 (.reg [
 ⟨(some 25), none, .p (.mov (.t 0))⟩,
 ⟨(some 26), none, .p (.len (.t 25))⟩,
 ⟨(some 27), none, .p (.bin .gtr (.i .i64) (.t 26) (.c (i64 200)))⟩,
 ⟨(some 28), none, .p (.mov (.t 27))⟩,
 ⟨(some 29), (some (28, false)), .p (.mov (.t 2))⟩,
 ⟨(some 30), (some (28, false)), .p (.len (.t 29))⟩,
 ⟨(some 31), (some (28, false)), .p (.bin .gtr (.i .i64) (.t 30) (.c (i64 60)))⟩,
 ⟨(some 32), none, .p (.pick (.t 28) (.c (bl true)) (.t 31))⟩])
 (.cond (.t 32)
 (.seq
 (.reg [
 ⟨(some 33), none, .p (.mov (.t 9))⟩,
 ⟨(some 8), none, .p (.mov (.t 33))⟩])
 .ret)
 .skip))
 (.seq
 (.reg [
 ⟨(some 34), none, .p (.mov (.t 1))⟩,
 ⟨(some 35), none, .e (.call (.c (.fn (.func 34) [] [])) [(.t 34), (.c (i64 3))])⟩,
 ⟨(some 36), none, .p (.bin .add (.i .i64) (.c (i64 1)) (.t 35))⟩,
 ⟨(some 1), none, .p (.mov (.t 36))⟩])
 (.seq
 (.reg [
 ⟨(some 37), none, .p (.mov (.t 0))⟩,
 ⟨(some 38), none, .p (.mov (.t 1))⟩,
 ⟨(some 39), none, .p (.mov (.t 2))⟩,
 ⟨(some 40), none, .e (.call (.c (.fn (.func 35) [] [])) [(.t 37), (.t 38), (.t 39)])⟩,
 ⟨(some 10), none, .e (.alc 25 [i64 0, .val (.slice none 0 0), .val (.slice none 0 0)])⟩,
 ⟨none, none, .e (.st 3 (.t 10) (.t 40))⟩])
 (.seq
 (.reg [
 ⟨(some 41), none, .p (.mov (.t 3))⟩,
 ⟨(some 42), none, .p (.fa 1 (.t 10))⟩,
 ⟨(some 43), none, .p (.ld1 (.t 42))⟩,
 ⟨(some 44), none, .p (.len (.t 43))⟩,
 ⟨(some 45), none, .e (.call (.c (.fn (.func 34) [] [])) [(.t 41), (.t 44)])⟩,
 ⟨(some 3), none, .p (.mov (.t 45))⟩])
 (.seq
 (.reg [
 ⟨(some 46), none, .p (.fa 1 (.t 10))⟩,
 ⟨(some 47), none, .p (.ld1 (.t 46))⟩,
 ⟨(some 48), none, .p (.mov (.t 3))⟩,
 ⟨(some 49), none, .p (.ia 6 (.t 47) (.t 48))⟩,
 ⟨(some 50), none, .p (.ldn 6 (.t 49))⟩,
 ⟨(some 11), none, .e (.alc 37 [i64 0, i64 0, i64 0, .val (.slice none 0 0), .val (.slice none 0 0), .val (.slice none 0 0)])⟩,
 ⟨none, none, .e (.st 6 (.t 11) (.t 50))⟩])
 (.seq
 (.seq
 (.reg [
 ⟨(some 12), none, .p (.mov (.c (i64 0)))⟩])
 (.blk 0
 (.loop l8_0)))
 (.seq
 (.reg [
 ⟨(some 119), none, .p (.ldn 3 (.t 10))⟩,
 ⟨(some 120), none, .e (.call (.c (.fn (.func 11) [] [])) [(.t 119)])⟩,
 ⟨(some 19), none, .e (.alc 25 [i64 0, .val (.slice none 0 0), .val (.slice none 0 0)])⟩,
 ⟨none, none, .e (.st 3 (.t 19) (.t 120))⟩])
 (.seq
 (.reg [
 ⟨(some 121), none, .p (.fa 2 (.t 19))⟩,
 ⟨none, none, .e (.st 1 (.t 121) (.c (.val (.slice none 0 0))))⟩])
 (.seq
 (.seq
 (.reg [
 ⟨(some 20), none, .p (.mov (.c (i64 0)))⟩])
 (.blk 4
 (.loop l8_2)))
 (.seq
 (.reg [
 ⟨(some 157), none, .p (.ldn 3 (.t 19))⟩,
 ⟨(some 158), none, .e (.call (.c (.fn (.func 17) [] [])) [(.t 157)])⟩,
 ⟨(some 156), none, .p (.mov (.t 158))⟩,
 ⟨(some 159), none, .p (.ext (.t 156) 0)⟩,
 ⟨(some 160), none, .p (.ext (.t 156) 1)⟩,
 ⟨(some 22), none, .p (.mov (.t 159))⟩,
 ⟨(some 23), none, .p (.mov (.t 160))⟩])
 (.seq
 (.reg [
 ⟨(some 161), none, .p (.mov (.t 9))⟩,
 ⟨(some 162), none, .p (.mov (.t 161))⟩,
 ⟨(some 163), (some (162, true)), .p (.mov (.t 23))⟩,
 ⟨(some 164), (some (162, true)), .p (.bin .eql (.i .i64) (.t 163) (.c (i64 0)))⟩,
 ⟨(some 165), none, .p (.pick (.t 162) (.t 164) (.c (bl false)))⟩,
 ⟨(some 166), none, .p (.mov (.t 165))⟩,
 ⟨(some 167), (some (166, true)), .p (.mov (.t 22))⟩,
 ⟨(some 168), (some (166, true)), .p (.len (.t 167))⟩,
 ⟨(some 169), (some (166, true)), .p (.bin .eql (.i .i64) (.t 168) (.c (i64 0)))⟩,
 ⟨(some 170), none, .p (.pick (.t 166) (.t 169) (.c (bl false)))⟩,
 ⟨(some 8), none, .p (.mov (.t 170))⟩])
 .ret)))))))))))))
def r8 : List RS := [.t 8]
theorem c8 : chkF Try.prog drawB Try.f8 i8 r8 = true := by kernel_rfl
def l9_0 : IC := .keep [1, 3]
 (.seq
 (.seq
 (.reg [
 ⟨(some 4), none, .p (.mov (.t 3))⟩,
 ⟨(some 5), none, .p (.fa 1 (.t 1))⟩,
 ⟨(some 6), none, .p (.ld1 (.t 5))⟩,
 ⟨(some 7), none, .p (.len (.t 6))⟩,
 ⟨(some 8), none, .p (.bin .lss (.i .i64) (.t 4) (.t 7))⟩,
 ⟨(some 9), none, .p (.mov (.t 8))⟩,
 ⟨(some 10), (some (9, true)), .p (.mov (.t 3))⟩,
 ⟨(some 11), (some (9, true)), .p (.bin .leq (.i .i64) (.t 10) (.c (i64 80)))⟩,
 ⟨(some 12), none, .p (.pick (.t 9) (.t 11) (.c (bl false)))⟩])
 (.cond (.t 12)
 .skip
 (.exit 0)))
 (.seq
 (.blk 1
 (.seq
 (.reg [
 ⟨(some 15), none, .p (.fa 1 (.t 1))⟩,
 ⟨(some 16), none, .p (.ld1 (.t 15))⟩,
 ⟨(some 17), none, .p (.mov (.t 3))⟩,
 ⟨(some 18), none, .p (.ia 6 (.t 16) (.t 17))⟩,
 ⟨(some 19), none, .p (.fa 3 (.t 18))⟩,
 ⟨(some 20), none, .p (.ld1 (.t 19))⟩,
 ⟨(some 21), none, .p (.len (.t 20))⟩,
 ⟨(some 22), none, .p (.bin .gtr (.i .i64) (.t 21) (.c (i64 80)))⟩,
 ⟨(some 23), none, .p (.mov (.t 22))⟩,
 ⟨(some 24), (some (23, false)), .p (.fa 1 (.t 1))⟩,
 ⟨(some 25), (some (23, false)), .p (.ld1 (.t 24))⟩,
 ⟨(some 26), (some (23, false)), .p (.mov (.t 3))⟩,
 ⟨(some 27), (some (23, false)), .p (.ia 6 (.t 25) (.t 26))⟩,
 ⟨(some 28), (some (23, false)), .p (.fa 4 (.t 27))⟩,
 ⟨(some 29), (some (23, false)), .p (.ld1 (.t 28))⟩,
 ⟨(some 30), (some (23, false)), .p (.len (.t 29))⟩,
 ⟨(some 31), (some (23, false)), .p (.bin .gtr (.i .i64) (.t 30) (.c (i64 80)))⟩,
 ⟨(some 32), none, .p (.pick (.t 23) (.c (bl true)) (.t 31))⟩,
 ⟨(some 33), none, .p (.mov (.t 32))⟩,
 ⟨(some 34), (some (33, false)), .p (.fa 1 (.t 1))⟩,
 ⟨(some 35), (some (33, false)), .p (.ld1 (.t 34))⟩,
 ⟨(some 36), (some (33, false)), .p (.mov (.t 3))⟩,
 ⟨(some 37), (some (33, false)), .p (.ia 6 (.t 35) (.t 36))⟩,
 ⟨(some 38), (some (33, false)), .p (.fa 5 (.t 37))⟩,
 ⟨(some 39), (some (33, false)), .p (.ld1 (.t 38))⟩,
 ⟨(some 40), (some (33, false)), .p (.len (.t 39))⟩,
 ⟨(some 41), (some (33, false)), .p (.bin .gtr (.i .i64) (.t 40) (.c (i64 80)))⟩,
 ⟨(some 42), none, .p (.pick (.t 33) (.c (bl true)) (.t 41))⟩])
 (.cond (.t 42)
 (.seq
 (.reg [
 ⟨(some 2), none, .p (.mov (.c (bl true)))⟩])
 .ret)
 .skip)))
 (.reg [
 ⟨(some 13), none, .p (.mov (.t 3))⟩,
 ⟨(some 14), none, .p (.bin .add (.i .i64) (.t 13) (.c (i64 1)))⟩,
 ⟨(some 3), none, .p (.mov (.t 14))⟩])))
/-- parlour/parlourlaw11.large -/
def i9 : IC :=
 (.seq
 (.reg [
 ⟨(some 1), none, .e (.box 25 (.t 0))⟩,
 ⟨(some 2), none, .p (.mov (.c (bl false)))⟩])
 (.seq
 (.seq
 (.reg [
 ⟨(some 3), none, .p (.mov (.c (i64 0)))⟩])
 (.blk 0
 (.loop l9_0)))
 (.seq
 (.reg [
 ⟨(some 43), none, .p (.fa 1 (.t 1))⟩,
 ⟨(some 44), none, .p (.ld1 (.t 43))⟩,
 ⟨(some 45), none, .p (.len (.t 44))⟩,
 ⟨(some 46), none, .p (.bin .gtr (.i .i64) (.t 45) (.c (i64 80)))⟩,
 ⟨(some 47), none, .p (.mov (.t 46))⟩,
 ⟨(some 48), (some (47, false)), .p (.fa 2 (.t 1))⟩,
 ⟨(some 49), (some (47, false)), .p (.ld1 (.t 48))⟩,
 ⟨(some 50), (some (47, false)), .p (.len (.t 49))⟩,
 ⟨(some 51), (some (47, false)), .p (.bin .gtr (.i .i64) (.t 50) (.c (i64 80)))⟩,
 ⟨(some 52), none, .p (.pick (.t 47) (.c (bl true)) (.t 51))⟩,
 ⟨(some 2), none, .p (.mov (.t 52))⟩])
 .ret)))
def r9 : List RS := [.t 2]
theorem c9 : chkF Try.prog drawB Try.f9 i9 r9 = true := by kernel_rfl
/-- parlour/parlourlaw11.awake -/
def i10 : IC :=
 (.seq
 (.reg [
 ⟨(some 0), none, .p (.mov (.c (bl false)))⟩])
 (.seq
 (.reg [
 ⟨(some 7), none, .e (.call (.c (.fn (.func 15) [] [])) [])⟩,
 ⟨(some 8), none, .e (.call (.c (.fn (.func 30) [] [])) [(.t 7)])⟩,
 ⟨(some 6), none, .p (.mov (.t 8))⟩,
 ⟨(some 9), none, .p (.ext (.t 6) 0)⟩,
 ⟨(some 10), none, .p (.ext (.t 6) 1)⟩,
 ⟨(some 1), none, .p (.mov (.t 9))⟩,
 ⟨(some 2), none, .p (.mov (.t 10))⟩])
 (.seq
 (.reg [
 ⟨(some 11), none, .e (.call (.c (.fn (.func 15) [] [])) [])⟩,
 ⟨(some 3), none, .e (.alc 25 [i64 0, .val (.slice none 0 0), .val (.slice none 0 0)])⟩,
 ⟨none, none, .e (.st 3 (.t 3) (.t 11))⟩])
 (.seq
 (.reg [
 ⟨(some 12), none, .p (.fa 1 (.t 3))⟩,
 ⟨(some 13), none, .p (.ld1 (.t 12))⟩,
 ⟨(some 14), none, .e (.bsl 3 1 2 [i64 0] [(0, (.c (i64 1))), (1, (.c (i64 5)))])⟩,
 ⟨(some 15), none, .p (.ia 6 (.t 13) (.c (i64 0)))⟩,
 ⟨(some 16), none, .p (.fa 3 (.t 15))⟩,
 ⟨none, none, .e (.st 1 (.t 16) (.t 14))⟩])
 (.seq
 (.reg [
 ⟨(some 18), none, .e (.call (.c (.fn (.func 37) [] [])) [])⟩,
 ⟨(some 19), none, .e (.call (.c (.fn (.func 17) [] [])) [(.t 18)])⟩,
 ⟨(some 17), none, .p (.mov (.t 19))⟩,
 ⟨(some 20), none, .p (.ext (.t 17) 0)⟩,
 ⟨(some 21), none, .p (.ext (.t 17) 1)⟩,
 ⟨(some 4), none, .p (.mov (.t 20))⟩,
 ⟨(some 5), none, .p (.mov (.t 21))⟩])
 (.seq
 (.reg [
 ⟨(some 22), none, .p (.mov (.t 2))⟩,
 ⟨(some 23), none, .p (.bin .eql (.i .i64) (.t 22) (.c (i64 0)))⟩,
 ⟨(some 24), none, .p (.mov (.t 23))⟩,
 ⟨(some 25), (some (24, true)), .p (.mov (.t 1))⟩,
 ⟨(some 26), (some (24, true)), .e (.bsl 3 1 7 [i64 0] [(0, (.c (i64 (-1)))), (1, (.c (i64 0))), (2, (.c (i64 1))), (3, (.c (i64 1))), (4, (.c (i64 0))), (5, (.c (i64 4))), (6, (.c (i64 4)))])⟩,
 ⟨(some 27), (some (24, true)), .q (.c (.fn (.func 23) [] [])) [(.t 25), (.t 26)]⟩,
 ⟨(some 28), none, .p (.pick (.t 24) (.t 27) (.c (bl false)))⟩,
 ⟨(some 29), none, .p (.mov (.t 28))⟩,
 ⟨(some 30), (some (29, true)), .e (.call (.c (.fn (.func 15) [] [])) [])⟩,
 ⟨(some 31), (some (29, true)), .q (.c (.fn (.func 12) [] [])) [(.t 30)]⟩,
 ⟨(some 32), (some (29, true)), .p (.bin .eql (.i .i64) (.t 31) (.c (i64 0)))⟩,
 ⟨(some 33), none, .p (.pick (.t 29) (.t 32) (.c (bl false)))⟩,
 ⟨(some 34), none, .p (.mov (.t 33))⟩,
 ⟨(some 35), (some (34, true)), .p (.ldn 3 (.t 3))⟩,
 ⟨(some 36), (some (34, true)), .q (.c (.fn (.func 12) [] [])) [(.t 35)]⟩,
 ⟨(some 37), (some (34, true)), .p (.bin .eql (.i .i64) (.t 36) (.c (i64 9)))⟩,
 ⟨(some 38), none, .p (.pick (.t 34) (.t 37) (.c (bl false)))⟩,
 ⟨(some 39), none, .p (.mov (.t 38))⟩,
 ⟨(some 40), (some (39, true)), .p (.mov (.t 5))⟩,
 ⟨(some 41), (some (39, true)), .p (.bin .eql (.i .i64) (.t 40) (.c (i64 0)))⟩,
 ⟨(some 42), none, .p (.pick (.t 39) (.t 41) (.c (bl false)))⟩,
 ⟨(some 43), none, .p (.mov (.t 42))⟩,
 ⟨(some 44), (some (43, true)), .p (.mov (.t 4))⟩,
 ⟨(some 45), (some (43, true)), .p (.bld [i64 0, i64 0, i64 0, i64 0] [(0, 1, (.c (i64 1))), (1, 1, (.c (i64 1)))])⟩,
 ⟨(some 46), (some (43, true)), .p (.bld [i64 0, i64 0, i64 0, i64 0] [(0, 1, (.c (i64 2))), (1, 1, (.c (i64 1)))])⟩,
 ⟨(some 47), (some (43, true)), .e (.bsl 59 4 2 [i64 0, i64 0, i64 0, i64 0] [(0, (.t 45)), (1, (.t 46))])⟩,
 ⟨(some 48), (some (43, true)), .q (.c (.fn (.func 25) [] [])) [(.t 44), (.t 47)]⟩,
 ⟨(some 49), none, .p (.pick (.t 43) (.t 48) (.c (bl false)))⟩,
 ⟨(some 0), none, .p (.mov (.t 49))⟩])
 .ret))))))
def r10 : List RS := [.t 0]
theorem c10 : chkF Try.prog drawB Try.f10 i10 r10 = true := by kernel_rfl
def l11_0 : IC := .keep [1, 2, 3, 4]
 (.seq
 (.seq
 (.reg [
 ⟨(some 13), none, .p (.mov (.t 4))⟩,
 ⟨(some 14), none, .p (.fa 1 (.t 1))⟩,
 ⟨(some 15), none, .p (.ld1 (.t 14))⟩,
 ⟨(some 16), none, .p (.len (.t 15))⟩,
 ⟨(some 17), none, .p (.bin .lss (.i .i64) (.t 13) (.t 16))⟩])
 (.cond (.t 17)
 .skip
 (.exit 0)))
 (.seq
 (.blk 1
 (.seq
 (.reg [
 ⟨(some 20), none, .p (.fa 1 (.t 1))⟩,
 ⟨(some 21), none, .p (.ld1 (.t 20))⟩,
 ⟨(some 22), none, .p (.mov (.t 4))⟩,
 ⟨(some 23), none, .p (.ia 6 (.t 21) (.t 22))⟩,
 ⟨(some 24), none, .p (.ldn 6 (.t 23))⟩,
 ⟨(some 5), none, .e (.alc 37 [i64 0, i64 0, i64 0, .val (.slice none 0 0), .val (.slice none 0 0), .val (.slice none 0 0)])⟩,
 ⟨none, none, .e (.st 6 (.t 5) (.t 24))⟩])
 (.seq
 (.drf [3, 3, 3] [0, 4, 8, 1, 2, 5, 6, 9, 10, 3, 12, 7, 11, 13, 14, 15, 16, 17] [
 ⟨(some 25), none, .e (.fle 0 3 1)⟩,
 ⟨(some 29), none, .e (.fle 1 3 1)⟩,
 ⟨(some 33), none, .e (.fle 2 3 1)⟩,
 ⟨(some 26), none, .p (.fa 3 (.t 5))⟩,
 ⟨(some 27), none, .p (.ld1 (.t 26))⟩,
 ⟨(some 30), none, .p (.fa 4 (.t 5))⟩,
 ⟨(some 31), none, .p (.ld1 (.t 30))⟩,
 ⟨(some 34), none, .p (.fa 5 (.t 5))⟩,
 ⟨(some 35), none, .p (.ld1 (.t 34))⟩,
 ⟨(some 28), none, .e (.app 3 1 8 (.t 25) (.t 27))⟩,
 ⟨(some 37), none, .p (.fa 3 (.t 5))⟩,
 ⟨(some 32), none, .e (.app 3 1 8 (.t 29) (.t 31))⟩,
 ⟨(some 36), none, .e (.app 3 1 8 (.t 33) (.t 35))⟩,
 ⟨none, none, .e (.stw [35, 31, 27] 1 (.t 37) (.t 28))⟩,
 ⟨(some 38), none, .p (.fa 4 (.t 5))⟩,
 ⟨none, none, .e (.stw [35, 31, 27] 1 (.t 38) (.t 32))⟩,
 ⟨(some 39), none, .p (.fa 5 (.t 5))⟩,
 ⟨none, none, .e (.stw [35, 31, 27] 1 (.t 39) (.t 36))⟩])
 (.reg [
 ⟨(some 40), none, .p (.fa 1 (.t 3))⟩,
 ⟨(some 41), none, .p (.ld1 (.t 40))⟩,
 ⟨(some 42), none, .p (.ldn 6 (.t 5))⟩,
 ⟨(some 43), none, .e (.bsl 37 6 1 [i64 0, i64 0, i64 0, .val (.slice none 0 0), .val (.slice none 0 0), .val (.slice none 0 0)] [(0, (.t 42))])⟩,
 ⟨(some 44), none, .e (.app 37 6 96 (.t 41) (.t 43))⟩,
 ⟨(some 45), none, .p (.fa 1 (.t 3))⟩,
 ⟨none, none, .e (.st 1 (.t 45) (.t 44))⟩]))))
 (.reg [
 ⟨(some 18), none, .p (.mov (.t 4))⟩,
 ⟨(some 19), none, .p (.bin .add (.i .i64) (.t 18) (.c (i64 1)))⟩,
 ⟨(some 4), none, .p (.mov (.t 19))⟩])))
/-- parlour/parlourkit.OwnGame -/
def i11 : IC :=
 (.seq
 (.reg [
 ⟨(some 1), none, .e (.box 25 (.t 0))⟩,
 ⟨(some 2), none, .e (.alc 25 [i64 0, .val (.slice none 0 0), .val (.slice none 0 0)])⟩])
 (.seq
 (.drf [34, 25] [2, 7, 0, 1, 3, 4, 5, 6, 8] [
 ⟨(some 8), none, .e (.fle 0 34 2)⟩,
 ⟨(some 3), none, .e (.fla 1 25 [i64 0, .val (.slice none 0 0), .val (.slice none 0 0)])⟩,
 ⟨(some 6), none, .p (.fa 0 (.t 1))⟩,
 ⟨(some 7), none, .p (.ld1 (.t 6))⟩,
 ⟨(some 9), none, .p (.fa 2 (.t 1))⟩,
 ⟨(some 10), none, .p (.ld1 (.t 9))⟩,
 ⟨(some 11), none, .e (.app 34 2 16 (.t 8) (.t 10))⟩,
 ⟨(some 12), none, .p (.bld [i64 0, .val (.slice none 0 0), .val (.slice none 0 0)] [(0, 1, (.t 7)), (2, 1, (.t 11))])⟩,
 ⟨none, none, .e (.stw [10] 3 (.t 3) (.t 12))⟩])
 (.seq
 (.seq
 (.reg [
 ⟨(some 4), none, .p (.mov (.c (i64 0)))⟩])
 (.blk 0
 (.loop l11_0)))
 (.seq
 (.reg [
 ⟨(some 46), none, .p (.ldn 3 (.t 3))⟩,
 ⟨none, none, .e (.st 3 (.t 2) (.t 46))⟩])
 .ret))))
def r11 : List RS := [.cn 2 3]
theorem c11 : chkF Try.prog drawB Try.f11 i11 r11 = true := by kernel_rfl
/-- parlour/recall.Form -/
def i12 : IC :=
 (.seq
 (.reg [
 ⟨(some 1), none, .e (.box 25 (.t 0))⟩,
 ⟨(some 2), none, .p (.mov (.c (i64 0)))⟩])
 (.seq
 (.reg [
 ⟨(some 6), none, .p (.ldn 3 (.t 1))⟩,
 ⟨(some 7), none, .e (.call (.c (.fn (.func 38) [] [])) [(.t 6)])⟩,
 ⟨(some 5), none, .p (.mov (.t 7))⟩,
 ⟨(some 8), none, .p (.ext (.t 5) 0)⟩,
 ⟨(some 9), none, .p (.ext (.t 5) 1)⟩,
 ⟨(some 3), none, .p (.mov (.t 8))⟩,
 ⟨(some 4), none, .p (.mov (.t 9))⟩])
 (.seq
 (.reg [
 ⟨(some 10), none, .p (.mov (.t 4))⟩,
 ⟨(some 2), none, .p (.mov (.t 10))⟩])
 .ret)))
def r12 : List RS := [.t 2]
theorem c12 : chkF Try.prog drawB Try.f12 i12 r12 = true := by kernel_rfl
def l13_0 : IC := .keep [1, 3]
 (.seq
 (.seq
 (.reg [
 ⟨(some 37), none, .p (.mov (.t 3))⟩,
 ⟨(some 38), none, .p (.fa 1 (.t 1))⟩,
 ⟨(some 39), none, .p (.ld1 (.t 38))⟩,
 ⟨(some 40), none, .p (.len (.t 39))⟩,
 ⟨(some 41), none, .p (.bin .lss (.i .i64) (.t 37) (.t 40))⟩])
 (.cond (.t 41)
 .skip
 (.exit 0)))
 (.seq
 (.blk 1
 (.seq
 (.drw [0, 1, 2, 3, 4, 5, 6, 7] [
 ⟨(some 44), none, .p (.ldn 3 (.t 1))⟩,
 ⟨(some 45), none, .p (.fa 1 (.t 1))⟩,
 ⟨(some 46), none, .p (.ld1 (.t 45))⟩,
 ⟨(some 47), none, .p (.mov (.t 3))⟩,
 ⟨(some 48), none, .p (.ia 6 (.t 46) (.t 47))⟩,
 ⟨(some 49), none, .p (.ldn 6 (.t 48))⟩,
 ⟨(some 50), none, .q (.c (.fn (.func 39) [] [])) [(.t 44), (.t 49)]⟩,
 ⟨(some 4), none, .p (.mov (.t 50))⟩])
 (.seq
 (.reg [
 ⟨(some 51), none, .p (.mov (.t 4))⟩,
 ⟨(some 52), none, .p (.bin .neq (.i .i64) (.t 51) (.c (i64 0)))⟩])
 (.cond (.t 52)
 (.seq
 (.reg [
 ⟨(some 53), none, .p (.mov (.t 4))⟩,
 ⟨(some 2), none, .p (.mov (.t 53))⟩])
 .ret)
 .skip))))
 (.reg [
 ⟨(some 42), none, .p (.mov (.t 3))⟩,
 ⟨(some 43), none, .p (.bin .add (.i .i64) (.t 42) (.c (i64 1)))⟩,
 ⟨(some 3), none, .p (.mov (.t 43))⟩])))
def l13_1 : IC := .keep [1, 6]
 (.seq
 (.seq
 (.reg [
 ⟨(some 62), none, .p (.mov (.t 6))⟩,
 ⟨(some 63), none, .p (.fa 1 (.t 1))⟩,
 ⟨(some 64), none, .p (.ld1 (.t 63))⟩,
 ⟨(some 65), none, .p (.len (.t 64))⟩,
 ⟨(some 66), none, .p (.bin .lss (.i .i64) (.t 62) (.t 65))⟩])
 (.cond (.t 66)
 .skip
 (.exit 2)))
 (.seq
 (.blk 3
 (.seq
 (.reg [
 ⟨(some 69), none, .p (.fa 1 (.t 1))⟩,
 ⟨(some 70), none, .p (.ld1 (.t 69))⟩,
 ⟨(some 71), none, .p (.mov (.t 6))⟩,
 ⟨(some 72), none, .p (.ia 6 (.t 70) (.t 71))⟩,
 ⟨(some 73), none, .p (.ldn 6 (.t 72))⟩,
 ⟨(some 7), none, .e (.alc 37 [i64 0, i64 0, i64 0, .val (.slice none 0 0), .val (.slice none 0 0), .val (.slice none 0 0)])⟩,
 ⟨none, none, .e (.st 6 (.t 7) (.t 73))⟩])
 (.seq
 (.drw [0, 1, 2, 3, 4, 5, 6, 7, 8, 9, 10, 11, 12, 13, 14, 15, 16, 17, 18, 19, 20, 21, 22, 23, 24, 25, 26, 27] [
 ⟨(some 74), none, .p (.fa 0 (.t 7))⟩,
 ⟨(some 75), none, .p (.ld1 (.t 74))⟩,
 ⟨(some 76), none, .p (.bin .eql (.i .i64) (.t 75) (.c (i64 2)))⟩,
 ⟨(some 77), none, .p (.mov (.t 76))⟩,
 ⟨(some 78), (some (77, true)), .p (.fa 2 (.t 1))⟩,
 ⟨(some 79), (some (77, true)), .p (.ld1 (.t 78))⟩,
 ⟨(some 80), (some (77, true)), .p (.fa 2 (.t 7))⟩,
 ⟨(some 81), (some (77, true)), .p (.ld1 (.t 80))⟩,
 ⟨(some 82), (some (77, true)), .p (.ia 2 (.t 79) (.t 81))⟩,
 ⟨(some 83), (some (77, true)), .p (.fa 0 (.t 82))⟩,
 ⟨(some 84), (some (77, true)), .p (.ld1 (.t 83))⟩,
 ⟨(some 85), (some (77, true)), .p (.fa 1 (.t 7))⟩,
 ⟨(some 86), (some (77, true)), .p (.ld1 (.t 85))⟩,
 ⟨(some 87), (some (77, true)), .p (.bin .neq (.i .i64) (.t 84) (.t 86))⟩,
 ⟨(some 88), (some (77, true)), .p (.mov (.t 87))⟩,
 ⟨(some 89), (some (88, false)), .p (.fa 2 (.t 1))⟩,
 ⟨(some 90), (some (88, false)), .p (.ld1 (.t 89))⟩,
 ⟨(some 91), (some (88, false)), .p (.fa 2 (.t 7))⟩,
 ⟨(some 92), (some (88, false)), .p (.ld1 (.t 91))⟩,
 ⟨(some 93), (some (88, false)), .p (.ia 2 (.t 90) (.t 92))⟩,
 ⟨(some 94), (some (88, false)), .p (.fa 1 (.t 93))⟩,
 ⟨(some 95), (some (88, false)), .p (.ld1 (.t 94))⟩,
 ⟨(some 96), (some (88, false)), .p (.fa 3 (.t 7))⟩,
 ⟨(some 97), (some (88, false)), .p (.ld1 (.t 96))⟩,
 ⟨(some 98), (some (88, false)), .p (.len (.t 97))⟩,
 ⟨(some 99), (some (88, false)), .p (.bin .neq (.i .i64) (.t 95) (.t 98))⟩,
 ⟨(some 100), (some (77, true)), .p (.pick (.t 88) (.c (bl true)) (.t 99))⟩,
 ⟨(some 101), none, .p (.pick (.t 77) (.t 100) (.c (bl false)))⟩])
 (.cond (.t 101)
 (.seq
 (.reg [
 ⟨(some 2), none, .p (.mov (.c (i64 10)))⟩])
 .ret)
 .skip))))
 (.reg [
 ⟨(some 67), none, .p (.mov (.t 6))⟩,
 ⟨(some 68), none, .p (.bin .add (.i .i64) (.t 67) (.c (i64 1)))⟩,
 ⟨(some 6), none, .p (.mov (.t 68))⟩])))
def l13_2 : IC := .keep [8, 9]
 (.seq
 (.seq
 (.reg [
 ⟨(some 104), none, .p (.mov (.t 9))⟩,
 ⟨(some 105), none, .p (.mov (.t 8))⟩,
 ⟨(some 106), none, .p (.len (.t 105))⟩,
 ⟨(some 107), none, .p (.bin .lss (.i .i64) (.t 104) (.t 106))⟩])
 (.cond (.t 107)
 .skip
 (.exit 4)))
 (.seq
 (.blk 5
 (.seq
 (.reg [
 ⟨(some 110), none, .p (.mov (.t 8))⟩,
 ⟨(some 111), none, .p (.mov (.t 9))⟩,
 ⟨(some 112), none, .p (.ia 1 (.t 110) (.t 111))⟩,
 ⟨(some 113), none, .p (.ld1 (.t 112))⟩,
 ⟨(some 114), none, .p (.len (.t 113))⟩,
 ⟨(some 115), none, .p (.bin .eql (.i .i64) (.t 114) (.c (i64 0)))⟩])
 (.cond (.t 115)
 (.seq
 (.reg [
 ⟨(some 2), none, .p (.mov (.c (i64 18)))⟩])
 .ret)
 .skip)))
 (.reg [
 ⟨(some 108), none, .p (.mov (.t 9))⟩,
 ⟨(some 109), none, .p (.bin .add (.i .i64) (.t 108) (.c (i64 1)))⟩,
 ⟨(some 9), none, .p (.mov (.t 109))⟩])))
def l13_3 : IC := .keep [8, 10]
 (.seq
 (.seq
 (.reg [
 ⟨(some 116), none, .p (.mov (.t 10))⟩,
 ⟨(some 117), none, .p (.mov (.t 8))⟩,
 ⟨(some 118), none, .p (.len (.t 117))⟩,
 ⟨(some 119), none, .p (.bin .lss (.i .i64) (.t 116) (.t 118))⟩])
 (.cond (.t 119)
 .skip
 (.exit 6)))
 (.seq
 (.blk 7
 (.seq
 (.drw [0, 1, 2, 3, 4, 5, 6, 7, 8, 9, 10, 11, 12, 13] [
 ⟨(some 122), none, .p (.mov (.t 8))⟩,
 ⟨(some 123), none, .p (.mov (.t 10))⟩,
 ⟨(some 124), none, .p (.ia 1 (.t 122) (.t 123))⟩,
 ⟨(some 125), none, .p (.ld1 (.t 124))⟩,
 ⟨(some 126), none, .p (.ia 1 (.t 125) (.c (i64 0)))⟩,
 ⟨(some 127), none, .p (.ld1 (.t 126))⟩,
 ⟨(some 128), none, .p (.mov (.t 8))⟩,
 ⟨(some 129), none, .p (.mov (.t 10))⟩,
 ⟨(some 130), none, .p (.bin .sub (.i .i64) (.t 129) (.c (i64 1)))⟩,
 ⟨(some 131), none, .p (.ia 1 (.t 128) (.t 130))⟩,
 ⟨(some 132), none, .p (.ld1 (.t 131))⟩,
 ⟨(some 133), none, .p (.ia 1 (.t 132) (.c (i64 0)))⟩,
 ⟨(some 134), none, .p (.ld1 (.t 133))⟩,
 ⟨(some 135), none, .p (.bin .lss (.i .i64) (.t 127) (.t 134))⟩])
 (.cond (.t 135)
 (.seq
 (.reg [
 ⟨(some 2), none, .p (.mov (.c (i64 9)))⟩])
 .ret)
 .skip)))
 (.reg [
 ⟨(some 120), none, .p (.mov (.t 10))⟩,
 ⟨(some 121), none, .p (.bin .add (.i .i64) (.t 120) (.c (i64 1)))⟩,
 ⟨(some 10), none, .p (.mov (.t 121))⟩])))
/-- parlour/parlourref11.Form -/
def i13 : IC :=
 (.seq
 (.reg [
 ⟨(some 1), none, .e (.box 25 (.t 0))⟩,
 ⟨(some 2), none, .p (.mov (.c (i64 0)))⟩])
 (.seq
 (.seq
 (.reg [
 ⟨(some 11), none, .p (.fa 0 (.t 1))⟩,
 ⟨(some 12), none, .p (.ld1 (.t 11))⟩,
 ⟨(some 13), none, .p (.bin .lss (.i .i64) (.t 12) (.c (i64 1)))⟩,
 ⟨(some 14), none, .p (.mov (.t 13))⟩,
 ⟨(some 15), (some (14, false)), .p (.fa 0 (.t 1))⟩,
 ⟨(some 16), (some (14, false)), .p (.ld1 (.t 15))⟩,
 ⟨(some 17), (some (14, false)), .p (.bin .gtr (.i .i64) (.t 16) (.c (i64 4)))⟩,
 ⟨(some 18), none, .p (.pick (.t 14) (.c (bl true)) (.t 17))⟩,
 ⟨(some 19), none, .p (.mov (.t 18))⟩,
 ⟨(some 20), (some (19, false)), .p (.fa 1 (.t 1))⟩,
 ⟨(some 21), (some (19, false)), .p (.ld1 (.t 20))⟩,
 ⟨(some 22), (some (19, false)), .p (.len (.t 21))⟩,
 ⟨(some 23), (some (19, false)), .p (.bin .lss (.i .i64) (.t 22) (.c (i64 1)))⟩,
 ⟨(some 24), none, .p (.pick (.t 19) (.c (bl true)) (.t 23))⟩,
 ⟨(some 25), none, .p (.mov (.t 24))⟩,
 ⟨(some 26), (some (25, false)), .p (.fa 1 (.t 1))⟩,
 ⟨(some 27), (some (25, false)), .p (.ld1 (.t 26))⟩,
 ⟨(some 28), (some (25, false)), .p (.len (.t 27))⟩,
 ⟨(some 29), (some (25, false)), .p (.bin .gtr (.i .i64) (.t 28) (.c (i64 2000)))⟩,
 ⟨(some 30), none, .p (.pick (.t 25) (.c (bl true)) (.t 29))⟩,
 ⟨(some 31), none, .p (.mov (.t 30))⟩,
 ⟨(some 32), (some (31, false)), .p (.fa 2 (.t 1))⟩,
 ⟨(some 33), (some (31, false)), .p (.ld1 (.t 32))⟩,
 ⟨(some 34), (some (31, false)), .p (.len (.t 33))⟩,
 ⟨(some 35), (some (31, false)), .p (.bin .gtr (.i .i64) (.t 34) (.c (i64 200)))⟩,
 ⟨(some 36), none, .p (.pick (.t 31) (.c (bl true)) (.t 35))⟩])
 (.cond (.t 36)
 (.seq
 (.reg [
 ⟨(some 2), none, .p (.mov (.c (i64 2)))⟩])
 .ret)
 .skip))
 (.seq
 (.seq
 (.reg [
 ⟨(some 3), none, .p (.mov (.c (i64 0)))⟩])
 (.blk 0
 (.loop l13_0)))
 (.seq
 (.reg [
 ⟨(some 5), none, .e (.alc 3 [i64 0])⟩,
 ⟨none, none, .e (.st 1 (.t 5) (.c (i64 0)))⟩])
 (.seq
 (.seq
 (.drw [0, 2, 3, 4, 1, 5] [
 ⟨(some 54), none, .p (.ldn 3 (.t 1))⟩,
 ⟨(some 56), none, .p (.fa 1 (.t 1))⟩,
 ⟨(some 57), none, .p (.ld1 (.t 56))⟩,
 ⟨(some 58), none, .p (.len (.t 57))⟩,
 ⟨(some 55), none, .e (.call (.c (.fn (.func 40) [] [])) [(.t 54), (.c (i64 0)), (.c (i64 0)), (.t 5)])⟩,
 ⟨(some 59), none, .p (.bin .neq (.i .i64) (.t 55) (.t 58))⟩])
 (.cond (.t 59)
 (.seq
 (.reg [
 ⟨(some 2), none, .p (.mov (.c (i64 9)))⟩])
 .ret)
 .skip))
 (.seq
 (.seq
 (.reg [
 ⟨(some 60), none, .p (.ld1 (.t 5))⟩,
 ⟨(some 61), none, .p (.bin .gtr (.i .i64) (.t 60) (.c (i64 40)))⟩])
 (.cond (.t 61)
 (.seq
 (.reg [
 ⟨(some 2), none, .p (.mov (.c (i64 5)))⟩])
 .ret)
 .skip))
 (.seq
 (.seq
 (.reg [
 ⟨(some 6), none, .p (.mov (.c (i64 0)))⟩])
 (.blk 2
 (.loop l13_1)))
 (.seq
 (.reg [
 ⟨(some 102), none, .p (.ldn 3 (.t 1))⟩,
 ⟨(some 103), none, .e (.call (.c (.fn (.func 41) [] [])) [(.t 102)])⟩,
 ⟨(some 8), none, .p (.mov (.t 103))⟩])
 (.seq
 (.seq
 (.reg [
 ⟨(some 9), none, .p (.mov (.c (i64 0)))⟩])
 (.blk 4
 (.loop l13_2)))
 (.seq
 (.seq
 (.reg [
 ⟨(some 10), none, .p (.mov (.c (i64 1)))⟩])
 (.blk 6
 (.loop l13_3)))
 (.seq
 (.reg [
 ⟨(some 2), none, .p (.mov (.c (i64 0)))⟩])
 .ret)))))))))))
def r13 : List RS := [.t 2]
theorem c13 : chkF Try.prog drawB Try.f13 i13 r13 = true := by kernel_rfl
def l14_0 : IC := .keep [2, 3, 5]
 (.seq
 (.seq
 (.reg [
 ⟨(some 28), none, .p (.mov (.t 5))⟩,
 ⟨(some 29), none, .p (.fa 1 (.t 2))⟩,
 ⟨(some 30), none, .p (.ld1 (.t 29))⟩,
 ⟨(some 31), none, .p (.len (.t 30))⟩,
 ⟨(some 32), none, .p (.bin .lss (.i .i64) (.t 28) (.t 31))⟩])
 (.cond (.t 32)
 .skip
 (.exit 0)))
 (.seq
 (.blk 1
 (.seq
 (.drw [0, 1, 2, 3, 4, 5, 6, 7, 8, 9, 10, 11] [
 ⟨(some 35), none, .p (.fa 1 (.t 2))⟩,
 ⟨(some 36), none, .p (.ld1 (.t 35))⟩,
 ⟨(some 37), none, .p (.mov (.t 5))⟩,
 ⟨(some 38), none, .p (.ia 6 (.t 36) (.t 37))⟩,
 ⟨(some 39), none, .p (.ldn 6 (.t 38))⟩,
 ⟨(some 40), none, .p (.fa 1 (.t 3))⟩,
 ⟨(some 41), none, .p (.ld1 (.t 40))⟩,
 ⟨(some 42), none, .p (.mov (.t 5))⟩,
 ⟨(some 43), none, .p (.ia 6 (.t 41) (.t 42))⟩,
 ⟨(some 44), none, .p (.ldn 6 (.t 43))⟩,
 ⟨(some 45), none, .q (.c (.fn (.func 43) [] [])) [(.t 39), (.t 44)]⟩,
 ⟨(some 46), none, .p (.not (.t 45))⟩])
 (.cond (.t 46)
 (.seq
 (.reg [
 ⟨(some 4), none, .p (.mov (.c (bl false)))⟩])
 .ret)
 .skip)))
 (.reg [
 ⟨(some 33), none, .p (.mov (.t 5))⟩,
 ⟨(some 34), none, .p (.bin .add (.i .i64) (.t 33) (.c (i64 1)))⟩,
 ⟨(some 5), none, .p (.mov (.t 34))⟩])))
/-- parlour/parlourkit.AlikeGame -/
def i14 : IC :=
 (.seq
 (.reg [
 ⟨(some 2), none, .e (.box 25 (.t 0))⟩,
 ⟨(some 3), none, .e (.box 25 (.t 1))⟩,
 ⟨(some 4), none, .p (.mov (.c (bl false)))⟩])
 (.seq
 (.seq
 (.reg [
 ⟨(some 6), none, .p (.fa 0 (.t 2))⟩,
 ⟨(some 7), none, .p (.ld1 (.t 6))⟩,
 ⟨(some 8), none, .p (.fa 0 (.t 3))⟩,
 ⟨(some 9), none, .p (.ld1 (.t 8))⟩,
 ⟨(some 10), none, .p (.bin .neq (.i .i64) (.t 7) (.t 9))⟩,
 ⟨(some 11), none, .p (.mov (.t 10))⟩,
 ⟨(some 12), (some (11, false)), .p (.fa 1 (.t 2))⟩,
 ⟨(some 13), (some (11, false)), .p (.ld1 (.t 12))⟩,
 ⟨(some 14), (some (11, false)), .p (.len (.t 13))⟩,
 ⟨(some 15), (some (11, false)), .p (.fa 1 (.t 3))⟩,
 ⟨(some 16), (some (11, false)), .p (.ld1 (.t 15))⟩,
 ⟨(some 17), (some (11, false)), .p (.len (.t 16))⟩,
 ⟨(some 18), (some (11, false)), .p (.bin .neq (.i .i64) (.t 14) (.t 17))⟩,
 ⟨(some 19), none, .p (.pick (.t 11) (.c (bl true)) (.t 18))⟩,
 ⟨(some 20), none, .p (.mov (.t 19))⟩,
 ⟨(some 21), (some (20, false)), .p (.fa 2 (.t 2))⟩,
 ⟨(some 22), (some (20, false)), .p (.ld1 (.t 21))⟩,
 ⟨(some 23), (some (20, false)), .p (.fa 2 (.t 3))⟩,
 ⟨(some 24), (some (20, false)), .p (.ld1 (.t 23))⟩,
 ⟨(some 25), (some (20, false)), .q (.c (.fn (.func 42) [] [])) [(.t 22), (.t 24)]⟩,
 ⟨(some 26), (some (20, false)), .p (.not (.t 25))⟩,
 ⟨(some 27), none, .p (.pick (.t 20) (.c (bl true)) (.t 26))⟩])
 (.cond (.t 27)
 (.seq
 (.reg [
 ⟨(some 4), none, .p (.mov (.c (bl false)))⟩])
 .ret)
 .skip))
 (.seq
 (.seq
 (.reg [
 ⟨(some 5), none, .p (.mov (.c (i64 0)))⟩])
 (.blk 0
 (.loop l14_0)))
 (.seq
 (.reg [
 ⟨(some 4), none, .p (.mov (.c (bl true)))⟩])
 .ret))))
def r14 : List RS := [.t 4]
theorem c14 : chkF Try.prog drawB Try.f14 i14 r14 = true := by kernel_rfl
/-- parlour/parlourlaw11.sample -/
def i15 : IC :=
 (.seq
 (.reg [
 ⟨(some 0), none, .e (.alc 25 [i64 0, .val (.slice none 0 0), .val (.slice none 0 0)])⟩])
 (.seq
 (.reg [
 ⟨(some 1), none, .e (.bsl 3 1 2 [i64 0] [(0, (.c (i64 1))), (1, (.c (i64 4)))])⟩,
 ⟨(some 2), none, .p (.bld [i64 0, i64 0, i64 0, .val (.slice none 0 0), .val (.slice none 0 0), .val (.slice none 0 0)] [(0, 1, (.c (i64 2))), (3, 1, (.t 1))])⟩,
 ⟨(some 3), none, .e (.bsl 3 1 2 [i64 0] [(0, (.c (i64 2))), (1, (.c (i64 3)))])⟩,
 ⟨(some 4), none, .p (.bld [i64 0, i64 0, i64 0, .val (.slice none 0 0), .val (.slice none 0 0), .val (.slice none 0 0)] [(0, 1, (.c (i64 2))), (1, 1, (.c (i64 1))), (2, 1, (.c (i64 1))), (3, 1, (.t 3))])⟩,
 ⟨(some 5), none, .e (.call (.c (.fn (.func 44) [] [])) [(.c (i64 1))])⟩,
 ⟨(some 6), none, .e (.call (.c (.fn (.func 44) [] [])) [(.c (i64 0))])⟩,
 ⟨(some 7), none, .e (.bsl 3 1 2 [i64 0] [(0, (.c (i64 5))), (1, (.c (i64 6)))])⟩,
 ⟨(some 8), none, .p (.bld [i64 0, i64 0, i64 0, .val (.slice none 0 0), .val (.slice none 0 0), .val (.slice none 0 0)] [(0, 1, (.c (i64 2))), (1, 1, (.c (i64 1))), (2, 1, (.c (i64 1))), (3, 1, (.t 7))])⟩,
 ⟨(some 9), none, .e (.call (.c (.fn (.func 44) [] [])) [(.c (i64 2))])⟩,
 ⟨(some 10), none, .e (.call (.c (.fn (.func 44) [] [])) [(.c (i64 3))])⟩,
 ⟨(some 11), none, .e (.bsl 37 6 7 [i64 0, i64 0, i64 0, .val (.slice none 0 0), .val (.slice none 0 0), .val (.slice none 0 0)] [(0, (.t 2)), (1, (.t 4)), (2, (.t 5)), (3, (.t 6)), (4, (.t 8)), (5, (.t 9)), (6, (.t 10))])⟩,
 ⟨(some 12), none, .p (.bld [i64 0, i64 0] [(1, 1, (.c (i64 2)))])⟩,
 ⟨(some 13), none, .p (.bld [i64 0, i64 0] [(0, 1, (.c (i64 1))), (1, 1, (.c (i64 2)))])⟩,
 ⟨(some 14), none, .e (.bsl 34 2 2 [i64 0, i64 0] [(0, (.t 12)), (1, (.t 13))])⟩,
 ⟨(some 15), none, .p (.bld [i64 0, .val (.slice none 0 0), .val (.slice none 0 0)] [(0, 1, (.c (i64 2))), (1, 1, (.t 11)), (2, 1, (.t 14))])⟩,
 ⟨none, none, .e (.st 3 (.t 0) (.t 15))⟩])
 .ret))
def r15 : List RS := [.cn 0 3]
theorem c15 : chkF Try.prog drawB Try.f15 i15 r15 = true := by kernel_rfl
def l16_0 : IC := .keep [1, 6, 9, 10, 34, 35, 36]
 (.seq
 (.reg [
 ⟨(some 37), none, .p (.bin .lss (.i .i64) (.t 36) (.t 35))⟩])
 (.seq
 (.cond (.t 37)
 .skip
 (.exit 0))
 (.seq
 (.blk 1
 (.seq
 (.reg [
 ⟨(some 38), none, .p (.mov (.t 36))⟩,
 ⟨(some 39), none, .p (.ia 1 (.t 34) (.t 36))⟩,
 ⟨(some 40), none, .p (.ld1 (.t 39))⟩,
 ⟨(some 11), none, .p (.mov (.t 38))⟩,
 ⟨(some 12), none, .p (.mov (.t 40))⟩])
 (.seq
 (.reg [
 ⟨(some 41), none, .p (.mov (.t 6))⟩,
 ⟨(some 42), none, .p (.nck (.t 41))⟩,
 ⟨(some 43), none, .p (.fa 0 (.t 42))⟩,
 ⟨(some 44), none, .p (.fa 2 (.t 43))⟩,
 ⟨(some 45), none, .p (.ld1 (.t 44))⟩,
 ⟨(some 46), none, .p (.mov (.t 11))⟩,
 ⟨(some 47), none, .p (.ia 2 (.t 45) (.t 46))⟩,
 ⟨(some 48), none, .p (.fa 0 (.t 47))⟩,
 ⟨(some 49), none, .p (.ld1 (.t 48))⟩,
 ⟨(some 50), none, .p (.mov (.t 1))⟩,
 ⟨(some 51), none, .p (.bin .eql (.i .i64) (.t 49) (.t 50))⟩,
 ⟨(some 52), none, .p (.mov (.t 51))⟩,
 ⟨(some 53), (some (52, true)), .p (.ldn 2 (.t 10))⟩,
 ⟨(some 54), (some (52, true)), .p (.mov (.t 11))⟩,
 ⟨(some 55), (some (52, true)), .p (.mov (.t 12))⟩,
 ⟨(some 56), (some (52, true)), .e (.call (.c (.fn (.func 48) [] [])) [(.t 53), (.t 54), (.t 55)])⟩,
 ⟨(some 57), (some (52, true)), .p (.not (.t 56))⟩,
 ⟨(some 58), none, .p (.pick (.t 52) (.t 57) (.c (bl false)))⟩])
 (.cond (.t 58)
 (.exit 0)
 .skip))))
 (.reg [
 ⟨(some 59), none, .p (.bin .add (.i .i64) (.t 36) (.c (i64 1)))⟩,
 ⟨(some 36), none, .p (.mov (.t 59))⟩]))))
/-- parlour/recall.Perfect -/
def i16 : IC :=
 (.seq
 (.reg [
 ⟨(some 2), none, .e (.box 25 (.t 0))⟩,
 ⟨(some 4), none, .p (.mov (.c (bl false)))⟩,
 ⟨(some 5), none, .p (.mov (.c (i64 0)))⟩])
 (.seq
 (.reg [
 ⟨(some 14), none, .p (.ldn 3 (.t 2))⟩,
 ⟨(some 15), none, .e (.call (.c (.fn (.func 38) [] [])) [(.t 14)])⟩,
 ⟨(some 13), none, .p (.mov (.t 15))⟩,
 ⟨(some 16), none, .p (.ext (.t 13) 0)⟩,
 ⟨(some 17), none, .p (.ext (.t 13) 1)⟩,
 ⟨(some 6), none, .p (.mov (.t 16))⟩,
 ⟨(some 7), none, .p (.mov (.t 17))⟩])
 (.seq
 (.seq
 (.reg [
 ⟨(some 18), none, .p (.mov (.t 7))⟩,
 ⟨(some 19), none, .p (.bin .neq (.i .i64) (.t 18) (.c (i64 0)))⟩])
 (.cond (.t 19)
 (.seq
 (.reg [
 ⟨(some 20), none, .p (.mov (.t 7))⟩,
 ⟨(some 4), none, .p (.mov (.c (bl false)))⟩,
 ⟨(some 5), none, .p (.mov (.t 20))⟩])
 .ret)
 .skip))
 (.seq
 (.seq
 (.reg [
 ⟨(some 21), none, .p (.fa 0 (.t 2))⟩,
 ⟨(some 22), none, .p (.ld1 (.t 21))⟩,
 ⟨(some 23), none, .p (.bin .sub (.i .i64) (.t 22) (.c (i64 1)))⟩,
 ⟨(some 24), none, .p (.mov (.t 1))⟩,
 ⟨(some 25), none, .e (.bsl 3 1 1 [i64 0] [(0, (.t 24))])⟩,
 ⟨(some 26), none, .e (.call (.c (.fn (.func 45) [] [])) [(.c (i64 0)), (.t 23), (.t 25)])⟩,
 ⟨(some 8), none, .p (.mov (.t 26))⟩])
 (.seq
 (.reg [
 ⟨(some 27), none, .p (.mov (.t 8))⟩,
 ⟨(some 28), none, .p (.bin .neq (.i .i64) (.t 27) (.c (i64 0)))⟩])
 (.cond (.t 28)
 (.seq
 (.reg [
 ⟨(some 29), none, .p (.mov (.t 8))⟩,
 ⟨(some 4), none, .p (.mov (.c (bl false)))⟩,
 ⟨(some 5), none, .p (.mov (.t 29))⟩])
 .ret)
 .skip)))
 (.seq
 (.reg [
 ⟨(some 9), none, .e (.alc 4 [bl false])⟩,
 ⟨none, none, .e (.st 1 (.t 9) (.c (bl true)))⟩])
 (.seq
 (.reg [
 ⟨(some 30), none, .p (.mov (.t 6))⟩,
 ⟨(some 31), none, .p (.mkf (.func 46) [] [(.t 9)])⟩,
 ⟨(some 32), none, .p (.bld [.val (.pointer none), .val .nilFunc] [(0, 1, (.t 30)), (1, 1, (.t 31))])⟩,
 ⟨(some 10), none, .e (.alc 80 [.val (.pointer none), .val .nilFunc])⟩,
 ⟨none, none, .e (.st 2 (.t 10) (.t 32))⟩])
 (.seq
 (.seq
 (.reg [
 ⟨(some 33), none, .p (.mov (.t 6))⟩,
 ⟨(some 34), none, .e (.call (.c (.fn (.func 47) [] [])) [(.t 33)])⟩,
 ⟨(some 35), none, .p (.len (.t 34))⟩,
 ⟨(some 36), none, .p (.mov (.c (i64 0)))⟩])
 (.blk 0
 (.loop l16_0)))
 (.seq
 (.reg [
 ⟨(some 60), none, .p (.ld1 (.t 9))⟩,
 ⟨(some 4), none, .p (.mov (.t 60))⟩,
 ⟨(some 5), none, .p (.mov (.c (i64 0)))⟩])
 .ret))))))))
def r16 : List RS := [.t 4, .t 5]
theorem c16 : chkF Try.prog drawB Try.f16 i16 r16 = true := by kernel_rfl
def l17_0 : IC := .keep [6, 7, 22, 23, 24]
 (.seq
 (.reg [
 ⟨(some 25), none, .p (.bin .lss (.i .i64) (.t 24) (.t 23))⟩])
 (.seq
 (.cond (.t 25)
 .skip
 (.exit 0))
 (.seq
 (.blk 1
 (.seq
 (.reg [
 ⟨(some 26), none, .p (.mov (.t 24))⟩,
 ⟨(some 27), none, .p (.ia 1 (.t 22) (.t 24))⟩,
 ⟨(some 28), none, .p (.ld1 (.t 27))⟩,
 ⟨(some 8), none, .p (.mov (.t 26))⟩,
 ⟨(some 9), none, .p (.mov (.t 28))⟩])
 (.reg [
 ⟨(some 29), none, .p (.ldn 2 (.t 7))⟩,
 ⟨(some 30), none, .p (.mov (.t 8))⟩,
 ⟨(some 31), none, .p (.mov (.t 9))⟩,
 ⟨(some 32), none, .e (.call (.c (.fn (.func 48) [] [])) [(.t 29), (.t 30), (.t 31)])⟩])))
 (.reg [
 ⟨(some 33), none, .p (.bin .add (.i .i64) (.t 24) (.c (i64 1)))⟩,
 ⟨(some 24), none, .p (.mov (.t 33))⟩]))))
/-- parlour/recall.Flaws -/
def i17 : IC :=
 (.seq
 (.reg [
 ⟨(some 1), none, .e (.box 25 (.t 0))⟩,
 ⟨(some 2), none, .p (.mov (.c (.val (.slice none 0 0))))⟩,
 ⟨(some 3), none, .p (.mov (.c (i64 0)))⟩])
 (.seq
 (.reg [
 ⟨(some 11), none, .p (.ldn 3 (.t 1))⟩,
 ⟨(some 12), none, .e (.call (.c (.fn (.func 38) [] [])) [(.t 11)])⟩,
 ⟨(some 10), none, .p (.mov (.t 12))⟩,
 ⟨(some 13), none, .p (.ext (.t 10) 0)⟩,
 ⟨(some 14), none, .p (.ext (.t 10) 1)⟩,
 ⟨(some 4), none, .p (.mov (.t 13))⟩,
 ⟨(some 5), none, .p (.mov (.t 14))⟩])
 (.seq
 (.seq
 (.reg [
 ⟨(some 15), none, .p (.mov (.t 5))⟩,
 ⟨(some 16), none, .p (.bin .neq (.i .i64) (.t 15) (.c (i64 0)))⟩])
 (.cond (.t 16)
 (.seq
 (.reg [
 ⟨(some 17), none, .p (.mov (.t 5))⟩,
 ⟨(some 2), none, .p (.mov (.c (.val (.slice none 0 0))))⟩,
 ⟨(some 3), none, .p (.mov (.t 17))⟩])
 .ret)
 .skip))
 (.seq
 (.reg [
 ⟨(some 6), none, .e (.alc 40 [.val (.slice none 0 0)])⟩])
 (.seq
 (.reg [
 ⟨(some 18), none, .p (.mov (.t 4))⟩,
 ⟨(some 19), none, .p (.mkf (.func 49) [] [(.t 6)])⟩,
 ⟨(some 20), none, .p (.bld [.val (.pointer none), .val .nilFunc] [(0, 1, (.t 18)), (1, 1, (.t 19))])⟩,
 ⟨(some 7), none, .e (.alc 80 [.val (.pointer none), .val .nilFunc])⟩,
 ⟨none, none, .e (.st 2 (.t 7) (.t 20))⟩])
 (.seq
 (.seq
 (.reg [
 ⟨(some 21), none, .p (.mov (.t 4))⟩,
 ⟨(some 22), none, .e (.call (.c (.fn (.func 47) [] [])) [(.t 21)])⟩,
 ⟨(some 23), none, .p (.len (.t 22))⟩,
 ⟨(some 24), none, .p (.mov (.c (i64 0)))⟩])
 (.blk 0
 (.loop l17_0)))
 (.seq
 (.reg [
 ⟨(some 34), none, .p (.ld1 (.t 6))⟩,
 ⟨(some 2), none, .p (.mov (.t 34))⟩,
 ⟨(some 3), none, .p (.mov (.c (i64 0)))⟩])
 .ret)))))))
def r17 : List RS := [.t 2, .t 3]
theorem c17 : chkF Try.prog drawB Try.f17 i17 r17 = true := by kernel_rfl
/-- parlour/recall.Way -/
def i18 : IC :=
 (.seq
 (.reg [
 ⟨(some 3), none, .e (.box 25 (.t 0))⟩,
 ⟨(some 6), none, .p (.mov (.c (.val (.slice none 0 0))))⟩,
 ⟨(some 7), none, .p (.mov (.c (i64 0)))⟩])
 (.seq
 (.reg [
 ⟨(some 11), none, .p (.ldn 3 (.t 3))⟩,
 ⟨(some 12), none, .e (.call (.c (.fn (.func 38) [] [])) [(.t 11)])⟩,
 ⟨(some 10), none, .p (.mov (.t 12))⟩,
 ⟨(some 13), none, .p (.ext (.t 10) 0)⟩,
 ⟨(some 14), none, .p (.ext (.t 10) 1)⟩,
 ⟨(some 8), none, .p (.mov (.t 13))⟩,
 ⟨(some 9), none, .p (.mov (.t 14))⟩])
 (.seq
 (.seq
 (.reg [
 ⟨(some 15), none, .p (.mov (.t 9))⟩,
 ⟨(some 16), none, .p (.bin .neq (.i .i64) (.t 15) (.c (i64 0)))⟩])
 (.cond (.t 16)
 (.seq
 (.reg [
 ⟨(some 17), none, .p (.mov (.t 9))⟩,
 ⟨(some 6), none, .p (.mov (.c (.val (.slice none 0 0))))⟩,
 ⟨(some 7), none, .p (.mov (.t 17))⟩])
 .ret)
 .skip))
 (.seq
 (.seq
 (.reg [
 ⟨(some 18), none, .p (.fa 1 (.t 3))⟩,
 ⟨(some 19), none, .p (.ld1 (.t 18))⟩,
 ⟨(some 20), none, .p (.len (.t 19))⟩,
 ⟨(some 21), none, .p (.bin .sub (.i .i64) (.t 20) (.c (i64 1)))⟩,
 ⟨(some 22), none, .p (.mov (.t 1))⟩,
 ⟨(some 23), none, .e (.bsl 3 1 1 [i64 0] [(0, (.t 22))])⟩,
 ⟨(some 24), none, .e (.call (.c (.fn (.func 45) [] [])) [(.c (i64 0)), (.t 21), (.t 23)])⟩,
 ⟨(some 25), none, .p (.bin .neq (.i .i64) (.t 24) (.c (i64 0)))⟩,
 ⟨(some 26), none, .p (.mov (.t 25))⟩,
 ⟨(some 27), (some (26, false)), .p (.fa 0 (.t 3))⟩,
 ⟨(some 28), (some (26, false)), .p (.ld1 (.t 27))⟩,
 ⟨(some 29), (some (26, false)), .p (.bin .sub (.i .i64) (.t 28) (.c (i64 1)))⟩,
 ⟨(some 30), (some (26, false)), .p (.mov (.t 2))⟩,
 ⟨(some 31), (some (26, false)), .e (.bsl 3 1 1 [i64 0] [(0, (.t 30))])⟩,
 ⟨(some 32), (some (26, false)), .q (.c (.fn (.func 45) [] [])) [(.c (i64 0)), (.t 29), (.t 31)]⟩,
 ⟨(some 33), (some (26, false)), .p (.bin .neq (.i .i64) (.t 32) (.c (i64 0)))⟩,
 ⟨(some 34), none, .p (.pick (.t 26) (.c (bl true)) (.t 33))⟩])
 (.cond (.t 34)
 (.seq
 (.reg [
 ⟨(some 6), none, .p (.mov (.c (.val (.slice none 0 0))))⟩,
 ⟨(some 7), none, .p (.mov (.c (i64 2)))⟩])
 .ret)
 .skip))
 (.seq
 (.reg [
 ⟨(some 35), none, .p (.mov (.t 8))⟩,
 ⟨(some 36), none, .p (.mov (.t 1))⟩,
 ⟨(some 37), none, .p (.mov (.t 2))⟩,
 ⟨(some 38), none, .e (.call (.c (.fn (.func 50) [] [])) [(.t 35), (.t 36), (.t 37)])⟩,
 ⟨(some 6), none, .p (.mov (.t 38))⟩,
 ⟨(some 7), none, .p (.mov (.c (i64 0)))⟩])
 .ret)))))
def r18 : List RS := [.t 6, .t 7]
theorem c18 : chkF Try.prog drawB Try.f18 i18 r18 = true := by kernel_rfl
def l19_0 : IC := .keep [0, 1, 5]
 (.seq
 (.seq
 (.reg [
 ⟨(some 11), none, .p (.mov (.t 5))⟩,
 ⟨(some 12), none, .p (.mov (.t 0))⟩,
 ⟨(some 13), none, .p (.len (.t 12))⟩,
 ⟨(some 14), none, .p (.bin .lss (.i .i64) (.t 11) (.t 13))⟩])
 (.cond (.t 14)
 .skip
 (.exit 0)))
 (.seq
 (.blk 1
 (.seq
 (.drw [0, 1, 2, 3, 4, 5, 6, 7, 8] [
 ⟨(some 17), none, .p (.mov (.t 0))⟩,
 ⟨(some 18), none, .p (.mov (.t 5))⟩,
 ⟨(some 19), none, .p (.ia 2 (.t 17) (.t 18))⟩,
 ⟨(some 20), none, .p (.ldn 2 (.t 19))⟩,
 ⟨(some 21), none, .p (.mov (.t 1))⟩,
 ⟨(some 22), none, .p (.mov (.t 5))⟩,
 ⟨(some 23), none, .p (.ia 2 (.t 21) (.t 22))⟩,
 ⟨(some 24), none, .p (.ldn 2 (.t 23))⟩,
 ⟨(some 25), none, .p (.eqf true [.i .i64, .i .i64] (.t 20) (.t 24))⟩])
 (.cond (.t 25)
 (.seq
 (.reg [
 ⟨(some 4), none, .p (.mov (.c (bl false)))⟩])
 .ret)
 .skip)))
 (.reg [
 ⟨(some 15), none, .p (.mov (.t 5))⟩,
 ⟨(some 16), none, .p (.bin .add (.i .i64) (.t 15) (.c (i64 1)))⟩,
 ⟨(some 5), none, .p (.mov (.t 16))⟩])))
/-- parlour/parlourkit.Alike((2)int) -/
def i19 : IC :=
 (.seq
 (.reg [
 ⟨(some 4), none, .p (.mov (.c (bl false)))⟩])
 (.seq
 (.seq
 (.reg [
 ⟨(some 6), none, .p (.mov (.t 0))⟩,
 ⟨(some 7), none, .p (.len (.t 6))⟩,
 ⟨(some 8), none, .p (.mov (.t 1))⟩,
 ⟨(some 9), none, .p (.len (.t 8))⟩,
 ⟨(some 10), none, .p (.bin .neq (.i .i64) (.t 7) (.t 9))⟩])
 (.cond (.t 10)
 (.seq
 (.reg [
 ⟨(some 4), none, .p (.mov (.c (bl false)))⟩])
 .ret)
 .skip))
 (.seq
 (.seq
 (.reg [
 ⟨(some 5), none, .p (.mov (.c (i64 0)))⟩])
 (.blk 0
 (.loop l19_0)))
 (.seq
 (.reg [
 ⟨(some 4), none, .p (.mov (.c (bl true)))⟩])
 .ret))))
def r19 : List RS := [.t 4]
theorem c19 : chkF Try.prog drawB Try.f19 i19 r19 = true := by kernel_rfl
/-- parlour/recall.Depths -/
def i20 : IC :=
 (.seq
 (.reg [
 ⟨(some 1), none, .e (.box 25 (.t 0))⟩,
 ⟨(some 2), none, .p (.mov (.c (.val (.slice none 0 0))))⟩,
 ⟨(some 3), none, .p (.mov (.c (i64 0)))⟩])
 (.seq
 (.reg [
 ⟨(some 4), none, .p (.ldn 3 (.t 1))⟩,
 ⟨(some 5), none, .e (.call (.c (.fn (.func 51) [] [])) [(.t 4), (.c (.fn (.func 52) [] []))])⟩,
 ⟨(some 6), none, .p (.ext (.t 5) 0)⟩,
 ⟨(some 7), none, .p (.ext (.t 5) 1)⟩,
 ⟨(some 2), none, .p (.mov (.t 6))⟩,
 ⟨(some 3), none, .p (.mov (.t 7))⟩])
 .ret))
def r20 : List RS := [.t 2, .t 3]
theorem c20 : chkF Try.prog drawB Try.f20 i20 r20 = true := by kernel_rfl
/-- parlour/recall.Sets -/
def i21 : IC :=
 (.seq
 (.reg [
 ⟨(some 1), none, .e (.box 25 (.t 0))⟩,
 ⟨(some 2), none, .p (.mov (.c (.val (.slice none 0 0))))⟩,
 ⟨(some 3), none, .p (.mov (.c (i64 0)))⟩])
 (.seq
 (.reg [
 ⟨(some 4), none, .p (.ldn 3 (.t 1))⟩,
 ⟨(some 5), none, .e (.call (.c (.fn (.func 53) [] [])) [(.t 4), (.c (.fn (.func 47) [] []))])⟩,
 ⟨(some 6), none, .p (.ext (.t 5) 0)⟩,
 ⟨(some 7), none, .p (.ext (.t 5) 1)⟩,
 ⟨(some 2), none, .p (.mov (.t 6))⟩,
 ⟨(some 3), none, .p (.mov (.t 7))⟩])
 .ret))
def r21 : List RS := [.t 2, .t 3]
theorem c21 : chkF Try.prog drawB Try.f21 i21 r21 = true := by kernel_rfl
/-- parlour/recall.Last -/
def i22 : IC :=
 (.seq
 (.reg [
 ⟨(some 2), none, .e (.box 25 (.t 0))⟩,
 ⟨(some 4), none, .p (.mov (.c (i64 0)))⟩,
 ⟨(some 5), none, .p (.mov (.c (i64 0)))⟩])
 (.seq
 (.reg [
 ⟨(some 10), none, .p (.ldn 3 (.t 2))⟩,
 ⟨(some 11), none, .e (.call (.c (.fn (.func 38) [] [])) [(.t 10)])⟩,
 ⟨(some 9), none, .p (.mov (.t 11))⟩,
 ⟨(some 12), none, .p (.ext (.t 9) 0)⟩,
 ⟨(some 13), none, .p (.ext (.t 9) 1)⟩,
 ⟨(some 6), none, .p (.mov (.t 12))⟩,
 ⟨(some 7), none, .p (.mov (.t 13))⟩])
 (.seq
 (.seq
 (.reg [
 ⟨(some 14), none, .p (.mov (.t 7))⟩,
 ⟨(some 15), none, .p (.bin .neq (.i .i64) (.t 14) (.c (i64 0)))⟩])
 (.cond (.t 15)
 (.seq
 (.reg [
 ⟨(some 16), none, .p (.mov (.t 7))⟩,
 ⟨(some 4), none, .p (.mov (.c (i64 0)))⟩,
 ⟨(some 5), none, .p (.mov (.t 16))⟩])
 .ret)
 .skip))
 (.seq
 (.seq
 (.reg [
 ⟨(some 17), none, .p (.fa 1 (.t 2))⟩,
 ⟨(some 18), none, .p (.ld1 (.t 17))⟩,
 ⟨(some 19), none, .p (.len (.t 18))⟩,
 ⟨(some 20), none, .p (.bin .sub (.i .i64) (.t 19) (.c (i64 1)))⟩,
 ⟨(some 21), none, .p (.mov (.t 1))⟩,
 ⟨(some 22), none, .e (.bsl 3 1 1 [i64 0] [(0, (.t 21))])⟩,
 ⟨(some 23), none, .e (.call (.c (.fn (.func 45) [] [])) [(.c (i64 0)), (.t 20), (.t 22)])⟩,
 ⟨(some 8), none, .p (.mov (.t 23))⟩])
 (.seq
 (.reg [
 ⟨(some 24), none, .p (.mov (.t 8))⟩,
 ⟨(some 25), none, .p (.bin .neq (.i .i64) (.t 24) (.c (i64 0)))⟩])
 (.cond (.t 25)
 (.seq
 (.reg [
 ⟨(some 26), none, .p (.mov (.t 8))⟩,
 ⟨(some 4), none, .p (.mov (.c (i64 0)))⟩,
 ⟨(some 5), none, .p (.mov (.t 26))⟩])
 .ret)
 .skip)))
 (.seq
 (.reg [
 ⟨(some 27), none, .p (.mov (.t 6))⟩,
 ⟨(some 28), none, .p (.nck (.t 27))⟩,
 ⟨(some 29), none, .p (.fa 5 (.t 28))⟩,
 ⟨(some 30), none, .p (.ld1 (.t 29))⟩,
 ⟨(some 31), none, .p (.mov (.t 1))⟩,
 ⟨(some 32), none, .p (.ia 1 (.t 30) (.t 31))⟩,
 ⟨(some 33), none, .p (.ld1 (.t 32))⟩,
 ⟨(some 4), none, .p (.mov (.t 33))⟩,
 ⟨(some 5), none, .p (.mov (.c (i64 0)))⟩])
 .ret)))))
def r22 : List RS := [.t 4, .t 5]
theorem c22 : chkF Try.prog drawB Try.f22 i22 r22 = true := by kernel_rfl
def l23_0 : IC := .keep [0, 1, 5]
 (.seq
 (.seq
 (.reg [
 ⟨(some 11), none, .p (.mov (.t 5))⟩,
 ⟨(some 12), none, .p (.mov (.t 0))⟩,
 ⟨(some 13), none, .p (.len (.t 12))⟩,
 ⟨(some 14), none, .p (.bin .lss (.i .i64) (.t 11) (.t 13))⟩])
 (.cond (.t 14)
 .skip
 (.exit 0)))
 (.seq
 (.blk 1
 (.seq
 (.drw [0, 1, 2, 3, 4, 5, 6, 7, 8] [
 ⟨(some 17), none, .p (.mov (.t 0))⟩,
 ⟨(some 18), none, .p (.mov (.t 5))⟩,
 ⟨(some 19), none, .p (.ia 1 (.t 17) (.t 18))⟩,
 ⟨(some 20), none, .p (.ld1 (.t 19))⟩,
 ⟨(some 21), none, .p (.mov (.t 1))⟩,
 ⟨(some 22), none, .p (.mov (.t 5))⟩,
 ⟨(some 23), none, .p (.ia 1 (.t 21) (.t 22))⟩,
 ⟨(some 24), none, .p (.ld1 (.t 23))⟩,
 ⟨(some 25), none, .p (.bin .neq (.i .i64) (.t 20) (.t 24))⟩])
 (.cond (.t 25)
 (.seq
 (.reg [
 ⟨(some 4), none, .p (.mov (.c (bl false)))⟩])
 .ret)
 .skip)))
 (.reg [
 ⟨(some 15), none, .p (.mov (.t 5))⟩,
 ⟨(some 16), none, .p (.bin .add (.i .i64) (.t 15) (.c (i64 1)))⟩,
 ⟨(some 5), none, .p (.mov (.t 16))⟩])))
/-- parlour/parlourkit.Alike(int) -/
def i23 : IC :=
 (.seq
 (.reg [
 ⟨(some 4), none, .p (.mov (.c (bl false)))⟩])
 (.seq
 (.seq
 (.reg [
 ⟨(some 6), none, .p (.mov (.t 0))⟩,
 ⟨(some 7), none, .p (.len (.t 6))⟩,
 ⟨(some 8), none, .p (.mov (.t 1))⟩,
 ⟨(some 9), none, .p (.len (.t 8))⟩,
 ⟨(some 10), none, .p (.bin .neq (.i .i64) (.t 7) (.t 9))⟩])
 (.cond (.t 10)
 (.seq
 (.reg [
 ⟨(some 4), none, .p (.mov (.c (bl false)))⟩])
 .ret)
 .skip))
 (.seq
 (.seq
 (.reg [
 ⟨(some 5), none, .p (.mov (.c (i64 0)))⟩])
 (.blk 0
 (.loop l23_0)))
 (.seq
 (.reg [
 ⟨(some 4), none, .p (.mov (.c (bl true)))⟩])
 .ret))))
def r23 : List RS := [.t 4]
theorem c23 : chkF Try.prog drawB Try.f23 i23 r23 = true := by kernel_rfl
def l24_0 : IC := .keep [0, 1, 5]
 (.seq
 (.seq
 (.reg [
 ⟨(some 11), none, .p (.mov (.t 5))⟩,
 ⟨(some 12), none, .p (.mov (.t 0))⟩,
 ⟨(some 13), none, .p (.len (.t 12))⟩,
 ⟨(some 14), none, .p (.bin .lss (.i .i64) (.t 11) (.t 13))⟩])
 (.cond (.t 14)
 .skip
 (.exit 0)))
 (.seq
 (.blk 1
 (.seq
 (.drw [0, 1, 2, 3, 4, 5, 6, 7, 8, 9] [
 ⟨(some 17), none, .p (.mov (.t 0))⟩,
 ⟨(some 18), none, .p (.mov (.t 5))⟩,
 ⟨(some 19), none, .p (.ia 1 (.t 17) (.t 18))⟩,
 ⟨(some 20), none, .p (.ld1 (.t 19))⟩,
 ⟨(some 21), none, .p (.mov (.t 1))⟩,
 ⟨(some 22), none, .p (.mov (.t 5))⟩,
 ⟨(some 23), none, .p (.ia 1 (.t 21) (.t 22))⟩,
 ⟨(some 24), none, .p (.ld1 (.t 23))⟩,
 ⟨(some 25), none, .q (.c (.fn (.func 23) [] [])) [(.t 20), (.t 24)]⟩,
 ⟨(some 26), none, .p (.not (.t 25))⟩])
 (.cond (.t 26)
 (.seq
 (.reg [
 ⟨(some 4), none, .p (.mov (.c (bl false)))⟩])
 .ret)
 .skip)))
 (.reg [
 ⟨(some 15), none, .p (.mov (.t 5))⟩,
 ⟨(some 16), none, .p (.bin .add (.i .i64) (.t 15) (.c (i64 1)))⟩,
 ⟨(some 5), none, .p (.mov (.t 16))⟩])))
/-- parlour/parlourkit.AlikeLists(int) -/
def i24 : IC :=
 (.seq
 (.reg [
 ⟨(some 4), none, .p (.mov (.c (bl false)))⟩])
 (.seq
 (.seq
 (.reg [
 ⟨(some 6), none, .p (.mov (.t 0))⟩,
 ⟨(some 7), none, .p (.len (.t 6))⟩,
 ⟨(some 8), none, .p (.mov (.t 1))⟩,
 ⟨(some 9), none, .p (.len (.t 8))⟩,
 ⟨(some 10), none, .p (.bin .neq (.i .i64) (.t 7) (.t 9))⟩])
 (.cond (.t 10)
 (.seq
 (.reg [
 ⟨(some 4), none, .p (.mov (.c (bl false)))⟩])
 .ret)
 .skip))
 (.seq
 (.seq
 (.reg [
 ⟨(some 5), none, .p (.mov (.c (i64 0)))⟩])
 (.blk 0
 (.loop l24_0)))
 (.seq
 (.reg [
 ⟨(some 4), none, .p (.mov (.c (bl true)))⟩])
 .ret))))
def r24 : List RS := [.t 4]
theorem c24 : chkF Try.prog drawB Try.f24 i24 r24 = true := by kernel_rfl
def l25_0 : IC := .keep [0, 1, 5]
 (.seq
 (.seq
 (.reg [
 ⟨(some 11), none, .p (.mov (.t 5))⟩,
 ⟨(some 12), none, .p (.mov (.t 0))⟩,
 ⟨(some 13), none, .p (.len (.t 12))⟩,
 ⟨(some 14), none, .p (.bin .lss (.i .i64) (.t 11) (.t 13))⟩])
 (.cond (.t 14)
 .skip
 (.exit 0)))
 (.seq
 (.blk 1
 (.seq
 (.drw [0, 1, 2, 3, 4, 5, 6, 7, 8] [
 ⟨(some 17), none, .p (.mov (.t 0))⟩,
 ⟨(some 18), none, .p (.mov (.t 5))⟩,
 ⟨(some 19), none, .p (.ia 4 (.t 17) (.t 18))⟩,
 ⟨(some 20), none, .p (.ldn 4 (.t 19))⟩,
 ⟨(some 21), none, .p (.mov (.t 1))⟩,
 ⟨(some 22), none, .p (.mov (.t 5))⟩,
 ⟨(some 23), none, .p (.ia 4 (.t 21) (.t 22))⟩,
 ⟨(some 24), none, .p (.ldn 4 (.t 23))⟩,
 ⟨(some 25), none, .p (.eqf true [.i .i64, .i .i64, .i .i64, .i .i64] (.t 20) (.t 24))⟩])
 (.cond (.t 25)
 (.seq
 (.reg [
 ⟨(some 4), none, .p (.mov (.c (bl false)))⟩])
 .ret)
 .skip)))
 (.reg [
 ⟨(some 15), none, .p (.mov (.t 5))⟩,
 ⟨(some 16), none, .p (.bin .add (.i .i64) (.t 15) (.c (i64 1)))⟩,
 ⟨(some 5), none, .p (.mov (.t 16))⟩])))
/-- parlour/parlourkit.Alike(parlour/api.Flaw) -/
def i25 : IC :=
 (.seq
 (.reg [
 ⟨(some 4), none, .p (.mov (.c (bl false)))⟩])
 (.seq
 (.seq
 (.reg [
 ⟨(some 6), none, .p (.mov (.t 0))⟩,
 ⟨(some 7), none, .p (.len (.t 6))⟩,
 ⟨(some 8), none, .p (.mov (.t 1))⟩,
 ⟨(some 9), none, .p (.len (.t 8))⟩,
 ⟨(some 10), none, .p (.bin .neq (.i .i64) (.t 7) (.t 9))⟩])
 (.cond (.t 10)
 (.seq
 (.reg [
 ⟨(some 4), none, .p (.mov (.c (bl false)))⟩])
 .ret)
 .skip))
 (.seq
 (.seq
 (.reg [
 ⟨(some 5), none, .p (.mov (.c (i64 0)))⟩])
 (.blk 0
 (.loop l25_0)))
 (.seq
 (.reg [
 ⟨(some 4), none, .p (.mov (.c (bl true)))⟩])
 .ret))))
def r25 : List RS := [.t 4]
theorem c25 : chkF Try.prog drawB Try.f25 i25 r25 = true := by kernel_rfl
/-- parlour/recall.Parents -/
def i30 : IC :=
 (.seq
 (.reg [
 ⟨(some 1), none, .e (.box 25 (.t 0))⟩,
 ⟨(some 2), none, .p (.mov (.c (.val (.slice none 0 0))))⟩,
 ⟨(some 3), none, .p (.mov (.c (i64 0)))⟩])
 (.seq
 (.reg [
 ⟨(some 4), none, .p (.ldn 3 (.t 1))⟩,
 ⟨(some 5), none, .e (.call (.c (.fn (.func 51) [] [])) [(.t 4), (.c (.fn (.func 57) [] []))])⟩,
 ⟨(some 6), none, .p (.ext (.t 5) 0)⟩,
 ⟨(some 7), none, .p (.ext (.t 5) 1)⟩,
 ⟨(some 2), none, .p (.mov (.t 6))⟩,
 ⟨(some 3), none, .p (.mov (.t 7))⟩])
 .ret))
def r30 : List RS := [.t 2, .t 3]
theorem c30 : chkF Try.prog drawB Try.f30 i30 r30 = true := by kernel_rfl
def l32_0 : IC := .keep [5, 6, 7]
 (.seq
 (.seq
 (.reg [
 ⟨(some 18), none, .p (.mov (.t 7))⟩,
 ⟨(some 19), none, .p (.mov (.t 5))⟩,
 ⟨(some 20), none, .p (.len (.t 19))⟩,
 ⟨(some 21), none, .p (.bin .lss (.i .i64) (.t 18) (.t 20))⟩])
 (.cond (.t 21)
 .skip
 (.exit 0)))
 (.seq
 (.blk 1
 (.reg [
 ⟨(some 24), none, .p (.mov (.t 6))⟩,
 ⟨(some 25), none, .p (.mov (.t 7))⟩,
 ⟨(some 26), none, .p (.mov (.t 6))⟩,
 ⟨(some 27), none, .p (.mov (.t 5))⟩,
 ⟨(some 28), none, .p (.mov (.t 7))⟩,
 ⟨(some 29), none, .p (.ia 1 (.t 27) (.t 28))⟩,
 ⟨(some 30), none, .p (.ld1 (.t 29))⟩,
 ⟨(some 31), none, .p (.ia 1 (.t 26) (.t 30))⟩,
 ⟨(some 32), none, .p (.ld1 (.t 31))⟩,
 ⟨(some 33), none, .p (.bin .add (.i .i64) (.t 32) (.c (i64 1)))⟩,
 ⟨(some 34), none, .p (.ia 1 (.t 24) (.t 25))⟩,
 ⟨none, none, .e (.st 1 (.t 34) (.t 33))⟩]))
 (.reg [
 ⟨(some 22), none, .p (.mov (.t 7))⟩,
 ⟨(some 23), none, .p (.bin .add (.i .i64) (.t 22) (.c (i64 1)))⟩,
 ⟨(some 7), none, .p (.mov (.t 23))⟩])))
/-- parlour/parlourref11.Depths -/
def i32 : IC :=
 (.seq
 (.reg [
 ⟨(some 1), none, .e (.box 25 (.t 0))⟩,
 ⟨(some 2), none, .p (.mov (.c (.val (.slice none 0 0))))⟩,
 ⟨(some 3), none, .p (.mov (.c (i64 0)))⟩])
 (.seq
 (.seq
 (.reg [
 ⟨(some 8), none, .p (.ldn 3 (.t 1))⟩,
 ⟨(some 9), none, .e (.call (.c (.fn (.func 13) [] [])) [(.t 8)])⟩,
 ⟨(some 4), none, .p (.mov (.t 9))⟩])
 (.seq
 (.reg [
 ⟨(some 10), none, .p (.mov (.t 4))⟩,
 ⟨(some 11), none, .p (.bin .neq (.i .i64) (.t 10) (.c (i64 0)))⟩])
 (.cond (.t 11)
 (.seq
 (.reg [
 ⟨(some 12), none, .p (.mov (.t 4))⟩,
 ⟨(some 2), none, .p (.mov (.c (.val (.slice none 0 0))))⟩,
 ⟨(some 3), none, .p (.mov (.t 12))⟩])
 .ret)
 .skip)))
 (.seq
 (.reg [
 ⟨(some 13), none, .p (.ldn 3 (.t 1))⟩,
 ⟨(some 14), none, .e (.call (.c (.fn (.func 58) [] [])) [(.t 13)])⟩,
 ⟨(some 5), none, .p (.mov (.t 14))⟩])
 (.seq
 (.reg [
 ⟨(some 15), none, .p (.mov (.t 5))⟩,
 ⟨(some 16), none, .p (.len (.t 15))⟩,
 ⟨(some 17), none, .e (.mks 3 1 8 [i64 0] (.t 16) (.t 16))⟩,
 ⟨(some 6), none, .p (.mov (.t 17))⟩])
 (.seq
 (.seq
 (.reg [
 ⟨(some 7), none, .p (.mov (.c (i64 1)))⟩])
 (.blk 0
 (.loop l32_0)))
 (.seq
 (.reg [
 ⟨(some 35), none, .p (.mov (.t 6))⟩,
 ⟨(some 2), none, .p (.mov (.t 35))⟩,
 ⟨(some 3), none, .p (.mov (.c (i64 0)))⟩])
 .ret))))))
/-- parlour/parlourkit.Mod -/
def i34 : IC :=
 (.seq
 (.reg [
 ⟨(some 4), none, .p (.mov (.c (i64 0)))⟩])
 (.seq
 (.reg [
 ⟨(some 5), none, .p (.mov (.t 0))⟩,
 ⟨(some 6), none, .p (.mov (.t 1))⟩,
 ⟨(some 7), none, .p (.bin .rem (.i .i64) (.t 5) (.t 6))⟩,
 ⟨(some 0), none, .p (.mov (.t 7))⟩])
 (.seq
 (.seq
 (.reg [
 ⟨(some 8), none, .p (.mov (.t 0))⟩,
 ⟨(some 9), none, .p (.bin .lss (.i .i64) (.t 8) (.c (i64 0)))⟩])
 (.cond (.t 9)
 (.reg [
 ⟨(some 10), none, .p (.mov (.t 0))⟩,
 ⟨(some 11), none, .p (.mov (.t 1))⟩,
 ⟨(some 12), none, .p (.bin .add (.i .i64) (.t 10) (.t 11))⟩,
 ⟨(some 0), none, .p (.mov (.t 12))⟩])
 .skip))
 (.seq
 (.reg [
 ⟨(some 13), none, .p (.mov (.t 0))⟩,
 ⟨(some 4), none, .p (.mov (.t 13))⟩])
 .ret))))
def r34 : List RS := [.t 4]
theorem c34 : chkF Try.prog drawB Try.f34 i34 r34 = true := by kernel_rfl
def l35_1 : IC := .keep [6, 7, 8, 9, 10, 11, 12, 13]
 (.seq
 (.seq
 (.reg [
 ⟨(some 34), none, .p (.mov (.t 13))⟩,
 ⟨(some 35), none, .p (.mov (.t 10))⟩,
 ⟨(some 36), none, .p (.len (.t 35))⟩,
 ⟨(some 37), none, .p (.bin .lss (.i .i64) (.t 34) (.t 36))⟩])
 (.cond (.t 37)
 .skip
 (.exit 2)))
 (.seq
 (.blk 3
 (.seq
 (.drw [0, 1, 2, 3, 4, 5, 6, 7, 8, 9] [
 ⟨(some 40), none, .p (.mov (.t 10))⟩,
 ⟨(some 41), none, .p (.mov (.t 13))⟩,
 ⟨(some 42), none, .p (.ia 2 (.t 40) (.t 41))⟩,
 ⟨(some 43), none, .p (.ldn 2 (.t 42))⟩,
 ⟨(some 44), none, .p (.fa 2 (.t 7))⟩,
 ⟨(some 45), none, .p (.ld1 (.t 44))⟩,
 ⟨(some 46), none, .p (.mov (.t 11))⟩,
 ⟨(some 47), none, .p (.ia 2 (.t 45) (.t 46))⟩,
 ⟨(some 48), none, .p (.ldn 2 (.t 47))⟩,
 ⟨(some 49), none, .p (.eqf false [.i .i64, .i .i64] (.t 43) (.t 48))⟩])
 (.cond (.t 49)
 (.reg [
 ⟨(some 50), none, .p (.mov (.t 13))⟩,
 ⟨(some 12), none, .p (.mov (.t 50))⟩])
 .skip)))
 (.reg [
 ⟨(some 38), none, .p (.mov (.t 13))⟩,
 ⟨(some 39), none, .p (.bin .add (.i .i64) (.t 38) (.c (i64 1)))⟩,
 ⟨(some 13), none, .p (.mov (.t 39))⟩])))
def l35_0 : IC := .keep [6, 7, 8, 9, 10, 11]
 (.seq
 (.seq
 (.reg [
 ⟨(some 22), none, .p (.mov (.t 11))⟩,
 ⟨(some 23), none, .p (.fa 2 (.t 7))⟩,
 ⟨(some 24), none, .p (.ld1 (.t 23))⟩,
 ⟨(some 25), none, .p (.len (.t 24))⟩,
 ⟨(some 26), none, .p (.bin .lss (.i .i64) (.t 22) (.t 25))⟩])
 (.cond (.t 26)
 .skip
 (.exit 0)))
 (.seq
 (.blk 1
 (.seq
 (.reg [
 ⟨(some 29), none, .p (.mov (.t 10))⟩,
 ⟨(some 30), none, .p (.len (.t 29))⟩,
 ⟨(some 12), none, .p (.mov (.t 30))⟩])
 (.seq
 (.seq
 (.reg [
 ⟨(some 31), none, .p (.mov (.t 8))⟩,
 ⟨(some 32), none, .e (.call (.c (.fn (.func 59) [] [])) [(.t 31), (.c (i64 3))])⟩,
 ⟨(some 33), none, .p (.bin .eql (.i .i64) (.t 32) (.c (i64 1)))⟩])
 (.cond (.t 33)
 (.seq
 (.reg [
 ⟨(some 13), none, .p (.mov (.c (i64 0)))⟩])
 (.blk 2
 (.loop l35_1)))
 .skip))
 (.seq
 (.seq
 (.reg [
 ⟨(some 51), none, .p (.mov (.t 12))⟩,
 ⟨(some 52), none, .p (.mov (.t 10))⟩,
 ⟨(some 53), none, .p (.len (.t 52))⟩,
 ⟨(some 54), none, .p (.bin .eql (.i .i64) (.t 51) (.t 53))⟩])
 (.cond (.t 54)
 (.reg [
 ⟨(some 55), none, .p (.mov (.t 10))⟩,
 ⟨(some 56), none, .p (.fa 2 (.t 7))⟩,
 ⟨(some 57), none, .p (.ld1 (.t 56))⟩,
 ⟨(some 58), none, .p (.mov (.t 11))⟩,
 ⟨(some 59), none, .p (.ia 2 (.t 57) (.t 58))⟩,
 ⟨(some 60), none, .p (.ldn 2 (.t 59))⟩,
 ⟨(some 61), none, .e (.bsl 34 2 1 [i64 0, i64 0] [(0, (.t 60))])⟩,
 ⟨(some 62), none, .e (.app 34 2 16 (.t 55) (.t 61))⟩,
 ⟨(some 10), none, .p (.mov (.t 62))⟩])
 .skip))
 (.reg [
 ⟨(some 63), none, .p (.mov (.t 9))⟩,
 ⟨(some 64), none, .p (.mov (.t 12))⟩,
 ⟨(some 65), none, .e (.bsl 3 1 1 [i64 0] [(0, (.t 64))])⟩,
 ⟨(some 66), none, .e (.app 3 1 8 (.t 63) (.t 65))⟩,
 ⟨(some 9), none, .p (.mov (.t 66))⟩])))))
 (.reg [
 ⟨(some 27), none, .p (.mov (.t 11))⟩,
 ⟨(some 28), none, .p (.bin .add (.i .i64) (.t 27) (.c (i64 1)))⟩,
 ⟨(some 11), none, .p (.mov (.t 28))⟩])))
def l35_2 : IC := .keep [6, 7, 9, 10, 14]
 (.seq
 (.seq
 (.reg [
 ⟨(some 67), none, .p (.mov (.t 14))⟩,
 ⟨(some 68), none, .p (.fa 1 (.t 7))⟩,
 ⟨(some 69), none, .p (.ld1 (.t 68))⟩,
 ⟨(some 70), none, .p (.len (.t 69))⟩,
 ⟨(some 71), none, .p (.bin .lss (.i .i64) (.t 67) (.t 70))⟩])
 (.cond (.t 71)
 .skip
 (.exit 4)))
 (.seq
 (.blk 5
 (.seq
 (.reg [
 ⟨(some 74), none, .p (.fa 1 (.t 7))⟩,
 ⟨(some 75), none, .p (.ld1 (.t 74))⟩,
 ⟨(some 76), none, .p (.mov (.t 14))⟩,
 ⟨(some 77), none, .p (.ia 6 (.t 75) (.t 76))⟩,
 ⟨(some 78), none, .p (.ldn 6 (.t 77))⟩,
 ⟨(some 15), none, .e (.alc 37 [i64 0, i64 0, i64 0, .val (.slice none 0 0), .val (.slice none 0 0), .val (.slice none 0 0)])⟩,
 ⟨none, none, .e (.st 6 (.t 15) (.t 78))⟩])
 (.seq
 (.reg [
 ⟨(some 79), none, .p (.fa 0 (.t 15))⟩,
 ⟨(some 80), none, .p (.ld1 (.t 79))⟩,
 ⟨(some 81), none, .p (.bin .eql (.i .i64) (.t 80) (.c (i64 2)))⟩,
 ⟨(some 82), none, .p (.mov (.t 81))⟩,
 ⟨(some 83), (some (82, true)), .p (.fa 2 (.t 15))⟩,
 ⟨(some 84), (some (82, true)), .p (.ld1 (.t 83))⟩,
 ⟨(some 85), (some (82, true)), .p (.mov (.t 9))⟩,
 ⟨(some 86), (some (82, true)), .p (.len (.t 85))⟩,
 ⟨(some 87), (some (82, true)), .p (.bin .lss (.i .i64) (.t 84) (.t 86))⟩,
 ⟨(some 88), none, .p (.pick (.t 82) (.t 87) (.c (bl false)))⟩])
 (.cond (.t 88)
 (.drw [0, 1, 2, 3, 4, 5, 6, 7, 8, 9, 10] [
 ⟨(some 89), none, .p (.fa 1 (.t 7))⟩,
 ⟨(some 90), none, .p (.ld1 (.t 89))⟩,
 ⟨(some 91), none, .p (.mov (.t 14))⟩,
 ⟨(some 92), none, .p (.mov (.t 9))⟩,
 ⟨(some 93), none, .p (.fa 2 (.t 15))⟩,
 ⟨(some 94), none, .p (.ld1 (.t 93))⟩,
 ⟨(some 95), none, .p (.ia 1 (.t 92) (.t 94))⟩,
 ⟨(some 96), none, .p (.ld1 (.t 95))⟩,
 ⟨(some 97), none, .p (.ia 6 (.t 90) (.t 91))⟩,
 ⟨(some 98), none, .p (.fa 2 (.t 97))⟩,
 ⟨none, none, .e (.st 1 (.t 98) (.t 96))⟩])
 .skip))))
 (.reg [
 ⟨(some 72), none, .p (.mov (.t 14))⟩,
 ⟨(some 73), none, .p (.bin .add (.i .i64) (.t 72) (.c (i64 1)))⟩,
 ⟨(some 14), none, .p (.mov (.t 73))⟩])))
/-- parlour/parlourlaw11.joined -/
def i35 : IC :=
 (.seq
 (.reg [
 ⟨(some 6), none, .e (.alc 25 [i64 0, .val (.slice none 0 0), .val (.slice none 0 0)])⟩])
 (.seq
 (.reg [
 ⟨(some 16), none, .p (.mov (.t 0))⟩,
 ⟨(some 17), none, .p (.mov (.t 1))⟩,
 ⟨(some 18), none, .e (.call (.c (.fn (.func 36) [] [])) [(.t 16), (.t 17), (.c (i64 40)), (.c (bl false))])⟩,
 ⟨(some 7), none, .e (.alc 25 [i64 0, .val (.slice none 0 0), .val (.slice none 0 0)])⟩,
 ⟨none, none, .e (.st 3 (.t 7) (.t 18))⟩])
 (.seq
 (.reg [
 ⟨(some 19), none, .p (.mov (.t 2))⟩,
 ⟨(some 20), none, .p (.bld [.val (.slice none 0 0), i64 0] [(0, 1, (.t 19))])⟩,
 ⟨(some 21), none, .e (.box 96 (.t 20))⟩,
 ⟨(some 8), none, .p (.mov (.t 21))⟩])
 (.seq
 (.reg [
 ⟨(some 9), none, .e (.nil 3 1 (.c (.val (.slice none 0 0))))⟩])
 (.seq
 (.reg [
 ⟨(some 10), none, .e (.nil 34 2 (.c (.val (.slice none 0 0))))⟩])
 (.seq
 (.seq
 (.reg [
 ⟨(some 11), none, .p (.mov (.c (i64 0)))⟩])
 (.blk 0
 (.loop l35_0)))
 (.seq
 (.seq
 (.reg [
 ⟨(some 14), none, .p (.mov (.c (i64 0)))⟩])
 (.blk 4
 (.loop l35_2)))
 (.seq
 (.reg [
 ⟨(some 99), none, .p (.mov (.t 10))⟩,
 ⟨(some 100), none, .p (.fa 2 (.t 7))⟩,
 ⟨none, none, .e (.st 1 (.t 100) (.t 99))⟩])
 (.seq
 (.reg [
 ⟨(some 101), none, .p (.ldn 3 (.t 7))⟩,
 ⟨none, none, .e (.st 3 (.t 6) (.t 101))⟩])
 .ret)))))))))
def r35 : List RS := [.cn 6 3]
theorem c35 : chkF Try.prog drawB Try.f35 i35 r35 = true := by kernel_rfl
def l36_0 : IC := .keep [1, 8, 9, 10]
 (.seq
 (.seq
 (.reg [
 ⟨(some 29), none, .p (.mov (.t 10))⟩,
 ⟨(some 30), none, .p (.bin .gtr (.i .i64) (.t 29) (.c (i64 0)))⟩])
 (.cond (.t 30)
 .skip
 (.exit 0)))
 (.seq
 (.blk 1
 (.drw [0, 1, 2, 3, 4, 5, 6, 7, 8, 9, 10, 13, 14, 15, 16, 19, 20, 21, 22, 11, 12, 17, 18, 23, 24, 25, 26, 27, 28, 29] [
 ⟨(some 33), none, .p (.mov (.t 9))⟩,
 ⟨(some 34), none, .p (.mov (.t 9))⟩,
 ⟨(some 35), none, .p (.nck (.t 34))⟩,
 ⟨(some 36), none, .p (.fa 1 (.t 35))⟩,
 ⟨(some 37), none, .p (.ld1 (.t 36))⟩,
 ⟨(some 38), none, .p (.mov (.t 9))⟩,
 ⟨(some 39), none, .p (.nck (.t 38))⟩,
 ⟨(some 40), none, .p (.fa 0 (.t 39))⟩,
 ⟨(some 41), none, .p (.ld1 (.t 40))⟩,
 ⟨(some 42), none, .p (.mov (.t 1))⟩,
 ⟨(some 43), none, .p (.bin .add (.i .i64) (.t 42) (.c (i64 1)))⟩,
 ⟨(some 46), none, .p (.mov (.t 9))⟩,
 ⟨(some 47), none, .p (.nck (.t 46))⟩,
 ⟨(some 48), none, .p (.fa 0 (.t 47))⟩,
 ⟨(some 49), none, .p (.ld1 (.t 48))⟩,
 ⟨(some 52), none, .p (.mov (.t 9))⟩,
 ⟨(some 53), none, .p (.nck (.t 52))⟩,
 ⟨(some 54), none, .p (.fa 0 (.t 53))⟩,
 ⟨(some 55), none, .p (.ld1 (.t 54))⟩,
 ⟨(some 44), none, .e (.call (.c (.fn (.func 59) [] [])) [(.t 41), (.t 43)])⟩,
 ⟨(some 45), none, .p (.bin .sub (.i .i64) (.t 44) (.c (i64 1)))⟩,
 ⟨(some 50), none, .e (.call (.c (.fn (.func 59) [] [])) [(.t 49), (.c (i64 2))])⟩,
 ⟨(some 51), none, .p (.bin .add (.i .i64) (.c (i64 2)) (.t 50))⟩,
 ⟨(some 56), none, .e (.call (.c (.fn (.func 59) [] [])) [(.t 55), (.c (i64 16))])⟩,
 ⟨(some 57), none, .p (.bld [i64 0, i64 0, i64 0] [(0, 1, (.t 45)), (1, 1, (.t 51)), (2, 1, (.t 56))])⟩,
 ⟨(some 58), none, .e (.bsl 104 3 1 [i64 0, i64 0, i64 0] [(0, (.t 57))])⟩,
 ⟨(some 59), none, .e (.app 104 3 24 (.t 37) (.t 58))⟩,
 ⟨(some 60), none, .p (.nck (.t 33))⟩,
 ⟨(some 61), none, .p (.fa 1 (.t 60))⟩,
 ⟨none, none, .e (.stw [55, 49, 41, 37] 1 (.t 61) (.t 59))⟩]))
 (.reg [
 ⟨(some 31), none, .p (.mov (.t 10))⟩,
 ⟨(some 32), none, .p (.bin .sub (.i .i64) (.t 31) (.c (i64 1)))⟩,
 ⟨(some 10), none, .p (.mov (.t 32))⟩])))
/-- parlour/parlourkit.GameOf -/
def i36 : IC :=
 (.seq
 (.reg [
 ⟨(some 8), none, .e (.alc 25 [i64 0, .val (.slice none 0 0), .val (.slice none 0 0)])⟩])
 (.seq
 (.reg [
 ⟨(some 11), none, .p (.mov (.t 0))⟩,
 ⟨(some 12), none, .p (.bld [.val (.slice none 0 0), i64 0] [(0, 1, (.t 11))])⟩,
 ⟨(some 13), none, .e (.box 96 (.t 12))⟩,
 ⟨(some 14), none, .p (.mov (.t 2))⟩,
 ⟨(some 15), none, .p (.mov (.t 3))⟩,
 ⟨(some 16), none, .p (.bld [.val (.pointer none), .val (.slice none 0 0), .val (.slice none 0 0), i64 0, i64 0, bl false, bl false, i64 0, .val (.slice none 0 0), .val (.slice none 0 0)] [(0, 1, (.t 13)), (3, 1, (.t 14)), (4, 1, (.c (i64 1))), (5, 1, (.t 15))])⟩,
 ⟨(some 17), none, .e (.box 102 (.t 16))⟩,
 ⟨(some 9), none, .p (.mov (.t 17))⟩])
 (.seq
 (.reg [
 ⟨(some 18), none, .p (.mov (.t 9))⟩,
 ⟨(some 19), none, .p (.mov (.t 1))⟩,
 ⟨(some 20), none, .p (.nck (.t 18))⟩,
 ⟨(some 21), none, .p (.fa 7 (.t 20))⟩,
 ⟨(some 22), none, .p (.fa 0 (.t 21))⟩,
 ⟨none, none, .e (.st 1 (.t 22) (.t 19))⟩])
 (.seq
 (.seq
 (.reg [
 ⟨(some 23), none, .p (.mov (.t 9))⟩,
 ⟨(some 24), none, .p (.nck (.t 23))⟩,
 ⟨(some 25), none, .p (.fa 0 (.t 24))⟩,
 ⟨(some 26), none, .p (.ld1 (.t 25))⟩,
 ⟨(some 27), none, .e (.call (.c (.fn (.func 59) [] [])) [(.t 26), (.c (i64 5))])⟩,
 ⟨(some 28), none, .p (.bin .add (.i .i64) (.c (i64 1)) (.t 27))⟩,
 ⟨(some 10), none, .p (.mov (.t 28))⟩])
 (.blk 0
 (.loop l36_0)))
 (.seq
 (.reg [
 ⟨(some 62), none, .p (.mov (.t 9))⟩,
 ⟨(some 63), none, .p (.mov (.t 1))⟩,
 ⟨(some 64), none, .e (.mks 35 1 24 [.val (.slice none 0 0)] (.t 63) (.t 63))⟩,
 ⟨(some 65), none, .e (.call (.c (.fn (.func 60) [] [])) [(.t 62), (.c (i64 0)), (.t 64)])⟩])
 (.seq
 (.reg [
 ⟨(some 66), none, .p (.mov (.t 9))⟩,
 ⟨(some 67), none, .p (.nck (.t 66))⟩,
 ⟨(some 68), none, .p (.fa 7 (.t 67))⟩,
 ⟨(some 69), none, .p (.ldn 3 (.t 68))⟩,
 ⟨none, none, .e (.st 3 (.t 8) (.t 69))⟩])
 .ret))))))
def r36 : List RS := [.cn 8 3]
theorem c36 : chkF Try.prog drawB Try.f36 i36 r36 = true := by kernel_rfl
/-- parlour/parlourlaw11.again -/
def i37 : IC :=
 (.seq
 (.reg [
 ⟨(some 0), none, .e (.alc 25 [i64 0, .val (.slice none 0 0), .val (.slice none 0 0)])⟩])
 (.seq
 (.reg [
 ⟨(some 1), none, .e (.bsl 3 1 2 [i64 0] [(0, (.c (i64 1))), (1, (.c (i64 4)))])⟩,
 ⟨(some 2), none, .p (.bld [i64 0, i64 0, i64 0, .val (.slice none 0 0), .val (.slice none 0 0), .val (.slice none 0 0)] [(0, 1, (.c (i64 2))), (3, 1, (.t 1))])⟩,
 ⟨(some 3), none, .e (.bsl 3 1 2 [i64 0] [(0, (.c (i64 2))), (1, (.c (i64 3)))])⟩,
 ⟨(some 4), none, .p (.bld [i64 0, i64 0, i64 0, .val (.slice none 0 0), .val (.slice none 0 0), .val (.slice none 0 0)] [(0, 1, (.c (i64 2))), (3, 1, (.t 3))])⟩,
 ⟨(some 5), none, .e (.bsl 3 1 1 [i64 0] [(0, (.c (i64 0)))])⟩,
 ⟨(some 6), none, .p (.bld [i64 0, i64 0, i64 0, .val (.slice none 0 0), .val (.slice none 0 0), .val (.slice none 0 0)] [(0, 1, (.c (i64 3))), (5, 1, (.t 5))])⟩,
 ⟨(some 7), none, .e (.bsl 3 1 1 [i64 0] [(0, (.c (i64 1)))])⟩,
 ⟨(some 8), none, .p (.bld [i64 0, i64 0, i64 0, .val (.slice none 0 0), .val (.slice none 0 0), .val (.slice none 0 0)] [(0, 1, (.c (i64 3))), (5, 1, (.t 7))])⟩,
 ⟨(some 9), none, .e (.bsl 3 1 1 [i64 0] [(0, (.c (i64 2)))])⟩,
 ⟨(some 10), none, .p (.bld [i64 0, i64 0, i64 0, .val (.slice none 0 0), .val (.slice none 0 0), .val (.slice none 0 0)] [(0, 1, (.c (i64 3))), (5, 1, (.t 9))])⟩,
 ⟨(some 11), none, .e (.bsl 37 6 5 [i64 0, i64 0, i64 0, .val (.slice none 0 0), .val (.slice none 0 0), .val (.slice none 0 0)] [(0, (.t 2)), (1, (.t 4)), (2, (.t 6)), (3, (.t 8)), (4, (.t 10))])⟩,
 ⟨(some 12), none, .p (.bld [i64 0, i64 0] [(1, 1, (.c (i64 2)))])⟩,
 ⟨(some 13), none, .e (.bsl 34 2 1 [i64 0, i64 0] [(0, (.t 12))])⟩,
 ⟨(some 14), none, .p (.bld [i64 0, .val (.slice none 0 0), .val (.slice none 0 0)] [(0, 1, (.c (i64 1))), (1, 1, (.t 11)), (2, 1, (.t 13))])⟩,
 ⟨none, none, .e (.st 3 (.t 0) (.t 14))⟩])
 .ret))
def r37 : List RS := [.cn 0 3]
theorem c37 : chkF Try.prog drawB Try.f37 i37 r37 = true := by kernel_rfl
def l38_0 : IC := .keep [1, 4, 40, 41, 42]
 (.seq
 (.reg [
 ⟨(some 43), none, .p (.bin .lss (.i .i64) (.t 42) (.t 41))⟩])
 (.seq
 (.cond (.t 43)
 .skip
 (.exit 0))
 (.seq
 (.blk 1
 (.seq
 (.reg [
 ⟨(some 44), none, .p (.ia 6 (.t 40) (.t 42))⟩,
 ⟨(some 45), none, .p (.ldn 6 (.t 44))⟩,
 ⟨(some 6), none, .e (.alc 37 [i64 0, i64 0, i64 0, .val (.slice none 0 0), .val (.slice none 0 0), .val (.slice none 0 0)])⟩,
 ⟨none, none, .e (.st 6 (.t 6) (.t 45))⟩])
 (.seq
 (.reg [
 ⟨(some 46), none, .p (.mov (.t 4))⟩,
 ⟨(some 47), none, .p (.ldn 6 (.t 6))⟩,
 ⟨(some 48), none, .e (.call (.c (.fn (.func 61) [] [])) [(.t 46), (.t 47)])⟩,
 ⟨(some 7), none, .p (.mov (.t 48))⟩])
 (.seq
 (.reg [
 ⟨(some 49), none, .p (.mov (.t 7))⟩,
 ⟨(some 50), none, .p (.bin .neq (.i .i64) (.t 49) (.c (i64 0)))⟩])
 (.cond (.t 50)
 (.seq
 (.reg [
 ⟨(some 51), none, .p (.mov (.t 7))⟩,
 ⟨(some 2), none, .p (.mov (.c (.val (.pointer none))))⟩,
 ⟨(some 3), none, .p (.mov (.t 51))⟩])
 .ret)
 .skip)))))
 (.reg [
 ⟨(some 52), none, .p (.bin .add (.i .i64) (.t 42) (.c (i64 1)))⟩,
 ⟨(some 42), none, .p (.mov (.t 52))⟩]))))
/-- parlour/recall.walked -/
def i38 : IC :=
 (.seq
 (.reg [
 ⟨(some 1), none, .e (.box 25 (.t 0))⟩,
 ⟨(some 2), none, .p (.mov (.c (.val (.pointer none))))⟩,
 ⟨(some 3), none, .p (.mov (.c (i64 0)))⟩])
 (.seq
 (.seq
 (.reg [
 ⟨(some 10), none, .p (.fa 0 (.t 1))⟩,
 ⟨(some 11), none, .p (.ld1 (.t 10))⟩,
 ⟨(some 12), none, .p (.bin .lss (.i .i64) (.t 11) (.c (i64 1)))⟩,
 ⟨(some 13), none, .p (.mov (.t 12))⟩,
 ⟨(some 14), (some (13, false)), .p (.fa 0 (.t 1))⟩,
 ⟨(some 15), (some (13, false)), .p (.ld1 (.t 14))⟩,
 ⟨(some 16), (some (13, false)), .p (.bin .gtr (.i .i64) (.t 15) (.c (i64 4)))⟩,
 ⟨(some 17), none, .p (.pick (.t 13) (.c (bl true)) (.t 16))⟩,
 ⟨(some 18), none, .p (.mov (.t 17))⟩,
 ⟨(some 19), (some (18, false)), .p (.fa 1 (.t 1))⟩,
 ⟨(some 20), (some (18, false)), .p (.ld1 (.t 19))⟩,
 ⟨(some 21), (some (18, false)), .p (.len (.t 20))⟩,
 ⟨(some 22), (some (18, false)), .p (.bin .lss (.i .i64) (.t 21) (.c (i64 1)))⟩,
 ⟨(some 23), none, .p (.pick (.t 18) (.c (bl true)) (.t 22))⟩,
 ⟨(some 24), none, .p (.mov (.t 23))⟩,
 ⟨(some 25), (some (24, false)), .p (.fa 1 (.t 1))⟩,
 ⟨(some 26), (some (24, false)), .p (.ld1 (.t 25))⟩,
 ⟨(some 27), (some (24, false)), .p (.len (.t 26))⟩,
 ⟨(some 28), (some (24, false)), .p (.bin .gtr (.i .i64) (.t 27) (.c (i64 2000)))⟩,
 ⟨(some 29), none, .p (.pick (.t 24) (.c (bl true)) (.t 28))⟩,
 ⟨(some 30), none, .p (.mov (.t 29))⟩,
 ⟨(some 31), (some (30, false)), .p (.fa 2 (.t 1))⟩,
 ⟨(some 32), (some (30, false)), .p (.ld1 (.t 31))⟩,
 ⟨(some 33), (some (30, false)), .p (.len (.t 32))⟩,
 ⟨(some 34), (some (30, false)), .p (.bin .gtr (.i .i64) (.t 33) (.c (i64 200)))⟩,
 ⟨(some 35), none, .p (.pick (.t 30) (.c (bl true)) (.t 34))⟩])
 (.cond (.t 35)
 (.seq
 (.reg [
 ⟨(some 2), none, .p (.mov (.c (.val (.pointer none))))⟩,
 ⟨(some 3), none, .p (.mov (.c (i64 2)))⟩])
 .ret)
 .skip))
 (.seq
 (.reg [
 ⟨(some 36), none, .p (.ldn 3 (.t 1))⟩,
 ⟨(some 37), none, .p (.bld [i64 0, .val (.slice none 0 0), .val (.slice none 0 0), .val (.slice none 0 0), .val (.slice none 0 0), .val (.slice none 0 0)] [(0, 3, (.t 36))])⟩,
 ⟨(some 38), none, .e (.box 83 (.t 37))⟩,
 ⟨(some 4), none, .p (.mov (.t 38))⟩])
 (.seq
 (.seq
 (.reg [
 ⟨(some 39), none, .p (.fa 1 (.t 1))⟩,
 ⟨(some 40), none, .p (.ld1 (.t 39))⟩,
 ⟨(some 41), none, .p (.len (.t 40))⟩,
 ⟨(some 42), none, .p (.mov (.c (i64 0)))⟩])
 (.blk 0
 (.loop l38_0)))
 (.seq
 (.drf [3, 3, 3] [3, 4, 5, 6, 7, 8, 9, 10, 11, 12, 13, 14, 0, 1, 2, 15, 16, 17, 18, 19, 20, 21, 22, 23] [
 ⟨(some 56), none, .p (.fa 1 (.t 1))⟩,
 ⟨(some 57), none, .p (.ld1 (.t 56))⟩,
 ⟨(some 58), none, .p (.len (.t 57))⟩,
 ⟨(some 59), none, .e (.flo 0 3 1 8 [i64 0] (.t 58) (.t 58))⟩,
 ⟨(some 60), none, .p (.fa 1 (.t 1))⟩,
 ⟨(some 61), none, .p (.ld1 (.t 60))⟩,
 ⟨(some 62), none, .p (.len (.t 61))⟩,
 ⟨(some 63), none, .e (.flo 1 3 1 8 [i64 0] (.t 62) (.t 62))⟩,
 ⟨(some 64), none, .p (.fa 1 (.t 1))⟩,
 ⟨(some 65), none, .p (.ld1 (.t 64))⟩,
 ⟨(some 66), none, .p (.len (.t 65))⟩,
 ⟨(some 67), none, .e (.flo 2 3 1 8 [i64 0] (.t 66) (.t 66))⟩,
 ⟨(some 53), none, .p (.mov (.t 4))⟩,
 ⟨(some 54), none, .p (.mov (.t 4))⟩,
 ⟨(some 55), none, .p (.mov (.t 4))⟩,
 ⟨(some 68), none, .p (.nck (.t 53))⟩,
 ⟨(some 69), none, .p (.fa 3 (.t 68))⟩,
 ⟨none, none, .e (.stw [57] 1 (.t 69) (.t 59))⟩,
 ⟨(some 70), none, .p (.nck (.t 54))⟩,
 ⟨(some 71), none, .p (.fa 4 (.t 70))⟩,
 ⟨none, none, .e (.stw [61, 57] 1 (.t 71) (.t 63))⟩,
 ⟨(some 72), none, .p (.nck (.t 55))⟩,
 ⟨(some 73), none, .p (.fa 5 (.t 72))⟩,
 ⟨none, none, .e (.stw [65, 61, 57] 1 (.t 73) (.t 67))⟩])
 (.seq
 (.seq
 (.reg [
 ⟨(some 75), none, .p (.mov (.t 4))⟩,
 ⟨(some 76), none, .p (.fa 1 (.t 1))⟩,
 ⟨(some 77), none, .p (.ld1 (.t 76))⟩,
 ⟨(some 78), none, .e (.call (.c (.fn (.func 62) [] [])) [(.t 75), (.c (i64 (-1))), (.c (i64 0)), (.t 77)])⟩,
 ⟨(some 74), none, .p (.mov (.t 78))⟩,
 ⟨(some 79), none, .p (.ext (.t 74) 0)⟩,
 ⟨(some 80), none, .p (.ext (.t 74) 1)⟩,
 ⟨(some 8), none, .p (.mov (.t 79))⟩,
 ⟨(some 9), none, .p (.mov (.t 80))⟩])
 (.seq
 (.reg [
 ⟨(some 81), none, .p (.mov (.t 9))⟩,
 ⟨(some 82), none, .p (.not (.t 81))⟩,
 ⟨(some 83), none, .p (.mov (.t 82))⟩,
 ⟨(some 84), (some (83, false)), .p (.mov (.t 8))⟩,
 ⟨(some 85), (some (83, false)), .p (.len (.t 84))⟩,
 ⟨(some 86), (some (83, false)), .p (.bin .gtr (.i .i64) (.t 85) (.c (i64 0)))⟩,
 ⟨(some 87), none, .p (.pick (.t 83) (.c (bl true)) (.t 86))⟩])
 (.cond (.t 87)
 (.seq
 (.reg [
 ⟨(some 2), none, .p (.mov (.c (.val (.pointer none))))⟩,
 ⟨(some 3), none, .p (.mov (.c (i64 9)))⟩])
 .ret)
 .skip)))
 (.seq
 (.seq
 (.reg [
 ⟨(some 88), none, .p (.mov (.t 4))⟩,
 ⟨(some 89), none, .p (.nck (.t 88))⟩,
 ⟨(some 90), none, .p (.fa 4 (.t 89))⟩,
 ⟨(some 91), none, .p (.ld1 (.t 90))⟩,
 ⟨(some 92), none, .e (.call (.c (.fn (.func 63) [] [])) [(.t 91)])⟩,
 ⟨(some 93), none, .p (.bin .gtr (.i .i64) (.t 92) (.c (i64 40)))⟩])
 (.cond (.t 93)
 (.seq
 (.reg [
 ⟨(some 2), none, .p (.mov (.c (.val (.pointer none))))⟩,
 ⟨(some 3), none, .p (.mov (.c (i64 5)))⟩])
 .ret)
 .skip))
 (.seq
 (.reg [
 ⟨(some 94), none, .p (.mov (.t 4))⟩,
 ⟨(some 95), none, .p (.mov (.t 4))⟩,
 ⟨(some 96), none, .e (.call (.c (.fn (.func 64) [] [])) [(.t 95)])⟩,
 ⟨(some 2), none, .p (.mov (.t 94))⟩,
 ⟨(some 3), none, .p (.mov (.t 96))⟩])
 .ret))))))))
def r38 : List RS := [.t 2, .t 3]
theorem c38 : chkF Try.prog drawB Try.f38 i38 r38 = true := by kernel_rfl
def l39_0 : IC := .keep [3, 5]
 (.seq
 (.seq
 (.reg [
 ⟨(some 46), none, .p (.mov (.t 5))⟩,
 ⟨(some 47), none, .p (.fa 4 (.t 3))⟩,
 ⟨(some 48), none, .p (.ld1 (.t 47))⟩,
 ⟨(some 49), none, .p (.len (.t 48))⟩,
 ⟨(some 50), none, .p (.bin .lss (.i .i64) (.t 46) (.t 49))⟩])
 (.cond (.t 50)
 .skip
 (.exit 1)))
 (.seq
 (.blk 2
 (.seq
 (.reg [
 ⟨(some 53), none, .p (.fa 4 (.t 3))⟩,
 ⟨(some 54), none, .p (.ld1 (.t 53))⟩,
 ⟨(some 55), none, .p (.mov (.t 5))⟩,
 ⟨(some 56), none, .p (.ia 1 (.t 54) (.t 55))⟩,
 ⟨(some 57), none, .p (.ld1 (.t 56))⟩,
 ⟨(some 58), none, .p (.bin .lss (.i .i64) (.t 57) (.c (i64 1)))⟩,
 ⟨(some 59), none, .p (.mov (.t 58))⟩,
 ⟨(some 60), (some (59, false)), .p (.fa 4 (.t 3))⟩,
 ⟨(some 61), (some (59, false)), .p (.ld1 (.t 60))⟩,
 ⟨(some 62), (some (59, false)), .p (.mov (.t 5))⟩,
 ⟨(some 63), (some (59, false)), .p (.ia 1 (.t 61) (.t 62))⟩,
 ⟨(some 64), (some (59, false)), .p (.ld1 (.t 63))⟩,
 ⟨(some 65), (some (59, false)), .p (.bin .gtr (.i .i64) (.t 64) (.c (i64 1000)))⟩,
 ⟨(some 66), none, .p (.pick (.t 59) (.c (bl true)) (.t 65))⟩])
 (.cond (.t 66)
 (.seq
 (.reg [
 ⟨(some 4), none, .p (.mov (.c (i64 2)))⟩])
 .ret)
 .skip)))
 (.reg [
 ⟨(some 51), none, .p (.mov (.t 5))⟩,
 ⟨(some 52), none, .p (.bin .add (.i .i64) (.t 51) (.c (i64 1)))⟩,
 ⟨(some 5), none, .p (.mov (.t 52))⟩])))
def l39_1 : IC := .keep [3, 6]
 (.seq
 (.seq
 (.reg [
 ⟨(some 144), none, .p (.mov (.t 6))⟩,
 ⟨(some 145), none, .p (.fa 5 (.t 3))⟩,
 ⟨(some 146), none, .p (.ld1 (.t 145))⟩,
 ⟨(some 147), none, .p (.len (.t 146))⟩,
 ⟨(some 148), none, .p (.bin .lss (.i .i64) (.t 144) (.t 147))⟩])
 (.cond (.t 148)
 .skip
 (.exit 3)))
 (.seq
 (.blk 4
 (.seq
 (.reg [
 ⟨(some 151), none, .p (.fa 5 (.t 3))⟩,
 ⟨(some 152), none, .p (.ld1 (.t 151))⟩,
 ⟨(some 153), none, .p (.mov (.t 6))⟩,
 ⟨(some 154), none, .p (.ia 1 (.t 152) (.t 153))⟩,
 ⟨(some 155), none, .p (.ld1 (.t 154))⟩,
 ⟨(some 156), none, .p (.bin .lss (.i .i64) (.t 155) (.c (i64 (-1000000))))⟩,
 ⟨(some 157), none, .p (.mov (.t 156))⟩,
 ⟨(some 158), (some (157, false)), .p (.fa 5 (.t 3))⟩,
 ⟨(some 159), (some (157, false)), .p (.ld1 (.t 158))⟩,
 ⟨(some 160), (some (157, false)), .p (.mov (.t 6))⟩,
 ⟨(some 161), (some (157, false)), .p (.ia 1 (.t 159) (.t 160))⟩,
 ⟨(some 162), (some (157, false)), .p (.ld1 (.t 161))⟩,
 ⟨(some 163), (some (157, false)), .p (.bin .gtr (.i .i64) (.t 162) (.c (i64 1000000)))⟩,
 ⟨(some 164), none, .p (.pick (.t 157) (.c (bl true)) (.t 163))⟩])
 (.cond (.t 164)
 (.seq
 (.reg [
 ⟨(some 4), none, .p (.mov (.c (i64 2)))⟩])
 .ret)
 .skip)))
 (.reg [
 ⟨(some 149), none, .p (.mov (.t 6))⟩,
 ⟨(some 150), none, .p (.bin .add (.i .i64) (.t 149) (.c (i64 1)))⟩,
 ⟨(some 6), none, .p (.mov (.t 150))⟩])))
/-- parlour/parlourref11.node -/
def i39 : IC :=
 (.seq
 (.reg [
 ⟨(some 2), none, .e (.box 25 (.t 0))⟩,
 ⟨(some 3), none, .e (.box 37 (.t 1))⟩,
 ⟨(some 4), none, .p (.mov (.c (i64 0)))⟩])
 (.seq
 (.seq
 (.reg [
 ⟨(some 7), none, .p (.fa 0 (.t 3))⟩,
 ⟨(some 8), none, .p (.ld1 (.t 7))⟩])
 (.blk 0
 (.seq
 (.reg [
 ⟨(some 10), none, .p (.bin .eql (.i .i64) (.t 8) (.c (i64 1)))⟩,
 ⟨(some 9), none, .p (.mov (.t 10))⟩])
 (.cond (.t 9)
 (.seq
 (.seq
 (.reg [
 ⟨(some 11), none, .p (.fa 1 (.t 3))⟩,
 ⟨(some 12), none, .p (.ld1 (.t 11))⟩,
 ⟨(some 13), none, .p (.bin .neq (.i .i64) (.t 12) (.c (i64 0)))⟩,
 ⟨(some 14), none, .p (.mov (.t 13))⟩,
 ⟨(some 15), (some (14, false)), .p (.fa 2 (.t 3))⟩,
 ⟨(some 16), (some (14, false)), .p (.ld1 (.t 15))⟩,
 ⟨(some 17), (some (14, false)), .p (.bin .neq (.i .i64) (.t 16) (.c (i64 0)))⟩,
 ⟨(some 18), none, .p (.pick (.t 14) (.c (bl true)) (.t 17))⟩,
 ⟨(some 19), none, .p (.mov (.t 18))⟩,
 ⟨(some 20), (some (19, false)), .p (.fa 5 (.t 3))⟩,
 ⟨(some 21), (some (19, false)), .p (.ld1 (.t 20))⟩,
 ⟨(some 22), (some (19, false)), .p (.len (.t 21))⟩,
 ⟨(some 23), (some (19, false)), .p (.bin .gtr (.i .i64) (.t 22) (.c (i64 0)))⟩,
 ⟨(some 24), none, .p (.pick (.t 19) (.c (bl true)) (.t 23))⟩,
 ⟨(some 25), none, .p (.mov (.t 24))⟩,
 ⟨(some 26), (some (25, false)), .p (.fa 3 (.t 3))⟩,
 ⟨(some 27), (some (25, false)), .p (.ld1 (.t 26))⟩,
 ⟨(some 28), (some (25, false)), .p (.len (.t 27))⟩,
 ⟨(some 29), (some (25, false)), .p (.bin .lss (.i .i64) (.t 28) (.c (i64 1)))⟩,
 ⟨(some 30), none, .p (.pick (.t 25) (.c (bl true)) (.t 29))⟩,
 ⟨(some 31), none, .p (.mov (.t 30))⟩,
 ⟨(some 32), (some (31, false)), .p (.fa 3 (.t 3))⟩,
 ⟨(some 33), (some (31, false)), .p (.ld1 (.t 32))⟩,
 ⟨(some 34), (some (31, false)), .p (.len (.t 33))⟩,
 ⟨(some 35), (some (31, false)), .p (.bin .gtr (.i .i64) (.t 34) (.c (i64 60)))⟩,
 ⟨(some 36), none, .p (.pick (.t 31) (.c (bl true)) (.t 35))⟩,
 ⟨(some 37), none, .p (.mov (.t 36))⟩,
 ⟨(some 38), (some (37, false)), .p (.fa 4 (.t 3))⟩,
 ⟨(some 39), (some (37, false)), .p (.ld1 (.t 38))⟩,
 ⟨(some 40), (some (37, false)), .p (.len (.t 39))⟩,
 ⟨(some 41), (some (37, false)), .p (.fa 3 (.t 3))⟩,
 ⟨(some 42), (some (37, false)), .p (.ld1 (.t 41))⟩,
 ⟨(some 43), (some (37, false)), .p (.len (.t 42))⟩,
 ⟨(some 44), (some (37, false)), .p (.bin .neq (.i .i64) (.t 40) (.t 43))⟩,
 ⟨(some 45), none, .p (.pick (.t 37) (.c (bl true)) (.t 44))⟩])
 (.cond (.t 45)
 (.seq
 (.reg [
 ⟨(some 4), none, .p (.mov (.c (i64 3)))⟩])
 .ret)
 .skip))
 (.seq
 (.reg [
 ⟨(some 5), none, .p (.mov (.c (i64 0)))⟩])
 (.blk 1
 (.loop l39_0))))
 (.seq
 (.reg [
 ⟨(some 68), none, .p (.bin .eql (.i .i64) (.t 8) (.c (i64 2)))⟩,
 ⟨(some 67), none, .p (.mov (.t 68))⟩])
 (.cond (.t 67)
 (.seq
 (.seq
 (.reg [
 ⟨(some 69), none, .p (.fa 5 (.t 3))⟩,
 ⟨(some 70), none, .p (.ld1 (.t 69))⟩,
 ⟨(some 71), none, .p (.len (.t 70))⟩,
 ⟨(some 72), none, .p (.bin .gtr (.i .i64) (.t 71) (.c (i64 0)))⟩,
 ⟨(some 73), none, .p (.mov (.t 72))⟩,
 ⟨(some 74), (some (73, false)), .p (.fa 4 (.t 3))⟩,
 ⟨(some 75), (some (73, false)), .p (.ld1 (.t 74))⟩,
 ⟨(some 76), (some (73, false)), .p (.len (.t 75))⟩,
 ⟨(some 77), (some (73, false)), .p (.bin .gtr (.i .i64) (.t 76) (.c (i64 0)))⟩,
 ⟨(some 78), none, .p (.pick (.t 73) (.c (bl true)) (.t 77))⟩,
 ⟨(some 79), none, .p (.mov (.t 78))⟩,
 ⟨(some 80), (some (79, false)), .p (.fa 3 (.t 3))⟩,
 ⟨(some 81), (some (79, false)), .p (.ld1 (.t 80))⟩,
 ⟨(some 82), (some (79, false)), .p (.len (.t 81))⟩,
 ⟨(some 83), (some (79, false)), .p (.bin .lss (.i .i64) (.t 82) (.c (i64 1)))⟩,
 ⟨(some 84), none, .p (.pick (.t 79) (.c (bl true)) (.t 83))⟩,
 ⟨(some 85), none, .p (.mov (.t 84))⟩,
 ⟨(some 86), (some (85, false)), .p (.fa 3 (.t 3))⟩,
 ⟨(some 87), (some (85, false)), .p (.ld1 (.t 86))⟩,
 ⟨(some 88), (some (85, false)), .p (.len (.t 87))⟩,
 ⟨(some 89), (some (85, false)), .p (.bin .gtr (.i .i64) (.t 88) (.c (i64 10)))⟩,
 ⟨(some 90), none, .p (.pick (.t 85) (.c (bl true)) (.t 89))⟩])
 (.cond (.t 90)
 (.seq
 (.reg [
 ⟨(some 4), none, .p (.mov (.c (i64 3)))⟩])
 .ret)
 .skip))
 (.seq
 (.reg [
 ⟨(some 91), none, .p (.fa 1 (.t 3))⟩,
 ⟨(some 92), none, .p (.ld1 (.t 91))⟩,
 ⟨(some 93), none, .p (.bin .lss (.i .i64) (.t 92) (.c (i64 0)))⟩,
 ⟨(some 94), none, .p (.mov (.t 93))⟩,
 ⟨(some 95), (some (94, false)), .p (.fa 1 (.t 3))⟩,
 ⟨(some 96), (some (94, false)), .p (.ld1 (.t 95))⟩,
 ⟨(some 97), (some (94, false)), .p (.fa 0 (.t 2))⟩,
 ⟨(some 98), (some (94, false)), .p (.ld1 (.t 97))⟩,
 ⟨(some 99), (some (94, false)), .p (.bin .geq (.i .i64) (.t 96) (.t 98))⟩,
 ⟨(some 100), none, .p (.pick (.t 94) (.c (bl true)) (.t 99))⟩,
 ⟨(some 101), none, .p (.mov (.t 100))⟩,
 ⟨(some 102), (some (101, false)), .p (.fa 2 (.t 3))⟩,
 ⟨(some 103), (some (101, false)), .p (.ld1 (.t 102))⟩,
 ⟨(some 104), (some (101, false)), .p (.bin .lss (.i .i64) (.t 103) (.c (i64 0)))⟩,
 ⟨(some 105), none, .p (.pick (.t 101) (.c (bl true)) (.t 104))⟩,
 ⟨(some 106), none, .p (.mov (.t 105))⟩,
 ⟨(some 107), (some (106, false)), .p (.fa 2 (.t 3))⟩,
 ⟨(some 108), (some (106, false)), .p (.ld1 (.t 107))⟩,
 ⟨(some 109), (some (106, false)), .p (.fa 2 (.t 2))⟩,
 ⟨(some 110), (some (106, false)), .p (.ld1 (.t 109))⟩,
 ⟨(some 111), (some (106, false)), .p (.len (.t 110))⟩,
 ⟨(some 112), (some (106, false)), .p (.bin .geq (.i .i64) (.t 108) (.t 111))⟩,
 ⟨(some 113), none, .p (.pick (.t 106) (.c (bl true)) (.t 112))⟩])
 (.cond (.t 113)
 (.seq
 (.reg [
 ⟨(some 4), none, .p (.mov (.c (i64 2)))⟩])
 .ret)
 .skip)))
 (.seq
 (.reg [
 ⟨(some 115), none, .p (.bin .eql (.i .i64) (.t 8) (.c (i64 3)))⟩,
 ⟨(some 114), none, .p (.mov (.t 115))⟩])
 (.cond (.t 114)
 (.seq
 (.seq
 (.reg [
 ⟨(some 116), none, .p (.fa 1 (.t 3))⟩,
 ⟨(some 117), none, .p (.ld1 (.t 116))⟩,
 ⟨(some 118), none, .p (.bin .neq (.i .i64) (.t 117) (.c (i64 0)))⟩,
 ⟨(some 119), none, .p (.mov (.t 118))⟩,
 ⟨(some 120), (some (119, false)), .p (.fa 2 (.t 3))⟩,
 ⟨(some 121), (some (119, false)), .p (.ld1 (.t 120))⟩,
 ⟨(some 122), (some (119, false)), .p (.bin .neq (.i .i64) (.t 121) (.c (i64 0)))⟩,
 ⟨(some 123), none, .p (.pick (.t 119) (.c (bl true)) (.t 122))⟩,
 ⟨(some 124), none, .p (.mov (.t 123))⟩,
 ⟨(some 125), (some (124, false)), .p (.fa 3 (.t 3))⟩,
 ⟨(some 126), (some (124, false)), .p (.ld1 (.t 125))⟩,
 ⟨(some 127), (some (124, false)), .p (.len (.t 126))⟩,
 ⟨(some 128), (some (124, false)), .p (.bin .gtr (.i .i64) (.t 127) (.c (i64 0)))⟩,
 ⟨(some 129), none, .p (.pick (.t 124) (.c (bl true)) (.t 128))⟩,
 ⟨(some 130), none, .p (.mov (.t 129))⟩,
 ⟨(some 131), (some (130, false)), .p (.fa 4 (.t 3))⟩,
 ⟨(some 132), (some (130, false)), .p (.ld1 (.t 131))⟩,
 ⟨(some 133), (some (130, false)), .p (.len (.t 132))⟩,
 ⟨(some 134), (some (130, false)), .p (.bin .gtr (.i .i64) (.t 133) (.c (i64 0)))⟩,
 ⟨(some 135), none, .p (.pick (.t 130) (.c (bl true)) (.t 134))⟩,
 ⟨(some 136), none, .p (.mov (.t 135))⟩,
 ⟨(some 137), (some (136, false)), .p (.fa 5 (.t 3))⟩,
 ⟨(some 138), (some (136, false)), .p (.ld1 (.t 137))⟩,
 ⟨(some 139), (some (136, false)), .p (.len (.t 138))⟩,
 ⟨(some 140), (some (136, false)), .p (.fa 0 (.t 2))⟩,
 ⟨(some 141), (some (136, false)), .p (.ld1 (.t 140))⟩,
 ⟨(some 142), (some (136, false)), .p (.bin .neq (.i .i64) (.t 139) (.t 141))⟩,
 ⟨(some 143), none, .p (.pick (.t 136) (.c (bl true)) (.t 142))⟩])
 (.cond (.t 143)
 (.seq
 (.reg [
 ⟨(some 4), none, .p (.mov (.c (i64 3)))⟩])
 .ret)
 .skip))
 (.seq
 (.reg [
 ⟨(some 6), none, .p (.mov (.c (i64 0)))⟩])
 (.blk 3
 (.loop l39_1))))
 (.seq
 (.reg [
 ⟨(some 4), none, .p (.mov (.c (i64 3)))⟩])
 .ret)))))))))
 (.seq
 (.reg [
 ⟨(some 4), none, .p (.mov (.c (i64 0)))⟩])
 .ret)))
def r39 : List RS := [.t 4]
theorem c39 : chkF Try.prog drawB Try.f39 i39 r39 = true := by kernel_rfl
def l40_0 : IC := .keep [1, 2, 3, 4, 9, 10]
 (.seq
 (.seq
 (.reg [
 ⟨(some 25), none, .p (.mov (.t 10))⟩,
 ⟨(some 26), none, .p (.fa 1 (.t 4))⟩,
 ⟨(some 27), none, .p (.ld1 (.t 26))⟩,
 ⟨(some 28), none, .p (.mov (.t 1))⟩,
 ⟨(some 29), none, .p (.ia 6 (.t 27) (.t 28))⟩,
 ⟨(some 30), none, .p (.fa 3 (.t 29))⟩,
 ⟨(some 31), none, .p (.ld1 (.t 30))⟩,
 ⟨(some 32), none, .p (.len (.t 31))⟩,
 ⟨(some 33), none, .p (.bin .lss (.i .i64) (.t 25) (.t 32))⟩])
 (.cond (.t 33)
 .skip
 (.exit 0)))
 (.seq
 (.blk 1
 (.seq
 (.seq
 (.reg [
 ⟨(some 36), none, .p (.fa 1 (.t 4))⟩,
 ⟨(some 37), none, .p (.ld1 (.t 36))⟩,
 ⟨(some 38), none, .p (.mov (.t 1))⟩,
 ⟨(some 39), none, .p (.ia 6 (.t 37) (.t 38))⟩,
 ⟨(some 40), none, .p (.fa 3 (.t 39))⟩,
 ⟨(some 41), none, .p (.ld1 (.t 40))⟩,
 ⟨(some 42), none, .p (.mov (.t 10))⟩,
 ⟨(some 43), none, .p (.ia 1 (.t 41) (.t 42))⟩,
 ⟨(some 44), none, .p (.ld1 (.t 43))⟩,
 ⟨(some 45), none, .p (.mov (.t 9))⟩,
 ⟨(some 46), none, .p (.bin .neq (.i .i64) (.t 44) (.t 45))⟩])
 (.cond (.t 46)
 (.seq
 (.reg [
 ⟨(some 8), none, .p (.mov (.c (i64 (-1))))⟩])
 .ret)
 .skip))
 (.seq
 (.reg [
 ⟨(some 47), none, .p (.ldn 3 (.t 4))⟩,
 ⟨(some 48), none, .p (.mov (.t 9))⟩,
 ⟨(some 49), none, .p (.mov (.t 2))⟩,
 ⟨(some 50), none, .p (.bin .add (.i .i64) (.t 49) (.c (i64 1)))⟩,
 ⟨(some 51), none, .p (.mov (.t 3))⟩,
 ⟨(some 52), none, .e (.call (.c (.fn (.func 40) [] [])) [(.t 47), (.t 48), (.t 50), (.t 51)])⟩,
 ⟨(some 9), none, .p (.mov (.t 52))⟩])
 (.seq
 (.reg [
 ⟨(some 53), none, .p (.mov (.t 9))⟩,
 ⟨(some 54), none, .p (.bin .lss (.i .i64) (.t 53) (.c (i64 0)))⟩])
 (.cond (.t 54)
 (.seq
 (.reg [
 ⟨(some 8), none, .p (.mov (.c (i64 (-1))))⟩])
 .ret)
 .skip)))))
 (.reg [
 ⟨(some 34), none, .p (.mov (.t 10))⟩,
 ⟨(some 35), none, .p (.bin .add (.i .i64) (.t 34) (.c (i64 1)))⟩,
 ⟨(some 10), none, .p (.mov (.t 35))⟩])))
/-- parlour/parlourref11.walk -/
def i40 : IC :=
 (.seq
 (.reg [
 ⟨(some 4), none, .e (.box 25 (.t 0))⟩,
 ⟨(some 8), none, .p (.mov (.c (i64 0)))⟩])
 (.seq
 (.seq
 (.reg [
 ⟨(some 11), none, .p (.mov (.t 1))⟩,
 ⟨(some 12), none, .p (.fa 1 (.t 4))⟩,
 ⟨(some 13), none, .p (.ld1 (.t 12))⟩,
 ⟨(some 14), none, .p (.len (.t 13))⟩,
 ⟨(some 15), none, .p (.bin .geq (.i .i64) (.t 11) (.t 14))⟩])
 (.cond (.t 15)
 (.seq
 (.reg [
 ⟨(some 8), none, .p (.mov (.c (i64 (-1))))⟩])
 .ret)
 .skip))
 (.seq
 (.reg [
 ⟨(some 16), none, .p (.mov (.t 3))⟩,
 ⟨(some 17), none, .p (.mov (.t 3))⟩,
 ⟨(some 18), none, .p (.nck (.t 17))⟩,
 ⟨(some 19), none, .p (.ld1 (.t 18))⟩,
 ⟨(some 20), none, .p (.mov (.t 2))⟩,
 ⟨(some 21), none, .p (.mm true .i64 (.t 19) (.t 20))⟩,
 ⟨(some 22), none, .p (.nck (.t 16))⟩,
 ⟨none, none, .e (.st 1 (.t 22) (.t 21))⟩])
 (.seq
 (.reg [
 ⟨(some 23), none, .p (.mov (.t 1))⟩,
 ⟨(some 24), none, .p (.bin .add (.i .i64) (.t 23) (.c (i64 1)))⟩,
 ⟨(some 9), none, .p (.mov (.t 24))⟩])
 (.seq
 (.seq
 (.reg [
 ⟨(some 10), none, .p (.mov (.c (i64 0)))⟩])
 (.blk 0
 (.loop l40_0)))
 (.seq
 (.reg [
 ⟨(some 55), none, .p (.mov (.t 9))⟩,
 ⟨(some 8), none, .p (.mov (.t 55))⟩])
 .ret))))))
def r40 : List RS := [.t 8]
theorem c40 : chkF Try.prog drawB Try.f40 i40 r40 = true := by kernel_rfl
def l41_0 : IC := .keep [1, 3, 4]
 (.seq
 (.seq
 (.reg [
 ⟨(some 10), none, .p (.mov (.t 4))⟩,
 ⟨(some 11), none, .p (.fa 1 (.t 1))⟩,
 ⟨(some 12), none, .p (.ld1 (.t 11))⟩,
 ⟨(some 13), none, .p (.len (.t 12))⟩,
 ⟨(some 14), none, .p (.bin .lss (.i .i64) (.t 10) (.t 13))⟩])
 (.cond (.t 14)
 .skip
 (.exit 0)))
 (.seq
 (.blk 1
 (.seq
 (.reg [
 ⟨(some 17), none, .p (.fa 1 (.t 1))⟩,
 ⟨(some 18), none, .p (.ld1 (.t 17))⟩,
 ⟨(some 19), none, .p (.mov (.t 4))⟩,
 ⟨(some 20), none, .p (.ia 6 (.t 18) (.t 19))⟩,
 ⟨(some 21), none, .p (.ldn 6 (.t 20))⟩,
 ⟨(some 5), none, .e (.alc 37 [i64 0, i64 0, i64 0, .val (.slice none 0 0), .val (.slice none 0 0), .val (.slice none 0 0)])⟩,
 ⟨none, none, .e (.st 6 (.t 5) (.t 21))⟩])
 (.seq
 (.reg [
 ⟨(some 22), none, .p (.fa 0 (.t 5))⟩,
 ⟨(some 23), none, .p (.ld1 (.t 22))⟩,
 ⟨(some 24), none, .p (.bin .eql (.i .i64) (.t 23) (.c (i64 2)))⟩])
 (.cond (.t 24)
 (.drw [0, 1, 2, 3, 4, 5, 6, 7, 8, 9, 10, 11, 12] [
 ⟨(some 25), none, .p (.mov (.t 3))⟩,
 ⟨(some 26), none, .p (.fa 2 (.t 5))⟩,
 ⟨(some 27), none, .p (.ld1 (.t 26))⟩,
 ⟨(some 28), none, .p (.mov (.t 3))⟩,
 ⟨(some 29), none, .p (.fa 2 (.t 5))⟩,
 ⟨(some 30), none, .p (.ld1 (.t 29))⟩,
 ⟨(some 31), none, .p (.ia 1 (.t 28) (.t 30))⟩,
 ⟨(some 32), none, .p (.ld1 (.t 31))⟩,
 ⟨(some 33), none, .p (.mov (.t 4))⟩,
 ⟨(some 34), none, .e (.bsl 3 1 1 [i64 0] [(0, (.t 33))])⟩,
 ⟨(some 35), none, .e (.app 3 1 8 (.t 32) (.t 34))⟩,
 ⟨(some 36), none, .p (.ia 1 (.t 25) (.t 27))⟩,
 ⟨none, none, .e (.stw [32, 30] 1 (.t 36) (.t 35))⟩])
 .skip))))
 (.reg [
 ⟨(some 15), none, .p (.mov (.t 4))⟩,
 ⟨(some 16), none, .p (.bin .add (.i .i64) (.t 15) (.c (i64 1)))⟩,
 ⟨(some 4), none, .p (.mov (.t 16))⟩])))
/-- parlour/parlourref11.SetsOf -/
def i41 : IC :=
 (.seq
 (.reg [
 ⟨(some 1), none, .e (.box 25 (.t 0))⟩,
 ⟨(some 2), none, .p (.mov (.c (.val (.slice none 0 0))))⟩])
 (.seq
 (.reg [
 ⟨(some 6), none, .p (.fa 2 (.t 1))⟩,
 ⟨(some 7), none, .p (.ld1 (.t 6))⟩,
 ⟨(some 8), none, .p (.len (.t 7))⟩,
 ⟨(some 9), none, .e (.mks 35 1 24 [.val (.slice none 0 0)] (.t 8) (.t 8))⟩,
 ⟨(some 3), none, .p (.mov (.t 9))⟩])
 (.seq
 (.seq
 (.reg [
 ⟨(some 4), none, .p (.mov (.c (i64 0)))⟩])
 (.blk 0
 (.loop l41_0)))
 (.seq
 (.reg [
 ⟨(some 37), none, .p (.mov (.t 3))⟩,
 ⟨(some 2), none, .p (.mov (.t 37))⟩])
 .ret))))
def r41 : List RS := [.t 2]
theorem c41 : chkF Try.prog drawB Try.f41 i41 r41 = true := by kernel_rfl
def l42_0 : IC := .keep [0, 1, 5]
 (.seq
 (.seq
 (.reg [
 ⟨(some 11), none, .p (.mov (.t 5))⟩,
 ⟨(some 12), none, .p (.mov (.t 0))⟩,
 ⟨(some 13), none, .p (.len (.t 12))⟩,
 ⟨(some 14), none, .p (.bin .lss (.i .i64) (.t 11) (.t 13))⟩])
 (.cond (.t 14)
 .skip
 (.exit 0)))
 (.seq
 (.blk 1
 (.seq
 (.drw [0, 1, 2, 3, 4, 5, 6, 7, 8] [
 ⟨(some 17), none, .p (.mov (.t 0))⟩,
 ⟨(some 18), none, .p (.mov (.t 5))⟩,
 ⟨(some 19), none, .p (.ia 2 (.t 17) (.t 18))⟩,
 ⟨(some 20), none, .p (.ldn 2 (.t 19))⟩,
 ⟨(some 21), none, .p (.mov (.t 1))⟩,
 ⟨(some 22), none, .p (.mov (.t 5))⟩,
 ⟨(some 23), none, .p (.ia 2 (.t 21) (.t 22))⟩,
 ⟨(some 24), none, .p (.ldn 2 (.t 23))⟩,
 ⟨(some 25), none, .p (.eqf true [.i .i64, .i .i64] (.t 20) (.t 24))⟩])
 (.cond (.t 25)
 (.seq
 (.reg [
 ⟨(some 4), none, .p (.mov (.c (bl false)))⟩])
 .ret)
 .skip)))
 (.reg [
 ⟨(some 15), none, .p (.mov (.t 5))⟩,
 ⟨(some 16), none, .p (.bin .add (.i .i64) (.t 15) (.c (i64 1)))⟩,
 ⟨(some 5), none, .p (.mov (.t 16))⟩])))
/-- parlour/parlourkit.Alike(parlour/api.Info) -/
def i42 : IC :=
 (.seq
 (.reg [
 ⟨(some 4), none, .p (.mov (.c (bl false)))⟩])
 (.seq
 (.seq
 (.reg [
 ⟨(some 6), none, .p (.mov (.t 0))⟩,
 ⟨(some 7), none, .p (.len (.t 6))⟩,
 ⟨(some 8), none, .p (.mov (.t 1))⟩,
 ⟨(some 9), none, .p (.len (.t 8))⟩,
 ⟨(some 10), none, .p (.bin .neq (.i .i64) (.t 7) (.t 9))⟩])
 (.cond (.t 10)
 (.seq
 (.reg [
 ⟨(some 4), none, .p (.mov (.c (bl false)))⟩])
 .ret)
 .skip))
 (.seq
 (.seq
 (.reg [
 ⟨(some 5), none, .p (.mov (.c (i64 0)))⟩])
 (.blk 0
 (.loop l42_0)))
 (.seq
 (.reg [
 ⟨(some 4), none, .p (.mov (.c (bl true)))⟩])
 .ret))))
def r42 : List RS := [.t 4]
theorem c42 : chkF Try.prog drawB Try.f42 i42 r42 = true := by kernel_rfl
/-- parlour/parlourkit.AlikeNode -/
def i43 : IC :=
 (.seq
 (.reg [
 ⟨(some 2), none, .e (.box 37 (.t 0))⟩,
 ⟨(some 3), none, .e (.box 37 (.t 1))⟩,
 ⟨(some 4), none, .p (.mov (.c (bl false)))⟩])
 (.seq
 (.reg [
 ⟨(some 5), none, .p (.fa 0 (.t 2))⟩,
 ⟨(some 6), none, .p (.ld1 (.t 5))⟩,
 ⟨(some 7), none, .p (.fa 0 (.t 3))⟩,
 ⟨(some 8), none, .p (.ld1 (.t 7))⟩,
 ⟨(some 9), none, .p (.bin .eql (.i .i64) (.t 6) (.t 8))⟩,
 ⟨(some 10), none, .p (.mov (.t 9))⟩,
 ⟨(some 11), (some (10, true)), .p (.fa 1 (.t 2))⟩,
 ⟨(some 12), (some (10, true)), .p (.ld1 (.t 11))⟩,
 ⟨(some 13), (some (10, true)), .p (.fa 1 (.t 3))⟩,
 ⟨(some 14), (some (10, true)), .p (.ld1 (.t 13))⟩,
 ⟨(some 15), (some (10, true)), .p (.bin .eql (.i .i64) (.t 12) (.t 14))⟩,
 ⟨(some 16), none, .p (.pick (.t 10) (.t 15) (.c (bl false)))⟩,
 ⟨(some 17), none, .p (.mov (.t 16))⟩,
 ⟨(some 18), (some (17, true)), .p (.fa 2 (.t 2))⟩,
 ⟨(some 19), (some (17, true)), .p (.ld1 (.t 18))⟩,
 ⟨(some 20), (some (17, true)), .p (.fa 2 (.t 3))⟩,
 ⟨(some 21), (some (17, true)), .p (.ld1 (.t 20))⟩,
 ⟨(some 22), (some (17, true)), .p (.bin .eql (.i .i64) (.t 19) (.t 21))⟩,
 ⟨(some 23), none, .p (.pick (.t 17) (.t 22) (.c (bl false)))⟩,
 ⟨(some 24), none, .p (.mov (.t 23))⟩,
 ⟨(some 25), (some (24, true)), .p (.fa 3 (.t 2))⟩,
 ⟨(some 26), (some (24, true)), .p (.ld1 (.t 25))⟩,
 ⟨(some 27), (some (24, true)), .p (.fa 3 (.t 3))⟩,
 ⟨(some 28), (some (24, true)), .p (.ld1 (.t 27))⟩,
 ⟨(some 29), (some (24, true)), .q (.c (.fn (.func 23) [] [])) [(.t 26), (.t 28)]⟩,
 ⟨(some 30), none, .p (.pick (.t 24) (.t 29) (.c (bl false)))⟩,
 ⟨(some 31), none, .p (.mov (.t 30))⟩,
 ⟨(some 32), (some (31, true)), .p (.fa 4 (.t 2))⟩,
 ⟨(some 33), (some (31, true)), .p (.ld1 (.t 32))⟩,
 ⟨(some 34), (some (31, true)), .p (.fa 4 (.t 3))⟩,
 ⟨(some 35), (some (31, true)), .p (.ld1 (.t 34))⟩,
 ⟨(some 36), (some (31, true)), .q (.c (.fn (.func 23) [] [])) [(.t 33), (.t 35)]⟩,
 ⟨(some 37), none, .p (.pick (.t 31) (.t 36) (.c (bl false)))⟩,
 ⟨(some 38), none, .p (.mov (.t 37))⟩,
 ⟨(some 39), (some (38, true)), .p (.fa 5 (.t 2))⟩,
 ⟨(some 40), (some (38, true)), .p (.ld1 (.t 39))⟩,
 ⟨(some 41), (some (38, true)), .p (.fa 5 (.t 3))⟩,
 ⟨(some 42), (some (38, true)), .p (.ld1 (.t 41))⟩,
 ⟨(some 43), (some (38, true)), .q (.c (.fn (.func 23) [] [])) [(.t 40), (.t 42)]⟩,
 ⟨(some 44), none, .p (.pick (.t 38) (.t 43) (.c (bl false)))⟩,
 ⟨(some 4), none, .p (.mov (.t 44))⟩])
 .ret))
def r43 : List RS := [.t 4]
theorem c43 : chkF Try.prog drawB Try.f43 i43 r43 = true := by kernel_rfl
/-- parlour/parlourlaw11.leaf -/
def i44 : IC :=
 (.seq
 (.reg [
 ⟨(some 2), none, .e (.alc 37 [i64 0, i64 0, i64 0, .val (.slice none 0 0), .val (.slice none 0 0), .val (.slice none 0 0)])⟩])
 (.seq
 (.reg [
 ⟨(some 3), none, .p (.mov (.t 0))⟩,
 ⟨(some 4), none, .p (.mov (.t 0))⟩,
 ⟨(some 5), none, .p (.neg .i64 (.t 4))⟩,
 ⟨(some 6), none, .e (.bsl 3 1 2 [i64 0] [(0, (.t 3)), (1, (.t 5))])⟩,
 ⟨(some 7), none, .p (.bld [i64 0, i64 0, i64 0, .val (.slice none 0 0), .val (.slice none 0 0), .val (.slice none 0 0)] [(0, 1, (.c (i64 3))), (5, 1, (.t 6))])⟩,
 ⟨none, none, .e (.st 6 (.t 2) (.t 7))⟩])
 .ret))
def r44 : List RS := [.cn 2 6]
theorem c44 : chkF Try.prog drawB Try.f44 i44 r44 = true := by kernel_rfl
/-- parlour/recall.within -/
def i45 : IC :=
 (.seq
 (.reg [
 ⟨(some 3), none, .e (.box 3 (.t 0))⟩,
 ⟨(some 4), none, .e (.box 3 (.t 1))⟩,
 ⟨(some 6), none, .p (.mov (.c (i64 0)))⟩])
 (.seq
 (.seq
 (.reg [
 ⟨(some 7), none, .p (.mov (.t 2))⟩,
 ⟨(some 8), none, .p (.mkf (.func 66) [] [(.t 3), (.t 4)])⟩,
 ⟨(some 9), none, .e (.call (.c (.fn (.func 65) [] [])) [(.t 7), (.t 8)])⟩])
 (.cond (.t 9)
 (.seq
 (.reg [
 ⟨(some 6), none, .p (.mov (.c (i64 2)))⟩])
 .ret)
 .skip))
 (.seq
 (.reg [
 ⟨(some 6), none, .p (.mov (.c (i64 0)))⟩])
 .ret)))
def r45 : List RS := [.t 6]
theorem c45 : chkF Try.prog drawB Try.f45 i45 r45 = true := by kernel_rfl
/-- parlour/recall.Perfect$1 -/
def i46 : IC :=
 (.seq
 (.reg [
 ⟨(some 2), none, .e (.box 59 (.t 0))⟩,
 ⟨(some 3), none, .p (.mov (.c (bl false)))⟩])
 (.seq
 (.reg [
 ⟨(some 4), none, .p (.fa 0 (.t 2))⟩,
 ⟨(some 5), none, .p (.ld1 (.t 4))⟩,
 ⟨(some 6), none, .p (.bin .neq (.i .i64) (.t 5) (.c (i64 2)))⟩,
 ⟨none, none, .e (.st 1 (.t 1) (.t 6))⟩])
 (.seq
 (.reg [
 ⟨(some 7), none, .p (.ld1 (.t 1))⟩,
 ⟨(some 3), none, .p (.mov (.t 7))⟩])
 .ret)))
def r46 : List RS := [.t 3]
theorem c46 : chkF Try.prog drawB Try.f46 i46 r46 = true := by kernel_rfl
def l47_0 : IC := .keep [3, 17, 18, 19]
 (.seq
 (.reg [
 ⟨(some 20), none, .p (.bin .lss (.i .i64) (.t 19) (.t 18))⟩])
 (.seq
 (.cond (.t 20)
 .skip
 (.exit 0))
 (.seq
 (.blk 1
 (.seq
 (.reg [
 ⟨(some 21), none, .p (.mov (.t 19))⟩,
 ⟨(some 22), none, .p (.ia 6 (.t 17) (.t 19))⟩,
 ⟨(some 23), none, .p (.ldn 6 (.t 22))⟩,
 ⟨(some 5), none, .e (.alc 37 [i64 0, i64 0, i64 0, .val (.slice none 0 0), .val (.slice none 0 0), .val (.slice none 0 0)])⟩,
 ⟨(some 4), none, .p (.mov (.t 21))⟩,
 ⟨none, none, .e (.st 6 (.t 5) (.t 23))⟩])
 (.seq
 (.reg [
 ⟨(some 24), none, .p (.fa 0 (.t 5))⟩,
 ⟨(some 25), none, .p (.ld1 (.t 24))⟩,
 ⟨(some 26), none, .p (.bin .eql (.i .i64) (.t 25) (.c (i64 2)))⟩])
 (.cond (.t 26)
 (.drw [0, 1, 2, 3, 4, 5, 6, 7, 8, 9, 10, 11, 12] [
 ⟨(some 27), none, .p (.mov (.t 3))⟩,
 ⟨(some 28), none, .p (.fa 2 (.t 5))⟩,
 ⟨(some 29), none, .p (.ld1 (.t 28))⟩,
 ⟨(some 30), none, .p (.mov (.t 3))⟩,
 ⟨(some 31), none, .p (.fa 2 (.t 5))⟩,
 ⟨(some 32), none, .p (.ld1 (.t 31))⟩,
 ⟨(some 33), none, .p (.ia 1 (.t 30) (.t 32))⟩,
 ⟨(some 34), none, .p (.ld1 (.t 33))⟩,
 ⟨(some 35), none, .p (.mov (.t 4))⟩,
 ⟨(some 36), none, .e (.bsl 3 1 1 [i64 0] [(0, (.t 35))])⟩,
 ⟨(some 37), none, .e (.app 3 1 8 (.t 34) (.t 36))⟩,
 ⟨(some 38), none, .p (.ia 1 (.t 27) (.t 29))⟩,
 ⟨none, none, .e (.stw [34, 32] 1 (.t 38) (.t 37))⟩])
 .skip))))
 (.reg [
 ⟨(some 39), none, .p (.bin .add (.i .i64) (.t 19) (.c (i64 1)))⟩,
 ⟨(some 19), none, .p (.mov (.t 39))⟩]))))
/-- (*parlour/recall.walker).members -/
def i47 : IC :=
 (.seq
 (.reg [
 ⟨(some 2), none, .p (.mov (.c (.val (.slice none 0 0))))⟩])
 (.seq
 (.reg [
 ⟨(some 6), none, .p (.mov (.t 0))⟩,
 ⟨(some 7), none, .p (.nck (.t 6))⟩,
 ⟨(some 8), none, .p (.fa 0 (.t 7))⟩,
 ⟨(some 9), none, .p (.fa 2 (.t 8))⟩,
 ⟨(some 10), none, .p (.ld1 (.t 9))⟩,
 ⟨(some 11), none, .p (.len (.t 10))⟩,
 ⟨(some 12), none, .e (.mks 35 1 24 [.val (.slice none 0 0)] (.t 11) (.t 11))⟩,
 ⟨(some 3), none, .p (.mov (.t 12))⟩])
 (.seq
 (.seq
 (.reg [
 ⟨(some 13), none, .p (.mov (.t 0))⟩,
 ⟨(some 14), none, .p (.nck (.t 13))⟩,
 ⟨(some 15), none, .p (.fa 0 (.t 14))⟩,
 ⟨(some 16), none, .p (.fa 1 (.t 15))⟩,
 ⟨(some 17), none, .p (.ld1 (.t 16))⟩,
 ⟨(some 18), none, .p (.len (.t 17))⟩,
 ⟨(some 19), none, .p (.mov (.c (i64 0)))⟩])
 (.blk 0
 (.loop l47_0)))
 (.seq
 (.reg [
 ⟨(some 40), none, .p (.mov (.t 3))⟩,
 ⟨(some 2), none, .p (.mov (.t 40))⟩])
 .ret))))
def r47 : List RS := [.t 2]
theorem c47 : chkF Try.prog drawB Try.f47 i47 r47 = true := by kernel_rfl
def l48_0 : IC := .keep [2, 3, 4, 7, 8, 29, 30, 31]
 (.seq
 (.reg [
 ⟨(some 32), none, .p (.bin .lss (.i .i64) (.t 31) (.t 30))⟩])
 (.seq
 (.cond (.t 32)
 .skip
 (.exit 0))
 (.seq
 (.blk 1
 (.seq
 (.reg [
 ⟨(some 33), none, .p (.ia 1 (.t 29) (.t 31))⟩,
 ⟨(some 34), none, .p (.ld1 (.t 33))⟩,
 ⟨(some 10), none, .p (.mov (.t 34))⟩])
 (.seq
 (.reg [
 ⟨(some 11), none, .e (.alc 3 [i64 0])⟩,
 ⟨none, none, .e (.st 1 (.t 11) (.c (i64 (-1))))⟩])
 (.seq
 (.reg [
 ⟨(some 35), none, .p (.fa 0 (.t 3))⟩,
 ⟨(some 36), none, .p (.ld1 (.t 35))⟩,
 ⟨(some 37), none, .p (.mov (.t 10))⟩,
 ⟨(some 38), none, .p (.mov (.t 7))⟩,
 ⟨(some 39), none, .p (.mkf (.func 68) [] [(.t 3), (.t 4), (.t 11)])⟩,
 ⟨(some 40), none, .e (.call (.c (.fn (.func 67) [] [])) [(.t 36), (.t 37), (.t 38), (.t 39)])⟩])
 (.seq
 (.seq
 (.reg [
 ⟨(some 41), none, .p (.ld1 (.t 11))⟩,
 ⟨(some 42), none, .p (.bin .geq (.i .i64) (.t 41) (.c (i64 0)))⟩,
 ⟨(some 43), none, .p (.mov (.t 42))⟩,
 ⟨(some 44), (some (43, true)), .p (.fa 1 (.t 3))⟩,
 ⟨(some 45), (some (43, true)), .p (.ld1 (.t 44))⟩,
 ⟨(some 46), (some (43, true)), .p (.mov (.t 10))⟩,
 ⟨(some 47), (some (43, true)), .p (.ld1 (.t 4))⟩,
 ⟨(some 48), (some (43, true)), .p (.ld1 (.t 11))⟩,
 ⟨(some 49), (some (43, true)), .p (.bld [i64 0, i64 0, i64 0, i64 0] [(0, 1, (.c (i64 1))), (1, 1, (.t 46)), (2, 1, (.t 47)), (3, 1, (.t 48))])⟩,
 ⟨(some 50), (some (43, true)), .e (.call (.t 45) [(.t 49)])⟩,
 ⟨(some 51), (some (43, true)), .p (.not (.t 50))⟩,
 ⟨(some 52), none, .p (.pick (.t 43) (.t 51) (.c (bl false)))⟩])
 (.cond (.t 52)
 (.seq
 (.reg [
 ⟨(some 6), none, .p (.mov (.c (bl false)))⟩])
 .ret)
 .skip))
 (.seq
 (.seq
 (.reg [
 ⟨(some 53), none, .p (.fa 0 (.t 3))⟩,
 ⟨(some 54), none, .p (.ld1 (.t 53))⟩,
 ⟨(some 55), none, .p (.mov (.t 10))⟩,
 ⟨(some 56), none, .p (.mov (.t 7))⟩,
 ⟨(some 57), none, .e (.call (.c (.fn (.func 50) [] [])) [(.t 54), (.t 55), (.t 56)])⟩,
 ⟨(some 58), none, .p (.mov (.t 8))⟩,
 ⟨(some 59), none, .e (.call (.c (.fn (.func 69) [] [])) [(.t 57), (.t 58)])⟩])
 (.cond (.t 59)
 (.exit 1)
 .skip))
 (.seq
 (.drw [0, 1, 2, 3, 4, 5, 6, 7, 8, 9] [
 ⟨(some 60), none, .p (.fa 1 (.t 3))⟩,
 ⟨(some 61), none, .p (.ld1 (.t 60))⟩,
 ⟨(some 62), none, .p (.mov (.t 10))⟩,
 ⟨(some 63), none, .p (.ld1 (.t 4))⟩,
 ⟨(some 64), none, .p (.mov (.t 2))⟩,
 ⟨(some 65), none, .p (.ia 1 (.t 64) (.c (i64 0)))⟩,
 ⟨(some 66), none, .p (.ld1 (.t 65))⟩,
 ⟨(some 67), none, .p (.bld [i64 0, i64 0, i64 0, i64 0] [(0, 1, (.c (i64 2))), (1, 1, (.t 62)), (2, 1, (.t 63)), (3, 1, (.t 66))])⟩,
 ⟨(some 68), none, .e (.call (.t 61) [(.t 67)])⟩,
 ⟨(some 69), none, .p (.not (.t 68))⟩])
 (.cond (.t 69)
 (.seq
 (.reg [
 ⟨(some 6), none, .p (.mov (.c (bl false)))⟩])
 .ret)
 .skip))))))))
 (.reg [
 ⟨(some 70), none, .p (.bin .add (.i .i64) (.t 31) (.c (i64 1)))⟩,
 ⟨(some 31), none, .p (.mov (.t 70))⟩]))))
/-- (parlour/recall.seeker).seek -/
def i48 : IC :=
 (.seq
 (.reg [
 ⟨(some 3), none, .e (.box 80 (.t 0))⟩,
 ⟨(some 4), none, .e (.box 3 (.t 1))⟩,
 ⟨(some 6), none, .p (.mov (.c (bl false)))⟩])
 (.seq
 (.drw [0, 1, 2, 3, 4, 5, 6, 7, 8, 9, 10] [
 ⟨(some 12), none, .p (.fa 0 (.t 3))⟩,
 ⟨(some 13), none, .p (.ld1 (.t 12))⟩,
 ⟨(some 14), none, .p (.nck (.t 13))⟩,
 ⟨(some 15), none, .p (.fa 0 (.t 14))⟩,
 ⟨(some 16), none, .p (.fa 2 (.t 15))⟩,
 ⟨(some 17), none, .p (.ld1 (.t 16))⟩,
 ⟨(some 18), none, .p (.ld1 (.t 4))⟩,
 ⟨(some 19), none, .p (.ia 2 (.t 17) (.t 18))⟩,
 ⟨(some 20), none, .p (.fa 0 (.t 19))⟩,
 ⟨(some 21), none, .p (.ld1 (.t 20))⟩,
 ⟨(some 7), none, .p (.mov (.t 21))⟩])
 (.seq
 (.drw [0, 1, 2, 3, 4, 5, 6, 7] [
 ⟨(some 22), none, .p (.fa 0 (.t 3))⟩,
 ⟨(some 23), none, .p (.ld1 (.t 22))⟩,
 ⟨(some 24), none, .p (.mov (.t 2))⟩,
 ⟨(some 25), none, .p (.ia 1 (.t 24) (.c (i64 0)))⟩,
 ⟨(some 26), none, .p (.ld1 (.t 25))⟩,
 ⟨(some 27), none, .p (.mov (.t 7))⟩,
 ⟨(some 28), none, .q (.c (.fn (.func 50) [] [])) [(.t 23), (.t 26), (.t 27)]⟩,
 ⟨(some 8), none, .p (.mov (.t 28))⟩])
 (.seq
 (.seq
 (.reg [
 ⟨(some 29), none, .p (.mov (.t 2))⟩,
 ⟨(some 30), none, .p (.len (.t 29))⟩,
 ⟨(some 31), none, .p (.mov (.c (i64 0)))⟩])
 (.blk 0
 (.loop l48_0)))
 (.seq
 (.reg [
 ⟨(some 6), none, .p (.mov (.c (bl true)))⟩])
 .ret)))))
def r48 : List RS := [.t 6]
theorem c48 : chkF Try.prog drawB Try.f48 i48 r48 = true := by kernel_rfl
/-- parlour/recall.Flaws$1 -/
def i49 : IC :=
 (.seq
 (.reg [
 ⟨(some 2), none, .e (.box 59 (.t 0))⟩,
 ⟨(some 3), none, .p (.mov (.c (bl false)))⟩])
 (.seq
 (.reg [
 ⟨(some 4), none, .p (.ld1 (.t 1))⟩,
 ⟨(some 5), none, .p (.ldn 4 (.t 2))⟩,
 ⟨(some 6), none, .e (.bsl 59 4 1 [i64 0, i64 0, i64 0, i64 0] [(0, (.t 5))])⟩,
 ⟨(some 7), none, .e (.app 59 4 32 (.t 4) (.t 6))⟩,
 ⟨none, none, .e (.st 1 (.t 1) (.t 7))⟩])
 (.seq
 (.reg [
 ⟨(some 3), none, .p (.mov (.c (bl true)))⟩])
 .ret)))
def r49 : List RS := [.t 3]
theorem c49 : chkF Try.prog drawB Try.f49 i49 r49 = true := by kernel_rfl
/-- (*parlour/recall.walker).way -/
def i50 : IC :=
 (.seq
 (.reg [
 ⟨(some 3), none, .e (.box 67 (.t 0))⟩,
 ⟨(some 6), none, .p (.mov (.c (.val (.slice none 0 0))))⟩])
 (.seq
 (.reg [
 ⟨(some 7), none, .e (.alc 43 [.val (.slice none 0 0)])⟩])
 (.seq
 (.reg [
 ⟨(some 8), none, .p (.ld1 (.t 3))⟩,
 ⟨(some 9), none, .p (.mov (.t 1))⟩,
 ⟨(some 10), none, .p (.mov (.t 2))⟩,
 ⟨(some 11), none, .p (.mkf (.func 70) [] [(.t 7), (.t 3)])⟩,
 ⟨(some 12), none, .e (.call (.c (.fn (.func 67) [] [])) [(.t 8), (.t 9), (.t 10), (.t 11)])⟩])
 (.seq
 (.reg [
 ⟨(some 13), none, .p (.ld1 (.t 7))⟩,
 ⟨(some 14), none, .e (.call (.c (.fn (.func 71) [] [])) [(.t 13)])⟩])
 (.seq
 (.reg [
 ⟨(some 15), none, .p (.ld1 (.t 7))⟩,
 ⟨(some 6), none, .p (.mov (.t 15))⟩])
 .ret)))))
def r50 : List RS := [.t 6]
theorem c50 : chkF Try.prog drawB Try.f50 i50 r50 = true := by kernel_rfl
/-- parlour/recall.found(()int) -/
def i51 : IC :=
 (.seq
 (.reg [
 ⟨(some 2), none, .e (.box 25 (.t 0))⟩,
 ⟨(some 4), none, .p (.mov (.c (.val (.slice none 0 0))))⟩,
 ⟨(some 5), none, .p (.mov (.c (i64 0)))⟩])
 (.seq
 (.reg [
 ⟨(some 10), none, .p (.ldn 3 (.t 2))⟩,
 ⟨(some 11), none, .e (.call (.c (.fn (.func 38) [] [])) [(.t 10)])⟩,
 ⟨(some 9), none, .p (.mov (.t 11))⟩,
 ⟨(some 12), none, .p (.ext (.t 9) 0)⟩,
 ⟨(some 13), none, .p (.ext (.t 9) 1)⟩,
 ⟨(some 6), none, .p (.mov (.t 12))⟩,
 ⟨(some 7), none, .p (.mov (.t 13))⟩])
 (.seq
 (.seq
 (.reg [
 ⟨(some 14), none, .p (.mov (.t 7))⟩,
 ⟨(some 15), none, .p (.bin .neq (.i .i64) (.t 14) (.c (i64 0)))⟩])
 (.cond (.t 15)
 (.seq
 (.reg [
 ⟨(some 8), none, .p (.mov (.c (.val (.slice none 0 0))))⟩])
 (.seq
 (.reg [
 ⟨(some 16), none, .p (.mov (.t 8))⟩,
 ⟨(some 17), none, .p (.mov (.t 7))⟩,
 ⟨(some 4), none, .p (.mov (.t 16))⟩,
 ⟨(some 5), none, .p (.mov (.t 17))⟩])
 .ret))
 .skip))
 (.seq
 (.reg [
 ⟨(some 18), none, .p (.mov (.t 1))⟩,
 ⟨(some 19), none, .p (.mov (.t 6))⟩,
 ⟨(some 20), none, .e (.call (.t 18) [(.t 19)])⟩,
 ⟨(some 4), none, .p (.mov (.t 20))⟩,
 ⟨(some 5), none, .p (.mov (.c (i64 0)))⟩])
 .ret))))
def r51 : List RS := [.t 4, .t 5]
theorem c51 : chkF Try.prog drawB Try.f51 i51 r51 = true := by kernel_rfl
/-- parlour/recall.Depths$1 -/
def i52 : IC :=
 (.seq
 (.reg [
 ⟨(some 2), none, .p (.mov (.c (.val (.slice none 0 0))))⟩])
 (.seq
 (.reg [
 ⟨(some 3), none, .p (.mov (.t 0))⟩,
 ⟨(some 4), none, .p (.nck (.t 3))⟩,
 ⟨(some 5), none, .p (.fa 4 (.t 4))⟩,
 ⟨(some 6), none, .p (.ld1 (.t 5))⟩,
 ⟨(some 2), none, .p (.mov (.t 6))⟩])
 .ret))
def r52 : List RS := [.t 2]
theorem c52 : chkF Try.prog drawB Try.f52 i52 r52 = true := by kernel_rfl
/-- parlour/recall.found(()()int) -/
def i53 : IC :=
 (.seq
 (.reg [
 ⟨(some 2), none, .e (.box 25 (.t 0))⟩,
 ⟨(some 4), none, .p (.mov (.c (.val (.slice none 0 0))))⟩,
 ⟨(some 5), none, .p (.mov (.c (i64 0)))⟩])
 (.seq
 (.reg [
 ⟨(some 10), none, .p (.ldn 3 (.t 2))⟩,
 ⟨(some 11), none, .e (.call (.c (.fn (.func 38) [] [])) [(.t 10)])⟩,
 ⟨(some 9), none, .p (.mov (.t 11))⟩,
 ⟨(some 12), none, .p (.ext (.t 9) 0)⟩,
 ⟨(some 13), none, .p (.ext (.t 9) 1)⟩,
 ⟨(some 6), none, .p (.mov (.t 12))⟩,
 ⟨(some 7), none, .p (.mov (.t 13))⟩])
 (.seq
 (.seq
 (.reg [
 ⟨(some 14), none, .p (.mov (.t 7))⟩,
 ⟨(some 15), none, .p (.bin .neq (.i .i64) (.t 14) (.c (i64 0)))⟩])
 (.cond (.t 15)
 (.seq
 (.reg [
 ⟨(some 8), none, .p (.mov (.c (.val (.slice none 0 0))))⟩])
 (.seq
 (.reg [
 ⟨(some 16), none, .p (.mov (.t 8))⟩,
 ⟨(some 17), none, .p (.mov (.t 7))⟩,
 ⟨(some 4), none, .p (.mov (.t 16))⟩,
 ⟨(some 5), none, .p (.mov (.t 17))⟩])
 .ret))
 .skip))
 (.seq
 (.reg [
 ⟨(some 18), none, .p (.mov (.t 1))⟩,
 ⟨(some 19), none, .p (.mov (.t 6))⟩,
 ⟨(some 20), none, .e (.call (.t 18) [(.t 19)])⟩,
 ⟨(some 4), none, .p (.mov (.t 20))⟩,
 ⟨(some 5), none, .p (.mov (.c (i64 0)))⟩])
 .ret))))
def r53 : List RS := [.t 4, .t 5]
theorem c53 : chkF Try.prog drawB Try.f53 i53 r53 = true := by kernel_rfl
/-- parlour/recall.Parents$1 -/
def i57 : IC :=
 (.seq
 (.reg [
 ⟨(some 2), none, .p (.mov (.c (.val (.slice none 0 0))))⟩])
 (.seq
 (.reg [
 ⟨(some 3), none, .p (.mov (.t 0))⟩,
 ⟨(some 4), none, .p (.nck (.t 3))⟩,
 ⟨(some 5), none, .p (.fa 3 (.t 4))⟩,
 ⟨(some 6), none, .p (.ld1 (.t 5))⟩,
 ⟨(some 2), none, .p (.mov (.t 6))⟩])
 .ret))
def r57 : List RS := [.t 2]
theorem c57 : chkF Try.prog drawB Try.f57 i57 r57 = true := by kernel_rfl
/-- (*parlour/parlourkit.Draws).Next -/
def i59 : IC :=
 (.seq
 (.reg [
 ⟨(some 4), none, .p (.mov (.c (i64 0)))⟩])
 (.seq
 (.seq
 (.drw [0, 1, 2, 3, 4, 5, 6, 7, 8, 9, 10, 11, 12, 13] [
 ⟨(some 5), none, .p (.mov (.t 0))⟩,
 ⟨(some 6), none, .p (.nck (.t 5))⟩,
 ⟨(some 7), none, .p (.fa 1 (.t 6))⟩,
 ⟨(some 8), none, .p (.ld1 (.t 7))⟩,
 ⟨(some 9), none, .p (.mov (.t 0))⟩,
 ⟨(some 10), none, .p (.nck (.t 9))⟩,
 ⟨(some 11), none, .p (.fa 0 (.t 10))⟩,
 ⟨(some 12), none, .p (.ld1 (.t 11))⟩,
 ⟨(some 13), none, .p (.len (.t 12))⟩,
 ⟨(some 14), none, .p (.bin .geq (.i .i64) (.t 8) (.t 13))⟩,
 ⟨(some 15), none, .p (.mov (.t 14))⟩,
 ⟨(some 16), (some (15, false)), .p (.mov (.t 1))⟩,
 ⟨(some 17), (some (15, false)), .p (.bin .lss (.i .i64) (.t 16) (.c (i64 1)))⟩,
 ⟨(some 18), none, .p (.pick (.t 15) (.c (bl true)) (.t 17))⟩])
 (.cond (.t 18)
 (.seq
 (.reg [
 ⟨(some 4), none, .p (.mov (.c (i64 0)))⟩])
 .ret)
 .skip))
 (.seq
 (.reg [
 ⟨(some 19), none, .p (.mov (.t 0))⟩,
 ⟨(some 20), none, .p (.nck (.t 19))⟩,
 ⟨(some 21), none, .p (.fa 1 (.t 20))⟩,
 ⟨(some 22), none, .p (.ld1 (.t 21))⟩,
 ⟨(some 23), none, .p (.bin .add (.i .i64) (.t 22) (.c (i64 1)))⟩,
 ⟨(some 24), none, .p (.nck (.t 19))⟩,
 ⟨(some 25), none, .p (.fa 1 (.t 24))⟩,
 ⟨none, none, .e (.st 1 (.t 25) (.t 23))⟩])
 (.seq
 (.drw [0, 1, 2, 3, 4, 5, 6, 7, 8, 9, 10, 11, 12, 13] [
 ⟨(some 26), none, .p (.mov (.t 0))⟩,
 ⟨(some 27), none, .p (.nck (.t 26))⟩,
 ⟨(some 28), none, .p (.fa 0 (.t 27))⟩,
 ⟨(some 29), none, .p (.ld1 (.t 28))⟩,
 ⟨(some 30), none, .p (.mov (.t 0))⟩,
 ⟨(some 31), none, .p (.nck (.t 30))⟩,
 ⟨(some 32), none, .p (.fa 1 (.t 31))⟩,
 ⟨(some 33), none, .p (.ld1 (.t 32))⟩,
 ⟨(some 34), none, .p (.bin .sub (.i .i64) (.t 33) (.c (i64 1)))⟩,
 ⟨(some 35), none, .p (.ia 1 (.t 29) (.t 34))⟩,
 ⟨(some 36), none, .p (.ld1 (.t 35))⟩,
 ⟨(some 37), none, .p (.mov (.t 1))⟩,
 ⟨(some 38), none, .q (.c (.fn (.func 34) [] [])) [(.t 36), (.t 37)]⟩,
 ⟨(some 4), none, .p (.mov (.t 38))⟩])
 .ret))))
def r59 : List RS := [.t 4]
theorem c59 : chkF Try.prog drawB Try.f59 i59 r59 = true := by kernel_rfl
def l60_1 : IC := .keep [0, 1, 2, 7, 8, 9, 11, 12, 13, 14]
 (.seq
 (.seq
 (.reg [
 ⟨(some 150), none, .p (.mov (.t 14))⟩,
 ⟨(some 151), none, .p (.mov (.t 2))⟩,
 ⟨(some 152), none, .p (.len (.t 151))⟩,
 ⟨(some 153), none, .p (.bin .lss (.i .i64) (.t 150) (.t 152))⟩])
 (.cond (.t 153)
 .skip
 (.exit 2)))
 (.seq
 (.blk 3
 (.seq
 (.reg [
 ⟨(some 156), none, .e (.bsl 3 1 0 [i64 0] [])⟩,
 ⟨(some 157), none, .p (.mov (.t 2))⟩,
 ⟨(some 158), none, .p (.mov (.t 14))⟩,
 ⟨(some 159), none, .p (.ia 1 (.t 157) (.t 158))⟩,
 ⟨(some 160), none, .p (.ld1 (.t 159))⟩,
 ⟨(some 161), none, .e (.app 3 1 8 (.t 156) (.t 160))⟩,
 ⟨(some 15), none, .p (.mov (.t 161))⟩])
 (.seq
 (.seq
 (.reg [
 ⟨(some 162), none, .p (.mov (.t 14))⟩,
 ⟨(some 163), none, .p (.fa 0 (.t 8))⟩,
 ⟨(some 164), none, .p (.ld1 (.t 163))⟩,
 ⟨(some 165), none, .p (.bin .eql (.i .i64) (.t 162) (.t 164))⟩,
 ⟨(some 166), none, .p (.mov (.t 165))⟩,
 ⟨(some 167), (some (166, false)), .p (.fa 2 (.t 8))⟩,
 ⟨(some 168), (some (166, false)), .p (.ld1 (.t 167))⟩,
 ⟨(some 169), (some (166, false)), .p (.mov (.t 14))⟩,
 ⟨(some 170), (some (166, false)), .p (.bin .shr (.sh .i64 .i64) (.t 168) (.t 169))⟩,
 ⟨(some 171), (some (166, false)), .p (.bin .and (.i .i64) (.t 170) (.c (i64 1)))⟩,
 ⟨(some 172), (some (166, false)), .p (.bin .eql (.i .i64) (.t 171) (.c (i64 1)))⟩,
 ⟨(some 173), none, .p (.pick (.t 166) (.c (bl true)) (.t 172))⟩])
 (.cond (.t 173)
 (.reg [
 ⟨(some 174), none, .p (.mov (.t 15))⟩,
 ⟨(some 175), none, .p (.mov (.t 12))⟩,
 ⟨(some 176), none, .e (.bsl 3 1 1 [i64 0] [(0, (.t 175))])⟩,
 ⟨(some 177), none, .e (.app 3 1 8 (.t 174) (.t 176))⟩,
 ⟨(some 15), none, .p (.mov (.t 177))⟩])
 (.reg [
 ⟨(some 178), none, .p (.mov (.t 15))⟩,
 ⟨(some 179), none, .e (.bsl 3 1 1 [i64 0] [(0, (.c (i64 (-1))))])⟩,
 ⟨(some 180), none, .e (.app 3 1 8 (.t 178) (.t 179))⟩,
 ⟨(some 15), none, .p (.mov (.t 180))⟩])))
 (.reg [
 ⟨(some 181), none, .p (.mov (.t 13))⟩,
 ⟨(some 182), none, .p (.mov (.t 15))⟩,
 ⟨(some 183), none, .e (.bsl 35 1 1 [.val (.slice none 0 0)] [(0, (.t 182))])⟩,
 ⟨(some 184), none, .e (.app 35 1 24 (.t 181) (.t 183))⟩,
 ⟨(some 13), none, .p (.mov (.t 184))⟩]))))
 (.reg [
 ⟨(some 154), none, .p (.mov (.t 14))⟩,
 ⟨(some 155), none, .p (.bin .add (.i .i64) (.t 154) (.c (i64 1)))⟩,
 ⟨(some 14), none, .p (.mov (.t 155))⟩])))
def l60_0 : IC := .keep [0, 1, 2, 7, 8, 9, 11, 12]
 (.seq
 (.seq
 (.reg [
 ⟨(some 131), none, .p (.mov (.t 12))⟩,
 ⟨(some 132), none, .p (.mov (.t 9))⟩,
 ⟨(some 133), none, .p (.bin .lss (.i .i64) (.t 131) (.t 132))⟩])
 (.cond (.t 133)
 .skip
 (.exit 0)))
 (.seq
 (.blk 1
 (.seq
 (.seq
 (.reg [
 ⟨(some 136), none, .p (.fa 0 (.t 8))⟩,
 ⟨(some 137), none, .p (.ld1 (.t 136))⟩,
 ⟨(some 138), none, .p (.bin .lss (.i .i64) (.t 137) (.c (i64 0)))⟩])
 (.cond (.t 138)
 (.drw [0, 1, 2, 3, 4, 5, 6, 7, 8, 9, 10, 11] [
 ⟨(some 139), none, .p (.fa 4 (.t 11))⟩,
 ⟨(some 140), none, .p (.ld1 (.t 139))⟩,
 ⟨(some 141), none, .p (.mov (.t 0))⟩,
 ⟨(some 142), none, .p (.nck (.t 141))⟩,
 ⟨(some 143), none, .p (.fa 0 (.t 142))⟩,
 ⟨(some 144), none, .p (.ld1 (.t 143))⟩,
 ⟨(some 145), none, .e (.call (.c (.fn (.func 59) [] [])) [(.t 144), (.c (i64 3))])⟩,
 ⟨(some 146), none, .p (.bin .add (.i .i64) (.c (i64 1)) (.t 145))⟩,
 ⟨(some 147), none, .e (.bsl 3 1 1 [i64 0] [(0, (.t 146))])⟩,
 ⟨(some 148), none, .e (.app 3 1 8 (.t 140) (.t 147))⟩,
 ⟨(some 149), none, .p (.fa 4 (.t 11))⟩,
 ⟨none, none, .e (.stw [144, 140] 1 (.t 149) (.t 148))⟩])
 .skip))
 (.seq
 (.reg [
 ⟨(some 13), none, .e (.nil 35 1 (.c (.val (.slice none 0 0))))⟩])
 (.seq
 (.seq
 (.reg [
 ⟨(some 14), none, .p (.mov (.c (i64 0)))⟩])
 (.blk 2
 (.loop l60_1)))
 (.drw [0, 1, 2, 3, 4, 5, 6, 7, 8, 9, 10] [
 ⟨(some 185), none, .p (.fa 3 (.t 11))⟩,
 ⟨(some 186), none, .p (.ld1 (.t 185))⟩,
 ⟨(some 187), none, .p (.mov (.t 0))⟩,
 ⟨(some 188), none, .p (.mov (.t 1))⟩,
 ⟨(some 189), none, .p (.bin .add (.i .i64) (.t 188) (.c (i64 1)))⟩,
 ⟨(some 190), none, .p (.mov (.t 13))⟩,
 ⟨(some 191), none, .e (.call (.c (.fn (.func 60) [] [])) [(.t 187), (.t 189), (.t 190)])⟩,
 ⟨(some 192), none, .e (.bsl 3 1 1 [i64 0] [(0, (.t 191))])⟩,
 ⟨(some 193), none, .e (.app 3 1 8 (.t 186) (.t 192))⟩,
 ⟨(some 194), none, .p (.fa 3 (.t 11))⟩,
 ⟨none, none, .e (.stw [186] 1 (.t 194) (.t 193))⟩])))))
 (.reg [
 ⟨(some 134), none, .p (.mov (.t 12))⟩,
 ⟨(some 135), none, .p (.bin .add (.i .i64) (.t 134) (.c (i64 1)))⟩,
 ⟨(some 12), none, .p (.mov (.t 135))⟩])))
/-- (*parlour/parlourkit.maker).build -/
def i60 : IC :=
 (.seq
 (.reg [
 ⟨(some 6), none, .p (.mov (.c (i64 0)))⟩])
 (.seq
 (.reg [
 ⟨(some 16), none, .p (.mov (.t 0))⟩,
 ⟨(some 17), none, .p (.nck (.t 16))⟩,
 ⟨(some 18), none, .p (.fa 7 (.t 17))⟩,
 ⟨(some 19), none, .p (.fa 1 (.t 18))⟩,
 ⟨(some 20), none, .p (.ld1 (.t 19))⟩,
 ⟨(some 21), none, .p (.len (.t 20))⟩,
 ⟨(some 7), none, .p (.mov (.t 21))⟩])
 (.seq
 (.reg [
 ⟨(some 22), none, .p (.mov (.t 0))⟩,
 ⟨(some 23), none, .p (.nck (.t 22))⟩,
 ⟨(some 24), none, .p (.fa 4 (.t 23))⟩,
 ⟨(some 25), none, .p (.ld1 (.t 24))⟩,
 ⟨(some 26), none, .p (.bin .sub (.i .i64) (.t 25) (.c (i64 1)))⟩,
 ⟨(some 27), none, .p (.nck (.t 22))⟩,
 ⟨(some 28), none, .p (.fa 4 (.t 27))⟩,
 ⟨none, none, .e (.st 1 (.t 28) (.t 26))⟩])
 (.seq
 (.reg [
 ⟨(some 29), none, .p (.mov (.t 0))⟩,
 ⟨(some 30), none, .p (.mov (.t 0))⟩,
 ⟨(some 31), none, .p (.nck (.t 30))⟩,
 ⟨(some 32), none, .p (.fa 7 (.t 31))⟩,
 ⟨(some 33), none, .p (.fa 1 (.t 32))⟩,
 ⟨(some 34), none, .p (.ld1 (.t 33))⟩,
 ⟨(some 35), none, .p (.bld [i64 0, i64 0, i64 0, .val (.slice none 0 0), .val (.slice none 0 0), .val (.slice none 0 0)] [])⟩,
 ⟨(some 36), none, .e (.bsl 37 6 1 [i64 0, i64 0, i64 0, .val (.slice none 0 0), .val (.slice none 0 0), .val (.slice none 0 0)] [(0, (.t 35))])⟩,
 ⟨(some 37), none, .e (.app 37 6 96 (.t 34) (.t 36))⟩,
 ⟨(some 38), none, .p (.nck (.t 29))⟩,
 ⟨(some 39), none, .p (.fa 7 (.t 38))⟩,
 ⟨(some 40), none, .p (.fa 1 (.t 39))⟩,
 ⟨none, none, .e (.st 1 (.t 40) (.t 37))⟩])
 (.seq
 (.seq
 (.reg [
 ⟨(some 41), none, .p (.mov (.t 1))⟩,
 ⟨(some 42), none, .p (.mov (.t 0))⟩,
 ⟨(some 43), none, .p (.nck (.t 42))⟩,
 ⟨(some 44), none, .p (.fa 1 (.t 43))⟩,
 ⟨(some 45), none, .p (.ld1 (.t 44))⟩,
 ⟨(some 46), none, .p (.len (.t 45))⟩,
 ⟨(some 47), none, .p (.bin .eql (.i .i64) (.t 41) (.t 46))⟩,
 ⟨(some 48), none, .p (.mov (.t 47))⟩,
 ⟨(some 49), (some (48, false)), .p (.mov (.t 0))⟩,
 ⟨(some 50), (some (48, false)), .p (.nck (.t 49))⟩,
 ⟨(some 51), (some (48, false)), .p (.fa 0 (.t 50))⟩,
 ⟨(some 52), (some (48, false)), .p (.ld1 (.t 51))⟩,
 ⟨(some 53), (some (48, false)), .e (.call (.c (.fn (.func 59) [] [])) [(.t 52), (.c (i64 8))])⟩,
 ⟨(some 54), (some (48, false)), .p (.bin .eql (.i .i64) (.t 53) (.c (i64 1)))⟩,
 ⟨(some 55), none, .p (.pick (.t 48) (.c (bl true)) (.t 54))⟩])
 (.cond (.t 55)
 (.seq
 (.reg [
 ⟨(some 56), none, .p (.mov (.t 0))⟩,
 ⟨(some 57), none, .p (.mov (.t 7))⟩,
 ⟨(some 58), none, .e (.call (.c (.fn (.func 73) [] [])) [(.t 56), (.t 57)])⟩])
 (.seq
 (.reg [
 ⟨(some 59), none, .p (.mov (.t 7))⟩,
 ⟨(some 6), none, .p (.mov (.t 59))⟩])
 .ret))
 .skip))
 (.seq
 (.reg [
 ⟨(some 60), none, .p (.mov (.t 0))⟩,
 ⟨(some 61), none, .p (.nck (.t 60))⟩,
 ⟨(some 62), none, .p (.fa 1 (.t 61))⟩,
 ⟨(some 63), none, .p (.ld1 (.t 62))⟩,
 ⟨(some 64), none, .p (.mov (.t 1))⟩,
 ⟨(some 65), none, .p (.ia 3 (.t 63) (.t 64))⟩,
 ⟨(some 66), none, .p (.ldn 3 (.t 65))⟩,
 ⟨(some 8), none, .e (.alc 104 [i64 0, i64 0, i64 0])⟩,
 ⟨none, none, .e (.st 3 (.t 8) (.t 66))⟩])
 (.seq
 (.reg [
 ⟨(some 67), none, .p (.fa 1 (.t 8))⟩,
 ⟨(some 68), none, .p (.ld1 (.t 67))⟩,
 ⟨(some 9), none, .p (.mov (.t 68))⟩,
 ⟨(some 10), none, .p (.mov (.c (i64 0)))⟩])
 (.seq
 (.seq
 (.reg [
 ⟨(some 69), none, .p (.fa 0 (.t 8))⟩,
 ⟨(some 70), none, .p (.ld1 (.t 69))⟩,
 ⟨(some 71), none, .p (.bin .geq (.i .i64) (.t 70) (.c (i64 0)))⟩])
 (.cond (.t 71)
 (.seq
 (.drw [0, 1, 2, 3, 4, 5, 6, 7, 8, 9, 10] [
 ⟨(some 72), none, .p (.mov (.t 0))⟩,
 ⟨(some 73), none, .p (.fa 0 (.t 8))⟩,
 ⟨(some 74), none, .p (.ld1 (.t 73))⟩,
 ⟨(some 75), none, .p (.mov (.t 1))⟩,
 ⟨(some 76), none, .p (.mov (.t 2))⟩,
 ⟨(some 77), none, .p (.fa 0 (.t 8))⟩,
 ⟨(some 78), none, .p (.ld1 (.t 77))⟩,
 ⟨(some 79), none, .p (.ia 1 (.t 76) (.t 78))⟩,
 ⟨(some 80), none, .p (.ld1 (.t 79))⟩,
 ⟨(some 81), none, .e (.call (.c (.fn (.func 74) [] [])) [(.t 72), (.t 74), (.t 75), (.t 80)])⟩,
 ⟨(some 10), none, .p (.mov (.t 81))⟩])
 (.reg [
 ⟨(some 82), none, .p (.mov (.t 0))⟩,
 ⟨(some 83), none, .p (.nck (.t 82))⟩,
 ⟨(some 84), none, .p (.fa 7 (.t 83))⟩,
 ⟨(some 85), none, .p (.fa 2 (.t 84))⟩,
 ⟨(some 86), none, .p (.ld1 (.t 85))⟩,
 ⟨(some 87), none, .p (.mov (.t 10))⟩,
 ⟨(some 88), none, .p (.ia 2 (.t 86) (.t 87))⟩,
 ⟨(some 89), none, .p (.fa 1 (.t 88))⟩,
 ⟨(some 90), none, .p (.ld1 (.t 89))⟩,
 ⟨(some 9), none, .p (.mov (.t 90))⟩]))
 .skip))
 (.seq
 (.seq
 (.drw [0, 1, 2, 3, 4, 5, 6, 7, 8, 9, 10, 11, 12, 13] [
 ⟨(some 91), none, .p (.mov (.t 7))⟩,
 ⟨(some 92), none, .p (.bin .add (.i .i64) (.t 91) (.c (i64 1)))⟩,
 ⟨(some 93), none, .p (.mov (.t 0))⟩,
 ⟨(some 94), none, .p (.nck (.t 93))⟩,
 ⟨(some 95), none, .p (.fa 4 (.t 94))⟩,
 ⟨(some 96), none, .p (.ld1 (.t 95))⟩,
 ⟨(some 97), none, .p (.bin .add (.i .i64) (.t 92) (.t 96))⟩,
 ⟨(some 98), none, .p (.mov (.t 9))⟩,
 ⟨(some 99), none, .p (.bin .add (.i .i64) (.t 97) (.t 98))⟩,
 ⟨(some 100), none, .p (.mov (.t 0))⟩,
 ⟨(some 101), none, .p (.nck (.t 100))⟩,
 ⟨(some 102), none, .p (.fa 3 (.t 101))⟩,
 ⟨(some 103), none, .p (.ld1 (.t 102))⟩,
 ⟨(some 104), none, .p (.bin .gtr (.i .i64) (.t 99) (.t 103))⟩])
 (.cond (.t 104)
 (.seq
 (.reg [
 ⟨(some 105), none, .p (.mov (.t 0))⟩,
 ⟨(some 106), none, .p (.mov (.t 10))⟩,
 ⟨(some 107), none, .p (.fa 0 (.t 8))⟩,
 ⟨(some 108), none, .p (.ld1 (.t 107))⟩,
 ⟨(some 109), none, .e (.call (.c (.fn (.func 75) [] [])) [(.t 105), (.t 106), (.t 108)])⟩])
 (.seq
 (.reg [
 ⟨(some 110), none, .p (.mov (.t 0))⟩,
 ⟨(some 111), none, .p (.mov (.t 7))⟩,
 ⟨(some 112), none, .e (.call (.c (.fn (.func 73) [] [])) [(.t 110), (.t 111)])⟩])
 (.seq
 (.reg [
 ⟨(some 113), none, .p (.mov (.t 7))⟩,
 ⟨(some 6), none, .p (.mov (.t 113))⟩])
 .ret)))
 .skip))
 (.seq
 (.reg [
 ⟨(some 114), none, .p (.mov (.t 0))⟩,
 ⟨(some 115), none, .p (.mov (.t 0))⟩,
 ⟨(some 116), none, .p (.nck (.t 115))⟩,
 ⟨(some 117), none, .p (.fa 4 (.t 116))⟩,
 ⟨(some 118), none, .p (.ld1 (.t 117))⟩,
 ⟨(some 119), none, .p (.mov (.t 9))⟩,
 ⟨(some 120), none, .p (.bin .add (.i .i64) (.t 118) (.t 119))⟩,
 ⟨(some 121), none, .p (.nck (.t 114))⟩,
 ⟨(some 122), none, .p (.fa 4 (.t 121))⟩,
 ⟨none, none, .e (.st 1 (.t 122) (.t 120))⟩])
 (.seq
 (.reg [
 ⟨(some 123), none, .p (.bld [i64 0, i64 0, i64 0, .val (.slice none 0 0), .val (.slice none 0 0), .val (.slice none 0 0)] [(0, 1, (.c (i64 1)))])⟩,
 ⟨(some 11), none, .e (.alc 37 [i64 0, i64 0, i64 0, .val (.slice none 0 0), .val (.slice none 0 0), .val (.slice none 0 0)])⟩,
 ⟨none, none, .e (.st 6 (.t 11) (.t 123))⟩])
 (.seq
 (.seq
 (.reg [
 ⟨(some 124), none, .p (.fa 0 (.t 8))⟩,
 ⟨(some 125), none, .p (.ld1 (.t 124))⟩,
 ⟨(some 126), none, .p (.bin .geq (.i .i64) (.t 125) (.c (i64 0)))⟩])
 (.cond (.t 126)
 (.reg [
 ⟨(some 127), none, .p (.fa 0 (.t 8))⟩,
 ⟨(some 128), none, .p (.ld1 (.t 127))⟩,
 ⟨(some 129), none, .p (.mov (.t 10))⟩,
 ⟨(some 130), none, .p (.bld [i64 0, i64 0, i64 0, .val (.slice none 0 0), .val (.slice none 0 0), .val (.slice none 0 0)] [(0, 1, (.c (i64 2))), (1, 1, (.t 128)), (2, 1, (.t 129))])⟩,
 ⟨none, none, .e (.st 6 (.t 11) (.t 130))⟩])
 .skip))
 (.seq
 (.seq
 (.reg [
 ⟨(some 12), none, .p (.mov (.c (i64 0)))⟩])
 (.blk 0
 (.loop l60_0)))
 (.seq
 (.drw [0, 1, 2, 3, 4, 5, 6, 7, 8] [
 ⟨(some 195), none, .p (.mov (.t 0))⟩,
 ⟨(some 196), none, .p (.nck (.t 195))⟩,
 ⟨(some 197), none, .p (.fa 7 (.t 196))⟩,
 ⟨(some 198), none, .p (.fa 1 (.t 197))⟩,
 ⟨(some 199), none, .p (.ld1 (.t 198))⟩,
 ⟨(some 200), none, .p (.mov (.t 7))⟩,
 ⟨(some 201), none, .p (.ldn 6 (.t 11))⟩,
 ⟨(some 202), none, .p (.ia 6 (.t 199) (.t 200))⟩,
 ⟨none, none, .e (.st 6 (.t 202) (.t 201))⟩])
 (.seq
 (.reg [
 ⟨(some 203), none, .p (.mov (.t 7))⟩,
 ⟨(some 6), none, .p (.mov (.t 203))⟩])
 .ret)))))))))))))))
def r60 : List RS := [.t 6]
theorem c60 : chkF Try.prog drawB Try.f60 i60 r60 = true := by kernel_rfl
/-- (*parlour/recall.walker).node -/
def i61 : IC :=
 (.seq
 (.reg [
 ⟨(some 3), none, .e (.box 37 (.t 1))⟩,
 ⟨(some 4), none, .p (.mov (.c (i64 0)))⟩])
 (.seq
 (.reg [
 ⟨(some 6), none, .p (.bld [.val .nilFunc, .val .nilFunc, .val .nilFunc, .val .nilFunc] [(1, 1, (.c (.fn (.func 76) [] []))), (2, 1, (.c (.fn (.func 77) [] []))), (3, 1, (.c (.fn (.func 78) [] [])))])⟩,
 ⟨(some 5), none, .e (.alc 120 [.val .nilFunc, .val .nilFunc, .val .nilFunc, .val .nilFunc])⟩,
 ⟨none, none, .e (.st 4 (.t 5) (.t 6))⟩])
 (.seq
 (.seq
 (.reg [
 ⟨(some 7), none, .p (.fa 0 (.t 3))⟩,
 ⟨(some 8), none, .p (.ld1 (.t 7))⟩,
 ⟨(some 9), none, .p (.bin .lss (.i .i64) (.t 8) (.c (i64 1)))⟩,
 ⟨(some 10), none, .p (.mov (.t 9))⟩,
 ⟨(some 11), (some (10, false)), .p (.fa 0 (.t 3))⟩,
 ⟨(some 12), (some (10, false)), .p (.ld1 (.t 11))⟩,
 ⟨(some 13), (some (10, false)), .p (.bin .gtr (.i .i64) (.t 12) (.c (i64 3)))⟩,
 ⟨(some 14), none, .p (.pick (.t 10) (.c (bl true)) (.t 13))⟩])
 (.cond (.t 14)
 (.seq
 (.reg [
 ⟨(some 4), none, .p (.mov (.c (i64 3)))⟩])
 .ret)
 .skip))
 (.seq
 (.drw [0, 1, 2, 3, 4, 5, 6, 7] [
 ⟨(some 15), none, .p (.fa 0 (.t 3))⟩,
 ⟨(some 16), none, .p (.ld1 (.t 15))⟩,
 ⟨(some 17), none, .p (.iap 4 1 (.t 5) (.t 16))⟩,
 ⟨(some 18), none, .p (.ld1 (.t 17))⟩,
 ⟨(some 19), none, .p (.mov (.t 0))⟩,
 ⟨(some 20), none, .p (.ldn 6 (.t 3))⟩,
 ⟨(some 21), none, .e (.call (.t 18) [(.t 19), (.t 20)])⟩,
 ⟨(some 4), none, .p (.mov (.t 21))⟩])
 .ret))))
def r61 : List RS := [.t 4]
theorem c61 : chkF Try.prog drawB Try.f61 i61 r61 = true := by kernel_rfl
def l62_0 : IC := .keep [0, 2, 10, 11, 46, 47, 48]
 (.seq
 (.reg [
 ⟨(some 49), none, .p (.bin .lss (.i .i64) (.t 48) (.t 47))⟩])
 (.seq
 (.cond (.t 49)
 .skip
 (.exit 0))
 (.seq
 (.blk 1
 (.seq
 (.reg [
 ⟨(some 50), none, .p (.ia 1 (.t 46) (.t 48))⟩,
 ⟨(some 51), none, .p (.ld1 (.t 50))⟩,
 ⟨(some 14), none, .p (.mov (.t 51))⟩])
 (.seq
 (.seq
 (.reg [
 ⟨(some 52), none, .p (.mov (.t 14))⟩,
 ⟨(some 53), none, .p (.mov (.t 0))⟩,
 ⟨(some 54), none, .p (.nck (.t 53))⟩,
 ⟨(some 55), none, .p (.fa 0 (.t 54))⟩,
 ⟨(some 56), none, .p (.fa 1 (.t 55))⟩,
 ⟨(some 57), none, .p (.ld1 (.t 56))⟩,
 ⟨(some 58), none, .p (.len (.t 57))⟩,
 ⟨(some 59), none, .p (.mov (.t 11))⟩,
 ⟨(some 60), none, .p (.len (.t 59))⟩,
 ⟨(some 61), none, .p (.bin .sub (.i .i64) (.t 58) (.t 60))⟩,
 ⟨(some 62), none, .p (.bin .neq (.i .i64) (.t 52) (.t 61))⟩])
 (.cond (.t 62)
 (.seq
 (.reg [
 ⟨(some 8), none, .p (.mov (.c (.val (.slice none 0 0))))⟩,
 ⟨(some 9), none, .p (.mov (.c (bl false)))⟩])
 .ret)
 .skip))
 (.seq
 (.reg [
 ⟨(some 64), none, .p (.mov (.t 0))⟩,
 ⟨(some 65), none, .p (.mov (.t 10))⟩,
 ⟨(some 66), none, .p (.mov (.t 2))⟩,
 ⟨(some 67), none, .p (.bin .add (.i .i64) (.t 66) (.c (i64 1)))⟩,
 ⟨(some 68), none, .p (.mov (.t 11))⟩,
 ⟨(some 69), none, .e (.call (.c (.fn (.func 62) [] [])) [(.t 64), (.t 65), (.t 67), (.t 68)])⟩,
 ⟨(some 63), none, .p (.mov (.t 69))⟩,
 ⟨(some 70), none, .p (.ext (.t 63) 0)⟩,
 ⟨(some 71), none, .p (.ext (.t 63) 1)⟩,
 ⟨(some 11), none, .p (.mov (.t 70))⟩,
 ⟨(some 12), none, .p (.mov (.t 71))⟩])
 (.seq
 (.reg [
 ⟨(some 72), none, .p (.mov (.t 12))⟩,
 ⟨(some 73), none, .p (.not (.t 72))⟩])
 (.cond (.t 73)
 (.seq
 (.reg [
 ⟨(some 8), none, .p (.mov (.c (.val (.slice none 0 0))))⟩,
 ⟨(some 9), none, .p (.mov (.c (bl false)))⟩])
 .ret)
 .skip))))))
 (.reg [
 ⟨(some 74), none, .p (.bin .add (.i .i64) (.t 48) (.c (i64 1)))⟩,
 ⟨(some 48), none, .p (.mov (.t 74))⟩]))))
/-- (*parlour/recall.walker).walk -/
def i62 : IC :=
 (.seq
 (.reg [
 ⟨(some 8), none, .p (.mov (.c (.val (.slice none 0 0))))⟩,
 ⟨(some 9), none, .p (.mov (.c (bl false)))⟩])
 (.seq
 (.seq
 (.reg [
 ⟨(some 15), none, .p (.mov (.t 3))⟩,
 ⟨(some 16), none, .p (.len (.t 15))⟩,
 ⟨(some 17), none, .p (.bin .eql (.i .i64) (.t 16) (.c (i64 0)))⟩])
 (.cond (.t 17)
 (.seq
 (.reg [
 ⟨(some 8), none, .p (.mov (.c (.val (.slice none 0 0))))⟩,
 ⟨(some 9), none, .p (.mov (.c (bl false)))⟩])
 .ret)
 .skip))
 (.seq
 (.reg [
 ⟨(some 18), none, .p (.mov (.t 0))⟩,
 ⟨(some 19), none, .p (.nck (.t 18))⟩,
 ⟨(some 20), none, .p (.fa 0 (.t 19))⟩,
 ⟨(some 21), none, .p (.fa 1 (.t 20))⟩,
 ⟨(some 22), none, .p (.ld1 (.t 21))⟩,
 ⟨(some 23), none, .p (.len (.t 22))⟩,
 ⟨(some 24), none, .p (.mov (.t 3))⟩,
 ⟨(some 25), none, .p (.len (.t 24))⟩,
 ⟨(some 26), none, .p (.bin .sub (.i .i64) (.t 23) (.t 25))⟩,
 ⟨(some 10), none, .p (.mov (.t 26))⟩])
 (.seq
 (.drw [0, 1, 2, 3, 4, 5, 6, 7, 8, 9, 10, 11, 12, 13, 14, 15] [
 ⟨(some 27), none, .p (.mov (.t 0))⟩,
 ⟨(some 28), none, .p (.nck (.t 27))⟩,
 ⟨(some 29), none, .p (.fa 3 (.t 28))⟩,
 ⟨(some 30), none, .p (.ld1 (.t 29))⟩,
 ⟨(some 31), none, .p (.mov (.t 10))⟩,
 ⟨(some 32), none, .p (.mov (.t 0))⟩,
 ⟨(some 33), none, .p (.nck (.t 32))⟩,
 ⟨(some 34), none, .p (.fa 4 (.t 33))⟩,
 ⟨(some 35), none, .p (.ld1 (.t 34))⟩,
 ⟨(some 36), none, .p (.mov (.t 10))⟩,
 ⟨(some 37), none, .p (.mov (.t 1))⟩,
 ⟨(some 38), none, .p (.mov (.t 2))⟩,
 ⟨(some 39), none, .p (.ia 1 (.t 30) (.t 31))⟩,
 ⟨none, none, .e (.stw [35] 1 (.t 39) (.t 37))⟩,
 ⟨(some 40), none, .p (.ia 1 (.t 35) (.t 36))⟩,
 ⟨none, none, .e (.stw [30] 1 (.t 40) (.t 38))⟩])
 (.seq
 (.reg [
 ⟨(some 41), none, .p (.mov (.t 3))⟩,
 ⟨(some 42), none, .p (.sl 6 (.t 41) (some (.c (i64 1))) none)⟩,
 ⟨(some 11), none, .p (.mov (.t 42))⟩,
 ⟨(some 12), none, .p (.mov (.c (bl true)))⟩])
 (.seq
 (.seq
 (.reg [
 ⟨(some 43), none, .p (.mov (.t 3))⟩,
 ⟨(some 44), none, .p (.ia 6 (.t 43) (.c (i64 0)))⟩,
 ⟨(some 45), none, .p (.fa 3 (.t 44))⟩,
 ⟨(some 46), none, .p (.ld1 (.t 45))⟩,
 ⟨(some 47), none, .p (.len (.t 46))⟩,
 ⟨(some 48), none, .p (.mov (.c (i64 0)))⟩])
 (.blk 0
 (.loop l62_0)))
 (.seq
 (.drw [0, 1, 2, 3, 4, 5, 6, 7, 8, 9, 10, 11, 12, 13, 14, 15, 16] [
 ⟨(some 75), none, .p (.mov (.t 0))⟩,
 ⟨(some 76), none, .p (.nck (.t 75))⟩,
 ⟨(some 77), none, .p (.fa 5 (.t 76))⟩,
 ⟨(some 78), none, .p (.ld1 (.t 77))⟩,
 ⟨(some 79), none, .p (.mov (.t 10))⟩,
 ⟨(some 80), none, .p (.mov (.t 0))⟩,
 ⟨(some 81), none, .p (.nck (.t 80))⟩,
 ⟨(some 82), none, .p (.fa 0 (.t 81))⟩,
 ⟨(some 83), none, .p (.fa 1 (.t 82))⟩,
 ⟨(some 84), none, .p (.ld1 (.t 83))⟩,
 ⟨(some 85), none, .p (.len (.t 84))⟩,
 ⟨(some 86), none, .p (.mov (.t 11))⟩,
 ⟨(some 87), none, .p (.len (.t 86))⟩,
 ⟨(some 88), none, .p (.bin .sub (.i .i64) (.t 85) (.t 87))⟩,
 ⟨(some 89), none, .p (.bin .sub (.i .i64) (.t 88) (.c (i64 1)))⟩,
 ⟨(some 90), none, .p (.ia 1 (.t 78) (.t 79))⟩,
 ⟨none, none, .e (.st 1 (.t 90) (.t 89))⟩])
 (.seq
 (.reg [
 ⟨(some 91), none, .p (.mov (.t 11))⟩,
 ⟨(some 8), none, .p (.mov (.t 91))⟩,
 ⟨(some 9), none, .p (.mov (.c (bl true)))⟩])
 .ret))))))))
def r62 : List RS := [.t 8, .t 9]
theorem c62 : chkF Try.prog drawB Try.f62 i62 r62 = true := by kernel_rfl
def l63_0 : IC := .keep [0, 3, 4]
 (.seq
 (.seq
 (.reg [
 ⟨(some 12), none, .p (.mov (.t 4))⟩,
 ⟨(some 13), none, .p (.mov (.t 0))⟩,
 ⟨(some 14), none, .p (.len (.t 13))⟩,
 ⟨(some 15), none, .p (.bin .lss (.i .i64) (.t 12) (.t 14))⟩])
 (.cond (.t 15)
 .skip
 (.exit 0)))
 (.seq
 (.blk 1
 (.reg [
 ⟨(some 18), none, .p (.mov (.t 3))⟩,
 ⟨(some 19), none, .p (.mov (.t 0))⟩,
 ⟨(some 20), none, .p (.mov (.t 4))⟩,
 ⟨(some 21), none, .p (.ia 1 (.t 19) (.t 20))⟩,
 ⟨(some 22), none, .p (.ld1 (.t 21))⟩,
 ⟨(some 23), none, .p (.mm true .i64 (.t 18) (.t 22))⟩,
 ⟨(some 3), none, .p (.mov (.t 23))⟩]))
 (.reg [
 ⟨(some 16), none, .p (.mov (.t 4))⟩,
 ⟨(some 17), none, .p (.bin .add (.i .i64) (.t 16) (.c (i64 1)))⟩,
 ⟨(some 4), none, .p (.mov (.t 17))⟩])))
/-- slices.Max(()int,int) -/
def i63 : IC :=
 (.seq
 (.reg [
 ⟨(some 2), none, .p (.mov (.c (i64 0)))⟩])
 (.seq
 (.seq
 (.reg [
 ⟨(some 5), none, .p (.mov (.t 0))⟩,
 ⟨(some 6), none, .p (.len (.t 5))⟩,
 ⟨(some 7), none, .p (.bin .lss (.i .i64) (.t 6) (.c (i64 1)))⟩])
 (.cond (.t 7)
 (.reg [
 ⟨(some 8), none, .p (.mki 9 (.c (st ⟨#[115, 108, 105, 99, 101, 115, 46, 77, 97, 120, 58, 32, 101, 109, 112, 116, 121, 32, 108, 105, 115, 116]⟩)))⟩,
 ⟨none, none, .p .no⟩])
 .skip))
 (.seq
 (.reg [
 ⟨(some 9), none, .p (.mov (.t 0))⟩,
 ⟨(some 10), none, .p (.ia 1 (.t 9) (.c (i64 0)))⟩,
 ⟨(some 11), none, .p (.ld1 (.t 10))⟩,
 ⟨(some 3), none, .p (.mov (.t 11))⟩])
 (.seq
 (.seq
 (.reg [
 ⟨(some 4), none, .p (.mov (.c (i64 1)))⟩])
 (.blk 0
 (.loop l63_0)))
 (.seq
 (.reg [
 ⟨(some 24), none, .p (.mov (.t 3))⟩,
 ⟨(some 2), none, .p (.mov (.t 24))⟩])
 .ret)))))
def r63 : List RS := [.t 2]
theorem c63 : chkF Try.prog drawB Try.f63 i63 r63 = true := by kernel_rfl
def l64_0 : IC := .keep [0, 3, 4]
 (.seq
 (.seq
 (.reg [
 ⟨(some 22), none, .p (.mov (.t 4))⟩,
 ⟨(some 23), none, .p (.bin .geq (.i .i64) (.t 22) (.c (i64 0)))⟩])
 (.cond (.t 23)
 .skip
 (.exit 0)))
 (.seq
 (.blk 1
 (.seq
 (.reg [
 ⟨(some 26), none, .p (.mov (.t 0))⟩,
 ⟨(some 27), none, .p (.nck (.t 26))⟩,
 ⟨(some 28), none, .p (.fa 0 (.t 27))⟩,
 ⟨(some 29), none, .p (.fa 1 (.t 28))⟩,
 ⟨(some 30), none, .p (.ld1 (.t 29))⟩,
 ⟨(some 31), none, .p (.mov (.t 4))⟩,
 ⟨(some 32), none, .p (.ia 6 (.t 30) (.t 31))⟩,
 ⟨(some 33), none, .p (.ldn 6 (.t 32))⟩,
 ⟨(some 5), none, .e (.alc 37 [i64 0, i64 0, i64 0, .val (.slice none 0 0), .val (.slice none 0 0), .val (.slice none 0 0)])⟩,
 ⟨none, none, .e (.st 6 (.t 5) (.t 33))⟩])
 (.seq
 (.reg [
 ⟨(some 34), none, .p (.fa 0 (.t 5))⟩,
 ⟨(some 35), none, .p (.ld1 (.t 34))⟩,
 ⟨(some 36), none, .p (.bin .eql (.i .i64) (.t 35) (.c (i64 2)))⟩])
 (.cond (.t 36)
 (.reg [
 ⟨(some 37), none, .p (.mov (.t 3))⟩,
 ⟨(some 38), none, .p (.fa 2 (.t 5))⟩,
 ⟨(some 39), none, .p (.ld1 (.t 38))⟩,
 ⟨(some 40), none, .p (.mov (.t 4))⟩,
 ⟨(some 41), none, .p (.bin .add (.i .i64) (.t 40) (.c (i64 1)))⟩,
 ⟨(some 42), none, .p (.ia 1 (.t 37) (.t 39))⟩,
 ⟨none, none, .e (.st 1 (.t 42) (.t 41))⟩])
 .skip))))
 (.reg [
 ⟨(some 24), none, .p (.mov (.t 4))⟩,
 ⟨(some 25), none, .p (.bin .sub (.i .i64) (.t 24) (.c (i64 1)))⟩,
 ⟨(some 4), none, .p (.mov (.t 25))⟩])))
def l64_1 : IC := .keep [0, 3, 47, 48, 49]
 (.seq
 (.reg [
 ⟨(some 50), none, .p (.bin .lss (.i .i64) (.t 49) (.t 48))⟩])
 (.seq
 (.cond (.t 50)
 .skip
 (.exit 2))
 (.seq
 (.blk 3
 (.seq
 (.reg [
 ⟨(some 51), none, .p (.ia 6 (.t 47) (.t 49))⟩,
 ⟨(some 52), none, .p (.ldn 6 (.t 51))⟩,
 ⟨(some 7), none, .e (.alc 37 [i64 0, i64 0, i64 0, .val (.slice none 0 0), .val (.slice none 0 0), .val (.slice none 0 0)])⟩,
 ⟨none, none, .e (.st 6 (.t 7) (.t 52))⟩])
 (.seq
 (.drw [0, 1, 2, 3, 4, 5, 6, 7, 8, 9, 10, 11, 12, 13, 14, 15, 16, 17, 18, 19, 20] [
 ⟨(some 53), none, .p (.fa 0 (.t 7))⟩,
 ⟨(some 54), none, .p (.ld1 (.t 53))⟩,
 ⟨(some 55), none, .p (.bin .eql (.i .i64) (.t 54) (.c (i64 2)))⟩,
 ⟨(some 56), none, .p (.mov (.t 55))⟩,
 ⟨(some 57), (some (56, true)), .p (.mov (.t 0))⟩,
 ⟨(some 58), (some (56, true)), .p (.nck (.t 57))⟩,
 ⟨(some 59), (some (56, true)), .p (.fa 0 (.t 58))⟩,
 ⟨(some 60), (some (56, true)), .p (.fa 2 (.t 59))⟩,
 ⟨(some 61), (some (56, true)), .p (.ld1 (.t 60))⟩,
 ⟨(some 62), (some (56, true)), .p (.fa 2 (.t 7))⟩,
 ⟨(some 63), (some (56, true)), .p (.ld1 (.t 62))⟩,
 ⟨(some 64), (some (56, true)), .p (.ia 2 (.t 61) (.t 63))⟩,
 ⟨(some 65), (some (56, true)), .p (.ldn 2 (.t 64))⟩,
 ⟨(some 66), (some (56, true)), .p (.fa 1 (.t 7))⟩,
 ⟨(some 67), (some (56, true)), .p (.ld1 (.t 66))⟩,
 ⟨(some 68), (some (56, true)), .p (.fa 3 (.t 7))⟩,
 ⟨(some 69), (some (56, true)), .p (.ld1 (.t 68))⟩,
 ⟨(some 70), (some (56, true)), .p (.len (.t 69))⟩,
 ⟨(some 71), (some (56, true)), .p (.bld [i64 0, i64 0] [(0, 1, (.t 67)), (1, 1, (.t 70))])⟩,
 ⟨(some 72), (some (56, true)), .p (.eqf true [.i .i64, .i .i64] (.t 65) (.t 71))⟩,
 ⟨(some 73), none, .p (.pick (.t 56) (.t 72) (.c (bl false)))⟩])
 (.cond (.t 73)
 (.seq
 (.reg [
 ⟨(some 2), none, .p (.mov (.c (i64 10)))⟩])
 .ret)
 .skip))))
 (.reg [
 ⟨(some 74), none, .p (.bin .add (.i .i64) (.t 49) (.c (i64 1)))⟩,
 ⟨(some 49), none, .p (.mov (.t 74))⟩]))))
/-- (*parlour/recall.walker).sets -/
def i64x : IC :=
 (.seq
 (.reg [
 ⟨(some 2), none, .p (.mov (.c (i64 0)))⟩])
 (.seq
 (.reg [
 ⟨(some 8), none, .p (.mov (.t 0))⟩,
 ⟨(some 9), none, .p (.nck (.t 8))⟩,
 ⟨(some 10), none, .p (.fa 0 (.t 9))⟩,
 ⟨(some 11), none, .p (.fa 2 (.t 10))⟩,
 ⟨(some 12), none, .p (.ld1 (.t 11))⟩,
 ⟨(some 13), none, .p (.len (.t 12))⟩,
 ⟨(some 14), none, .e (.mks 3 1 8 [i64 0] (.t 13) (.t 13))⟩,
 ⟨(some 3), none, .p (.mov (.t 14))⟩])
 (.seq
 (.seq
 (.reg [
 ⟨(some 15), none, .p (.mov (.t 0))⟩,
 ⟨(some 16), none, .p (.nck (.t 15))⟩,
 ⟨(some 17), none, .p (.fa 0 (.t 16))⟩,
 ⟨(some 18), none, .p (.fa 1 (.t 17))⟩,
 ⟨(some 19), none, .p (.ld1 (.t 18))⟩,
 ⟨(some 20), none, .p (.len (.t 19))⟩,
 ⟨(some 21), none, .p (.bin .sub (.i .i64) (.t 20) (.c (i64 1)))⟩,
 ⟨(some 4), none, .p (.mov (.t 21))⟩])
 (.blk 0
 (.loop l64_0)))
 (.seq
 (.seq
 (.reg [
 ⟨(some 43), none, .p (.mov (.t 0))⟩,
 ⟨(some 44), none, .p (.nck (.t 43))⟩,
 ⟨(some 45), none, .p (.fa 0 (.t 44))⟩,
 ⟨(some 46), none, .p (.fa 1 (.t 45))⟩,
 ⟨(some 47), none, .p (.ld1 (.t 46))⟩,
 ⟨(some 48), none, .p (.len (.t 47))⟩,
 ⟨(some 49), none, .p (.mov (.c (i64 0)))⟩])
 (.blk 2
 (.loop l64_1)))
 (.seq
 (.seq
 (.reg [
 ⟨(some 75), none, .p (.mov (.t 3))⟩,
 ⟨(some 76), none, .e (.call (.c (.fn (.func 79) [] [])) [(.t 75), (.c (i64 0))])⟩])
 (.cond (.t 76)
 (.seq
 (.reg [
 ⟨(some 2), none, .p (.mov (.c (i64 18)))⟩])
 .ret)
 .skip))
 (.seq
 (.seq
 (.reg [
 ⟨(some 77), none, .p (.mov (.t 3))⟩,
 ⟨(some 78), none, .e (.call (.c (.fn (.func 80) [] [])) [(.t 77)])⟩,
 ⟨(some 79), none, .p (.not (.t 78))⟩])
 (.cond (.t 79)
 (.seq
 (.reg [
 ⟨(some 2), none, .p (.mov (.c (i64 9)))⟩])
 .ret)
 .skip))
 (.seq
 (.reg [
 ⟨(some 2), none, .p (.mov (.c (i64 0)))⟩])
 .ret)))))))
def r64 : List RS := [.t 2]
theorem c64 : chkF Try.prog drawB Try.f64 i64x r64 = true := by kernel_rfl
/-- slices.ContainsFunc(()int,int) -/
def i65 : IC :=
 (.seq
 (.reg [
 ⟨(some 4), none, .p (.mov (.c (bl false)))⟩])
 (.seq
 (.reg [
 ⟨(some 5), none, .p (.mov (.t 0))⟩,
 ⟨(some 6), none, .p (.mov (.t 1))⟩,
 ⟨(some 7), none, .e (.call (.c (.fn (.func 81) [] [])) [(.t 5), (.t 6)])⟩,
 ⟨(some 8), none, .p (.bin .geq (.i .i64) (.t 7) (.c (i64 0)))⟩,
 ⟨(some 4), none, .p (.mov (.t 8))⟩])
 .ret))
def r65 : List RS := [.t 4]
theorem c65 : chkF Try.prog drawB Try.f65 i65 r65 = true := by kernel_rfl
/-- parlour/recall.within$1 -/
def i66 : IC :=
 (.seq
 (.reg [
 ⟨(some 4), none, .p (.mov (.c (bl false)))⟩])
 (.seq
 (.reg [
 ⟨(some 5), none, .p (.mov (.t 0))⟩,
 ⟨(some 6), none, .p (.ld1 (.t 1))⟩,
 ⟨(some 7), none, .p (.bin .lss (.i .i64) (.t 5) (.t 6))⟩,
 ⟨(some 8), none, .p (.mov (.t 7))⟩,
 ⟨(some 9), (some (8, false)), .p (.mov (.t 0))⟩,
 ⟨(some 10), (some (8, false)), .p (.ld1 (.t 2))⟩,
 ⟨(some 11), (some (8, false)), .p (.bin .gtr (.i .i64) (.t 9) (.t 10))⟩,
 ⟨(some 12), none, .p (.pick (.t 8) (.c (bl true)) (.t 11))⟩,
 ⟨(some 4), none, .p (.mov (.t 12))⟩])
 .ret))
def r66 : List RS := [.t 4]
theorem c66 : chkF Try.prog drawB Try.f66 i66 r66 = true := by kernel_rfl
def l67_0 : IC := .keep [0, 1, 2, 3, 8]
 (.seq
 (.seq
 (.reg [
 ⟨(some 17), none, .p (.mov (.t 8))⟩,
 ⟨(some 18), none, .p (.bin .geq (.i .i64) (.t 17) (.c (i64 0)))⟩])
 (.cond (.t 18)
 .skip
 (.exit 0)))
 (.seq
 (.blk 1
 (.seq
 (.reg [
 ⟨(some 27), none, .p (.mov (.t 0))⟩,
 ⟨(some 28), none, .p (.nck (.t 27))⟩,
 ⟨(some 29), none, .p (.fa 0 (.t 28))⟩,
 ⟨(some 30), none, .p (.fa 1 (.t 29))⟩,
 ⟨(some 31), none, .p (.ld1 (.t 30))⟩,
 ⟨(some 32), none, .p (.mov (.t 8))⟩,
 ⟨(some 33), none, .p (.ia 6 (.t 31) (.t 32))⟩,
 ⟨(some 34), none, .p (.ldn 6 (.t 33))⟩,
 ⟨(some 9), none, .e (.alc 37 [i64 0, i64 0, i64 0, .val (.slice none 0 0), .val (.slice none 0 0), .val (.slice none 0 0)])⟩,
 ⟨none, none, .e (.st 6 (.t 9) (.t 34))⟩])
 (.seq
 (.reg [
 ⟨(some 35), none, .p (.fa 0 (.t 9))⟩,
 ⟨(some 36), none, .p (.ld1 (.t 35))⟩,
 ⟨(some 37), none, .p (.bin .eql (.i .i64) (.t 36) (.c (i64 2)))⟩,
 ⟨(some 38), none, .p (.mov (.t 37))⟩,
 ⟨(some 39), (some (38, true)), .p (.fa 1 (.t 9))⟩,
 ⟨(some 40), (some (38, true)), .p (.ld1 (.t 39))⟩,
 ⟨(some 41), (some (38, true)), .p (.mov (.t 2))⟩,
 ⟨(some 42), (some (38, true)), .p (.bin .eql (.i .i64) (.t 40) (.t 41))⟩,
 ⟨(some 43), none, .p (.pick (.t 38) (.t 42) (.c (bl false)))⟩,
 ⟨(some 44), none, .p (.mov (.t 43))⟩,
 ⟨(some 45), (some (44, true)), .p (.mov (.t 3))⟩,
 ⟨(some 46), (some (44, true)), .p (.mov (.t 8))⟩,
 ⟨(some 47), (some (44, true)), .p (.fa 3 (.t 9))⟩,
 ⟨(some 48), (some (44, true)), .p (.ld1 (.t 47))⟩,
 ⟨(some 49), (some (44, true)), .p (.mov (.t 1))⟩,
 ⟨(some 50), (some (44, true)), .q (.c (.fn (.func 82) [] [])) [(.t 48), (.t 49)]⟩,
 ⟨(some 51), (some (44, true)), .e (.call (.t 45) [(.t 46), (.t 50)])⟩,
 ⟨(some 52), (some (44, true)), .p (.not (.t 51))⟩,
 ⟨(some 53), none, .p (.pick (.t 44) (.t 52) (.c (bl false)))⟩])
 (.cond (.t 53)
 .ret
 .skip))))
 (.drt 9 [0, 1, 2, 3, 4, 5, 6, 7, 8] [
 ⟨(some 19), none, .p (.mov (.t 8))⟩,
 ⟨(some 20), none, .p (.mov (.t 0))⟩,
 ⟨(some 21), none, .p (.nck (.t 20))⟩,
 ⟨(some 22), none, .p (.fa 3 (.t 21))⟩,
 ⟨(some 23), none, .p (.ld1 (.t 22))⟩,
 ⟨(some 24), none, .p (.mov (.t 8))⟩,
 ⟨(some 25), none, .p (.ia 1 (.t 23) (.t 24))⟩,
 ⟨(some 26), none, .p (.ld1 (.t 25))⟩,
 ⟨(some 1), none, .p (.mov (.t 19))⟩] [
 ⟨(some 8), none, .p (.mov (.t 26))⟩])))
/-- (*parlour/recall.walker).above -/
def i67 : IC :=
 (.seq
 (.reg [
 ⟨(some 10), none, .p (.mov (.t 0))⟩,
 ⟨(some 11), none, .p (.nck (.t 10))⟩,
 ⟨(some 12), none, .p (.fa 3 (.t 11))⟩,
 ⟨(some 13), none, .p (.ld1 (.t 12))⟩,
 ⟨(some 14), none, .p (.mov (.t 1))⟩,
 ⟨(some 15), none, .p (.ia 1 (.t 13) (.t 14))⟩,
 ⟨(some 16), none, .p (.ld1 (.t 15))⟩,
 ⟨(some 8), none, .p (.mov (.t 16))⟩])
 (.blk 0
 (.loop l67_0)))
def r67 : List RS := []
theorem c67 : chkF Try.prog drawB Try.f67 i67 r67 = true := by kernel_rfl
/-- (parlour/recall.seeker).seek$1 -/
def i68 : IC :=
 (.seq
 (.reg [
 ⟨(some 7), none, .p (.mov (.c (bl false)))⟩])
 (.seq
 (.seq
 (.drw [0, 1, 2, 3, 4, 5, 6, 7, 8, 9, 10, 11] [
 ⟨(some 8), none, .p (.fa 0 (.t 2))⟩,
 ⟨(some 9), none, .p (.ld1 (.t 8))⟩,
 ⟨(some 10), none, .p (.nck (.t 9))⟩,
 ⟨(some 11), none, .p (.fa 0 (.t 10))⟩,
 ⟨(some 12), none, .p (.fa 1 (.t 11))⟩,
 ⟨(some 13), none, .p (.ld1 (.t 12))⟩,
 ⟨(some 14), none, .p (.mov (.t 0))⟩,
 ⟨(some 15), none, .p (.ia 6 (.t 13) (.t 14))⟩,
 ⟨(some 16), none, .p (.fa 2 (.t 15))⟩,
 ⟨(some 17), none, .p (.ld1 (.t 16))⟩,
 ⟨(some 18), none, .p (.ld1 (.t 3))⟩,
 ⟨(some 19), none, .p (.bin .eql (.i .i64) (.t 17) (.t 18))⟩])
 (.cond (.t 19)
 (.reg [
 ⟨(some 20), none, .p (.mov (.t 0))⟩,
 ⟨none, none, .e (.st 1 (.t 4) (.t 20))⟩])
 .skip))
 (.seq
 (.reg [
 ⟨(some 21), none, .p (.ld1 (.t 4))⟩,
 ⟨(some 22), none, .p (.bin .lss (.i .i64) (.t 21) (.c (i64 0)))⟩,
 ⟨(some 7), none, .p (.mov (.t 22))⟩])
 .ret)))
def r68 : List RS := [.t 7]
theorem c68 : chkF Try.prog drawB Try.f68 i68 r68 = true := by kernel_rfl
/-- parlour/recall.equal((2)int) -/
def i69 : IC :=
 (.seq
 (.reg [
 ⟨(some 4), none, .p (.mov (.c (bl false)))⟩])
 (.seq
 (.reg [
 ⟨(some 5), none, .p (.mov (.t 0))⟩,
 ⟨(some 6), none, .p (.mov (.t 1))⟩,
 ⟨(some 7), none, .e (.call (.c (.fn (.func 83) [] [])) [(.t 5), (.t 6)])⟩,
 ⟨(some 4), none, .p (.mov (.t 7))⟩])
 .ret))
def r69 : List RS := [.t 4]
theorem c69 : chkF Try.prog drawB Try.f69 i69 r69 = true := by kernel_rfl
/-- (*parlour/recall.walker).way$1 -/
def i70 : IC :=
 (.seq
 (.reg [
 ⟨(some 6), none, .p (.mov (.c (bl false)))⟩])
 (.seq
 (.drw [0, 1, 2, 3, 4, 5, 6, 7, 8, 9, 10, 11, 12, 13, 14] [
 ⟨(some 7), none, .p (.ld1 (.t 2))⟩,
 ⟨(some 8), none, .p (.ld1 (.t 3))⟩,
 ⟨(some 9), none, .p (.nck (.t 8))⟩,
 ⟨(some 10), none, .p (.fa 0 (.t 9))⟩,
 ⟨(some 11), none, .p (.fa 1 (.t 10))⟩,
 ⟨(some 12), none, .p (.ld1 (.t 11))⟩,
 ⟨(some 13), none, .p (.mov (.t 0))⟩,
 ⟨(some 14), none, .p (.ia 6 (.t 12) (.t 13))⟩,
 ⟨(some 15), none, .p (.fa 2 (.t 14))⟩,
 ⟨(some 16), none, .p (.ld1 (.t 15))⟩,
 ⟨(some 17), none, .p (.mov (.t 1))⟩,
 ⟨(some 18), none, .p (.bld [i64 0, i64 0] [(0, 1, (.t 16)), (1, 1, (.t 17))])⟩,
 ⟨(some 19), none, .e (.bsl 47 2 1 [i64 0, i64 0] [(0, (.t 18))])⟩,
 ⟨(some 20), none, .e (.app 47 2 16 (.t 7) (.t 19))⟩,
 ⟨none, none, .e (.stw [16, 12, 8, 7] 1 (.t 2) (.t 20))⟩])
 (.seq
 (.reg [
 ⟨(some 6), none, .p (.mov (.c (bl true)))⟩])
 .ret)))
def r70 : List RS := [.t 6]
theorem c70 : chkF Try.prog drawB Try.f70 i70 r70 = true := by kernel_rfl
def l71_0 : IC := .keep [0, 2, 3]
 (.seq
 (.seq
 (.reg [
 ⟨(some 7), none, .p (.mov (.t 2))⟩,
 ⟨(some 8), none, .p (.mov (.t 3))⟩,
 ⟨(some 9), none, .p (.bin .lss (.i .i64) (.t 7) (.t 8))⟩])
 (.cond (.t 9)
 .skip
 (.exit 0)))
 (.seq
 (.blk 1
 (.drw [0, 1, 2, 3, 4, 5, 6, 7, 8, 9, 10, 11, 12, 13, 14, 15] [
 ⟨(some 14), none, .p (.mov (.t 0))⟩,
 ⟨(some 15), none, .p (.mov (.t 2))⟩,
 ⟨(some 16), none, .p (.mov (.t 0))⟩,
 ⟨(some 17), none, .p (.mov (.t 3))⟩,
 ⟨(some 18), none, .p (.mov (.t 0))⟩,
 ⟨(some 19), none, .p (.mov (.t 3))⟩,
 ⟨(some 20), none, .p (.ia 2 (.t 18) (.t 19))⟩,
 ⟨(some 21), none, .p (.ldn 2 (.t 20))⟩,
 ⟨(some 22), none, .p (.mov (.t 0))⟩,
 ⟨(some 23), none, .p (.mov (.t 2))⟩,
 ⟨(some 24), none, .p (.ia 2 (.t 22) (.t 23))⟩,
 ⟨(some 25), none, .p (.ldn 2 (.t 24))⟩,
 ⟨(some 26), none, .p (.ia 2 (.t 14) (.t 15))⟩,
 ⟨none, none, .e (.stw [25] 2 (.t 26) (.t 21))⟩,
 ⟨(some 27), none, .p (.ia 2 (.t 16) (.t 17))⟩,
 ⟨none, none, .e (.stw [21] 2 (.t 27) (.t 25))⟩]))
 (.reg [
 ⟨(some 10), none, .p (.mov (.t 2))⟩,
 ⟨(some 11), none, .p (.bin .add (.i .i64) (.t 10) (.c (i64 1)))⟩,
 ⟨(some 12), none, .p (.mov (.t 3))⟩,
 ⟨(some 13), none, .p (.bin .sub (.i .i64) (.t 12) (.c (i64 1)))⟩,
 ⟨(some 2), none, .p (.mov (.t 11))⟩,
 ⟨(some 3), none, .p (.mov (.t 13))⟩])))
/-- slices.Reverse(()(2)int,(2)int) -/
def i71 : IC :=
 (.seq
 (.reg [
 ⟨(some 4), none, .p (.mov (.t 0))⟩,
 ⟨(some 5), none, .p (.len (.t 4))⟩,
 ⟨(some 6), none, .p (.bin .sub (.i .i64) (.t 5) (.c (i64 1)))⟩,
 ⟨(some 2), none, .p (.mov (.c (i64 0)))⟩,
 ⟨(some 3), none, .p (.mov (.t 6))⟩])
 (.blk 0
 (.loop l71_0)))
def r71 : List RS := []
theorem c71 : chkF Try.prog drawB Try.f71 i71 r71 = true := by kernel_rfl
def l73_0 : IC := .keep [0, 1, 4, 5]
 (.seq
 (.seq
 (.reg [
 ⟨(some 7), none, .p (.mov (.t 5))⟩,
 ⟨(some 8), none, .p (.mov (.t 0))⟩,
 ⟨(some 9), none, .p (.nck (.t 8))⟩,
 ⟨(some 10), none, .p (.fa 7 (.t 9))⟩,
 ⟨(some 11), none, .p (.fa 0 (.t 10))⟩,
 ⟨(some 12), none, .p (.ld1 (.t 11))⟩,
 ⟨(some 13), none, .p (.bin .lss (.i .i64) (.t 7) (.t 12))⟩])
 (.cond (.t 13)
 .skip
 (.exit 0)))
 (.seq
 (.blk 1
 (.drw [0, 1, 2, 3, 4, 5, 6, 7, 8, 9, 10, 11] [
 ⟨(some 16), none, .p (.fa 5 (.t 4))⟩,
 ⟨(some 17), none, .p (.ld1 (.t 16))⟩,
 ⟨(some 18), none, .p (.mov (.t 0))⟩,
 ⟨(some 19), none, .p (.nck (.t 18))⟩,
 ⟨(some 20), none, .p (.fa 0 (.t 19))⟩,
 ⟨(some 21), none, .p (.ld1 (.t 20))⟩,
 ⟨(some 22), none, .e (.call (.c (.fn (.func 59) [] [])) [(.t 21), (.c (i64 7))])⟩,
 ⟨(some 23), none, .p (.bin .sub (.i .i64) (.t 22) (.c (i64 3)))⟩,
 ⟨(some 24), none, .e (.bsl 3 1 1 [i64 0] [(0, (.t 23))])⟩,
 ⟨(some 25), none, .e (.app 3 1 8 (.t 17) (.t 24))⟩,
 ⟨(some 26), none, .p (.fa 5 (.t 4))⟩,
 ⟨none, none, .e (.stw [21, 17] 1 (.t 26) (.t 25))⟩]))
 (.reg [
 ⟨(some 14), none, .p (.mov (.t 5))⟩,
 ⟨(some 15), none, .p (.bin .add (.i .i64) (.t 14) (.c (i64 1)))⟩,
 ⟨(some 5), none, .p (.mov (.t 15))⟩])))
/-- (*parlour/parlourkit.maker).end -/
def i73 : IC :=
 (.seq
 (.reg [
 ⟨(some 6), none, .p (.bld [i64 0, i64 0, i64 0, .val (.slice none 0 0), .val (.slice none 0 0), .val (.slice none 0 0)] [(0, 1, (.c (i64 3)))])⟩,
 ⟨(some 4), none, .e (.alc 37 [i64 0, i64 0, i64 0, .val (.slice none 0 0), .val (.slice none 0 0), .val (.slice none 0 0)])⟩,
 ⟨none, none, .e (.st 6 (.t 4) (.t 6))⟩])
 (.seq
 (.seq
 (.reg [
 ⟨(some 5), none, .p (.mov (.c (i64 0)))⟩])
 (.blk 0
 (.loop l73_0)))
 (.seq
 (.seq
 (.reg [
 ⟨(some 27), none, .p (.mov (.t 0))⟩,
 ⟨(some 28), none, .p (.nck (.t 27))⟩,
 ⟨(some 29), none, .p (.fa 5 (.t 28))⟩,
 ⟨(some 30), none, .p (.ld1 (.t 29))⟩,
 ⟨(some 31), none, .p (.mov (.t 30))⟩,
 ⟨(some 32), (some (31, true)), .p (.mov (.t 0))⟩,
 ⟨(some 33), (some (31, true)), .p (.nck (.t 32))⟩,
 ⟨(some 34), (some (31, true)), .p (.fa 7 (.t 33))⟩,
 ⟨(some 35), (some (31, true)), .p (.fa 0 (.t 34))⟩,
 ⟨(some 36), (some (31, true)), .p (.ld1 (.t 35))⟩,
 ⟨(some 37), (some (31, true)), .p (.bin .eql (.i .i64) (.t 36) (.c (i64 2)))⟩,
 ⟨(some 38), none, .p (.pick (.t 31) (.t 37) (.c (bl false)))⟩])
 (.cond (.t 38)
 (.drw [0, 1, 2, 3, 4, 5, 6, 7, 8] [
 ⟨(some 39), none, .p (.fa 5 (.t 4))⟩,
 ⟨(some 40), none, .p (.ld1 (.t 39))⟩,
 ⟨(some 41), none, .p (.fa 5 (.t 4))⟩,
 ⟨(some 42), none, .p (.ld1 (.t 41))⟩,
 ⟨(some 43), none, .p (.ia 1 (.t 42) (.c (i64 0)))⟩,
 ⟨(some 44), none, .p (.ld1 (.t 43))⟩,
 ⟨(some 45), none, .p (.neg .i64 (.t 44))⟩,
 ⟨(some 46), none, .p (.ia 1 (.t 40) (.c (i64 1)))⟩,
 ⟨none, none, .e (.st 1 (.t 46) (.t 45))⟩])
 .skip))
 (.drw [0, 1, 2, 3, 4, 5, 6, 7, 8] [
 ⟨(some 47), none, .p (.mov (.t 0))⟩,
 ⟨(some 48), none, .p (.nck (.t 47))⟩,
 ⟨(some 49), none, .p (.fa 7 (.t 48))⟩,
 ⟨(some 50), none, .p (.fa 1 (.t 49))⟩,
 ⟨(some 51), none, .p (.ld1 (.t 50))⟩,
 ⟨(some 52), none, .p (.mov (.t 1))⟩,
 ⟨(some 53), none, .p (.ldn 6 (.t 4))⟩,
 ⟨(some 54), none, .p (.ia 6 (.t 51) (.t 52))⟩,
 ⟨none, none, .e (.st 6 (.t 54) (.t 53))⟩]))))
def r73 : List RS := []
theorem c73 : chkF Try.prog drawB Try.f73 i73 r73 = true := by kernel_rfl
def l74_0 : IC := .keep [0, 1, 2, 3, 9]
 (.seq
 (.seq
 (.reg [
 ⟨(some 11), none, .p (.mov (.t 9))⟩,
 ⟨(some 12), none, .p (.mov (.t 0))⟩,
 ⟨(some 13), none, .p (.nck (.t 12))⟩,
 ⟨(some 14), none, .p (.fa 2 (.t 13))⟩,
 ⟨(some 15), none, .p (.ld1 (.t 14))⟩,
 ⟨(some 16), none, .p (.len (.t 15))⟩,
 ⟨(some 17), none, .p (.bin .lss (.i .i64) (.t 11) (.t 16))⟩])
 (.cond (.t 17)
 .skip
 (.exit 0)))
 (.seq
 (.blk 1
 (.seq
 (.reg [
 ⟨(some 20), none, .p (.mov (.t 0))⟩,
 ⟨(some 21), none, .p (.nck (.t 20))⟩,
 ⟨(some 22), none, .p (.fa 2 (.t 21))⟩,
 ⟨(some 23), none, .p (.ld1 (.t 22))⟩,
 ⟨(some 24), none, .p (.mov (.t 9))⟩,
 ⟨(some 25), none, .p (.ia 4 (.t 23) (.t 24))⟩,
 ⟨(some 26), none, .p (.ldn 4 (.t 25))⟩,
 ⟨(some 10), none, .e (.alc 125 [i64 0, i64 0, .val (.slice none 0 0), i64 0])⟩,
 ⟨none, none, .e (.st 4 (.t 10) (.t 26))⟩])
 (.seq
 (.reg [
 ⟨(some 27), none, .p (.fa 0 (.t 10))⟩,
 ⟨(some 28), none, .p (.ld1 (.t 27))⟩,
 ⟨(some 29), none, .p (.mov (.t 1))⟩,
 ⟨(some 30), none, .p (.bin .eql (.i .i64) (.t 28) (.t 29))⟩,
 ⟨(some 31), none, .p (.mov (.t 30))⟩,
 ⟨(some 32), (some (31, true)), .p (.fa 1 (.t 10))⟩,
 ⟨(some 33), (some (31, true)), .p (.ld1 (.t 32))⟩,
 ⟨(some 34), (some (31, true)), .p (.mov (.t 2))⟩,
 ⟨(some 35), (some (31, true)), .p (.bin .eql (.i .i64) (.t 33) (.t 34))⟩,
 ⟨(some 36), none, .p (.pick (.t 31) (.t 35) (.c (bl false)))⟩,
 ⟨(some 37), none, .p (.mov (.t 36))⟩,
 ⟨(some 38), (some (37, true)), .p (.fa 2 (.t 10))⟩,
 ⟨(some 39), (some (37, true)), .p (.ld1 (.t 38))⟩,
 ⟨(some 40), (some (37, true)), .p (.mov (.t 3))⟩,
 ⟨(some 41), (some (37, true)), .q (.c (.fn (.func 23) [] [])) [(.t 39), (.t 40)]⟩,
 ⟨(some 42), none, .p (.pick (.t 37) (.t 41) (.c (bl false)))⟩])
 (.cond (.t 42)
 (.seq
 (.reg [
 ⟨(some 43), none, .p (.fa 3 (.t 10))⟩,
 ⟨(some 44), none, .p (.ld1 (.t 43))⟩,
 ⟨(some 8), none, .p (.mov (.t 44))⟩])
 .ret)
 .skip))))
 (.reg [
 ⟨(some 18), none, .p (.mov (.t 9))⟩,
 ⟨(some 19), none, .p (.bin .add (.i .i64) (.t 18) (.c (i64 1)))⟩,
 ⟨(some 9), none, .p (.mov (.t 19))⟩])))
/-- (*parlour/parlourkit.maker).find -/
def i74 : IC :=
 (.seq
 (.reg [
 ⟨(some 8), none, .p (.mov (.c (i64 0)))⟩])
 (.seq
 (.seq
 (.reg [
 ⟨(some 9), none, .p (.mov (.c (i64 0)))⟩])
 (.blk 0
 (.loop l74_0)))
 (.seq
 (.drw [0, 1, 2, 3, 4, 5, 6, 7, 8, 9, 10, 11, 12, 13, 14, 15, 16, 17, 18, 19] [
 ⟨(some 45), none, .p (.mov (.t 0))⟩,
 ⟨(some 46), none, .p (.mov (.t 0))⟩,
 ⟨(some 47), none, .p (.nck (.t 46))⟩,
 ⟨(some 48), none, .p (.fa 2 (.t 47))⟩,
 ⟨(some 49), none, .p (.ld1 (.t 48))⟩,
 ⟨(some 50), none, .p (.mov (.t 1))⟩,
 ⟨(some 51), none, .p (.mov (.t 2))⟩,
 ⟨(some 52), none, .p (.mov (.t 3))⟩,
 ⟨(some 53), none, .p (.mov (.t 0))⟩,
 ⟨(some 54), none, .p (.nck (.t 53))⟩,
 ⟨(some 55), none, .p (.fa 7 (.t 54))⟩,
 ⟨(some 56), none, .p (.fa 2 (.t 55))⟩,
 ⟨(some 57), none, .p (.ld1 (.t 56))⟩,
 ⟨(some 58), none, .p (.len (.t 57))⟩,
 ⟨(some 59), none, .p (.bld [i64 0, i64 0, .val (.slice none 0 0), i64 0] [(0, 1, (.t 50)), (1, 1, (.t 51)), (2, 1, (.t 52)), (3, 1, (.t 58))])⟩,
 ⟨(some 60), none, .e (.bsl 125 4 1 [i64 0, i64 0, .val (.slice none 0 0), i64 0] [(0, (.t 59))])⟩,
 ⟨(some 61), none, .e (.app 125 4 48 (.t 49) (.t 60))⟩,
 ⟨(some 62), none, .p (.nck (.t 45))⟩,
 ⟨(some 63), none, .p (.fa 2 (.t 62))⟩,
 ⟨none, none, .e (.stw [57, 49] 1 (.t 63) (.t 61))⟩])
 (.seq
 (.drw [0, 1, 2, 3, 4, 5, 6, 7, 8, 9, 10, 11, 12, 13, 14, 15, 16, 17, 18, 19] [
 ⟨(some 64), none, .p (.mov (.t 0))⟩,
 ⟨(some 65), none, .p (.mov (.t 0))⟩,
 ⟨(some 66), none, .p (.nck (.t 65))⟩,
 ⟨(some 67), none, .p (.fa 7 (.t 66))⟩,
 ⟨(some 68), none, .p (.fa 2 (.t 67))⟩,
 ⟨(some 69), none, .p (.ld1 (.t 68))⟩,
 ⟨(some 70), none, .p (.mov (.t 1))⟩,
 ⟨(some 71), none, .p (.mov (.t 0))⟩,
 ⟨(some 72), none, .p (.nck (.t 71))⟩,
 ⟨(some 73), none, .p (.fa 0 (.t 72))⟩,
 ⟨(some 74), none, .p (.ld1 (.t 73))⟩,
 ⟨(some 75), none, .e (.call (.c (.fn (.func 59) [] [])) [(.t 74), (.c (i64 3))])⟩,
 ⟨(some 76), none, .p (.bin .add (.i .i64) (.c (i64 1)) (.t 75))⟩,
 ⟨(some 77), none, .p (.bld [i64 0, i64 0] [(0, 1, (.t 70)), (1, 1, (.t 76))])⟩,
 ⟨(some 78), none, .e (.bsl 34 2 1 [i64 0, i64 0] [(0, (.t 77))])⟩,
 ⟨(some 79), none, .e (.app 34 2 16 (.t 69) (.t 78))⟩,
 ⟨(some 80), none, .p (.nck (.t 64))⟩,
 ⟨(some 81), none, .p (.fa 7 (.t 80))⟩,
 ⟨(some 82), none, .p (.fa 2 (.t 81))⟩,
 ⟨none, none, .e (.stw [74, 69] 1 (.t 82) (.t 79))⟩])
 (.seq
 (.reg [
 ⟨(some 83), none, .p (.mov (.t 0))⟩,
 ⟨(some 84), none, .p (.nck (.t 83))⟩,
 ⟨(some 85), none, .p (.fa 7 (.t 84))⟩,
 ⟨(some 86), none, .p (.fa 2 (.t 85))⟩,
 ⟨(some 87), none, .p (.ld1 (.t 86))⟩,
 ⟨(some 88), none, .p (.len (.t 87))⟩,
 ⟨(some 89), none, .p (.bin .sub (.i .i64) (.t 88) (.c (i64 1)))⟩,
 ⟨(some 8), none, .p (.mov (.t 89))⟩])
 .ret)))))
def r74 : List RS := [.t 8]
theorem c74 : chkF Try.prog drawB Try.f74 i74 r74 = true := by kernel_rfl
def l75_0 : IC := .keep [0, 1, 6]
 (.seq
 (.seq
 (.reg [
 ⟨(some 20), none, .p (.mov (.t 6))⟩,
 ⟨(some 21), none, .p (.mov (.t 0))⟩,
 ⟨(some 22), none, .p (.nck (.t 21))⟩,
 ⟨(some 23), none, .p (.fa 7 (.t 22))⟩,
 ⟨(some 24), none, .p (.fa 1 (.t 23))⟩,
 ⟨(some 25), none, .p (.ld1 (.t 24))⟩,
 ⟨(some 26), none, .p (.len (.t 25))⟩,
 ⟨(some 27), none, .p (.bin .lss (.i .i64) (.t 20) (.t 26))⟩])
 (.cond (.t 27)
 .skip
 (.exit 0)))
 (.seq
 (.blk 1
 (.seq
 (.reg [
 ⟨(some 30), none, .p (.mov (.t 0))⟩,
 ⟨(some 31), none, .p (.nck (.t 30))⟩,
 ⟨(some 32), none, .p (.fa 7 (.t 31))⟩,
 ⟨(some 33), none, .p (.fa 1 (.t 32))⟩,
 ⟨(some 34), none, .p (.ld1 (.t 33))⟩,
 ⟨(some 35), none, .p (.mov (.t 6))⟩,
 ⟨(some 36), none, .p (.ia 6 (.t 34) (.t 35))⟩,
 ⟨(some 37), none, .p (.fa 0 (.t 36))⟩,
 ⟨(some 38), none, .p (.ld1 (.t 37))⟩,
 ⟨(some 39), none, .p (.bin .eql (.i .i64) (.t 38) (.c (i64 2)))⟩,
 ⟨(some 40), none, .p (.mov (.t 39))⟩,
 ⟨(some 41), (some (40, true)), .p (.mov (.t 0))⟩,
 ⟨(some 42), (some (40, true)), .p (.nck (.t 41))⟩,
 ⟨(some 43), (some (40, true)), .p (.fa 7 (.t 42))⟩,
 ⟨(some 44), (some (40, true)), .p (.fa 1 (.t 43))⟩,
 ⟨(some 45), (some (40, true)), .p (.ld1 (.t 44))⟩,
 ⟨(some 46), (some (40, true)), .p (.mov (.t 6))⟩,
 ⟨(some 47), (some (40, true)), .p (.ia 6 (.t 45) (.t 46))⟩,
 ⟨(some 48), (some (40, true)), .p (.fa 2 (.t 47))⟩,
 ⟨(some 49), (some (40, true)), .p (.ld1 (.t 48))⟩,
 ⟨(some 50), (some (40, true)), .p (.mov (.t 1))⟩,
 ⟨(some 51), (some (40, true)), .p (.bin .eql (.i .i64) (.t 49) (.t 50))⟩,
 ⟨(some 52), none, .p (.pick (.t 40) (.t 51) (.c (bl false)))⟩])
 (.cond (.t 52)
 .ret
 .skip)))
 (.reg [
 ⟨(some 28), none, .p (.mov (.t 6))⟩,
 ⟨(some 29), none, .p (.bin .add (.i .i64) (.t 28) (.c (i64 1)))⟩,
 ⟨(some 6), none, .p (.mov (.t 29))⟩])))
/-- (*parlour/parlourkit.maker).drop -/
def i75 : IC :=
 (.seq
 (.seq
 (.reg [
 ⟨(some 7), none, .p (.mov (.t 2))⟩,
 ⟨(some 8), none, .p (.bin .lss (.i .i64) (.t 7) (.c (i64 0)))⟩,
 ⟨(some 9), none, .p (.mov (.t 8))⟩,
 ⟨(some 10), (some (9, false)), .p (.mov (.t 1))⟩,
 ⟨(some 11), (some (9, false)), .p (.mov (.t 0))⟩,
 ⟨(some 12), (some (9, false)), .p (.nck (.t 11))⟩,
 ⟨(some 13), (some (9, false)), .p (.fa 7 (.t 12))⟩,
 ⟨(some 14), (some (9, false)), .p (.fa 2 (.t 13))⟩,
 ⟨(some 15), (some (9, false)), .p (.ld1 (.t 14))⟩,
 ⟨(some 16), (some (9, false)), .p (.len (.t 15))⟩,
 ⟨(some 17), (some (9, false)), .p (.bin .sub (.i .i64) (.t 16) (.c (i64 1)))⟩,
 ⟨(some 18), (some (9, false)), .p (.bin .neq (.i .i64) (.t 10) (.t 17))⟩,
 ⟨(some 19), none, .p (.pick (.t 9) (.c (bl true)) (.t 18))⟩])
 (.cond (.t 19)
 .ret
 .skip))
 (.seq
 (.seq
 (.reg [
 ⟨(some 6), none, .p (.mov (.c (i64 0)))⟩])
 (.blk 0
 (.loop l75_0)))
 (.seq
 (.reg [
 ⟨(some 53), none, .p (.mov (.t 0))⟩,
 ⟨(some 54), none, .p (.mov (.t 0))⟩,
 ⟨(some 55), none, .p (.nck (.t 54))⟩,
 ⟨(some 56), none, .p (.fa 7 (.t 55))⟩,
 ⟨(some 57), none, .p (.fa 2 (.t 56))⟩,
 ⟨(some 58), none, .p (.ld1 (.t 57))⟩,
 ⟨(some 59), none, .p (.mov (.t 1))⟩,
 ⟨(some 60), none, .p (.sl 2 (.t 58) none (some (.t 59)))⟩,
 ⟨(some 61), none, .p (.nck (.t 53))⟩,
 ⟨(some 62), none, .p (.fa 7 (.t 61))⟩,
 ⟨(some 63), none, .p (.fa 2 (.t 62))⟩,
 ⟨none, none, .e (.st 1 (.t 63) (.t 60))⟩])
 (.drw [0, 1, 2, 3, 4, 5, 6, 7, 8, 9, 10, 11, 12, 13, 14] [
 ⟨(some 64), none, .p (.mov (.t 0))⟩,
 ⟨(some 65), none, .p (.mov (.t 0))⟩,
 ⟨(some 66), none, .p (.nck (.t 65))⟩,
 ⟨(some 67), none, .p (.fa 2 (.t 66))⟩,
 ⟨(some 68), none, .p (.ld1 (.t 67))⟩,
 ⟨(some 69), none, .p (.mov (.t 0))⟩,
 ⟨(some 70), none, .p (.nck (.t 69))⟩,
 ⟨(some 71), none, .p (.fa 2 (.t 70))⟩,
 ⟨(some 72), none, .p (.ld1 (.t 71))⟩,
 ⟨(some 73), none, .p (.len (.t 72))⟩,
 ⟨(some 74), none, .p (.bin .sub (.i .i64) (.t 73) (.c (i64 1)))⟩,
 ⟨(some 75), none, .p (.sl 4 (.t 68) none (some (.t 74)))⟩,
 ⟨(some 76), none, .p (.nck (.t 64))⟩,
 ⟨(some 77), none, .p (.fa 2 (.t 76))⟩,
 ⟨none, none, .e (.st 1 (.t 77) (.t 75))⟩]))))
def r75 : List RS := []
theorem c75 : chkF Try.prog drawB Try.f75 i75 r75 = true := by kernel_rfl
/-- (*parlour/recall.walker).chance -/
def i76 : IC :=
 (.seq
 (.reg [
 ⟨(some 3), none, .e (.box 37 (.t 1))⟩,
 ⟨(some 4), none, .p (.mov (.c (i64 0)))⟩])
 (.seq
 (.seq
 (.reg [
 ⟨(some 5), none, .p (.fa 1 (.t 3))⟩,
 ⟨(some 6), none, .p (.ld1 (.t 5))⟩,
 ⟨(some 7), none, .p (.bin .neq (.i .i64) (.t 6) (.c (i64 0)))⟩,
 ⟨(some 8), none, .p (.mov (.t 7))⟩,
 ⟨(some 9), (some (8, false)), .p (.fa 2 (.t 3))⟩,
 ⟨(some 10), (some (8, false)), .p (.ld1 (.t 9))⟩,
 ⟨(some 11), (some (8, false)), .p (.bin .neq (.i .i64) (.t 10) (.c (i64 0)))⟩,
 ⟨(some 12), none, .p (.pick (.t 8) (.c (bl true)) (.t 11))⟩,
 ⟨(some 13), none, .p (.mov (.t 12))⟩,
 ⟨(some 14), (some (13, false)), .p (.fa 5 (.t 3))⟩,
 ⟨(some 15), (some (13, false)), .p (.ld1 (.t 14))⟩,
 ⟨(some 16), (some (13, false)), .p (.len (.t 15))⟩,
 ⟨(some 17), (some (13, false)), .p (.bin .gtr (.i .i64) (.t 16) (.c (i64 0)))⟩,
 ⟨(some 18), none, .p (.pick (.t 13) (.c (bl true)) (.t 17))⟩,
 ⟨(some 19), none, .p (.mov (.t 18))⟩,
 ⟨(some 20), (some (19, false)), .p (.fa 3 (.t 3))⟩,
 ⟨(some 21), (some (19, false)), .p (.ld1 (.t 20))⟩,
 ⟨(some 22), (some (19, false)), .p (.len (.t 21))⟩,
 ⟨(some 23), (some (19, false)), .p (.bin .lss (.i .i64) (.t 22) (.c (i64 1)))⟩,
 ⟨(some 24), none, .p (.pick (.t 19) (.c (bl true)) (.t 23))⟩,
 ⟨(some 25), none, .p (.mov (.t 24))⟩,
 ⟨(some 26), (some (25, false)), .p (.fa 3 (.t 3))⟩,
 ⟨(some 27), (some (25, false)), .p (.ld1 (.t 26))⟩,
 ⟨(some 28), (some (25, false)), .p (.len (.t 27))⟩,
 ⟨(some 29), (some (25, false)), .p (.bin .gtr (.i .i64) (.t 28) (.c (i64 60)))⟩,
 ⟨(some 30), none, .p (.pick (.t 25) (.c (bl true)) (.t 29))⟩,
 ⟨(some 31), none, .p (.mov (.t 30))⟩,
 ⟨(some 32), (some (31, false)), .p (.fa 4 (.t 3))⟩,
 ⟨(some 33), (some (31, false)), .p (.ld1 (.t 32))⟩,
 ⟨(some 34), (some (31, false)), .p (.len (.t 33))⟩,
 ⟨(some 35), (some (31, false)), .p (.fa 3 (.t 3))⟩,
 ⟨(some 36), (some (31, false)), .p (.ld1 (.t 35))⟩,
 ⟨(some 37), (some (31, false)), .p (.len (.t 36))⟩,
 ⟨(some 38), (some (31, false)), .p (.bin .neq (.i .i64) (.t 34) (.t 37))⟩,
 ⟨(some 39), none, .p (.pick (.t 31) (.c (bl true)) (.t 38))⟩])
 (.cond (.t 39)
 (.seq
 (.reg [
 ⟨(some 4), none, .p (.mov (.c (i64 3)))⟩])
 .ret)
 .skip))
 (.seq
 (.reg [
 ⟨(some 40), none, .p (.fa 4 (.t 3))⟩,
 ⟨(some 41), none, .p (.ld1 (.t 40))⟩,
 ⟨(some 42), none, .e (.call (.c (.fn (.func 45) [] [])) [(.c (i64 1)), (.c (i64 1000)), (.t 41)])⟩,
 ⟨(some 4), none, .p (.mov (.t 42))⟩])
 .ret)))
def r76 : List RS := [.t 4]
theorem c76 : chkF Try.prog drawB Try.f76 i76 r76 = true := by kernel_rfl
/-- (*parlour/recall.walker).move -/
def i77 : IC :=
 (.seq
 (.reg [
 ⟨(some 3), none, .e (.box 37 (.t 1))⟩,
 ⟨(some 4), none, .p (.mov (.c (i64 0)))⟩])
 (.seq
 (.seq
 (.reg [
 ⟨(some 6), none, .p (.fa 4 (.t 3))⟩,
 ⟨(some 7), none, .p (.ld1 (.t 6))⟩,
 ⟨(some 8), none, .p (.len (.t 7))⟩,
 ⟨(some 9), none, .p (.bin .gtr (.i .i64) (.t 8) (.c (i64 0)))⟩,
 ⟨(some 10), none, .p (.mov (.t 9))⟩,
 ⟨(some 11), (some (10, false)), .p (.fa 5 (.t 3))⟩,
 ⟨(some 12), (some (10, false)), .p (.ld1 (.t 11))⟩,
 ⟨(some 13), (some (10, false)), .p (.len (.t 12))⟩,
 ⟨(some 14), (some (10, false)), .p (.bin .gtr (.i .i64) (.t 13) (.c (i64 0)))⟩,
 ⟨(some 15), none, .p (.pick (.t 10) (.c (bl true)) (.t 14))⟩,
 ⟨(some 16), none, .p (.mov (.t 15))⟩,
 ⟨(some 17), (some (16, false)), .p (.fa 3 (.t 3))⟩,
 ⟨(some 18), (some (16, false)), .p (.ld1 (.t 17))⟩,
 ⟨(some 19), (some (16, false)), .p (.len (.t 18))⟩,
 ⟨(some 20), (some (16, false)), .p (.bin .lss (.i .i64) (.t 19) (.c (i64 1)))⟩,
 ⟨(some 21), none, .p (.pick (.t 16) (.c (bl true)) (.t 20))⟩,
 ⟨(some 22), none, .p (.mov (.t 21))⟩,
 ⟨(some 23), (some (22, false)), .p (.fa 3 (.t 3))⟩,
 ⟨(some 24), (some (22, false)), .p (.ld1 (.t 23))⟩,
 ⟨(some 25), (some (22, false)), .p (.len (.t 24))⟩,
 ⟨(some 26), (some (22, false)), .p (.bin .gtr (.i .i64) (.t 25) (.c (i64 10)))⟩,
 ⟨(some 27), none, .p (.pick (.t 22) (.c (bl true)) (.t 26))⟩])
 (.cond (.t 27)
 (.seq
 (.reg [
 ⟨(some 4), none, .p (.mov (.c (i64 3)))⟩])
 .ret)
 .skip))
 (.seq
 (.seq
 (.drw [0, 1, 2, 3, 4, 5, 6, 7, 8, 9, 10] [
 ⟨(some 28), none, .p (.mov (.t 0))⟩,
 ⟨(some 29), none, .p (.nck (.t 28))⟩,
 ⟨(some 30), none, .p (.fa 0 (.t 29))⟩,
 ⟨(some 31), none, .p (.fa 0 (.t 30))⟩,
 ⟨(some 32), none, .p (.ld1 (.t 31))⟩,
 ⟨(some 33), none, .p (.bin .sub (.i .i64) (.t 32) (.c (i64 1)))⟩,
 ⟨(some 34), none, .p (.fa 1 (.t 3))⟩,
 ⟨(some 35), none, .p (.ld1 (.t 34))⟩,
 ⟨(some 36), none, .e (.bsl 3 1 1 [i64 0] [(0, (.t 35))])⟩,
 ⟨(some 37), none, .q (.c (.fn (.func 45) [] [])) [(.c (i64 0)), (.t 33), (.t 36)]⟩,
 ⟨(some 5), none, .p (.mov (.t 37))⟩])
 (.seq
 (.reg [
 ⟨(some 38), none, .p (.mov (.t 5))⟩,
 ⟨(some 39), none, .p (.bin .neq (.i .i64) (.t 38) (.c (i64 0)))⟩])
 (.cond (.t 39)
 (.seq
 (.reg [
 ⟨(some 40), none, .p (.mov (.t 5))⟩,
 ⟨(some 4), none, .p (.mov (.t 40))⟩])
 .ret)
 .skip)))
 (.seq
 (.drw [0, 1, 2, 3, 4, 5, 6, 7, 8, 9, 10, 11] [
 ⟨(some 41), none, .p (.mov (.t 0))⟩,
 ⟨(some 42), none, .p (.nck (.t 41))⟩,
 ⟨(some 43), none, .p (.fa 0 (.t 42))⟩,
 ⟨(some 44), none, .p (.fa 2 (.t 43))⟩,
 ⟨(some 45), none, .p (.ld1 (.t 44))⟩,
 ⟨(some 46), none, .p (.len (.t 45))⟩,
 ⟨(some 47), none, .p (.bin .sub (.i .i64) (.t 46) (.c (i64 1)))⟩,
 ⟨(some 48), none, .p (.fa 2 (.t 3))⟩,
 ⟨(some 49), none, .p (.ld1 (.t 48))⟩,
 ⟨(some 50), none, .e (.bsl 3 1 1 [i64 0] [(0, (.t 49))])⟩,
 ⟨(some 51), none, .q (.c (.fn (.func 45) [] [])) [(.c (i64 0)), (.t 47), (.t 50)]⟩,
 ⟨(some 4), none, .p (.mov (.t 51))⟩])
 .ret))))
def r77 : List RS := [.t 4]
theorem c77 : chkF Try.prog drawB Try.f77 i77 r77 = true := by kernel_rfl
/-- (*parlour/recall.walker).end -/
def i78 : IC :=
 (.seq
 (.reg [
 ⟨(some 3), none, .e (.box 37 (.t 1))⟩,
 ⟨(some 4), none, .p (.mov (.c (i64 0)))⟩])
 (.seq
 (.seq
 (.drw [0, 1, 2, 3, 4, 5, 6, 7, 8, 9, 10, 11, 12, 13, 14, 15, 16, 17, 18, 19, 20, 21, 22, 23, 24, 25, 26, 27, 28, 29, 30] [
 ⟨(some 5), none, .p (.fa 1 (.t 3))⟩,
 ⟨(some 6), none, .p (.ld1 (.t 5))⟩,
 ⟨(some 7), none, .p (.bin .neq (.i .i64) (.t 6) (.c (i64 0)))⟩,
 ⟨(some 8), none, .p (.mov (.t 7))⟩,
 ⟨(some 9), (some (8, false)), .p (.fa 2 (.t 3))⟩,
 ⟨(some 10), (some (8, false)), .p (.ld1 (.t 9))⟩,
 ⟨(some 11), (some (8, false)), .p (.bin .neq (.i .i64) (.t 10) (.c (i64 0)))⟩,
 ⟨(some 12), none, .p (.pick (.t 8) (.c (bl true)) (.t 11))⟩,
 ⟨(some 13), none, .p (.mov (.t 12))⟩,
 ⟨(some 14), (some (13, false)), .p (.fa 3 (.t 3))⟩,
 ⟨(some 15), (some (13, false)), .p (.ld1 (.t 14))⟩,
 ⟨(some 16), (some (13, false)), .p (.len (.t 15))⟩,
 ⟨(some 17), (some (13, false)), .p (.bin .gtr (.i .i64) (.t 16) (.c (i64 0)))⟩,
 ⟨(some 18), none, .p (.pick (.t 13) (.c (bl true)) (.t 17))⟩,
 ⟨(some 19), none, .p (.mov (.t 18))⟩,
 ⟨(some 20), (some (19, false)), .p (.fa 4 (.t 3))⟩,
 ⟨(some 21), (some (19, false)), .p (.ld1 (.t 20))⟩,
 ⟨(some 22), (some (19, false)), .p (.len (.t 21))⟩,
 ⟨(some 23), (some (19, false)), .p (.bin .gtr (.i .i64) (.t 22) (.c (i64 0)))⟩,
 ⟨(some 24), none, .p (.pick (.t 19) (.c (bl true)) (.t 23))⟩,
 ⟨(some 25), none, .p (.mov (.t 24))⟩,
 ⟨(some 26), (some (25, false)), .p (.fa 5 (.t 3))⟩,
 ⟨(some 27), (some (25, false)), .p (.ld1 (.t 26))⟩,
 ⟨(some 28), (some (25, false)), .p (.len (.t 27))⟩,
 ⟨(some 29), (some (25, false)), .p (.mov (.t 0))⟩,
 ⟨(some 30), (some (25, false)), .p (.nck (.t 29))⟩,
 ⟨(some 31), (some (25, false)), .p (.fa 0 (.t 30))⟩,
 ⟨(some 32), (some (25, false)), .p (.fa 0 (.t 31))⟩,
 ⟨(some 33), (some (25, false)), .p (.ld1 (.t 32))⟩,
 ⟨(some 34), (some (25, false)), .p (.bin .neq (.i .i64) (.t 28) (.t 33))⟩,
 ⟨(some 35), none, .p (.pick (.t 25) (.c (bl true)) (.t 34))⟩])
 (.cond (.t 35)
 (.seq
 (.reg [
 ⟨(some 4), none, .p (.mov (.c (i64 3)))⟩])
 .ret)
 .skip))
 (.seq
 (.reg [
 ⟨(some 36), none, .p (.fa 5 (.t 3))⟩,
 ⟨(some 37), none, .p (.ld1 (.t 36))⟩,
 ⟨(some 38), none, .e (.call (.c (.fn (.func 45) [] [])) [(.c (i64 (-1000000))), (.c (i64 1000000)), (.t 37)])⟩,
 ⟨(some 4), none, .p (.mov (.t 38))⟩])
 .ret)))
def r78 : List RS := [.t 4]
theorem c78 : chkF Try.prog drawB Try.f78 i78 r78 = true := by kernel_rfl
/-- slices.Contains(()int,int) -/
def i79 : IC :=
 (.seq
 (.reg [
 ⟨(some 4), none, .p (.mov (.c (bl false)))⟩])
 (.seq
 (.reg [
 ⟨(some 5), none, .p (.mov (.t 0))⟩,
 ⟨(some 6), none, .p (.mov (.t 1))⟩,
 ⟨(some 7), none, .e (.call (.c (.fn (.func 82) [] [])) [(.t 5), (.t 6)])⟩,
 ⟨(some 8), none, .p (.bin .geq (.i .i64) (.t 7) (.c (i64 0)))⟩,
 ⟨(some 4), none, .p (.mov (.t 8))⟩])
 .ret))
def r79 : List RS := [.t 4]
theorem c79 : chkF Try.prog drawB Try.f79 i79 r79 = true := by kernel_rfl
def l80_0 : IC := .keep [0, 3]
 (.seq
 (.seq
 (.reg [
 ⟨(some 7), none, .p (.mov (.t 3))⟩,
 ⟨(some 8), none, .p (.bin .gtr (.i .i64) (.t 7) (.c (i64 0)))⟩])
 (.cond (.t 8)
 .skip
 (.exit 0)))
 (.seq
 (.blk 1
 (.seq
 (.drw [0, 1, 2, 3, 4, 5, 6, 7, 8, 9] [
 ⟨(some 11), none, .p (.mov (.t 0))⟩,
 ⟨(some 12), none, .p (.mov (.t 3))⟩,
 ⟨(some 13), none, .p (.ia 1 (.t 11) (.t 12))⟩,
 ⟨(some 14), none, .p (.ld1 (.t 13))⟩,
 ⟨(some 15), none, .p (.mov (.t 0))⟩,
 ⟨(some 16), none, .p (.mov (.t 3))⟩,
 ⟨(some 17), none, .p (.bin .sub (.i .i64) (.t 16) (.c (i64 1)))⟩,
 ⟨(some 18), none, .p (.ia 1 (.t 15) (.t 17))⟩,
 ⟨(some 19), none, .p (.ld1 (.t 18))⟩,
 ⟨(some 20), none, .q (.c (.fn (.func 84) [] [])) [(.t 14), (.t 19)]⟩])
 (.cond (.t 20)
 (.seq
 (.reg [
 ⟨(some 2), none, .p (.mov (.c (bl false)))⟩])
 .ret)
 .skip)))
 (.reg [
 ⟨(some 9), none, .p (.mov (.t 3))⟩,
 ⟨(some 10), none, .p (.bin .sub (.i .i64) (.t 9) (.c (i64 1)))⟩,
 ⟨(some 3), none, .p (.mov (.t 10))⟩])))
/-- slices.IsSorted(()int,int) -/
def i80 : IC :=
 (.seq
 (.reg [
 ⟨(some 2), none, .p (.mov (.c (bl false)))⟩])
 (.seq
 (.seq
 (.reg [
 ⟨(some 4), none, .p (.mov (.t 0))⟩,
 ⟨(some 5), none, .p (.len (.t 4))⟩,
 ⟨(some 6), none, .p (.bin .sub (.i .i64) (.t 5) (.c (i64 1)))⟩,
 ⟨(some 3), none, .p (.mov (.t 6))⟩])
 (.blk 0
 (.loop l80_0)))
 (.seq
 (.reg [
 ⟨(some 2), none, .p (.mov (.c (bl true)))⟩])
 .ret)))
def r80 : List RS := [.t 2]
theorem c80 : chkF Try.prog drawB Try.f80 i80 r80 = true := by kernel_rfl
def l81_0 : IC := .keep [0, 1, 7, 8]
 (.seq
 (.reg [
 ⟨(some 9), none, .p (.bin .lss (.i .i64) (.t 8) (.t 7))⟩])
 (.seq
 (.cond (.t 9)
 .skip
 (.exit 0))
 (.seq
 (.blk 1
 (.seq
 (.reg [
 ⟨(some 10), none, .p (.mov (.t 8))⟩,
 ⟨(some 5), none, .p (.mov (.t 10))⟩])
 (.seq
 (.reg [
 ⟨(some 11), none, .p (.mov (.t 1))⟩,
 ⟨(some 12), none, .p (.mov (.t 0))⟩,
 ⟨(some 13), none, .p (.mov (.t 5))⟩,
 ⟨(some 14), none, .p (.ia 1 (.t 12) (.t 13))⟩,
 ⟨(some 15), none, .p (.ld1 (.t 14))⟩,
 ⟨(some 16), none, .e (.call (.t 11) [(.t 15)])⟩])
 (.cond (.t 16)
 (.seq
 (.reg [
 ⟨(some 17), none, .p (.mov (.t 5))⟩,
 ⟨(some 4), none, .p (.mov (.t 17))⟩])
 .ret)
 .skip))))
 (.reg [
 ⟨(some 18), none, .p (.bin .add (.i .i64) (.t 8) (.c (i64 1)))⟩,
 ⟨(some 8), none, .p (.mov (.t 18))⟩]))))
/-- slices.IndexFunc(()int,int) -/
def i81 : IC :=
 (.seq
 (.reg [
 ⟨(some 4), none, .p (.mov (.c (i64 0)))⟩])
 (.seq
 (.seq
 (.reg [
 ⟨(some 6), none, .p (.mov (.t 0))⟩,
 ⟨(some 7), none, .p (.len (.t 6))⟩,
 ⟨(some 8), none, .p (.mov (.c (i64 0)))⟩])
 (.blk 0
 (.loop l81_0)))
 (.seq
 (.reg [
 ⟨(some 4), none, .p (.mov (.c (i64 (-1))))⟩])
 .ret)))
def r81 : List RS := [.t 4]
theorem c81 : chkF Try.prog drawB Try.f81 i81 r81 = true := by kernel_rfl
def l82_0 : IC := .keep [0, 1, 7, 8]
 (.seq
 (.reg [
 ⟨(some 9), none, .p (.bin .lss (.i .i64) (.t 8) (.t 7))⟩])
 (.seq
 (.cond (.t 9)
 .skip
 (.exit 0))
 (.seq
 (.blk 1
 (.seq
 (.reg [
 ⟨(some 10), none, .p (.mov (.t 8))⟩,
 ⟨(some 5), none, .p (.mov (.t 10))⟩])
 (.seq
 (.reg [
 ⟨(some 11), none, .p (.mov (.t 1))⟩,
 ⟨(some 12), none, .p (.mov (.t 0))⟩,
 ⟨(some 13), none, .p (.mov (.t 5))⟩,
 ⟨(some 14), none, .p (.ia 1 (.t 12) (.t 13))⟩,
 ⟨(some 15), none, .p (.ld1 (.t 14))⟩,
 ⟨(some 16), none, .p (.bin .eql (.i .i64) (.t 11) (.t 15))⟩])
 (.cond (.t 16)
 (.seq
 (.reg [
 ⟨(some 17), none, .p (.mov (.t 5))⟩,
 ⟨(some 4), none, .p (.mov (.t 17))⟩])
 .ret)
 .skip))))
 (.reg [
 ⟨(some 18), none, .p (.bin .add (.i .i64) (.t 8) (.c (i64 1)))⟩,
 ⟨(some 8), none, .p (.mov (.t 18))⟩]))))
/-- slices.Index(()int,int) -/
def i82 : IC :=
 (.seq
 (.reg [
 ⟨(some 4), none, .p (.mov (.c (i64 0)))⟩])
 (.seq
 (.seq
 (.reg [
 ⟨(some 6), none, .p (.mov (.t 0))⟩,
 ⟨(some 7), none, .p (.len (.t 6))⟩,
 ⟨(some 8), none, .p (.mov (.c (i64 0)))⟩])
 (.blk 0
 (.loop l82_0)))
 (.seq
 (.reg [
 ⟨(some 4), none, .p (.mov (.c (i64 (-1))))⟩])
 .ret)))
def r82 : List RS := [.t 4]
theorem c82 : chkF Try.prog drawB Try.f82 i82 r82 = true := by kernel_rfl
def l83_0 : IC := .keep [0, 1, 12, 13]
 (.seq
 (.reg [
 ⟨(some 14), none, .p (.bin .lss (.i .i64) (.t 13) (.t 12))⟩])
 (.seq
 (.cond (.t 14)
 .skip
 (.exit 0))
 (.seq
 (.blk 1
 (.seq
 (.reg [
 ⟨(some 15), none, .p (.mov (.t 13))⟩,
 ⟨(some 5), none, .p (.mov (.t 15))⟩])
 (.seq
 (.drw [0, 1, 2, 3, 4, 5, 6, 7, 8] [
 ⟨(some 16), none, .p (.mov (.t 0))⟩,
 ⟨(some 17), none, .p (.mov (.t 5))⟩,
 ⟨(some 18), none, .p (.ia 2 (.t 16) (.t 17))⟩,
 ⟨(some 19), none, .p (.ldn 2 (.t 18))⟩,
 ⟨(some 20), none, .p (.mov (.t 1))⟩,
 ⟨(some 21), none, .p (.mov (.t 5))⟩,
 ⟨(some 22), none, .p (.ia 2 (.t 20) (.t 21))⟩,
 ⟨(some 23), none, .p (.ldn 2 (.t 22))⟩,
 ⟨(some 24), none, .p (.eqf true [.i .i64, .i .i64] (.t 19) (.t 23))⟩])
 (.cond (.t 24)
 (.seq
 (.reg [
 ⟨(some 4), none, .p (.mov (.c (bl false)))⟩])
 .ret)
 .skip))))
 (.reg [
 ⟨(some 25), none, .p (.bin .add (.i .i64) (.t 13) (.c (i64 1)))⟩,
 ⟨(some 13), none, .p (.mov (.t 25))⟩]))))
/-- slices.Equal(()(2)int,(2)int) -/
def i83 : IC :=
 (.seq
 (.reg [
 ⟨(some 4), none, .p (.mov (.c (bl false)))⟩])
 (.seq
 (.seq
 (.reg [
 ⟨(some 6), none, .p (.mov (.t 0))⟩,
 ⟨(some 7), none, .p (.len (.t 6))⟩,
 ⟨(some 8), none, .p (.mov (.t 1))⟩,
 ⟨(some 9), none, .p (.len (.t 8))⟩,
 ⟨(some 10), none, .p (.bin .neq (.i .i64) (.t 7) (.t 9))⟩])
 (.cond (.t 10)
 (.seq
 (.reg [
 ⟨(some 4), none, .p (.mov (.c (bl false)))⟩])
 .ret)
 .skip))
 (.seq
 (.seq
 (.reg [
 ⟨(some 11), none, .p (.mov (.t 0))⟩,
 ⟨(some 12), none, .p (.len (.t 11))⟩,
 ⟨(some 13), none, .p (.mov (.c (i64 0)))⟩])
 (.blk 0
 (.loop l83_0)))
 (.seq
 (.reg [
 ⟨(some 4), none, .p (.mov (.c (bl true)))⟩])
 .ret))))
def r83 : List RS := [.t 4]
theorem c83 : chkF Try.prog drawB Try.f83 i83 r83 = true := by kernel_rfl
/-- cmp.Less(int) -/
def i84 : IC :=
 (.seq
 (.reg [
 ⟨(some 4), none, .p (.mov (.c (bl false)))⟩])
 (.seq
 (.reg [
 ⟨(some 5), none, .p (.mov (.t 0))⟩,
 ⟨(some 6), none, .e (.call (.c (.fn (.func 85) [] [])) [(.t 5)])⟩,
 ⟨(some 7), none, .p (.mov (.t 6))⟩,
 ⟨(some 8), (some (7, true)), .p (.mov (.t 1))⟩,
 ⟨(some 9), (some (7, true)), .q (.c (.fn (.func 85) [] [])) [(.t 8)]⟩,
 ⟨(some 10), (some (7, true)), .p (.not (.t 9))⟩,
 ⟨(some 11), none, .p (.pick (.t 7) (.t 10) (.c (bl false)))⟩,
 ⟨(some 12), none, .p (.mov (.t 11))⟩,
 ⟨(some 13), (some (12, false)), .p (.mov (.t 0))⟩,
 ⟨(some 14), (some (12, false)), .p (.mov (.t 1))⟩,
 ⟨(some 15), (some (12, false)), .p (.bin .lss (.i .i64) (.t 13) (.t 14))⟩,
 ⟨(some 16), none, .p (.pick (.t 12) (.c (bl true)) (.t 15))⟩,
 ⟨(some 4), none, .p (.mov (.t 16))⟩])
 .ret))
def r84 : List RS := [.t 4]
theorem c84 : chkF Try.prog drawB Try.f84 i84 r84 = true := by kernel_rfl
/-- cmp.isNaN(int) -/
def i85 : IC :=
 (.seq
 (.reg [
 ⟨(some 2), none, .p (.mov (.c (bl false)))⟩])
 (.seq
 (.reg [
 ⟨(some 3), none, .p (.mov (.t 0))⟩,
 ⟨(some 4), none, .p (.mov (.t 0))⟩,
 ⟨(some 5), none, .p (.bin .neq (.i .i64) (.t 3) (.t 4))⟩,
 ⟨(some 2), none, .p (.mov (.t 5))⟩])
 .ret))
def r85 : List RS := [.t 2]
theorem c85 : chkF Try.prog drawB Try.f85 i85 r85 = true := by kernel_rfl
def rows : List (Option Row) := [none,
 none,
 none,
 none,
 some ⟨i4, r4, 0, false⟩,
 none,
 none,
 none,
 none,
 none,
 some ⟨i10, r10, 0, false⟩,
 none,
 some ⟨i12, r12, 1, false⟩,
 none,
 none,
 some ⟨i15, r15, 0, true⟩,
 some ⟨i16, r16, 2, false⟩,
 some ⟨i17, r17, 1, false⟩,
 some ⟨i18, r18, 3, false⟩,
 some ⟨i19, r19, 2, false⟩,
 some ⟨i20, r20, 1, false⟩,
 some ⟨i21, r21, 1, false⟩,
 some ⟨i22, r22, 2, false⟩,
 some ⟨i23, r23, 2, false⟩,
 some ⟨i24, r24, 2, false⟩,
 some ⟨i25, r25, 2, false⟩,
 none,
 none,
 none,
 none,
 some ⟨i30, r30, 1, false⟩,
 none,
 none,
 none,
 none,
 none,
 none,
 some ⟨i37, r37, 0, true⟩,
 some ⟨i38, r38, 1, false⟩,
 none,
 none,
 none,
 none,
 none,
 some ⟨i44, r44, 1, false⟩,
 some ⟨i45, r45, 3, false⟩,
 some ⟨i46, r46, 2, true⟩,
 some ⟨i47, r47, 1, false⟩,
 some ⟨i48, r48, 3, true⟩,
 some ⟨i49, r49, 2, true⟩,
 some ⟨i50, r50, 3, false⟩,
 some ⟨i51, r51, 2, false⟩,
 some ⟨i52, r52, 1, false⟩,
 some ⟨i53, r53, 2, false⟩,
 none,
 none,
 none,
 some ⟨i57, r57, 1, false⟩,
 none,
 none,
 none,
 some ⟨i61, r61, 2, false⟩,
 some ⟨i62, r62, 4, true⟩,
 some ⟨i63, r63, 1, false⟩,
 some ⟨i64x, r64, 1, false⟩,
 some ⟨i65, r65, 2, false⟩,
 some ⟨i66, r66, 3, false⟩,
 some ⟨i67, r67, 4, true⟩,
 some ⟨i68, r68, 5, true⟩,
 some ⟨i69, r69, 2, false⟩,
 some ⟨i70, r70, 4, true⟩,
 some ⟨i71, r71, 1, true⟩,
 none,
 none,
 none,
 none,
 some ⟨i76, r76, 2, false⟩,
 some ⟨i77, r77, 2, false⟩,
 some ⟨i78, r78, 2, false⟩,
 some ⟨i79, r79, 2, false⟩,
 some ⟨i80, r80, 1, false⟩,
 some ⟨i81, r81, 2, false⟩,
 some ⟨i82, r82, 2, false⟩,
 some ⟨i83, r83, 2, false⟩,
 some ⟨i84, r84, 2, false⟩,
 some ⟨i85, r85, 1, false⟩,
 none,
 none,
 none,
 none,
 none,
 none,
 none,
 none,
 none,
 none,
 none,
 none,
 none,
 none,
 none,
 none,
 none]
theorem rows_ok : RowsOk Try.prog 0 rows :=
 rows_skip <|
 rows_skip <|
 rows_skip <|
 rows_skip <|
 rows_cons ⟨Try.f4, Try.func4, c4, rfl⟩ <|
 rows_skip <|
 rows_skip <|
 rows_skip <|
 rows_skip <|
 rows_skip <|
 rows_cons ⟨Try.f10, Try.func10, c10, rfl⟩ <|
 rows_skip <|
 rows_cons ⟨Try.f12, Try.func12, c12, rfl⟩ <|
 rows_skip <|
 rows_skip <|
 rows_cons ⟨Try.f15, Try.func15, c15, rfl⟩ <|
 rows_cons ⟨Try.f16, Try.func16, c16, rfl⟩ <|
 rows_cons ⟨Try.f17, Try.func17, c17, rfl⟩ <|
 rows_cons ⟨Try.f18, Try.func18, c18, rfl⟩ <|
 rows_cons ⟨Try.f19, Try.func19, c19, rfl⟩ <|
 rows_cons ⟨Try.f20, Try.func20, c20, rfl⟩ <|
 rows_cons ⟨Try.f21, Try.func21, c21, rfl⟩ <|
 rows_cons ⟨Try.f22, Try.func22, c22, rfl⟩ <|
 rows_cons ⟨Try.f23, Try.func23, c23, rfl⟩ <|
 rows_cons ⟨Try.f24, Try.func24, c24, rfl⟩ <|
 rows_cons ⟨Try.f25, Try.func25, c25, rfl⟩ <|
 rows_skip <|
 rows_skip <|
 rows_skip <|
 rows_skip <|
 rows_cons ⟨Try.f30, Try.func30, c30, rfl⟩ <|
 rows_skip <|
 rows_skip <|
 rows_skip <|
 rows_skip <|
 rows_skip <|
 rows_skip <|
 rows_cons ⟨Try.f37, Try.func37, c37, rfl⟩ <|
 rows_cons ⟨Try.f38, Try.func38, c38, rfl⟩ <|
 rows_skip <|
 rows_skip <|
 rows_skip <|
 rows_skip <|
 rows_skip <|
 rows_cons ⟨Try.f44, Try.func44, c44, rfl⟩ <|
 rows_cons ⟨Try.f45, Try.func45, c45, rfl⟩ <|
 rows_cons ⟨Try.f46, Try.func46, c46, rfl⟩ <|
 rows_cons ⟨Try.f47, Try.func47, c47, rfl⟩ <|
 rows_cons ⟨Try.f48, Try.func48, c48, rfl⟩ <|
 rows_cons ⟨Try.f49, Try.func49, c49, rfl⟩ <|
 rows_cons ⟨Try.f50, Try.func50, c50, rfl⟩ <|
 rows_cons ⟨Try.f51, Try.func51, c51, rfl⟩ <|
 rows_cons ⟨Try.f52, Try.func52, c52, rfl⟩ <|
 rows_cons ⟨Try.f53, Try.func53, c53, rfl⟩ <|
 rows_skip <|
 rows_skip <|
 rows_skip <|
 rows_cons ⟨Try.f57, Try.func57, c57, rfl⟩ <|
 rows_skip <|
 rows_skip <|
 rows_skip <|
 rows_cons ⟨Try.f61, Try.func61, c61, rfl⟩ <|
 rows_cons ⟨Try.f62, Try.func62, c62, rfl⟩ <|
 rows_cons ⟨Try.f63, Try.func63, c63, rfl⟩ <|
 rows_cons ⟨Try.f64, Try.func64, c64, rfl⟩ <|
 rows_cons ⟨Try.f65, Try.func65, c65, rfl⟩ <|
 rows_cons ⟨Try.f66, Try.func66, c66, rfl⟩ <|
 rows_cons ⟨Try.f67, Try.func67, c67, rfl⟩ <|
 rows_cons ⟨Try.f68, Try.func68, c68, rfl⟩ <|
 rows_cons ⟨Try.f69, Try.func69, c69, rfl⟩ <|
 rows_cons ⟨Try.f70, Try.func70, c70, rfl⟩ <|
 rows_cons ⟨Try.f71, Try.func71, c71, rfl⟩ <|
 rows_skip <|
 rows_skip <|
 rows_skip <|
 rows_skip <|
 rows_cons ⟨Try.f76, Try.func76, c76, rfl⟩ <|
 rows_cons ⟨Try.f77, Try.func77, c77, rfl⟩ <|
 rows_cons ⟨Try.f78, Try.func78, c78, rfl⟩ <|
 rows_cons ⟨Try.f79, Try.func79, c79, rfl⟩ <|
 rows_cons ⟨Try.f80, Try.func80, c80, rfl⟩ <|
 rows_cons ⟨Try.f81, Try.func81, c81, rfl⟩ <|
 rows_cons ⟨Try.f82, Try.func82, c82, rfl⟩ <|
 rows_cons ⟨Try.f83, Try.func83, c83, rfl⟩ <|
 rows_cons ⟨Try.f84, Try.func84, c84, rfl⟩ <|
 rows_cons ⟨Try.f85, Try.func85, c85, rfl⟩ <|
 rows_skip <|
 rows_skip <|
 rows_skip <|
 rows_skip <|
 rows_skip <|
 rows_skip <|
 rows_skip <|
 rows_skip <|
 rows_skip <|
 rows_skip <|
 rows_skip <|
 rows_skip <|
 rows_skip <|
 rows_skip <|
 rows_skip <|
 rows_skip <|
 rows_skip <|
 rows_nil
end Go.Proofs.Ytiikfkacbglblaa

