/-
  Steps of the proof: contracts of functions and plain facts that the statement rests on.
-/
import Derived.Test.YthmdmnfojbnobaaDoorE0
set_option linter.all false
namespace Go.Proofs.YthmdmnfojbnobaaDoor
open Go.Ab
/-- parlour/parlourlaw08.TypesKnown -/
def i3 : IC :=
 (.seq
 (.reg [
 ⟨(some 0), none, .p (.mov (.c (bl false)))⟩])
 (.seq
 (.reg [
 ⟨(some 5), none, .e (.call (.c (.fn (.func 5) [] [])) [(.c (st ⟨#[105, 102, 40, 120, 32, 60, 32, 49, 44, 32, 50, 44, 32, 120, 41]⟩)), (.c (i64 1)), (.c (i64 0)), (.c (i64 0))])⟩,
 ⟨(some 6), none, .p (.mov (.t 5))⟩,
 ⟨(some 7), (some (6, true)), .q (.c (.fn (.func 5) [] [])) [(.c (st ⟨#[121]⟩)), (.c (i64 0)), (.c (i64 7)), (.c (i64 0))]⟩,
 ⟨(some 8), none, .p (.pick (.t 6) (.t 7) (.c (bl false)))⟩,
 ⟨(some 9), none, .p (.mov (.t 8))⟩,
 ⟨(some 10), (some (9, true)), .q (.c (.fn (.func 5) [] [])) [(.c (st ⟨#[49, 32, 43, 32, 40, 120, 32, 60, 32, 50, 41]⟩)), (.c (i64 0)), (.c (i64 10)), (.c (i64 7))]⟩,
 ⟨(some 11), none, .p (.pick (.t 9) (.t 10) (.c (bl false)))⟩,
 ⟨(some 12), none, .p (.mov (.t 11))⟩,
 ⟨(some 13), (some (12, true)), .q (.c (.fn (.func 5) [] [])) [(.c (st ⟨#[105, 102, 40, 49, 44, 32, 50, 44, 32, 51, 41]⟩)), (.c (i64 0)), (.c (i64 10)), (.c (i64 3))]⟩,
 ⟨(some 14), none, .p (.pick (.t 12) (.t 13) (.c (bl false)))⟩,
 ⟨(some 15), none, .p (.mov (.t 14))⟩,
 ⟨(some 16), (some (15, true)), .q (.c (.fn (.func 5) [] [])) [(.c (st ⟨#[105, 102, 40, 120, 32, 60, 32, 49, 44, 32, 50, 44, 32, 120, 32, 60, 32, 51, 41]⟩)), (.c (i64 0)), (.c (i64 10)), (.c (i64 15))]⟩,
 ⟨(some 17), none, .p (.pick (.t 15) (.t 16) (.c (bl false)))⟩,
 ⟨(some 1), none, .p (.mov (.t 17))⟩])
 (.seq
 (.reg [
 ⟨(some 18), none, .e (.call (.c (.fn (.func 7) [] [])) [(.c (st ⟨#[103, 97, 109, 101, 32, 103, 59, 32, 112, 108, 97, 121, 101, 114, 115, 32, 50, 59, 32, 101, 110, 100, 32, 123, 32, 112, 97, 121, 32, 49, 44, 32, 50, 59, 32, 125]⟩))])⟩,
 ⟨(some 19), none, .e (.call (.c (.fn (.func 6) [] [])) [(.t 18)])⟩,
 ⟨(some 20), none, .p (.bld [i64 0, i64 0] [])⟩,
 ⟨(some 21), none, .p (.eqf false [.i .i64, .i .i64] (.t 19) (.t 20))⟩,
 ⟨(some 22), none, .p (.mov (.t 21))⟩,
 ⟨(some 23), (some (22, true)), .q (.c (.fn (.func 7) [] [])) [(.c (st ⟨#[103, 97, 109, 101, 32, 103, 59, 32, 112, 108, 97, 121, 101, 114, 115, 32, 50, 59, 32, 101, 110, 100, 32, 123, 32, 112, 97, 121, 32, 49, 59, 32, 125]⟩))]⟩,
 ⟨(some 24), (some (22, true)), .q (.c (.fn (.func 6) [] [])) [(.t 23)]⟩,
 ⟨(some 25), (some (22, true)), .p (.bld [i64 0, i64 0] [(0, 1, (.c (i64 3))), (1, 1, (.c (i64 19)))])⟩,
 ⟨(some 26), (some (22, true)), .p (.eqf false [.i .i64, .i .i64] (.t 24) (.t 25))⟩,
 ⟨(some 27), none, .p (.pick (.t 22) (.t 26) (.c (bl false)))⟩,
 ⟨(some 28), none, .p (.mov (.t 27))⟩,
 ⟨(some 29), (some (28, true)), .q (.c (.fn (.func 7) [] [])) [(.c (st ⟨#[103, 97, 109, 101, 32, 103, 59, 32, 112, 108, 97, 121, 101, 114, 115, 32, 50, 59, 32, 101, 110, 100, 32, 123, 32, 112, 97, 121, 32, 49, 44, 32, 49, 32, 60, 32, 50, 59, 32, 125]⟩))]⟩,
 ⟨(some 30), (some (28, true)), .q (.c (.fn (.func 6) [] [])) [(.t 29)]⟩,
 ⟨(some 31), (some (28, true)), .p (.bld [i64 0, i64 0] [(0, 1, (.c (i64 10))), (1, 1, (.c (i64 34)))])⟩,
 ⟨(some 32), (some (28, true)), .p (.eqf false [.i .i64, .i .i64] (.t 30) (.t 31))⟩,
 ⟨(some 33), none, .p (.pick (.t 28) (.t 32) (.c (bl false)))⟩,
 ⟨(some 2), none, .p (.mov (.t 33))⟩])
 (.seq
 (.reg [
 ⟨(some 34), none, .e (.call (.c (.fn (.func 7) [] [])) [(.c (st ⟨#[103, 97, 109, 101, 32, 103, 59, 32, 112, 108, 97, 121, 101, 114, 115, 32, 49, 59, 32, 97, 58, 32, 116, 117, 114, 110, 32, 48, 32, 123, 32, 97, 99, 116, 105, 111, 110, 32, 108, 32, 123, 32, 125, 32, 103, 111, 116, 111, 32, 97, 59, 32, 125, 32, 101, 110, 100, 32, 123, 32, 112, 97, 121, 32, 48, 59, 32, 125]⟩))])⟩,
 ⟨(some 35), none, .e (.call (.c (.fn (.func 6) [] [])) [(.t 34)])⟩,
 ⟨(some 36), none, .p (.bld [i64 0, i64 0] [(0, 1, (.c (i64 9))), (1, 1, (.c (i64 31)))])⟩,
 ⟨(some 37), none, .p (.eqf false [.i .i64, .i .i64] (.t 35) (.t 36))⟩,
 ⟨(some 38), none, .p (.mov (.t 37))⟩,
 ⟨(some 39), (some (38, true)), .q (.c (.fn (.func 7) [] [])) [(.c (st ⟨#[103, 97, 109, 101, 32, 103, 59, 32, 112, 108, 97, 121, 101, 114, 115, 32, 49, 59, 32, 116, 117, 114, 110, 32, 48, 32, 123, 32, 97, 99, 116, 105, 111, 110, 32, 108, 32, 123, 32, 125, 32, 97, 99, 116, 105, 111, 110, 32, 108, 32, 123, 32, 125, 32, 125, 32, 101, 110, 100, 32, 123, 32, 112, 97, 121, 32, 48, 59, 32, 125]⟩))]⟩,
 ⟨(some 40), (some (38, true)), .q (.c (.fn (.func 6) [] [])) [(.t 39)]⟩,
 ⟨(some 41), (some (38, true)), .p (.bld [i64 0, i64 0] [(0, 1, (.c (i64 8))), (1, 1, (.c (i64 41)))])⟩,
 ⟨(some 42), (some (38, true)), .p (.eqf false [.i .i64, .i .i64] (.t 40) (.t 41))⟩,
 ⟨(some 43), none, .p (.pick (.t 38) (.t 42) (.c (bl false)))⟩,
 ⟨(some 44), none, .p (.mov (.t 43))⟩,
 ⟨(some 45), (some (44, true)), .q (.c (.fn (.func 7) [] [])) [(.c (st ⟨#[103, 97, 109, 101, 32, 103, 59, 32, 112, 108, 97, 121, 101, 114, 115, 32, 49, 59, 32, 116, 117, 114, 110, 32, 48, 32, 123, 32, 97, 99, 116, 105, 111, 110, 32, 108, 32, 123, 32, 125, 32, 125]⟩))]⟩,
 ⟨(some 46), (some (44, true)), .q (.c (.fn (.func 6) [] [])) [(.t 45)]⟩,
 ⟨(some 47), (some (44, true)), .p (.bld [i64 0, i64 0] [(0, 1, (.c (i64 3))), (1, 1, (.c (i64 19)))])⟩,
 ⟨(some 48), (some (44, true)), .p (.eqf false [.i .i64, .i .i64] (.t 46) (.t 47))⟩,
 ⟨(some 49), none, .p (.pick (.t 44) (.t 48) (.c (bl false)))⟩,
 ⟨(some 3), none, .p (.mov (.t 49))⟩])
 (.seq
 (.reg [
 ⟨(some 50), none, .e (.call (.c (.fn (.func 7) [] [])) [(.c (st ⟨#[103, 97, 109, 101, 32, 103, 59, 32, 112, 108, 97, 121, 101, 114, 115, 32, 49, 59, 32, 118, 97, 114, 32, 120, 32, 61, 32, 48, 59, 32, 100, 101, 97, 108, 32, 120, 32, 105, 110, 32, 48, 32, 46, 46, 32, 53, 57, 59, 32, 101, 110, 100, 32, 123, 32, 112, 97, 121, 32, 48, 59, 32, 125]⟩))])⟩,
 ⟨(some 51), none, .e (.call (.c (.fn (.func 6) [] [])) [(.t 50)])⟩,
 ⟨(some 52), none, .p (.bld [i64 0, i64 0] [])⟩,
 ⟨(some 53), none, .p (.eqf false [.i .i64, .i .i64] (.t 51) (.t 52))⟩,
 ⟨(some 54), none, .p (.mov (.t 53))⟩,
 ⟨(some 55), (some (54, true)), .q (.c (.fn (.func 7) [] [])) [(.c (st ⟨#[103, 97, 109, 101, 32, 103, 59, 32, 112, 108, 97, 121, 101, 114, 115, 32, 49, 59, 32, 118, 97, 114, 32, 120, 32, 61, 32, 48, 59, 32, 100, 101, 97, 108, 32, 120, 32, 105, 110, 32, 48, 32, 46, 46, 32, 54, 48, 59, 32, 101, 110, 100, 32, 123, 32, 112, 97, 121, 32, 48, 59, 32, 125]⟩))]⟩,
 ⟨(some 56), (some (54, true)), .q (.c (.fn (.func 6) [] [])) [(.t 55)]⟩,
 ⟨(some 57), (some (54, true)), .p (.bld [i64 0, i64 0] [(0, 1, (.c (i64 2))), (1, 1, (.c (i64 30)))])⟩,
 ⟨(some 58), (some (54, true)), .p (.eqf false [.i .i64, .i .i64] (.t 56) (.t 57))⟩,
 ⟨(some 59), none, .p (.pick (.t 54) (.t 58) (.c (bl false)))⟩,
 ⟨(some 60), none, .p (.mov (.t 59))⟩,
 ⟨(some 61), (some (60, true)), .q (.c (.fn (.func 7) [] [])) [(.c (st ⟨#[103, 97, 109, 101, 32, 103, 59, 32, 112, 108, 97, 121, 101, 114, 115, 32, 52, 59, 32, 101, 110, 100, 32, 123, 32, 112, 97, 121, 32, 48, 44, 32, 48, 44, 32, 48, 44, 32, 48, 59, 32, 125]⟩))]⟩,
 ⟨(some 62), (some (60, true)), .q (.c (.fn (.func 6) [] [])) [(.t 61)]⟩,
 ⟨(some 63), (some (60, true)), .p (.bld [i64 0, i64 0] [])⟩,
 ⟨(some 64), (some (60, true)), .p (.eqf false [.i .i64, .i .i64] (.t 62) (.t 63))⟩,
 ⟨(some 65), none, .p (.pick (.t 60) (.t 64) (.c (bl false)))⟩,
 ⟨(some 4), none, .p (.mov (.t 65))⟩])
 (.seq
 (.reg [
 ⟨(some 66), none, .e (.call (.c (.fn (.func 8) [] [])) [])⟩,
 ⟨(some 67), none, .p (.mov (.t 66))⟩,
 ⟨(some 68), (some (67, true)), .p (.mov (.t 1))⟩,
 ⟨(some 69), none, .p (.pick (.t 67) (.t 68) (.c (bl false)))⟩,
 ⟨(some 70), none, .p (.mov (.t 69))⟩,
 ⟨(some 71), (some (70, true)), .p (.mov (.t 2))⟩,
 ⟨(some 72), none, .p (.pick (.t 70) (.t 71) (.c (bl false)))⟩,
 ⟨(some 73), none, .p (.mov (.t 72))⟩,
 ⟨(some 74), (some (73, true)), .p (.mov (.t 3))⟩,
 ⟨(some 75), none, .p (.pick (.t 73) (.t 74) (.c (bl false)))⟩,
 ⟨(some 76), none, .p (.mov (.t 75))⟩,
 ⟨(some 77), (some (76, true)), .p (.mov (.t 4))⟩,
 ⟨(some 78), none, .p (.pick (.t 76) (.t 77) (.c (bl false)))⟩,
 ⟨(some 0), none, .p (.mov (.t 78))⟩])
 .ret))))))
def r3 : List RS := [.t 0]
theorem c3 : chkF Tryd.prog drawB Tryd.f3 i3 r3 = true := by kernel_rfl
def l4_0 : IC := .keep [0, 3, 5, 6, 7, 8]
 (.seq
 (.seq
 (.reg [
 ⟨(some 28), none, .p (.mov (.t 8))⟩,
 ⟨(some 29), none, .p (.bin .geq (.i .i64) (.t 28) (.c (i64 0)))⟩])
 (.cond (.t 29)
 .skip
 (.exit 0)))
 (.seq
 (.blk 1
 (.drft [9, 9] 15 [1, 2, 3, 4, 5, 8, 9, 10, 11, 12, 13, 0, 7, 6, 14] [
 ⟨(some 33), none, .p (.mov (.t 0))⟩,
 ⟨(some 34), none, .p (.mov (.t 8))⟩,
 ⟨(some 35), none, .p (.ia 1 (.t 33) (.t 34))⟩,
 ⟨(some 36), none, .p (.ld1 (.t 35))⟩,
 ⟨(some 37), none, .e (.flb 0 9 1 1 [st ⟨#[]⟩] [(0, (.t 36))])⟩,
 ⟨(some 40), none, .p (.mov (.t 0))⟩,
 ⟨(some 41), none, .p (.mov (.t 8))⟩,
 ⟨(some 42), none, .p (.ia 1 (.t 40) (.t 41))⟩,
 ⟨(some 43), none, .p (.ld1 (.t 42))⟩,
 ⟨(some 44), none, .p (.bin .add .s (.c (st ⟨#[113]⟩)) (.t 43))⟩,
 ⟨(some 45), none, .e (.flb 1 9 1 1 [st ⟨#[]⟩] [(0, (.t 44))])⟩,
 ⟨(some 32), none, .p (.mov (.t 6))⟩,
 ⟨(some 39), none, .p (.mov (.t 7))⟩,
 ⟨(some 38), none, .e (.app 9 1 16 (.t 32) (.t 37))⟩,
 ⟨(some 46), none, .e (.app 9 1 16 (.t 39) (.t 45))⟩] [
 ⟨(some 6), none, .p (.mov (.t 38))⟩,
 ⟨(some 7), none, .p (.mov (.t 46))⟩]))
 (.reg [
 ⟨(some 30), none, .p (.mov (.t 8))⟩,
 ⟨(some 31), none, .p (.bin .sub (.i .i64) (.t 30) (.c (i64 1)))⟩,
 ⟨(some 8), none, .p (.mov (.t 31))⟩])))
/-- parlour/parlourlaw08.TypesNames -/
def i4 : IC :=
 (.seq
 (.reg [
 ⟨(some 3), none, .e (.box 36 (.t 1))⟩,
 ⟨(some 4), none, .p (.mov (.c (bl false)))⟩])
 (.seq
 (.reg [
 ⟨(some 15), none, .e (.call (.c (.fn (.func 3) [] [])) [])⟩,
 ⟨(some 5), none, .p (.mov (.t 15))⟩])
 (.seq
 (.seq
 (.reg [
 ⟨(some 16), none, .p (.mov (.t 0))⟩,
 ⟨(some 17), none, .p (.len (.t 16))⟩,
 ⟨(some 18), none, .p (.bin .gtr (.i .i64) (.t 17) (.c (i64 20)))⟩,
 ⟨(some 19), none, .p (.mov (.t 18))⟩,
 ⟨(some 20), (some (19, false)), .p (.ldn 5 (.t 3))⟩,
 ⟨(some 21), (some (19, false)), .q (.c (.fn (.func 9) [] [])) [(.t 20), (.c (i64 120))]⟩,
 ⟨(some 22), (some (19, false)), .p (.bin .gtr (.i .i64) (.t 21) (.c (i64 120)))⟩,
 ⟨(some 23), none, .p (.pick (.t 19) (.c (bl true)) (.t 22))⟩])
 (.cond (.t 23)
 (.seq
 (.reg [
 ⟨(some 24), none, .p (.mov (.t 5))⟩,
 ⟨(some 4), none, .p (.mov (.t 24))⟩])
 .ret)
 .skip))
 (.seq
 (.reg [
 ⟨(some 6), none, .e (.nil 9 1 (.c (.val (.slice none 0 0))))⟩,
 ⟨(some 7), none, .e (.nil 9 1 (.c (.val (.slice none 0 0))))⟩])
 (.seq
 (.seq
 (.reg [
 ⟨(some 25), none, .p (.mov (.t 0))⟩,
 ⟨(some 26), none, .p (.len (.t 25))⟩,
 ⟨(some 27), none, .p (.bin .sub (.i .i64) (.t 26) (.c (i64 1)))⟩,
 ⟨(some 8), none, .p (.mov (.t 27))⟩])
 (.blk 0
 (.loop l4_0)))
 (.seq
 (.reg [
 ⟨(some 48), none, .p (.mov (.t 0))⟩,
 ⟨(some 49), none, .p (.ldn 5 (.t 3))⟩,
 ⟨(some 50), none, .e (.call (.c (.fn (.func 10) [] [])) [(.t 48), (.t 49)])⟩,
 ⟨(some 47), none, .p (.mov (.t 50))⟩,
 ⟨(some 51), none, .p (.ext (.t 47) 0)⟩,
 ⟨(some 52), none, .p (.ext (.t 47) 1)⟩,
 ⟨(some 10), none, .e (.alc 25 [i64 0, i64 0])⟩,
 ⟨(some 9), none, .p (.mov (.t 51))⟩,
 ⟨none, none, .e (.st 2 (.t 10) (.t 52))⟩])
 (.seq
 (.reg [
 ⟨(some 54), none, .p (.mov (.t 6))⟩,
 ⟨(some 55), none, .p (.ldn 5 (.t 3))⟩,
 ⟨(some 56), none, .e (.call (.c (.fn (.func 10) [] [])) [(.t 54), (.t 55)])⟩,
 ⟨(some 53), none, .p (.mov (.t 56))⟩,
 ⟨(some 57), none, .p (.ext (.t 53) 0)⟩,
 ⟨(some 58), none, .p (.ext (.t 53) 1)⟩,
 ⟨(some 12), none, .e (.alc 25 [i64 0, i64 0])⟩,
 ⟨(some 11), none, .p (.mov (.t 57))⟩,
 ⟨none, none, .e (.st 2 (.t 12) (.t 58))⟩])
 (.seq
 (.reg [
 ⟨(some 60), none, .p (.mov (.t 7))⟩,
 ⟨(some 61), none, .p (.ldn 5 (.t 3))⟩,
 ⟨(some 62), none, .e (.call (.c (.fn (.func 11) [] [])) [(.t 61)])⟩,
 ⟨(some 63), none, .e (.call (.c (.fn (.func 10) [] [])) [(.t 60), (.t 62)])⟩,
 ⟨(some 59), none, .p (.mov (.t 63))⟩,
 ⟨(some 64), none, .p (.ext (.t 59) 0)⟩,
 ⟨(some 65), none, .p (.ext (.t 59) 1)⟩,
 ⟨(some 14), none, .e (.alc 25 [i64 0, i64 0])⟩,
 ⟨(some 13), none, .p (.mov (.t 64))⟩,
 ⟨none, none, .e (.st 2 (.t 14) (.t 65))⟩])
 (.seq
 (.reg [
 ⟨(some 66), none, .p (.mov (.t 5))⟩,
 ⟨(some 67), none, .p (.mov (.t 66))⟩,
 ⟨(some 68), (some (67, true)), .p (.mov (.t 9))⟩,
 ⟨(some 69), (some (67, true)), .p (.mov (.t 11))⟩,
 ⟨(some 70), (some (67, true)), .p (.bin .eql (.i .i64) (.t 68) (.t 69))⟩,
 ⟨(some 71), none, .p (.pick (.t 67) (.t 70) (.c (bl false)))⟩,
 ⟨(some 72), none, .p (.mov (.t 71))⟩,
 ⟨(some 73), (some (72, true)), .p (.ldn 2 (.t 10))⟩,
 ⟨(some 74), (some (72, true)), .p (.ldn 2 (.t 12))⟩,
 ⟨(some 75), (some (72, true)), .p (.eqf false [.i .i64, .i .i64] (.t 73) (.t 74))⟩,
 ⟨(some 76), none, .p (.pick (.t 72) (.t 75) (.c (bl false)))⟩,
 ⟨(some 77), none, .p (.mov (.t 76))⟩,
 ⟨(some 78), (some (77, true)), .p (.mov (.t 9))⟩,
 ⟨(some 79), (some (77, true)), .p (.mov (.t 13))⟩,
 ⟨(some 80), (some (77, true)), .p (.bin .eql (.i .i64) (.t 78) (.t 79))⟩,
 ⟨(some 81), none, .p (.pick (.t 77) (.t 80) (.c (bl false)))⟩,
 ⟨(some 82), none, .p (.mov (.t 81))⟩,
 ⟨(some 83), (some (82, true)), .p (.ldn 2 (.t 10))⟩,
 ⟨(some 84), (some (82, true)), .p (.ldn 2 (.t 14))⟩,
 ⟨(some 85), (some (82, true)), .p (.eqf false [.i .i64, .i .i64] (.t 83) (.t 84))⟩,
 ⟨(some 86), none, .p (.pick (.t 82) (.t 85) (.c (bl false)))⟩,
 ⟨(some 4), none, .p (.mov (.t 86))⟩])
 .ret)))))))))
def r4 : List RS := [.t 4]
theorem c4 : chkF Tryd.prog drawB Tryd.f4 i4 r4 = true := by kernel_rfl
/-- parlour/parlourlaw08.typed -/
def i5 : IC :=
 (.seq
 (.reg [
 ⟨(some 8), none, .p (.mov (.c (bl false)))⟩])
 (.seq
 (.reg [
 ⟨(some 12), none, .e (.bsl 9 1 1 [st ⟨#[]⟩] [(0, (.c (st ⟨#[120]⟩)))])⟩,
 ⟨(some 13), none, .p (.mov (.t 0))⟩,
 ⟨(some 14), none, .e (.call (.c (.fn (.func 12) [] [])) [(.t 13)])⟩,
 ⟨(some 15), none, .e (.call (.c (.fn (.func 10) [] [])) [(.t 12), (.t 14)])⟩,
 ⟨(some 11), none, .p (.mov (.t 15))⟩,
 ⟨(some 16), none, .p (.ext (.t 11) 0)⟩,
 ⟨(some 17), none, .p (.ext (.t 11) 1)⟩,
 ⟨(some 10), none, .e (.alc 25 [i64 0, i64 0])⟩,
 ⟨(some 9), none, .p (.mov (.t 16))⟩,
 ⟨none, none, .e (.st 2 (.t 10) (.t 17))⟩])
 (.seq
 (.reg [
 ⟨(some 18), none, .p (.mov (.t 9))⟩,
 ⟨(some 19), none, .p (.mov (.t 1))⟩,
 ⟨(some 20), none, .p (.bin .eql (.i .i64) (.t 18) (.t 19))⟩,
 ⟨(some 21), none, .p (.mov (.t 20))⟩,
 ⟨(some 22), (some (21, true)), .p (.ldn 2 (.t 10))⟩,
 ⟨(some 23), (some (21, true)), .p (.mov (.t 2))⟩,
 ⟨(some 24), (some (21, true)), .p (.mov (.t 3))⟩,
 ⟨(some 25), (some (21, true)), .p (.bld [i64 0, i64 0] [(0, 1, (.t 23)), (1, 1, (.t 24))])⟩,
 ⟨(some 26), (some (21, true)), .p (.eqf false [.i .i64, .i .i64] (.t 22) (.t 25))⟩,
 ⟨(some 27), none, .p (.pick (.t 21) (.t 26) (.c (bl false)))⟩,
 ⟨(some 8), none, .p (.mov (.t 27))⟩])
 .ret)))
def r5 : List RS := [.t 8]
theorem c5 : chkF Tryd.prog drawB Tryd.f5 i5 r5 = true := by kernel_rfl
/-- parlour/types.Check -/
def i6 : IC :=
 (.seq
 (.reg [
 ⟨(some 1), none, .e (.box 30 (.t 0))⟩,
 ⟨(some 2), none, .e (.alc 25 [i64 0, i64 0])⟩])
 (.seq
 (.drw [0, 1, 2, 3, 4, 5, 6] [
 ⟨(some 5), none, .p (.ldn 4 (.t 1))⟩,
 ⟨(some 6), none, .q (.c (.fn (.func 14) [] [])) [(.t 5)]⟩,
 ⟨(some 7), none, .q (.c (.fn (.func 13) [] [])) [(.t 6)]⟩,
 ⟨(some 8), none, .p (.ldn 4 (.t 1))⟩,
 ⟨(some 9), none, .p (.bld [.val (.map none), .val (.map none), st ⟨#[]⟩, i64 0, .val (.slice none 0 0), .val (.slice none 0 0), .val .nilFunc] [(0, 2, (.t 7)), (2, 4, (.t 8))])⟩,
 ⟨(some 10), none, .e (.box 52 (.t 9))⟩,
 ⟨(some 3), none, .p (.mov (.t 10))⟩])
 (.seq
 (.reg [
 ⟨(some 11), none, .p (.mov (.t 3))⟩,
 ⟨(some 12), none, .p (.fa 3 (.t 1))⟩,
 ⟨(some 13), none, .p (.ld1 (.t 12))⟩,
 ⟨(some 14), none, .p (.mkf (.func 15) [(.t 13)] [])⟩,
 ⟨(some 15), none, .p (.nck (.t 11))⟩,
 ⟨(some 16), none, .p (.fa 6 (.t 15))⟩,
 ⟨none, none, .e (.st 1 (.t 16) (.t 14))⟩])
 (.seq
 (.seq
 (.reg [
 ⟨(some 17), none, .p (.mov (.t 3))⟩,
 ⟨(some 18), none, .p (.mkf (.func 17) [(.t 17)] [])⟩,
 ⟨(some 19), none, .p (.mov (.t 3))⟩,
 ⟨(some 20), none, .p (.mkf (.func 18) [(.t 19)] [])⟩,
 ⟨(some 21), none, .p (.mov (.t 3))⟩,
 ⟨(some 22), none, .p (.mkf (.func 19) [(.t 21)] [])⟩,
 ⟨(some 23), none, .p (.mov (.t 3))⟩,
 ⟨(some 24), none, .p (.mkf (.func 20) [(.t 23)] [])⟩,
 ⟨(some 25), none, .p (.mov (.t 3))⟩,
 ⟨(some 26), none, .p (.mkf (.func 21) [(.t 25)] [])⟩,
 ⟨(some 27), none, .e (.bsl 57 1 5 [.val .nilFunc] [(0, (.t 18)), (1, (.t 20)), (2, (.t 22)), (3, (.t 24)), (4, (.t 26))])⟩,
 ⟨(some 28), none, .e (.call (.c (.fn (.func 16) [] [])) [(.t 27)])⟩,
 ⟨(some 4), none, .p (.mov (.t 28))⟩])
 (.seq
 (.reg [
 ⟨(some 29), none, .p (.mov (.t 4))⟩,
 ⟨(some 30), none, .p (.ifn true true (.t 29))⟩])
 (.cond (.t 30)
 (.seq
 (.reg [
 ⟨(some 31), none, .p (.mov (.t 4))⟩,
 ⟨(some 32), none, .e (.call (.c (.fn (.func 22) [] [])) [(.t 31)])⟩,
 ⟨none, none, .e (.st 2 (.t 2) (.t 32))⟩])
 .ret)
 .skip)))
 (.seq
 (.reg [
 ⟨(some 33), none, .p (.bld [i64 0, i64 0] [])⟩,
 ⟨none, none, .e (.st 2 (.t 2) (.t 33))⟩])
 .ret)))))
def r6 : List RS := [.cn 2 2]
theorem c6 : chkF Tryd.prog drawB Tryd.f6 i6 r6 = true := by kernel_rfl
/-- parlour/parlourlaw08.rules -/
def i7 : IC :=
 (.seq
 (.reg [
 ⟨(some 2), none, .e (.alc 30 [st ⟨#[]⟩, i64 0, .val (.slice none 0 0), .val (.slice none 0 0)])⟩])
 (.seq
 (.reg [
 ⟨(some 6), none, .p (.mov (.t 0))⟩,
 ⟨(some 7), none, .e (.call (.c (.fn (.func 23) [] [])) [(.t 6)])⟩,
 ⟨(some 5), none, .p (.mov (.t 7))⟩,
 ⟨(some 8), none, .p (.ext (.t 5) 0)⟩,
 ⟨(some 9), none, .p (.ext (.t 5) 1)⟩,
 ⟨(some 3), none, .e (.alc 30 [st ⟨#[]⟩, i64 0, .val (.slice none 0 0), .val (.slice none 0 0)])⟩,
 ⟨(some 4), none, .e (.alc 25 [i64 0, i64 0])⟩,
 ⟨none, none, .e (.st 4 (.t 3) (.t 8))⟩,
 ⟨none, none, .e (.st 2 (.t 4) (.t 9))⟩])
 (.seq
 (.reg [
 ⟨(some 10), none, .p (.ldn 4 (.t 3))⟩,
 ⟨none, none, .e (.st 4 (.t 2) (.t 10))⟩])
 .ret)))
def r7 : List RS := [.cn 2 4]
theorem c7 : chkF Tryd.prog drawB Tryd.f7 i7 r7 = true := by kernel_rfl
/-- parlour/parlourlaw08.awake -/
def i8 : IC :=
 (.seq
 (.reg [
 ⟨(some 0), none, .p (.mov (.c (bl false)))⟩])
 (.seq
 (.reg [
 ⟨(some 1), none, .e (.call (.c (.fn (.func 5) [] [])) [(.c (st ⟨#[49, 32, 43, 32, 120]⟩)), (.c (i64 1)), (.c (i64 0)), (.c (i64 0))])⟩,
 ⟨(some 2), none, .p (.mov (.t 1))⟩,
 ⟨(some 3), (some (2, true)), .q (.c (.fn (.func 5) [] [])) [(.c (st ⟨#[120, 32, 60, 32, 50, 32, 97, 110, 100, 32, 110, 111, 116, 32, 120, 32, 61, 61, 32, 49]⟩)), (.c (i64 2)), (.c (i64 0)), (.c (i64 0))]⟩,
 ⟨(some 4), none, .p (.pick (.t 2) (.t 3) (.c (bl false)))⟩,
 ⟨(some 5), none, .p (.mov (.t 4))⟩,
 ⟨(some 6), (some (5, true)), .q (.c (.fn (.func 7) [] [])) [(.c (st ⟨#[103, 97, 109, 101, 32, 103, 59, 32, 112, 108, 97, 121, 101, 114, 115, 32, 53, 59, 32, 101, 110, 100, 32, 123, 32, 112, 97, 121, 32, 49, 59, 32, 125]⟩))]⟩,
 ⟨(some 7), (some (5, true)), .q (.c (.fn (.func 6) [] [])) [(.t 6)]⟩,
 ⟨(some 8), (some (5, true)), .p (.bld [i64 0, i64 0] [(0, 1, (.c (i64 2)))])⟩,
 ⟨(some 9), (some (5, true)), .p (.eqf false [.i .i64, .i .i64] (.t 7) (.t 8))⟩,
 ⟨(some 10), none, .p (.pick (.t 5) (.t 9) (.c (bl false)))⟩,
 ⟨(some 0), none, .p (.mov (.t 10))⟩])
 .ret))
def r8 : List RS := [.t 0]
theorem c8 : chkF Tryd.prog drawB Tryd.f8 i8 r8 = true := by kernel_rfl
def l9_0 : IC := .keep [1, 2, 5, 6]
 (.seq
 (.seq
 (.reg [
 ⟨(some 7), none, .p (.mov (.t 6))⟩,
 ⟨(some 8), none, .p (.fa 3 (.t 2))⟩,
 ⟨(some 9), none, .p (.ld1 (.t 8))⟩,
 ⟨(some 10), none, .p (.len (.t 9))⟩,
 ⟨(some 11), none, .p (.bin .lss (.i .i64) (.t 7) (.t 10))⟩,
 ⟨(some 12), none, .p (.mov (.t 11))⟩,
 ⟨(some 13), (some (12, true)), .p (.mov (.t 5))⟩,
 ⟨(some 14), (some (12, true)), .p (.mov (.t 1))⟩,
 ⟨(some 15), (some (12, true)), .p (.bin .leq (.i .i64) (.t 13) (.t 14))⟩,
 ⟨(some 16), none, .p (.pick (.t 12) (.t 15) (.c (bl false)))⟩])
 (.cond (.t 16)
 .skip
 (.exit 0)))
 (.seq
 (.blk 1
 (.reg [
 ⟨(some 19), none, .p (.mov (.t 5))⟩,
 ⟨(some 20), none, .p (.fa 3 (.t 2))⟩,
 ⟨(some 21), none, .p (.ld1 (.t 20))⟩,
 ⟨(some 22), none, .p (.mov (.t 6))⟩,
 ⟨(some 23), none, .p (.ia 5 (.t 21) (.t 22))⟩,
 ⟨(some 24), none, .p (.ldn 5 (.t 23))⟩,
 ⟨(some 25), none, .p (.mov (.t 1))⟩,
 ⟨(some 26), none, .p (.mov (.t 5))⟩,
 ⟨(some 27), none, .p (.bin .sub (.i .i64) (.t 25) (.t 26))⟩,
 ⟨(some 28), none, .e (.call (.c (.fn (.func 9) [] [])) [(.t 24), (.t 27)])⟩,
 ⟨(some 29), none, .p (.bin .add (.i .i64) (.t 19) (.t 28))⟩,
 ⟨(some 5), none, .p (.mov (.t 29))⟩]))
 (.reg [
 ⟨(some 17), none, .p (.mov (.t 6))⟩,
 ⟨(some 18), none, .p (.bin .add (.i .i64) (.t 17) (.c (i64 1)))⟩,
 ⟨(some 6), none, .p (.mov (.t 18))⟩])))
/-- parlour/parlourkit.Size -/
def i9 : IC :=
 (.seq
 (.reg [
 ⟨(some 2), none, .e (.box 36 (.t 0))⟩,
 ⟨(some 4), none, .p (.mov (.c (i64 0)))⟩])
 (.seq
 (.reg [
 ⟨(some 5), none, .p (.mov (.c (i64 1)))⟩])
 (.seq
 (.seq
 (.reg [
 ⟨(some 6), none, .p (.mov (.c (i64 0)))⟩])
 (.blk 0
 (.loop l9_0)))
 (.seq
 (.reg [
 ⟨(some 30), none, .p (.mov (.t 5))⟩,
 ⟨(some 4), none, .p (.mov (.t 30))⟩])
 .ret))))
def r9 : List RS := [.t 4]
theorem c9 : chkF Tryd.prog drawB Tryd.f9 i9 r9 = true := by kernel_rfl
/-- parlour/types.Type -/
def i10 : IC :=
 (.seq
 (.reg [
 ⟨(some 3), none, .e (.box 36 (.t 1))⟩,
 ⟨(some 4), none, .p (.mov (.c (i64 0)))⟩,
 ⟨(some 5), none, .e (.alc 25 [i64 0, i64 0])⟩])
 (.seq
 (.reg [
 ⟨(some 8), none, .p (.mov (.t 0))⟩,
 ⟨(some 9), none, .e (.call (.c (.fn (.func 13) [] [])) [(.t 8)])⟩,
 ⟨(some 6), none, .e (.alc 47 [.val (.map none), .val (.map none)])⟩,
 ⟨none, none, .e (.st 2 (.t 6) (.t 9))⟩])
 (.seq
 (.reg [
 ⟨(some 11), none, .p (.ldn 5 (.t 3))⟩,
 ⟨(some 12), none, .e (.call (.c (.fn (.func 24) [] [])) [(.t 6), (.t 11), (.c (i64 0))])⟩,
 ⟨(some 10), none, .p (.mov (.t 12))⟩,
 ⟨(some 13), none, .p (.ext (.t 10) 0)⟩,
 ⟨(some 14), none, .p (.ext (.t 10) 1)⟩,
 ⟨(some 4), none, .p (.mov (.t 13))⟩,
 ⟨(some 7), none, .p (.mov (.t 14))⟩])
 (.seq
 (.seq
 (.reg [
 ⟨(some 15), none, .p (.mov (.t 7))⟩,
 ⟨(some 16), none, .p (.ifn true true (.t 15))⟩])
 (.cond (.t 16)
 (.seq
 (.reg [
 ⟨(some 17), none, .p (.mov (.t 7))⟩,
 ⟨(some 18), none, .e (.call (.c (.fn (.func 22) [] [])) [(.t 17)])⟩,
 ⟨(some 4), none, .p (.mov (.c (i64 0)))⟩,
 ⟨none, none, .e (.st 2 (.t 5) (.t 18))⟩])
 .ret)
 .skip))
 (.seq
 (.reg [
 ⟨(some 19), none, .p (.mov (.t 4))⟩,
 ⟨(some 20), none, .p (.bld [i64 0, i64 0] [])⟩,
 ⟨(some 4), none, .p (.mov (.t 19))⟩,
 ⟨none, none, .e (.st 2 (.t 5) (.t 20))⟩])
 .ret)))))
def r10 : List RS := [.t 4, .cn 5 2]
theorem c10 : chkF Tryd.prog drawB Tryd.f10 i10 r10 = true := by kernel_rfl
def l11_0 : IC := .keep [1, 2, 3, 4]
 (.seq
 (.seq
 (.reg [
 ⟨(some 12), none, .p (.mov (.t 4))⟩,
 ⟨(some 13), none, .p (.fa 3 (.t 1))⟩,
 ⟨(some 14), none, .p (.ld1 (.t 13))⟩,
 ⟨(some 15), none, .p (.len (.t 14))⟩,
 ⟨(some 16), none, .p (.bin .lss (.i .i64) (.t 12) (.t 15))⟩])
 (.cond (.t 16)
 .skip
 (.exit 0)))
 (.seq
 (.blk 1
 (.reg [
 ⟨(some 19), none, .p (.mov (.t 3))⟩,
 ⟨(some 20), none, .p (.fa 3 (.t 1))⟩,
 ⟨(some 21), none, .p (.ld1 (.t 20))⟩,
 ⟨(some 22), none, .p (.mov (.t 4))⟩,
 ⟨(some 23), none, .p (.ia 5 (.t 21) (.t 22))⟩,
 ⟨(some 24), none, .p (.ldn 5 (.t 23))⟩,
 ⟨(some 25), none, .e (.call (.c (.fn (.func 11) [] [])) [(.t 24)])⟩,
 ⟨(some 26), none, .e (.bsl 36 5 1 [i64 0, i64 0, st ⟨#[]⟩, .val (.slice none 0 0), i64 0] [(0, (.t 25))])⟩,
 ⟨(some 27), none, .e (.app 36 5 64 (.t 19) (.t 26))⟩,
 ⟨(some 3), none, .p (.mov (.t 27))⟩]))
 (.reg [
 ⟨(some 17), none, .p (.mov (.t 4))⟩,
 ⟨(some 18), none, .p (.bin .add (.i .i64) (.t 17) (.c (i64 1)))⟩,
 ⟨(some 4), none, .p (.mov (.t 18))⟩])))
/-- parlour/parlourlaw08.renamed -/
def i11 : IC :=
 (.seq
 (.reg [
 ⟨(some 1), none, .e (.box 36 (.t 0))⟩,
 ⟨(some 2), none, .e (.alc 36 [i64 0, i64 0, st ⟨#[]⟩, .val (.slice none 0 0), i64 0])⟩])
 (.seq
 (.seq
 (.reg [
 ⟨(some 5), none, .p (.fa 0 (.t 1))⟩,
 ⟨(some 6), none, .p (.ld1 (.t 5))⟩,
 ⟨(some 7), none, .p (.bin .eql (.i .i64) (.t 6) (.c (i64 2)))⟩])
 (.cond (.t 7)
 (.reg [
 ⟨(some 8), none, .p (.fa 2 (.t 1))⟩,
 ⟨(some 9), none, .p (.ld1 (.t 8))⟩,
 ⟨(some 10), none, .p (.bin .add .s (.c (st ⟨#[113]⟩)) (.t 9))⟩,
 ⟨(some 11), none, .p (.fa 2 (.t 1))⟩,
 ⟨none, none, .e (.st 1 (.t 11) (.t 10))⟩])
 .skip))
 (.seq
 (.reg [
 ⟨(some 3), none, .e (.nil 36 5 (.c (.val (.slice none 0 0))))⟩])
 (.seq
 (.seq
 (.reg [
 ⟨(some 4), none, .p (.mov (.c (i64 0)))⟩])
 (.blk 0
 (.loop l11_0)))
 (.seq
 (.reg [
 ⟨(some 28), none, .p (.mov (.t 3))⟩,
 ⟨(some 29), none, .p (.fa 3 (.t 1))⟩,
 ⟨none, none, .e (.st 1 (.t 29) (.t 28))⟩])
 (.seq
 (.reg [
 ⟨(some 30), none, .p (.ldn 5 (.t 1))⟩,
 ⟨none, none, .e (.st 5 (.t 2) (.t 30))⟩])
 .ret))))))
def r11 : List RS := [.cn 2 5]
theorem c11 : chkF Tryd.prog drawB Tryd.f11 i11 r11 = true := by kernel_rfl
/-- parlour/parlourlaw08.expr -/
def i12 : IC :=
 (.seq
 (.reg [
 ⟨(some 2), none, .e (.alc 36 [i64 0, i64 0, st ⟨#[]⟩, .val (.slice none 0 0), i64 0])⟩])
 (.seq
 (.reg [
 ⟨(some 6), none, .p (.mov (.t 0))⟩,
 ⟨(some 7), none, .e (.call (.c (.fn (.func 25) [] [])) [(.t 6)])⟩,
 ⟨(some 5), none, .p (.mov (.t 7))⟩,
 ⟨(some 8), none, .p (.ext (.t 5) 0)⟩,
 ⟨(some 9), none, .p (.ext (.t 5) 1)⟩,
 ⟨(some 3), none, .e (.alc 36 [i64 0, i64 0, st ⟨#[]⟩, .val (.slice none 0 0), i64 0])⟩,
 ⟨(some 4), none, .e (.alc 25 [i64 0, i64 0])⟩,
 ⟨none, none, .e (.st 5 (.t 3) (.t 8))⟩,
 ⟨none, none, .e (.st 2 (.t 4) (.t 9))⟩])
 (.seq
 (.reg [
 ⟨(some 10), none, .p (.ldn 5 (.t 3))⟩,
 ⟨none, none, .e (.st 5 (.t 2) (.t 10))⟩])
 .ret)))
def r12 : List RS := [.cn 2 5]
theorem c12 : chkF Tryd.prog drawB Tryd.f12 i12 r12 = true := by kernel_rfl
def l13_0 : IC := .keep [2, 3, 12, 13, 14]
 (.seq
 (.reg [
 ⟨(some 15), none, .p (.bin .lss (.i .i64) (.t 14) (.t 13))⟩])
 (.seq
 (.cond (.t 15)
 .skip
 (.exit 0))
 (.seq
 (.blk 1
 (.seq
 (.reg [
 ⟨(some 16), none, .p (.ia 1 (.t 12) (.t 14))⟩,
 ⟨(some 17), none, .p (.ld1 (.t 16))⟩,
 ⟨(some 5), none, .p (.mov (.t 17))⟩])
 (.reg [
 ⟨(some 18), none, .p (.fa 0 (.t 3))⟩,
 ⟨(some 19), none, .p (.ld1 (.t 18))⟩,
 ⟨(some 20), none, .p (.mov (.t 5))⟩,
 ⟨none, none, .e (.mup .s (.t 19) (.t 20) (.c (bl true)))⟩])))
 (.reg [
 ⟨(some 21), none, .p (.bin .add (.i .i64) (.t 14) (.c (i64 1)))⟩,
 ⟨(some 14), none, .p (.mov (.t 21))⟩]))))
/-- parlour/types.newTyper -/
def i13 : IC :=
 (.seq
 (.reg [
 ⟨(some 2), none, .e (.alc 47 [.val (.map none), .val (.map none)])⟩])
 (.seq
 (.reg [
 ⟨(some 9), none, .e (.mkm 44)⟩,
 ⟨(some 10), none, .e (.mkm 45)⟩,
 ⟨(some 11), none, .p (.bld [.val (.map none), .val (.map none)] [(0, 1, (.t 9)), (1, 1, (.t 10))])⟩,
 ⟨(some 3), none, .e (.alc 47 [.val (.map none), .val (.map none)])⟩,
 ⟨none, none, .e (.st 2 (.t 3) (.t 11))⟩])
 (.seq
 (.seq
 (.reg [
 ⟨(some 12), none, .p (.mov (.t 0))⟩,
 ⟨(some 13), none, .p (.len (.t 12))⟩,
 ⟨(some 14), none, .p (.mov (.c (i64 0)))⟩])
 (.blk 0
 (.loop l13_0)))
 (.seq
 (.reg [
 ⟨(some 22), none, .p (.mkf (.func 26) [] [(.t 3)])⟩,
 ⟨(some 6), none, .p (.mov (.t 22))⟩])
 (.seq
 (.reg [
 ⟨(some 23), none, .p (.mov (.t 6))⟩,
 ⟨(some 24), none, .e (.bsl 3 1 1 [i64 0] [(0, (.c (i64 1)))])⟩,
 ⟨(some 25), none, .p (.bld [.val (.slice none 0 0), i64 0, .val .nilFunc] [(0, 1, (.t 24)), (1, 1, (.c (i64 1)))])⟩,
 ⟨(some 26), none, .e (.bsl 3 1 1 [i64 0] [(0, (.c (i64 3)))])⟩,
 ⟨(some 27), none, .e (.call (.t 23) [(.t 25), (.t 26)])⟩])
 (.seq
 (.reg [
 ⟨(some 28), none, .p (.mov (.t 6))⟩,
 ⟨(some 29), none, .e (.bsl 3 1 1 [i64 0] [(0, (.c (i64 2)))])⟩,
 ⟨(some 30), none, .p (.bld [.val (.slice none 0 0), i64 0, .val .nilFunc] [(0, 1, (.t 29)), (1, 1, (.c (i64 2)))])⟩,
 ⟨(some 31), none, .e (.bsl 3 1 1 [i64 0] [(0, (.c (i64 4)))])⟩,
 ⟨(some 32), none, .e (.call (.t 28) [(.t 30), (.t 31)])⟩])
 (.seq
 (.reg [
 ⟨(some 33), none, .e (.bsl 3 1 2 [i64 0] [(0, (.c (i64 1))), (1, (.c (i64 1)))])⟩,
 ⟨(some 34), none, .e (.bsl 3 1 2 [i64 0] [(0, (.c (i64 2))), (1, (.c (i64 2)))])⟩,
 ⟨(some 7), none, .p (.mov (.t 33))⟩,
 ⟨(some 8), none, .p (.mov (.t 34))⟩])
 (.seq
 (.reg [
 ⟨(some 35), none, .p (.mov (.t 6))⟩,
 ⟨(some 36), none, .p (.mov (.t 7))⟩,
 ⟨(some 37), none, .p (.bld [.val (.slice none 0 0), i64 0, .val .nilFunc] [(0, 1, (.t 36)), (1, 1, (.c (i64 1)))])⟩,
 ⟨(some 38), none, .e (.bsl 3 1 7 [i64 0] [(0, (.c (i64 5))), (1, (.c (i64 6))), (2, (.c (i64 7))), (3, (.c (i64 8))), (4, (.c (i64 9))), (5, (.c (i64 18))), (6, (.c (i64 19)))])⟩,
 ⟨(some 39), none, .e (.call (.t 35) [(.t 37), (.t 38)])⟩])
 (.seq
 (.reg [
 ⟨(some 40), none, .p (.mov (.t 6))⟩,
 ⟨(some 41), none, .p (.mov (.t 7))⟩,
 ⟨(some 42), none, .p (.bld [.val (.slice none 0 0), i64 0, .val .nilFunc] [(0, 1, (.t 41)), (1, 1, (.c (i64 2)))])⟩,
 ⟨(some 43), none, .e (.bsl 3 1 6 [i64 0] [(0, (.c (i64 10))), (1, (.c (i64 11))), (2, (.c (i64 12))), (3, (.c (i64 13))), (4, (.c (i64 14))), (5, (.c (i64 15)))])⟩,
 ⟨(some 44), none, .e (.call (.t 40) [(.t 42), (.t 43)])⟩])
 (.seq
 (.reg [
 ⟨(some 45), none, .p (.mov (.t 6))⟩,
 ⟨(some 46), none, .p (.mov (.t 8))⟩,
 ⟨(some 47), none, .p (.bld [.val (.slice none 0 0), i64 0, .val .nilFunc] [(0, 1, (.t 46)), (1, 1, (.c (i64 2)))])⟩,
 ⟨(some 48), none, .e (.bsl 3 1 2 [i64 0] [(0, (.c (i64 16))), (1, (.c (i64 17)))])⟩,
 ⟨(some 49), none, .e (.call (.t 45) [(.t 47), (.t 48)])⟩])
 (.seq
 (.reg [
 ⟨(some 50), none, .p (.mov (.t 6))⟩,
 ⟨(some 51), none, .e (.mks 3 1 8 [i64 0] (.c (i64 3)) (.c (i64 3)))⟩,
 ⟨(some 52), none, .p (.bld [.val (.slice none 0 0), i64 0, .val .nilFunc] [(0, 1, (.t 51)), (2, 1, (.c (.fn (.func 27) [] [])))])⟩,
 ⟨(some 53), none, .e (.bsl 3 1 1 [i64 0] [(0, (.c (i64 20)))])⟩,
 ⟨(some 54), none, .e (.call (.t 50) [(.t 52), (.t 53)])⟩])
 (.seq
 (.reg [
 ⟨(some 55), none, .p (.ldn 2 (.t 3))⟩,
 ⟨none, none, .e (.st 2 (.t 2) (.t 55))⟩])
 .ret))))))))))))
def r13 : List RS := [.cn 2 2]
theorem c13 : chkF Tryd.prog drawB Tryd.f13 i13 r13 = true := by kernel_rfl
def l14_0 : IC := .keep [3, 11, 12, 13]
 (.seq
 (.reg [
 ⟨(some 14), none, .p (.bin .lss (.i .i64) (.t 13) (.t 12))⟩])
 (.seq
 (.cond (.t 14)
 .skip
 (.exit 0))
 (.seq
 (.blk 1
 (.seq
 (.reg [
 ⟨(some 15), none, .p (.ia 3 (.t 11) (.t 13))⟩,
 ⟨(some 16), none, .p (.ldn 3 (.t 15))⟩,
 ⟨(some 5), none, .e (.alc 71 [st ⟨#[]⟩, i64 0, i64 0])⟩,
 ⟨none, none, .e (.st 3 (.t 5) (.t 16))⟩])
 (.reg [
 ⟨(some 17), none, .p (.mov (.t 3))⟩,
 ⟨(some 18), none, .p (.fa 0 (.t 5))⟩,
 ⟨(some 19), none, .p (.ld1 (.t 18))⟩,
 ⟨(some 20), none, .e (.bsl 9 1 1 [st ⟨#[]⟩] [(0, (.t 19))])⟩,
 ⟨(some 21), none, .e (.app 9 1 16 (.t 17) (.t 20))⟩,
 ⟨(some 3), none, .p (.mov (.t 21))⟩])))
 (.reg [
 ⟨(some 22), none, .p (.bin .add (.i .i64) (.t 13) (.c (i64 1)))⟩,
 ⟨(some 13), none, .p (.mov (.t 22))⟩]))))
/-- parlour/types.Names -/
def i14 : IC :=
 (.seq
 (.reg [
 ⟨(some 1), none, .e (.box 30 (.t 0))⟩,
 ⟨(some 2), none, .p (.mov (.c (.val (.slice none 0 0))))⟩])
 (.seq
 (.reg [
 ⟨(some 6), none, .p (.fa 2 (.t 1))⟩,
 ⟨(some 7), none, .p (.ld1 (.t 6))⟩,
 ⟨(some 8), none, .p (.len (.t 7))⟩,
 ⟨(some 9), none, .e (.mks 9 1 16 [st ⟨#[]⟩] (.c (i64 0)) (.t 8))⟩,
 ⟨(some 3), none, .p (.mov (.t 9))⟩])
 (.seq
 (.seq
 (.reg [
 ⟨(some 10), none, .p (.fa 2 (.t 1))⟩,
 ⟨(some 11), none, .p (.ld1 (.t 10))⟩,
 ⟨(some 12), none, .p (.len (.t 11))⟩,
 ⟨(some 13), none, .p (.mov (.c (i64 0)))⟩])
 (.blk 0
 (.loop l14_0)))
 (.seq
 (.reg [
 ⟨(some 23), none, .p (.mov (.t 3))⟩,
 ⟨(some 2), none, .p (.mov (.t 23))⟩])
 .ret))))
def r14 : List RS := [.t 2]
theorem c14 : chkF Tryd.prog drawB Tryd.f14 i14 r14 = true := by kernel_rfl
def l15_0 : IC := .keep [1, 7, 8, 9]
 (.seq
 (.reg [
 ⟨(some 10), none, .p (.bin .lss (.i .i64) (.t 9) (.t 8))⟩])
 (.seq
 (.cond (.t 10)
 .skip
 (.exit 0))
 (.seq
 (.blk 1
 (.seq
 (.reg [
 ⟨(some 11), none, .p (.mov (.t 9))⟩,
 ⟨(some 12), none, .p (.ia 12 (.t 7) (.t 9))⟩,
 ⟨(some 13), none, .p (.ldn 12 (.t 12))⟩,
 ⟨(some 6), none, .e (.alc 74 [i64 0, st ⟨#[]⟩, st ⟨#[]⟩, i64 0, i64 0, .val (.slice none 0 0), bl false, .val (.slice none 0 0), .val (.slice none 0 0), .val (.slice none 0 0), .val (.slice none 0 0), i64 0])⟩,
 ⟨(some 5), none, .p (.mov (.t 11))⟩,
 ⟨none, none, .e (.st 12 (.t 6) (.t 13))⟩])
 (.seq
 (.reg [
 ⟨(some 14), none, .p (.fa 1 (.t 6))⟩,
 ⟨(some 15), none, .p (.ld1 (.t 14))⟩,
 ⟨(some 16), none, .p (.mov (.t 1))⟩,
 ⟨(some 17), none, .p (.bin .eql .s (.t 15) (.t 16))⟩])
 (.cond (.t 17)
 (.seq
 (.reg [
 ⟨(some 18), none, .p (.mov (.t 5))⟩,
 ⟨(some 4), none, .p (.mov (.t 18))⟩])
 .ret)
 .skip))))
 (.reg [
 ⟨(some 19), none, .p (.bin .add (.i .i64) (.t 9) (.c (i64 1)))⟩,
 ⟨(some 9), none, .p (.mov (.t 19))⟩]))))
/-- (parlour/types.labels).find -/
def i15 : IC :=
 (.seq
 (.reg [
 ⟨(some 4), none, .p (.mov (.c (i64 0)))⟩])
 (.seq
 (.seq
 (.reg [
 ⟨(some 7), none, .p (.mov (.t 0))⟩,
 ⟨(some 8), none, .p (.len (.t 7))⟩,
 ⟨(some 9), none, .p (.mov (.c (i64 0)))⟩])
 (.blk 0
 (.loop l15_0)))
 (.seq
 (.reg [
 ⟨(some 4), none, .p (.mov (.c (i64 (-1))))⟩])
 .ret)))
def r15 : List RS := [.t 4]
theorem c15 : chkF Tryd.prog drawB Tryd.f15 i15 r15 = true := by kernel_rfl
def l16_0 : IC := .keep [6, 7, 8]
 (.seq
 (.reg [
 ⟨(some 9), none, .p (.bin .lss (.i .i64) (.t 8) (.t 7))⟩])
 (.seq
 (.cond (.t 9)
 .skip
 (.exit 0))
 (.seq
 (.blk 1
 (.seq
 (.reg [
 ⟨(some 10), none, .p (.ia 1 (.t 6) (.t 8))⟩,
 ⟨(some 11), none, .p (.ld1 (.t 10))⟩,
 ⟨(some 4), none, .p (.mov (.t 11))⟩])
 (.seq
 (.reg [
 ⟨(some 12), none, .p (.mov (.t 4))⟩,
 ⟨(some 13), none, .e (.call (.t 12) [])⟩,
 ⟨(some 5), none, .p (.mov (.t 13))⟩])
 (.seq
 (.reg [
 ⟨(some 14), none, .p (.mov (.t 5))⟩,
 ⟨(some 15), none, .p (.ifn true true (.t 14))⟩])
 (.cond (.t 15)
 (.seq
 (.reg [
 ⟨(some 16), none, .p (.mov (.t 5))⟩,
 ⟨(some 2), none, .p (.mov (.t 16))⟩])
 .ret)
 .skip)))))
 (.reg [
 ⟨(some 17), none, .p (.bin .add (.i .i64) (.t 8) (.c (i64 1)))⟩,
 ⟨(some 8), none, .p (.mov (.t 17))⟩]))))
/-- parlour/types.inTurn -/
def i16 : IC :=
 (.seq
 (.reg [
 ⟨(some 2), none, .p (.mov (.c (.val .nilIface)))⟩])
 (.seq
 (.seq
 (.reg [
 ⟨(some 6), none, .p (.mov (.t 0))⟩,
 ⟨(some 7), none, .p (.len (.t 6))⟩,
 ⟨(some 8), none, .p (.mov (.c (i64 0)))⟩])
 (.blk 0
 (.loop l16_0)))
 (.seq
 (.reg [
 ⟨(some 2), none, .p (.mov (.c (.val .nilIface)))⟩])
 .ret)))
def r16 : List RS := [.t 2]
theorem c16 : chkF Tryd.prog drawB Tryd.f16 i16 r16 = true := by kernel_rfl
/-- (*parlour/types.checker).players -/
def i17 : IC :=
 (.seq
 (.reg [
 ⟨(some 2), none, .p (.mov (.c (.val .nilIface)))⟩])
 (.seq
 (.seq
 (.reg [
 ⟨(some 3), none, .p (.mov (.t 0))⟩,
 ⟨(some 4), none, .p (.nck (.t 3))⟩,
 ⟨(some 5), none, .p (.fa 2 (.t 4))⟩,
 ⟨(some 6), none, .p (.fa 1 (.t 5))⟩,
 ⟨(some 7), none, .p (.ld1 (.t 6))⟩,
 ⟨(some 8), none, .p (.bin .lss (.i .i64) (.t 7) (.c (i64 1)))⟩,
 ⟨(some 9), none, .p (.mov (.t 8))⟩,
 ⟨(some 10), (some (9, false)), .p (.mov (.t 0))⟩,
 ⟨(some 11), (some (9, false)), .p (.nck (.t 10))⟩,
 ⟨(some 12), (some (9, false)), .p (.fa 2 (.t 11))⟩,
 ⟨(some 13), (some (9, false)), .p (.fa 1 (.t 12))⟩,
 ⟨(some 14), (some (9, false)), .p (.ld1 (.t 13))⟩,
 ⟨(some 15), (some (9, false)), .p (.bin .gtr (.i .i64) (.t 14) (.c (i64 4)))⟩,
 ⟨(some 16), none, .p (.pick (.t 9) (.c (bl true)) (.t 15))⟩])
 (.cond (.t 16)
 (.seq
 (.reg [
 ⟨(some 17), none, .e (.call (.c (.fn (.func 28) [] [])) [(.c (i64 2)), (.c (i64 0))])⟩,
 ⟨(some 2), none, .p (.mov (.t 17))⟩])
 .ret)
 .skip))
 (.seq
 (.reg [
 ⟨(some 2), none, .p (.mov (.c (.val .nilIface)))⟩])
 .ret)))
def r17 : List RS := [.t 2]
theorem c17 : chkF Tryd.prog drawB Tryd.f17 i17 r17 = true := by kernel_rfl
def l18_0 : IC := .keep [3, 11, 12, 13]
 (.seq
 (.reg [
 ⟨(some 14), none, .p (.bin .lss (.i .i64) (.t 13) (.t 12))⟩])
 (.seq
 (.cond (.t 14)
 .skip
 (.exit 0))
 (.seq
 (.blk 1
 (.seq
 (.reg [
 ⟨(some 15), none, .p (.ia 3 (.t 11) (.t 13))⟩,
 ⟨(some 16), none, .p (.ldn 3 (.t 15))⟩,
 ⟨(some 5), none, .e (.alc 71 [st ⟨#[]⟩, i64 0, i64 0])⟩,
 ⟨none, none, .e (.st 3 (.t 5) (.t 16))⟩])
 (.seq
 (.seq
 (.reg [
 ⟨(some 17), none, .p (.fa 1 (.t 5))⟩,
 ⟨(some 18), none, .p (.ld1 (.t 17))⟩,
 ⟨(some 19), none, .p (.bin .lss (.i .i64) (.t 18) (.c (i64 (-1000000000))))⟩,
 ⟨(some 20), none, .p (.mov (.t 19))⟩,
 ⟨(some 21), (some (20, false)), .p (.fa 1 (.t 5))⟩,
 ⟨(some 22), (some (20, false)), .p (.ld1 (.t 21))⟩,
 ⟨(some 23), (some (20, false)), .p (.bin .gtr (.i .i64) (.t 22) (.c (i64 1000000000)))⟩,
 ⟨(some 24), none, .p (.pick (.t 20) (.c (bl true)) (.t 23))⟩])
 (.cond (.t 24)
 (.seq
 (.reg [
 ⟨(some 25), none, .p (.fa 2 (.t 5))⟩,
 ⟨(some 26), none, .p (.ld1 (.t 25))⟩,
 ⟨(some 27), none, .e (.call (.c (.fn (.func 28) [] [])) [(.c (i64 2)), (.t 26)])⟩,
 ⟨(some 2), none, .p (.mov (.t 27))⟩])
 .ret)
 .skip))
 (.seq
 (.seq
 (.reg [
 ⟨(some 28), none, .p (.mov (.t 3))⟩,
 ⟨(some 29), none, .p (.fa 0 (.t 5))⟩,
 ⟨(some 30), none, .p (.ld1 (.t 29))⟩,
 ⟨(some 31), none, .p (.lkp .s false (bl false) (.t 28) (.t 30))⟩])
 (.cond (.t 31)
 (.seq
 (.reg [
 ⟨(some 32), none, .p (.fa 2 (.t 5))⟩,
 ⟨(some 33), none, .p (.ld1 (.t 32))⟩,
 ⟨(some 34), none, .e (.call (.c (.fn (.func 28) [] [])) [(.c (i64 8)), (.t 33)])⟩,
 ⟨(some 2), none, .p (.mov (.t 34))⟩])
 .ret)
 .skip))
 (.reg [
 ⟨(some 35), none, .p (.mov (.t 3))⟩,
 ⟨(some 36), none, .p (.fa 0 (.t 5))⟩,
 ⟨(some 37), none, .p (.ld1 (.t 36))⟩,
 ⟨none, none, .e (.mup .s (.t 35) (.t 37) (.c (bl true)))⟩])))))
 (.reg [
 ⟨(some 38), none, .p (.bin .add (.i .i64) (.t 13) (.c (i64 1)))⟩,
 ⟨(some 13), none, .p (.mov (.t 38))⟩]))))
/-- (*parlour/types.checker).variables -/
def i18 : IC :=
 (.seq
 (.reg [
 ⟨(some 2), none, .p (.mov (.c (.val .nilIface)))⟩])
 (.seq
 (.reg [
 ⟨(some 6), none, .e (.mkm 44)⟩,
 ⟨(some 3), none, .p (.mov (.t 6))⟩])
 (.seq
 (.seq
 (.reg [
 ⟨(some 7), none, .p (.mov (.t 0))⟩,
 ⟨(some 8), none, .p (.nck (.t 7))⟩,
 ⟨(some 9), none, .p (.fa 2 (.t 8))⟩,
 ⟨(some 10), none, .p (.fa 2 (.t 9))⟩,
 ⟨(some 11), none, .p (.ld1 (.t 10))⟩,
 ⟨(some 12), none, .p (.len (.t 11))⟩,
 ⟨(some 13), none, .p (.mov (.c (i64 0)))⟩])
 (.blk 0
 (.loop l18_0)))
 (.seq
 (.reg [
 ⟨(some 2), none, .p (.mov (.c (.val .nilIface)))⟩])
 .ret))))
def r18 : List RS := [.t 2]
theorem c18 : chkF Tryd.prog drawB Tryd.f18 i18 r18 = true := by kernel_rfl
def l19_0 : IC := .keep [3, 11, 12, 13]
 (.seq
 (.reg [
 ⟨(some 14), none, .p (.bin .lss (.i .i64) (.t 13) (.t 12))⟩])
 (.seq
 (.cond (.t 14)
 .skip
 (.exit 0))
 (.seq
 (.blk 1
 (.seq
 (.reg [
 ⟨(some 15), none, .p (.ia 12 (.t 11) (.t 13))⟩,
 ⟨(some 16), none, .p (.ldn 12 (.t 15))⟩,
 ⟨(some 5), none, .e (.alc 74 [i64 0, st ⟨#[]⟩, st ⟨#[]⟩, i64 0, i64 0, .val (.slice none 0 0), bl false, .val (.slice none 0 0), .val (.slice none 0 0), .val (.slice none 0 0), .val (.slice none 0 0), i64 0])⟩,
 ⟨none, none, .e (.st 12 (.t 5) (.t 16))⟩])
 (.seq
 (.seq
 (.reg [
 ⟨(some 17), none, .p (.fa 1 (.t 5))⟩,
 ⟨(some 18), none, .p (.ld1 (.t 17))⟩,
 ⟨(some 19), none, .p (.bin .eql .s (.t 18) (.c (st ⟨#[]⟩)))⟩])
 (.cond (.t 19)
 (.exit 1)
 .skip))
 (.seq
 (.seq
 (.reg [
 ⟨(some 20), none, .p (.mov (.t 3))⟩,
 ⟨(some 21), none, .p (.fa 1 (.t 5))⟩,
 ⟨(some 22), none, .p (.ld1 (.t 21))⟩,
 ⟨(some 23), none, .p (.lkp .s false (bl false) (.t 20) (.t 22))⟩])
 (.cond (.t 23)
 (.seq
 (.reg [
 ⟨(some 24), none, .p (.fa 11 (.t 5))⟩,
 ⟨(some 25), none, .p (.ld1 (.t 24))⟩,
 ⟨(some 26), none, .e (.call (.c (.fn (.func 28) [] [])) [(.c (i64 8)), (.t 25)])⟩,
 ⟨(some 2), none, .p (.mov (.t 26))⟩])
 .ret)
 .skip))
 (.reg [
 ⟨(some 27), none, .p (.mov (.t 3))⟩,
 ⟨(some 28), none, .p (.fa 1 (.t 5))⟩,
 ⟨(some 29), none, .p (.ld1 (.t 28))⟩,
 ⟨none, none, .e (.mup .s (.t 27) (.t 29) (.c (bl true)))⟩])))))
 (.reg [
 ⟨(some 30), none, .p (.bin .add (.i .i64) (.t 13) (.c (i64 1)))⟩,
 ⟨(some 13), none, .p (.mov (.t 30))⟩]))))
/-- (*parlour/types.checker).different -/
def i19 : IC :=
 (.seq
 (.reg [
 ⟨(some 2), none, .p (.mov (.c (.val .nilIface)))⟩])
 (.seq
 (.reg [
 ⟨(some 6), none, .e (.mkm 44)⟩,
 ⟨(some 3), none, .p (.mov (.t 6))⟩])
 (.seq
 (.seq
 (.reg [
 ⟨(some 7), none, .p (.mov (.t 0))⟩,
 ⟨(some 8), none, .p (.nck (.t 7))⟩,
 ⟨(some 9), none, .p (.fa 2 (.t 8))⟩,
 ⟨(some 10), none, .p (.fa 3 (.t 9))⟩,
 ⟨(some 11), none, .p (.ld1 (.t 10))⟩,
 ⟨(some 12), none, .p (.len (.t 11))⟩,
 ⟨(some 13), none, .p (.mov (.c (i64 0)))⟩])
 (.blk 0
 (.loop l19_0)))
 (.seq
 (.reg [
 ⟨(some 2), none, .p (.mov (.c (.val .nilIface)))⟩])
 .ret))))
def r19 : List RS := [.t 2]
theorem c19 : chkF Tryd.prog drawB Tryd.f19 i19 r19 = true := by kernel_rfl
/-- (*parlour/types.checker).last -/
def i20 : IC :=
 (.seq
 (.reg [
 ⟨(some 2), none, .p (.mov (.c (.val .nilIface)))⟩])
 (.seq
 (.seq
 (.reg [
 ⟨(some 4), none, .p (.mov (.t 0))⟩,
 ⟨(some 5), none, .p (.nck (.t 4))⟩,
 ⟨(some 6), none, .p (.fa 2 (.t 5))⟩,
 ⟨(some 7), none, .p (.fa 3 (.t 6))⟩,
 ⟨(some 8), none, .p (.ld1 (.t 7))⟩,
 ⟨(some 9), none, .p (.len (.t 8))⟩,
 ⟨(some 10), none, .p (.bin .eql (.i .i64) (.t 9) (.c (i64 0)))⟩])
 (.cond (.t 10)
 (.seq
 (.reg [
 ⟨(some 11), none, .e (.call (.c (.fn (.func 28) [] [])) [(.c (i64 3)), (.c (i64 0))])⟩,
 ⟨(some 2), none, .p (.mov (.t 11))⟩])
 .ret)
 .skip))
 (.seq
 (.seq
 (.drw [0, 1, 2, 3, 4, 5, 6, 7, 8, 9, 10, 11, 12, 13, 14, 15] [
 ⟨(some 12), none, .p (.mov (.t 0))⟩,
 ⟨(some 13), none, .p (.nck (.t 12))⟩,
 ⟨(some 14), none, .p (.fa 2 (.t 13))⟩,
 ⟨(some 15), none, .p (.fa 3 (.t 14))⟩,
 ⟨(some 16), none, .p (.ld1 (.t 15))⟩,
 ⟨(some 17), none, .p (.mov (.t 0))⟩,
 ⟨(some 18), none, .p (.nck (.t 17))⟩,
 ⟨(some 19), none, .p (.fa 2 (.t 18))⟩,
 ⟨(some 20), none, .p (.fa 3 (.t 19))⟩,
 ⟨(some 21), none, .p (.ld1 (.t 20))⟩,
 ⟨(some 22), none, .p (.len (.t 21))⟩,
 ⟨(some 23), none, .p (.bin .sub (.i .i64) (.t 22) (.c (i64 1)))⟩,
 ⟨(some 24), none, .p (.ia 12 (.t 16) (.t 23))⟩,
 ⟨(some 25), none, .p (.ldn 12 (.t 24))⟩,
 ⟨(some 3), none, .e (.alc 74 [i64 0, st ⟨#[]⟩, st ⟨#[]⟩, i64 0, i64 0, .val (.slice none 0 0), bl false, .val (.slice none 0 0), .val (.slice none 0 0), .val (.slice none 0 0), .val (.slice none 0 0), i64 0])⟩,
 ⟨none, none, .e (.st 12 (.t 3) (.t 25))⟩])
 (.seq
 (.reg [
 ⟨(some 26), none, .p (.fa 0 (.t 3))⟩,
 ⟨(some 27), none, .p (.ld1 (.t 26))⟩,
 ⟨(some 28), none, .p (.bin .neq (.i .i64) (.t 27) (.c (i64 3)))⟩])
 (.cond (.t 28)
 (.seq
 (.reg [
 ⟨(some 29), none, .p (.fa 11 (.t 3))⟩,
 ⟨(some 30), none, .p (.ld1 (.t 29))⟩,
 ⟨(some 31), none, .e (.call (.c (.fn (.func 28) [] [])) [(.c (i64 3)), (.t 30)])⟩,
 ⟨(some 2), none, .p (.mov (.t 31))⟩])
 .ret)
 .skip)))
 (.seq
 (.reg [
 ⟨(some 2), none, .p (.mov (.c (.val .nilIface)))⟩])
 .ret))))
def r20 : List RS := [.t 2]
theorem c20 : chkF Tryd.prog drawB Tryd.f20 i20 r20 = true := by kernel_rfl
def l21_0 : IC := .keep [0, 10, 11, 12]
 (.seq
 (.reg [
 ⟨(some 13), none, .p (.bin .lss (.i .i64) (.t 12) (.t 11))⟩])
 (.seq
 (.cond (.t 13)
 .skip
 (.exit 0))
 (.seq
 (.blk 1
 (.seq
 (.reg [
 ⟨(some 14), none, .p (.mov (.t 12))⟩,
 ⟨(some 15), none, .p (.ia 12 (.t 10) (.t 12))⟩,
 ⟨(some 16), none, .p (.ldn 12 (.t 15))⟩,
 ⟨(some 4), none, .e (.alc 74 [i64 0, st ⟨#[]⟩, st ⟨#[]⟩, i64 0, i64 0, .val (.slice none 0 0), bl false, .val (.slice none 0 0), .val (.slice none 0 0), .val (.slice none 0 0), .val (.slice none 0 0), i64 0])⟩,
 ⟨(some 3), none, .p (.mov (.t 14))⟩,
 ⟨none, none, .e (.st 12 (.t 4) (.t 16))⟩])
 (.seq
 (.reg [
 ⟨(some 5), none, .p (.mov (.c (.val .nilIface)))⟩])
 (.seq
 (.blk 2
 (.seq
 (.seq
 (.reg [
 ⟨(some 21), none, .p (.fa 5 (.t 4))⟩,
 ⟨(some 22), none, .p (.ld1 (.t 21))⟩,
 ⟨(some 23), none, .p (.len (.t 22))⟩,
 ⟨(some 24), none, .p (.bin .gtr (.i .i64) (.t 23) (.c (i64 1)))⟩,
 ⟨(some 20), none, .p (.mov (.t 24))⟩])
 (.cond (.t 20)
 .skip
 (.reg [
 ⟨(some 25), none, .p (.fa 0 (.t 4))⟩,
 ⟨(some 26), none, .p (.ld1 (.t 25))⟩,
 ⟨(some 27), none, .p (.bin .eql (.i .i64) (.t 26) (.c (i64 2)))⟩,
 ⟨(some 28), none, .p (.mov (.t 27))⟩,
 ⟨(some 29), (some (28, true)), .p (.fa 8 (.t 4))⟩,
 ⟨(some 30), (some (28, true)), .p (.ld1 (.t 29))⟩,
 ⟨(some 31), (some (28, true)), .p (.len (.t 30))⟩,
 ⟨(some 32), (some (28, true)), .p (.bin .neq (.i .i64) (.t 31) (.c (i64 1)))⟩,
 ⟨(some 33), none, .p (.pick (.t 28) (.t 32) (.c (bl false)))⟩,
 ⟨(some 20), none, .p (.mov (.t 33))⟩])))
 (.cond (.t 20)
 (.reg [
 ⟨(some 34), none, .p (.fa 11 (.t 4))⟩,
 ⟨(some 35), none, .p (.ld1 (.t 34))⟩,
 ⟨(some 36), none, .e (.call (.c (.fn (.func 28) [] [])) [(.c (i64 3)), (.t 35)])⟩,
 ⟨(some 5), none, .p (.mov (.t 36))⟩])
 (.seq
 (.reg [
 ⟨(some 38), none, .p (.fa 0 (.t 4))⟩,
 ⟨(some 39), none, .p (.ld1 (.t 38))⟩,
 ⟨(some 40), none, .p (.bin .eql (.i .i64) (.t 39) (.c (i64 1)))⟩,
 ⟨(some 37), none, .p (.mov (.t 40))⟩])
 (.cond (.t 37)
 (.reg [
 ⟨(some 41), none, .p (.mov (.t 0))⟩,
 ⟨(some 42), none, .p (.ldn 12 (.t 4))⟩,
 ⟨(some 43), none, .e (.call (.c (.fn (.func 29) [] [])) [(.t 41), (.t 42)])⟩,
 ⟨(some 5), none, .p (.mov (.t 43))⟩])
 (.seq
 (.reg [
 ⟨(some 45), none, .p (.fa 0 (.t 4))⟩,
 ⟨(some 46), none, .p (.ld1 (.t 45))⟩,
 ⟨(some 47), none, .p (.bin .eql (.i .i64) (.t 46) (.c (i64 2)))⟩,
 ⟨(some 44), none, .p (.mov (.t 47))⟩])
 (.cond (.t 44)
 (.reg [
 ⟨(some 48), none, .p (.mov (.t 0))⟩,
 ⟨(some 49), none, .p (.mov (.t 3))⟩,
 ⟨(some 50), none, .p (.ldn 12 (.t 4))⟩,
 ⟨(some 51), none, .e (.call (.c (.fn (.func 30) [] [])) [(.t 48), (.t 49), (.t 50)])⟩,
 ⟨(some 5), none, .p (.mov (.t 51))⟩])
 (.seq
 (.reg [
 ⟨(some 53), none, .p (.fa 0 (.t 4))⟩,
 ⟨(some 54), none, .p (.ld1 (.t 53))⟩,
 ⟨(some 55), none, .p (.bin .eql (.i .i64) (.t 54) (.c (i64 3)))⟩,
 ⟨(some 52), none, .p (.mov (.t 55))⟩])
 (.cond (.t 52)
 (.reg [
 ⟨(some 56), none, .p (.mov (.t 0))⟩,
 ⟨(some 57), none, .p (.ldn 12 (.t 4))⟩,
 ⟨(some 58), none, .e (.call (.c (.fn (.func 31) [] [])) [(.t 56), (.t 57)])⟩,
 ⟨(some 5), none, .p (.mov (.t 58))⟩])
 (.reg [
 ⟨(some 17), none, .p (.fa 11 (.t 4))⟩,
 ⟨(some 18), none, .p (.ld1 (.t 17))⟩,
 ⟨(some 19), none, .e (.call (.c (.fn (.func 28) [] [])) [(.c (i64 3)), (.t 18)])⟩,
 ⟨(some 5), none, .p (.mov (.t 19))⟩]))))))))))
 (.seq
 (.reg [
 ⟨(some 59), none, .p (.mov (.t 5))⟩,
 ⟨(some 60), none, .p (.ifn true true (.t 59))⟩])
 (.cond (.t 60)
 (.seq
 (.reg [
 ⟨(some 61), none, .p (.mov (.t 5))⟩,
 ⟨(some 2), none, .p (.mov (.t 61))⟩])
 .ret)
 .skip))))))
 (.reg [
 ⟨(some 62), none, .p (.bin .add (.i .i64) (.t 12) (.c (i64 1)))⟩,
 ⟨(some 12), none, .p (.mov (.t 62))⟩]))))
/-- (*parlour/types.checker).stages -/
def i21 : IC :=
 (.seq
 (.reg [
 ⟨(some 2), none, .p (.mov (.c (.val .nilIface)))⟩])
 (.seq
 (.seq
 (.reg [
 ⟨(some 6), none, .p (.mov (.t 0))⟩,
 ⟨(some 7), none, .p (.nck (.t 6))⟩,
 ⟨(some 8), none, .p (.fa 2 (.t 7))⟩,
 ⟨(some 9), none, .p (.fa 3 (.t 8))⟩,
 ⟨(some 10), none, .p (.ld1 (.t 9))⟩,
 ⟨(some 11), none, .p (.len (.t 10))⟩,
 ⟨(some 12), none, .p (.mov (.c (i64 0)))⟩])
 (.blk 0
 (.loop l21_0)))
 (.seq
 (.reg [
 ⟨(some 2), none, .p (.mov (.c (.val .nilIface)))⟩])
 .ret)))
def r21 : List RS := [.t 2]
theorem c21 : chkF Tryd.prog drawB Tryd.f21 i21 r21 = true := by kernel_rfl
/-- parlour/types.faultOf -/
def i22 : IC :=
 (.seq
 (.reg [
 ⟨(some 2), none, .e (.alc 25 [i64 0, i64 0])⟩])
 (.seq
 (.reg [
 ⟨(some 3), none, .e (.alc 80 [i64 0, i64 0])⟩])
 (.seq
 (.seq
 (.reg [
 ⟨(some 4), none, .p (.mov (.t 0))⟩,
 ⟨(some 5), none, .p (.mki 82 (.t 3))⟩,
 ⟨(some 6), none, .e (.call (.c (.fn (.func 32) [] [])) [(.t 4), (.t 5)])⟩])
 (.cond (.t 6)
 (.seq
 (.reg [
 ⟨(some 7), none, .p (.fa 0 (.t 3))⟩,
 ⟨(some 8), none, .p (.ldn 2 (.t 7))⟩,
 ⟨none, none, .e (.st 2 (.t 2) (.t 8))⟩])
 .ret)
 .skip))
 (.seq
 (.reg [
 ⟨(some 9), none, .p (.bld [i64 0, i64 0] [])⟩,
 ⟨none, none, .e (.st 2 (.t 2) (.t 9))⟩])
 .ret))))
def r22 : List RS := [.cn 2 2]
theorem c22 : chkF Tryd.prog drawB Tryd.f22 i22 r22 = true := by kernel_rfl
def l23_0 : IC := .keep [2, 3, 6, 7]
 (.seq
 (.seq
 (.reg [
 ⟨(some 39), none, .p (.mov (.t 6))⟩,
 ⟨(some 40), none, .e (.call (.c (.fn (.func 37) [] [])) [(.t 39), (.c (st ⟨#[118, 97, 114]⟩))])⟩])
 (.cond (.t 40)
 .skip
 (.exit 0)))
 (.blk 1
 (.seq
 (.reg [
 ⟨(some 41), none, .p (.mov (.t 6))⟩,
 ⟨(some 42), none, .e (.call (.c (.fn (.func 34) [] [])) [(.t 41), (.c (st ⟨#[118, 97, 114]⟩))])⟩])
 (.seq
 (.seq
 (.reg [
 ⟨(some 43), none, .p (.fa 2 (.t 7))⟩,
 ⟨(some 44), none, .p (.ld1 (.t 43))⟩,
 ⟨(some 45), none, .p (.len (.t 44))⟩,
 ⟨(some 46), none, .p (.bin .eql (.i .i64) (.t 45) (.c (i64 40)))⟩,
 ⟨(some 47), none, .p (.mov (.t 46))⟩,
 ⟨(some 48), (some (47, true)), .p (.mov (.t 6))⟩,
 ⟨(some 49), (some (47, true)), .q (.c (.fn (.func 38) [] [])) [(.t 48)]⟩,
 ⟨(some 50), none, .p (.pick (.t 47) (.t 49) (.c (bl false)))⟩])
 (.cond (.t 50)
 (.reg [
 ⟨(some 51), none, .p (.mov (.t 6))⟩,
 ⟨(some 52), none, .e (.call (.c (.fn (.func 39) [] [])) [(.t 51), (.c (i64 12))])⟩])
 .skip))
 (.seq
 (.reg [
 ⟨(some 53), none, .p (.mov (.t 6))⟩,
 ⟨(some 54), none, .e (.call (.c (.fn (.func 40) [] [])) [(.t 53)])⟩,
 ⟨(some 55), none, .p (.bld [st ⟨#[]⟩, i64 0, i64 0] [(2, 1, (.t 54))])⟩,
 ⟨(some 8), none, .e (.alc 71 [st ⟨#[]⟩, i64 0, i64 0])⟩,
 ⟨none, none, .e (.st 3 (.t 8) (.t 55))⟩])
 (.seq
 (.reg [
 ⟨(some 56), none, .p (.mov (.t 6))⟩,
 ⟨(some 57), none, .e (.call (.c (.fn (.func 35) [] [])) [(.t 56)])⟩,
 ⟨(some 58), none, .p (.fa 0 (.t 8))⟩,
 ⟨none, none, .e (.st 1 (.t 58) (.t 57))⟩])
 (.seq
 (.reg [
 ⟨(some 59), none, .p (.mov (.t 6))⟩,
 ⟨(some 60), none, .e (.call (.c (.fn (.func 34) [] [])) [(.t 59), (.c (st ⟨#[61]⟩))])⟩])
 (.seq
 (.reg [
 ⟨(some 9), none, .p (.mov (.c (i64 1)))⟩])
 (.seq
 (.seq
 (.reg [
 ⟨(some 61), none, .p (.mov (.t 6))⟩,
 ⟨(some 62), none, .e (.call (.c (.fn (.func 37) [] [])) [(.t 61), (.c (st ⟨#[45]⟩))])⟩])
 (.cond (.t 62)
 (.seq
 (.reg [
 ⟨(some 63), none, .p (.mov (.t 6))⟩,
 ⟨(some 64), none, .e (.call (.c (.fn (.func 34) [] [])) [(.t 63), (.c (st ⟨#[45]⟩))])⟩])
 (.reg [
 ⟨(some 9), none, .p (.mov (.c (i64 (-1))))⟩]))
 .skip))
 (.seq
 (.reg [
 ⟨(some 65), none, .p (.mov (.t 9))⟩,
 ⟨(some 66), none, .p (.mov (.t 6))⟩,
 ⟨(some 67), none, .e (.call (.c (.fn (.func 36) [] [])) [(.t 66)])⟩,
 ⟨(some 68), none, .p (.bin .mul (.i .i64) (.t 65) (.t 67))⟩,
 ⟨(some 69), none, .p (.fa 1 (.t 8))⟩,
 ⟨none, none, .e (.st 1 (.t 69) (.t 68))⟩])
 (.seq
 (.reg [
 ⟨(some 70), none, .p (.mov (.t 6))⟩,
 ⟨(some 71), none, .e (.call (.c (.fn (.func 34) [] [])) [(.t 70), (.c (st ⟨#[59]⟩))])⟩])
 (.reg [
 ⟨(some 72), none, .p (.fa 2 (.t 7))⟩,
 ⟨(some 73), none, .p (.ld1 (.t 72))⟩,
 ⟨(some 74), none, .p (.ldn 3 (.t 8))⟩,
 ⟨(some 75), none, .e (.bsl 71 3 1 [st ⟨#[]⟩, i64 0, i64 0] [(0, (.t 74))])⟩,
 ⟨(some 76), none, .e (.app 71 3 32 (.t 73) (.t 75))⟩,
 ⟨(some 77), none, .p (.fa 2 (.t 7))⟩,
 ⟨none, none, .e (.st 1 (.t 77) (.t 76))⟩]))))))))))))
def l23_1 : IC := .keep [2, 3, 6, 7]
 (.seq
 (.seq
 (.drw [0, 1, 2, 3, 4, 5, 6, 7, 8, 9, 10, 11, 12, 13, 14, 15, 16, 17, 18, 19, 20] [
 ⟨(some 78), none, .p (.mov (.t 6))⟩,
 ⟨(some 79), none, .q (.c (.fn (.func 41) [] [])) [(.t 78)]⟩,
 ⟨(some 80), none, .p (.not (.t 79))⟩,
 ⟨(some 81), none, .p (.mov (.t 80))⟩,
 ⟨(some 82), (some (81, true)), .p (.fa 3 (.t 7))⟩,
 ⟨(some 83), (some (81, true)), .p (.ld1 (.t 82))⟩,
 ⟨(some 84), (some (81, true)), .p (.len (.t 83))⟩,
 ⟨(some 85), (some (81, true)), .p (.bin .eql (.i .i64) (.t 84) (.c (i64 0)))⟩,
 ⟨(some 86), (some (81, true)), .p (.mov (.t 85))⟩,
 ⟨(some 87), (some (86, false)), .p (.mov (.t 6))⟩,
 ⟨(some 88), (some (86, false)), .p (.nck (.t 87))⟩,
 ⟨(some 89), (some (86, false)), .p (.fa 2 (.t 88))⟩,
 ⟨(some 90), (some (86, false)), .p (.ld1 (.t 89))⟩,
 ⟨(some 91), (some (86, false)), .p (.mov (.t 6))⟩,
 ⟨(some 92), (some (86, false)), .p (.nck (.t 91))⟩,
 ⟨(some 93), (some (86, false)), .p (.fa 0 (.t 92))⟩,
 ⟨(some 94), (some (86, false)), .p (.ld1 (.t 93))⟩,
 ⟨(some 95), (some (86, false)), .p (.len (.t 94))⟩,
 ⟨(some 96), (some (86, false)), .p (.bin .lss (.i .i64) (.t 90) (.t 95))⟩,
 ⟨(some 97), (some (81, true)), .p (.pick (.t 86) (.c (bl true)) (.t 96))⟩,
 ⟨(some 98), none, .p (.pick (.t 81) (.t 97) (.c (bl false)))⟩])
 (.cond (.t 98)
 .skip
 (.exit 2)))
 (.blk 3
 (.seq
 (.seq
 (.reg [
 ⟨(some 99), none, .p (.fa 3 (.t 7))⟩,
 ⟨(some 100), none, .p (.ld1 (.t 99))⟩,
 ⟨(some 101), none, .p (.len (.t 100))⟩,
 ⟨(some 102), none, .p (.bin .eql (.i .i64) (.t 101) (.c (i64 100)))⟩,
 ⟨(some 103), none, .p (.mov (.t 102))⟩,
 ⟨(some 104), (some (103, true)), .p (.mov (.t 6))⟩,
 ⟨(some 105), (some (103, true)), .q (.c (.fn (.func 38) [] [])) [(.t 104)]⟩,
 ⟨(some 106), (some (103, true)), .p (.mov (.t 105))⟩,
 ⟨(some 107), (some (106, false)), .p (.mov (.t 6))⟩,
 ⟨(some 108), (some (106, false)), .q (.c (.fn (.func 37) [] [])) [(.t 107), (.c (st ⟨#[100, 101, 97, 108]⟩))]⟩,
 ⟨(some 109), (some (103, true)), .p (.pick (.t 106) (.c (bl true)) (.t 108))⟩,
 ⟨(some 110), (some (103, true)), .p (.mov (.t 109))⟩,
 ⟨(some 111), (some (110, false)), .p (.mov (.t 6))⟩,
 ⟨(some 112), (some (110, false)), .q (.c (.fn (.func 37) [] [])) [(.t 111), (.c (st ⟨#[116, 117, 114, 110]⟩))]⟩,
 ⟨(some 113), (some (103, true)), .p (.pick (.t 110) (.c (bl true)) (.t 112))⟩,
 ⟨(some 114), (some (103, true)), .p (.mov (.t 113))⟩,
 ⟨(some 115), (some (114, false)), .p (.mov (.t 6))⟩,
 ⟨(some 116), (some (114, false)), .q (.c (.fn (.func 37) [] [])) [(.t 115), (.c (st ⟨#[101, 110, 100]⟩))]⟩,
 ⟨(some 117), (some (103, true)), .p (.pick (.t 114) (.c (bl true)) (.t 116))⟩,
 ⟨(some 118), none, .p (.pick (.t 103) (.t 117) (.c (bl false)))⟩])
 (.cond (.t 118)
 (.reg [
 ⟨(some 119), none, .p (.mov (.t 6))⟩,
 ⟨(some 120), none, .e (.call (.c (.fn (.func 39) [] [])) [(.t 119), (.c (i64 12))])⟩])
 .skip))
 (.drw [0, 1, 2, 3, 4, 5, 6, 7] [
 ⟨(some 121), none, .p (.fa 3 (.t 7))⟩,
 ⟨(some 122), none, .p (.ld1 (.t 121))⟩,
 ⟨(some 123), none, .p (.mov (.t 6))⟩,
 ⟨(some 124), none, .e (.call (.c (.fn (.func 42) [] [])) [(.t 123)])⟩,
 ⟨(some 125), none, .e (.bsl 74 12 1 [i64 0, st ⟨#[]⟩, st ⟨#[]⟩, i64 0, i64 0, .val (.slice none 0 0), bl false, .val (.slice none 0 0), .val (.slice none 0 0), .val (.slice none 0 0), .val (.slice none 0 0), i64 0] [(0, (.t 124))])⟩,
 ⟨(some 126), none, .e (.app 74 12 192 (.t 122) (.t 125))⟩,
 ⟨(some 127), none, .p (.fa 3 (.t 7))⟩,
 ⟨none, none, .e (.stw [122] 1 (.t 127) (.t 126))⟩]))))
/-- parlour/parlourref07.Parse -/
def i23 : IC :=
 (.seq
 (.reg [
 ⟨(some 2), none, .e (.alc 30 [st ⟨#[]⟩, i64 0, .val (.slice none 0 0), .val (.slice none 0 0)])⟩,
 ⟨(some 3), none, .e (.alc 25 [i64 0, i64 0])⟩])
 (.seq
 (.reg [
 ⟨(some 11), none, .p (.mov (.t 0))⟩,
 ⟨(some 12), none, .e (.call (.c (.fn (.func 33) [] [])) [(.t 11)])⟩,
 ⟨(some 10), none, .p (.mov (.t 12))⟩,
 ⟨(some 13), none, .p (.ext (.t 10) 0)⟩,
 ⟨(some 14), none, .p (.ext (.t 10) 1)⟩,
 ⟨(some 5), none, .e (.alc 25 [i64 0, i64 0])⟩,
 ⟨(some 4), none, .p (.mov (.t 13))⟩,
 ⟨none, none, .e (.st 2 (.t 5) (.t 14))⟩])
 (.seq
 (.seq
 (.reg [
 ⟨(some 15), none, .p (.fa 0 (.t 5))⟩,
 ⟨(some 16), none, .p (.ld1 (.t 15))⟩,
 ⟨(some 17), none, .p (.bin .neq (.i .i64) (.t 16) (.c (i64 0)))⟩])
 (.cond (.t 17)
 (.seq
 (.drw [0, 1, 2, 3] [
 ⟨(some 18), none, .p (.bld [st ⟨#[]⟩, i64 0, .val (.slice none 0 0), .val (.slice none 0 0)] [])⟩,
 ⟨(some 19), none, .p (.ldn 2 (.t 5))⟩,
 ⟨none, none, .e (.st 4 (.t 2) (.t 18))⟩,
 ⟨none, none, .e (.st 2 (.t 3) (.t 19))⟩])
 .ret)
 .skip))
 (.seq
 (.reg [
 ⟨(some 20), none, .p (.mov (.t 4))⟩,
 ⟨(some 21), none, .p (.mov (.t 0))⟩,
 ⟨(some 22), none, .p (.lens (.t 21))⟩,
 ⟨(some 23), none, .p (.bld [.val (.slice none 0 0), i64 0, i64 0, i64 0, i64 0, i64 0] [(0, 1, (.t 20)), (1, 1, (.t 22))])⟩,
 ⟨(some 24), none, .e (.box 88 (.t 23))⟩,
 ⟨(some 6), none, .p (.mov (.t 24))⟩])
 (.seq
 (.reg [
 ⟨(some 7), none, .e (.alc 30 [st ⟨#[]⟩, i64 0, .val (.slice none 0 0), .val (.slice none 0 0)])⟩])
 (.seq
 (.reg [
 ⟨(some 25), none, .p (.mov (.t 6))⟩,
 ⟨(some 26), none, .e (.call (.c (.fn (.func 34) [] [])) [(.t 25), (.c (st ⟨#[103, 97, 109, 101]⟩))])⟩])
 (.seq
 (.reg [
 ⟨(some 27), none, .p (.mov (.t 6))⟩,
 ⟨(some 28), none, .e (.call (.c (.fn (.func 35) [] [])) [(.t 27)])⟩,
 ⟨(some 29), none, .p (.fa 0 (.t 7))⟩,
 ⟨none, none, .e (.st 1 (.t 29) (.t 28))⟩])
 (.seq
 (.reg [
 ⟨(some 30), none, .p (.mov (.t 6))⟩,
 ⟨(some 31), none, .e (.call (.c (.fn (.func 34) [] [])) [(.t 30), (.c (st ⟨#[59]⟩))])⟩])
 (.seq
 (.reg [
 ⟨(some 32), none, .p (.mov (.t 6))⟩,
 ⟨(some 33), none, .e (.call (.c (.fn (.func 34) [] [])) [(.t 32), (.c (st ⟨#[112, 108, 97, 121, 101, 114, 115]⟩))])⟩])
 (.seq
 (.reg [
 ⟨(some 34), none, .p (.mov (.t 6))⟩,
 ⟨(some 35), none, .e (.call (.c (.fn (.func 36) [] [])) [(.t 34)])⟩,
 ⟨(some 36), none, .p (.fa 1 (.t 7))⟩,
 ⟨none, none, .e (.st 1 (.t 36) (.t 35))⟩])
 (.seq
 (.reg [
 ⟨(some 37), none, .p (.mov (.t 6))⟩,
 ⟨(some 38), none, .e (.call (.c (.fn (.func 34) [] [])) [(.t 37), (.c (st ⟨#[59]⟩))])⟩])
 (.seq
 (.blk 0
 (.loop l23_0))
 (.seq
 (.blk 2
 (.loop l23_1))
 (.seq
 (.seq
 (.reg [
 ⟨(some 128), none, .p (.mov (.t 6))⟩,
 ⟨(some 129), none, .e (.call (.c (.fn (.func 41) [] [])) [(.t 128)])⟩])
 (.cond (.t 129)
 (.seq
 (.drw [0, 1, 2, 3, 4, 5, 6] [
 ⟨(some 130), none, .p (.bld [st ⟨#[]⟩, i64 0, .val (.slice none 0 0), .val (.slice none 0 0)] [])⟩,
 ⟨(some 131), none, .p (.mov (.t 6))⟩,
 ⟨(some 132), none, .p (.nck (.t 131))⟩,
 ⟨(some 133), none, .p (.fa 4 (.t 132))⟩,
 ⟨(some 134), none, .p (.ldn 2 (.t 133))⟩,
 ⟨none, none, .e (.st 4 (.t 2) (.t 130))⟩,
 ⟨none, none, .e (.st 2 (.t 3) (.t 134))⟩])
 .ret)
 .skip))
 (.seq
 (.reg [
 ⟨(some 135), none, .p (.ldn 4 (.t 7))⟩,
 ⟨(some 136), none, .p (.bld [i64 0, i64 0] [])⟩,
 ⟨none, none, .e (.st 4 (.t 2) (.t 135))⟩,
 ⟨none, none, .e (.st 2 (.t 3) (.t 136))⟩])
 .ret)))))))))))))))
def r23 : List RS := [.cn 2 4, .cn 3 2]
theorem c23 : chkF Tryd.prog drawB Tryd.f23 i23 r23 = true := by kernel_rfl
def l24_0 : IC := .keep [0, 2, 4, 8, 11, 82, 83, 84]
 (.seq
 (.reg [
 ⟨(some 85), none, .p (.bin .lss (.i .i64) (.t 84) (.t 83))⟩])
 (.seq
 (.cond (.t 85)
 .skip
 (.exit 0))
 (.seq
 (.blk 1
 (.seq
 (.reg [
 ⟨(some 86), none, .p (.ia 5 (.t 82) (.t 84))⟩,
 ⟨(some 87), none, .p (.ldn 5 (.t 86))⟩,
 ⟨(some 13), none, .e (.alc 36 [i64 0, i64 0, st ⟨#[]⟩, .val (.slice none 0 0), i64 0])⟩,
 ⟨none, none, .e (.st 5 (.t 13) (.t 87))⟩])
 (.seq
 (.reg [
 ⟨(some 89), none, .p (.mov (.t 0))⟩,
 ⟨(some 90), none, .p (.ldn 5 (.t 13))⟩,
 ⟨(some 91), none, .p (.mov (.t 2))⟩,
 ⟨(some 92), none, .p (.bin .add (.i .i64) (.t 91) (.c (i64 1)))⟩,
 ⟨(some 93), none, .e (.call (.c (.fn (.func 24) [] [])) [(.t 89), (.t 90), (.t 92)])⟩,
 ⟨(some 88), none, .p (.mov (.t 93))⟩,
 ⟨(some 94), none, .p (.ext (.t 88) 0)⟩,
 ⟨(some 95), none, .p (.ext (.t 88) 1)⟩,
 ⟨(some 14), none, .p (.mov (.t 94))⟩,
 ⟨(some 15), none, .p (.mov (.t 95))⟩])
 (.seq
 (.seq
 (.reg [
 ⟨(some 96), none, .p (.mov (.t 15))⟩,
 ⟨(some 97), none, .p (.ifn true true (.t 96))⟩])
 (.cond (.t 97)
 (.seq
 (.reg [
 ⟨(some 98), none, .p (.mov (.t 15))⟩,
 ⟨(some 6), none, .p (.mov (.c (i64 0)))⟩,
 ⟨(some 7), none, .p (.mov (.t 98))⟩])
 .ret)
 .skip))
 (.reg [
 ⟨(some 99), none, .p (.mov (.t 11))⟩,
 ⟨(some 100), none, .p (.mov (.t 14))⟩,
 ⟨(some 101), none, .e (.bsl 3 1 1 [i64 0] [(0, (.t 100))])⟩,
 ⟨(some 102), none, .e (.app 3 1 8 (.t 99) (.t 101))⟩,
 ⟨(some 11), none, .p (.mov (.t 102))⟩])))))
 (.reg [
 ⟨(some 103), none, .p (.bin .add (.i .i64) (.t 84) (.c (i64 1)))⟩,
 ⟨(some 84), none, .p (.mov (.t 103))⟩]))))
def l24_1 : IC := .keep [4, 16, 17, 118, 119, 120]
 (.seq
 (.reg [
 ⟨(some 121), none, .p (.bin .lss (.i .i64) (.t 120) (.t 119))⟩])
 (.seq
 (.cond (.t 121)
 .skip
 (.exit 2))
 (.seq
 (.blk 3
 (.seq
 (.reg [
 ⟨(some 122), none, .p (.mov (.t 120))⟩,
 ⟨(some 123), none, .p (.ia 1 (.t 118) (.t 120))⟩,
 ⟨(some 124), none, .p (.ld1 (.t 123))⟩,
 ⟨(some 18), none, .p (.mov (.t 122))⟩,
 ⟨(some 19), none, .p (.mov (.t 124))⟩])
 (.seq
 (.reg [
 ⟨(some 125), none, .p (.mov (.t 19))⟩,
 ⟨(some 126), none, .p (.mov (.t 16))⟩,
 ⟨(some 127), none, .p (.mov (.t 18))⟩,
 ⟨(some 128), none, .p (.ia 1 (.t 126) (.t 127))⟩,
 ⟨(some 129), none, .p (.ld1 (.t 128))⟩,
 ⟨(some 130), none, .p (.bin .neq (.i .i64) (.t 125) (.t 129))⟩])
 (.cond (.t 130)
 (.seq
 (.reg [
 ⟨(some 131), none, .p (.fa 3 (.t 4))⟩,
 ⟨(some 132), none, .p (.ld1 (.t 131))⟩,
 ⟨(some 133), none, .p (.mov (.t 18))⟩,
 ⟨(some 134), none, .p (.ia 5 (.t 132) (.t 133))⟩,
 ⟨(some 135), none, .p (.fa 4 (.t 134))⟩,
 ⟨(some 136), none, .p (.ld1 (.t 135))⟩,
 ⟨(some 137), none, .e (.call (.c (.fn (.func 28) [] [])) [(.c (i64 10)), (.t 136)])⟩,
 ⟨(some 6), none, .p (.mov (.c (i64 0)))⟩,
 ⟨(some 7), none, .p (.mov (.t 137))⟩])
 .ret)
 .skip))))
 (.reg [
 ⟨(some 138), none, .p (.bin .add (.i .i64) (.t 120) (.c (i64 1)))⟩,
 ⟨(some 120), none, .p (.mov (.t 138))⟩]))))
/-- (*parlour/types.typer).kind -/
def i24 : IC :=
 (.seq
 (.reg [
 ⟨(some 4), none, .e (.box 36 (.t 1))⟩,
 ⟨(some 6), none, .p (.mov (.c (i64 0)))⟩,
 ⟨(some 7), none, .p (.mov (.c (.val .nilIface)))⟩])
 (.seq
 (.seq
 (.reg [
 ⟨(some 20), none, .p (.mov (.t 2))⟩,
 ⟨(some 21), none, .p (.bin .eql (.i .i64) (.t 20) (.c (i64 100000)))⟩])
 (.cond (.t 21)
 (.seq
 (.reg [
 ⟨(some 22), none, .p (.mov (.t 0))⟩,
 ⟨(some 23), none, .p (.ldn 5 (.t 4))⟩,
 ⟨(some 24), none, .e (.call (.c (.fn (.func 43) [] [])) [(.t 22), (.t 23)])⟩,
 ⟨(some 25), none, .p (.ext (.t 24) 0)⟩,
 ⟨(some 26), none, .p (.ext (.t 24) 1)⟩,
 ⟨(some 6), none, .p (.mov (.t 25))⟩,
 ⟨(some 7), none, .p (.mov (.t 26))⟩])
 .ret)
 .skip))
 (.seq
 (.drw [0, 1, 2, 3, 4, 5, 6, 7, 8, 9, 10, 11, 12] [
 ⟨(some 28), none, .p (.mov (.t 0))⟩,
 ⟨(some 29), none, .p (.nck (.t 28))⟩,
 ⟨(some 30), none, .p (.fa 1 (.t 29))⟩,
 ⟨(some 31), none, .p (.ld1 (.t 30))⟩,
 ⟨(some 32), none, .p (.fa 0 (.t 4))⟩,
 ⟨(some 33), none, .p (.ld1 (.t 32))⟩,
 ⟨(some 34), none, .p (.lkp (.i .i64) true (.agg [.val (.slice none 0 0), i64 0, .val .nilFunc]) (.t 31) (.t 33))⟩,
 ⟨(some 27), none, .p (.mov (.t 34))⟩,
 ⟨(some 35), none, .p (.ext (.t 27) 0)⟩,
 ⟨(some 36), none, .p (.ext (.t 27) 1)⟩,
 ⟨(some 8), none, .e (.alc 68 [.val (.slice none 0 0), i64 0, .val .nilFunc])⟩,
 ⟨none, none, .e (.st 3 (.t 8) (.t 35))⟩,
 ⟨(some 9), none, .p (.mov (.t 36))⟩])
 (.seq
 (.reg [
 ⟨(some 37), none, .p (.fa 0 (.t 4))⟩,
 ⟨(some 38), none, .p (.ld1 (.t 37))⟩,
 ⟨(some 39), none, .p (.bin .eql (.i .i64) (.t 38) (.c (i64 1)))⟩,
 ⟨(some 40), none, .p (.mov (.t 39))⟩,
 ⟨(some 41), (some (40, false)), .p (.fa 0 (.t 4))⟩,
 ⟨(some 42), (some (40, false)), .p (.ld1 (.t 41))⟩,
 ⟨(some 43), (some (40, false)), .p (.bin .eql (.i .i64) (.t 42) (.c (i64 2)))⟩,
 ⟨(some 44), none, .p (.pick (.t 40) (.c (bl true)) (.t 43))⟩,
 ⟨(some 10), none, .p (.mov (.t 44))⟩])
 (.seq
 (.seq
 (.reg [
 ⟨(some 45), none, .p (.mov (.t 9))⟩,
 ⟨(some 46), none, .p (.not (.t 45))⟩,
 ⟨(some 47), none, .p (.mov (.t 46))⟩,
 ⟨(some 48), (some (47, true)), .p (.mov (.t 10))⟩,
 ⟨(some 49), (some (47, true)), .p (.not (.t 48))⟩,
 ⟨(some 50), none, .p (.pick (.t 47) (.t 49) (.c (bl false)))⟩,
 ⟨(some 51), none, .p (.mov (.t 50))⟩,
 ⟨(some 52), (some (51, false)), .p (.fa 3 (.t 4))⟩,
 ⟨(some 53), (some (51, false)), .p (.ld1 (.t 52))⟩,
 ⟨(some 54), (some (51, false)), .p (.len (.t 53))⟩,
 ⟨(some 55), (some (51, false)), .p (.fa 0 (.t 8))⟩,
 ⟨(some 56), (some (51, false)), .p (.ld1 (.t 55))⟩,
 ⟨(some 57), (some (51, false)), .p (.len (.t 56))⟩,
 ⟨(some 58), (some (51, false)), .p (.bin .neq (.i .i64) (.t 54) (.t 57))⟩,
 ⟨(some 59), none, .p (.pick (.t 51) (.c (bl true)) (.t 58))⟩])
 (.cond (.t 59)
 (.seq
 (.reg [
 ⟨(some 60), none, .p (.fa 4 (.t 4))⟩,
 ⟨(some 61), none, .p (.ld1 (.t 60))⟩,
 ⟨(some 62), none, .e (.call (.c (.fn (.func 28) [] [])) [(.c (i64 3)), (.t 61)])⟩,
 ⟨(some 6), none, .p (.mov (.c (i64 0)))⟩,
 ⟨(some 7), none, .p (.mov (.t 62))⟩])
 .ret)
 .skip))
 (.seq
 (.seq
 (.reg [
 ⟨(some 63), none, .p (.mov (.t 10))⟩])
 (.cond (.t 63)
 (.seq
 (.seq
 (.reg [
 ⟨(some 64), none, .p (.fa 0 (.t 4))⟩,
 ⟨(some 65), none, .p (.ld1 (.t 64))⟩,
 ⟨(some 66), none, .p (.bin .eql (.i .i64) (.t 65) (.c (i64 2)))⟩,
 ⟨(some 67), none, .p (.mov (.t 66))⟩,
 ⟨(some 68), (some (67, true)), .p (.mov (.t 0))⟩,
 ⟨(some 69), (some (67, true)), .p (.fa 2 (.t 4))⟩,
 ⟨(some 70), (some (67, true)), .p (.ld1 (.t 69))⟩,
 ⟨(some 71), (some (67, true)), .q (.c (.fn (.func 44) [] [])) [(.t 68), (.t 70)]⟩,
 ⟨(some 72), (some (67, true)), .p (.not (.t 71))⟩,
 ⟨(some 73), none, .p (.pick (.t 67) (.t 72) (.c (bl false)))⟩])
 (.cond (.t 73)
 (.seq
 (.reg [
 ⟨(some 74), none, .p (.fa 4 (.t 4))⟩,
 ⟨(some 75), none, .p (.ld1 (.t 74))⟩,
 ⟨(some 76), none, .e (.call (.c (.fn (.func 28) [] [])) [(.c (i64 7)), (.t 75)])⟩,
 ⟨(some 6), none, .p (.mov (.c (i64 0)))⟩,
 ⟨(some 7), none, .p (.mov (.t 76))⟩])
 .ret)
 .skip))
 (.seq
 (.reg [
 ⟨(some 6), none, .p (.mov (.c (i64 1)))⟩,
 ⟨(some 7), none, .p (.mov (.c (.val .nilIface)))⟩])
 .ret))
 .skip))
 (.seq
 (.reg [
 ⟨(some 77), none, .p (.fa 3 (.t 4))⟩,
 ⟨(some 78), none, .p (.ld1 (.t 77))⟩,
 ⟨(some 79), none, .p (.len (.t 78))⟩,
 ⟨(some 80), none, .e (.mks 3 1 8 [i64 0] (.c (i64 0)) (.t 79))⟩,
 ⟨(some 11), none, .p (.mov (.t 80))⟩])
 (.seq
 (.seq
 (.reg [
 ⟨(some 81), none, .p (.fa 3 (.t 4))⟩,
 ⟨(some 82), none, .p (.ld1 (.t 81))⟩,
 ⟨(some 83), none, .p (.len (.t 82))⟩,
 ⟨(some 84), none, .p (.mov (.c (i64 0)))⟩])
 (.blk 0
 (.loop l24_0)))
 (.seq
 (.drw [0, 1, 2, 3, 4, 5] [
 ⟨(some 104), none, .p (.fa 0 (.t 8))⟩,
 ⟨(some 105), none, .p (.ld1 (.t 104))⟩,
 ⟨(some 106), none, .p (.fa 1 (.t 8))⟩,
 ⟨(some 107), none, .p (.ld1 (.t 106))⟩,
 ⟨(some 16), none, .p (.mov (.t 105))⟩,
 ⟨(some 17), none, .p (.mov (.t 107))⟩])
 (.seq
 (.seq
 (.reg [
 ⟨(some 108), none, .p (.fa 2 (.t 8))⟩,
 ⟨(some 109), none, .p (.ld1 (.t 108))⟩,
 ⟨(some 110), none, .p (.fnn true true (.t 109))⟩])
 (.cond (.t 110)
 (.reg [
 ⟨(some 112), none, .p (.fa 2 (.t 8))⟩,
 ⟨(some 113), none, .p (.ld1 (.t 112))⟩,
 ⟨(some 114), none, .p (.mov (.t 11))⟩,
 ⟨(some 115), none, .e (.call (.t 113) [(.t 114)])⟩,
 ⟨(some 111), none, .p (.mov (.t 115))⟩,
 ⟨(some 116), none, .p (.ext (.t 111) 0)⟩,
 ⟨(some 117), none, .p (.ext (.t 111) 1)⟩,
 ⟨(some 16), none, .p (.mov (.t 116))⟩,
 ⟨(some 17), none, .p (.mov (.t 117))⟩])
 .skip))
 (.seq
 (.seq
 (.reg [
 ⟨(some 118), none, .p (.mov (.t 11))⟩,
 ⟨(some 119), none, .p (.len (.t 118))⟩,
 ⟨(some 120), none, .p (.mov (.c (i64 0)))⟩])
 (.blk 2
 (.loop l24_1)))
 (.seq
 (.reg [
 ⟨(some 139), none, .p (.mov (.t 17))⟩,
 ⟨(some 6), none, .p (.mov (.t 139))⟩,
 ⟨(some 7), none, .p (.mov (.c (.val .nilIface)))⟩])
 .ret))))))))))))
def r24 : List RS := [.t 6, .t 7]
theorem c24 : chkF Tryd.prog drawB Tryd.f24 i24 r24 = true := by kernel_rfl
/-- parlour/parlourref07.Expression -/
def i25 : IC :=
 (.seq
 (.reg [
 ⟨(some 2), none, .e (.alc 36 [i64 0, i64 0, st ⟨#[]⟩, .val (.slice none 0 0), i64 0])⟩,
 ⟨(some 3), none, .e (.alc 25 [i64 0, i64 0])⟩])
 (.seq
 (.reg [
 ⟨(some 9), none, .p (.mov (.t 0))⟩,
 ⟨(some 10), none, .e (.call (.c (.fn (.func 33) [] [])) [(.t 9)])⟩,
 ⟨(some 8), none, .p (.mov (.t 10))⟩,
 ⟨(some 11), none, .p (.ext (.t 8) 0)⟩,
 ⟨(some 12), none, .p (.ext (.t 8) 1)⟩,
 ⟨(some 5), none, .e (.alc 25 [i64 0, i64 0])⟩,
 ⟨(some 4), none, .p (.mov (.t 11))⟩,
 ⟨none, none, .e (.st 2 (.t 5) (.t 12))⟩])
 (.seq
 (.seq
 (.reg [
 ⟨(some 13), none, .p (.fa 0 (.t 5))⟩,
 ⟨(some 14), none, .p (.ld1 (.t 13))⟩,
 ⟨(some 15), none, .p (.bin .neq (.i .i64) (.t 14) (.c (i64 0)))⟩])
 (.cond (.t 15)
 (.seq
 (.drw [0, 1, 2, 3] [
 ⟨(some 16), none, .p (.bld [i64 0, i64 0, st ⟨#[]⟩, .val (.slice none 0 0), i64 0] [])⟩,
 ⟨(some 17), none, .p (.ldn 2 (.t 5))⟩,
 ⟨none, none, .e (.st 5 (.t 2) (.t 16))⟩,
 ⟨none, none, .e (.st 2 (.t 3) (.t 17))⟩])
 .ret)
 .skip))
 (.seq
 (.reg [
 ⟨(some 18), none, .p (.mov (.t 4))⟩,
 ⟨(some 19), none, .p (.mov (.t 0))⟩,
 ⟨(some 20), none, .p (.lens (.t 19))⟩,
 ⟨(some 21), none, .p (.bld [.val (.slice none 0 0), i64 0, i64 0, i64 0, i64 0, i64 0] [(0, 1, (.t 18)), (1, 1, (.t 20))])⟩,
 ⟨(some 22), none, .e (.box 88 (.t 21))⟩,
 ⟨(some 6), none, .p (.mov (.t 22))⟩])
 (.seq
 (.reg [
 ⟨(some 23), none, .p (.mov (.t 6))⟩,
 ⟨(some 24), none, .e (.call (.c (.fn (.func 45) [] [])) [(.t 23)])⟩,
 ⟨(some 7), none, .e (.alc 36 [i64 0, i64 0, st ⟨#[]⟩, .val (.slice none 0 0), i64 0])⟩,
 ⟨none, none, .e (.st 5 (.t 7) (.t 24))⟩])
 (.seq
 (.seq
 (.drw [0, 1, 2, 3, 4, 5, 6, 7, 8, 9] [
 ⟨(some 25), none, .p (.mov (.t 6))⟩,
 ⟨(some 26), none, .p (.nck (.t 25))⟩,
 ⟨(some 27), none, .p (.fa 2 (.t 26))⟩,
 ⟨(some 28), none, .p (.ld1 (.t 27))⟩,
 ⟨(some 29), none, .p (.mov (.t 6))⟩,
 ⟨(some 30), none, .p (.nck (.t 29))⟩,
 ⟨(some 31), none, .p (.fa 0 (.t 30))⟩,
 ⟨(some 32), none, .p (.ld1 (.t 31))⟩,
 ⟨(some 33), none, .p (.len (.t 32))⟩,
 ⟨(some 34), none, .p (.bin .lss (.i .i64) (.t 28) (.t 33))⟩])
 (.cond (.t 34)
 (.reg [
 ⟨(some 35), none, .p (.mov (.t 6))⟩,
 ⟨(some 36), none, .e (.call (.c (.fn (.func 39) [] [])) [(.t 35), (.c (i64 11))])⟩])
 .skip))
 (.seq
 (.seq
 (.reg [
 ⟨(some 37), none, .p (.mov (.t 6))⟩,
 ⟨(some 38), none, .e (.call (.c (.fn (.func 41) [] [])) [(.t 37)])⟩])
 (.cond (.t 38)
 (.seq
 (.drw [0, 1, 2, 3, 4, 5, 6] [
 ⟨(some 39), none, .p (.bld [i64 0, i64 0, st ⟨#[]⟩, .val (.slice none 0 0), i64 0] [])⟩,
 ⟨(some 40), none, .p (.mov (.t 6))⟩,
 ⟨(some 41), none, .p (.nck (.t 40))⟩,
 ⟨(some 42), none, .p (.fa 4 (.t 41))⟩,
 ⟨(some 43), none, .p (.ldn 2 (.t 42))⟩,
 ⟨none, none, .e (.st 5 (.t 2) (.t 39))⟩,
 ⟨none, none, .e (.st 2 (.t 3) (.t 43))⟩])
 .ret)
 .skip))
 (.seq
 (.reg [
 ⟨(some 44), none, .p (.ldn 5 (.t 7))⟩,
 ⟨(some 45), none, .p (.bld [i64 0, i64 0] [])⟩,
 ⟨none, none, .e (.st 5 (.t 2) (.t 44))⟩,
 ⟨none, none, .e (.st 2 (.t 3) (.t 45))⟩])
 .ret))))))))
def r25 : List RS := [.cn 2 5, .cn 3 2]
theorem c25 : chkF Tryd.prog drawB Tryd.f25 i25 r25 = true := by kernel_rfl
def l26_0 : IC := .keep [2, 3, 7, 8, 9]
 (.seq
 (.reg [
 ⟨(some 10), none, .p (.bin .lss (.i .i64) (.t 9) (.t 8))⟩])
 (.seq
 (.cond (.t 10)
 .skip
 (.exit 0))
 (.seq
 (.blk 1
 (.seq
 (.reg [
 ⟨(some 11), none, .p (.ia 1 (.t 7) (.t 9))⟩,
 ⟨(some 12), none, .p (.ld1 (.t 11))⟩,
 ⟨(some 6), none, .p (.mov (.t 12))⟩])
 (.reg [
 ⟨(some 13), none, .p (.fa 1 (.t 2))⟩,
 ⟨(some 14), none, .p (.ld1 (.t 13))⟩,
 ⟨(some 15), none, .p (.mov (.t 6))⟩,
 ⟨(some 16), none, .p (.ldn 3 (.t 3))⟩,
 ⟨none, none, .e (.mup (.i .i64) (.t 14) (.t 15) (.t 16))⟩])))
 (.reg [
 ⟨(some 17), none, .p (.bin .add (.i .i64) (.t 9) (.c (i64 1)))⟩,
 ⟨(some 9), none, .p (.mov (.t 17))⟩]))))
/-- parlour/types.newTyper$1 -/
def i26 : IC :=
 (.seq
 (.reg [
 ⟨(some 3), none, .e (.box 68 (.t 0))⟩])
 (.seq
 (.reg [
 ⟨(some 7), none, .p (.mov (.t 1))⟩,
 ⟨(some 8), none, .p (.len (.t 7))⟩,
 ⟨(some 9), none, .p (.mov (.c (i64 0)))⟩])
 (.blk 0
 (.loop l26_0))))
def r26 : List RS := []
theorem c26 : chkF Tryd.prog drawB Tryd.f26 i26 r26 = true := by kernel_rfl
/-- parlour/types.newTyper$2 -/
def i27 : IC :=
 (.seq
 (.reg [
 ⟨(some 2), none, .p (.mov (.c (.val (.slice none 0 0))))⟩,
 ⟨(some 3), none, .p (.mov (.c (i64 0)))⟩])
 (.seq
 (.drw [0, 1, 2, 3, 4, 5, 7, 8, 9, 6, 10, 11] [
 ⟨(some 4), none, .p (.mov (.t 0))⟩,
 ⟨(some 5), none, .p (.ia 1 (.t 4) (.c (i64 1)))⟩,
 ⟨(some 6), none, .p (.ld1 (.t 5))⟩,
 ⟨(some 7), none, .p (.mov (.t 0))⟩,
 ⟨(some 8), none, .p (.ia 1 (.t 7) (.c (i64 1)))⟩,
 ⟨(some 9), none, .p (.ld1 (.t 8))⟩,
 ⟨(some 11), none, .p (.mov (.t 0))⟩,
 ⟨(some 12), none, .p (.ia 1 (.t 11) (.c (i64 1)))⟩,
 ⟨(some 13), none, .p (.ld1 (.t 12))⟩,
 ⟨(some 10), none, .e (.bsl 3 1 3 [i64 0] [(0, (.c (i64 2))), (1, (.t 6)), (2, (.t 9))])⟩,
 ⟨(some 2), none, .p (.mov (.t 10))⟩,
 ⟨(some 3), none, .p (.mov (.t 13))⟩])
 .ret))
def r27 : List RS := [.t 2, .t 3]
theorem c27 : chkF Tryd.prog drawB Tryd.f27 i27 r27 = true := by kernel_rfl
/-- parlour/types.faultAt -/
def i28 : IC :=
 (.seq
 (.reg [
 ⟨(some 4), none, .p (.mov (.c (.val .nilIface)))⟩])
 (.seq
 (.reg [
 ⟨(some 5), none, .p (.mov (.t 0))⟩,
 ⟨(some 6), none, .p (.mov (.t 1))⟩,
 ⟨(some 7), none, .p (.bld [i64 0, i64 0] [(0, 1, (.t 5)), (1, 1, (.t 6))])⟩,
 ⟨(some 8), none, .p (.bld [i64 0, i64 0] [(0, 2, (.t 7))])⟩,
 ⟨(some 9), none, .p (.mki 80 (.t 8))⟩,
 ⟨(some 4), none, .p (.mov (.t 9))⟩])
 .ret))
def r28 : List RS := [.t 4]
theorem c28 : chkF Tryd.prog drawB Tryd.f28 i28 r28 = true := by kernel_rfl
def l29_0 : IC := .keep [0, 3, 47, 48, 49]
 (.seq
 (.reg [
 ⟨(some 50), none, .p (.bin .lss (.i .i64) (.t 49) (.t 48))⟩])
 (.seq
 (.cond (.t 50)
 .skip
 (.exit 0))
 (.seq
 (.blk 1
 (.seq
 (.reg [
 ⟨(some 51), none, .p (.ia 5 (.t 47) (.t 49))⟩,
 ⟨(some 52), none, .p (.ldn 5 (.t 51))⟩,
 ⟨(some 6), none, .e (.alc 36 [i64 0, i64 0, st ⟨#[]⟩, .val (.slice none 0 0), i64 0])⟩,
 ⟨none, none, .e (.st 5 (.t 6) (.t 52))⟩])
 (.seq
 (.drw [0, 1, 2, 3, 4, 5] [
 ⟨(some 53), none, .p (.mov (.t 0))⟩,
 ⟨(some 54), none, .p (.nck (.t 53))⟩,
 ⟨(some 55), none, .p (.fa 0 (.t 54))⟩,
 ⟨(some 56), none, .p (.ldn 5 (.t 6))⟩,
 ⟨(some 57), none, .q (.c (.fn (.func 46) [] [])) [(.t 55), (.t 56), (.c (i64 1))]⟩,
 ⟨(some 7), none, .p (.mov (.t 57))⟩])
 (.seq
 (.reg [
 ⟨(some 58), none, .p (.mov (.t 7))⟩,
 ⟨(some 59), none, .p (.ifn true true (.t 58))⟩])
 (.cond (.t 59)
 (.seq
 (.reg [
 ⟨(some 60), none, .p (.mov (.t 7))⟩,
 ⟨(some 4), none, .p (.mov (.t 60))⟩])
 .ret)
 .skip)))))
 (.reg [
 ⟨(some 61), none, .p (.bin .add (.i .i64) (.t 49) (.c (i64 1)))⟩,
 ⟨(some 49), none, .p (.mov (.t 61))⟩]))))
def l29_1 : IC := .keep [0, 3, 63, 64, 65]
 (.seq
 (.reg [
 ⟨(some 66), none, .p (.bin .lss (.i .i64) (.t 65) (.t 64))⟩])
 (.seq
 (.cond (.t 66)
 .skip
 (.exit 2))
 (.seq
 (.blk 3
 (.seq
 (.reg [
 ⟨(some 67), none, .p (.mov (.t 65))⟩,
 ⟨(some 68), none, .p (.ia 1 (.t 63) (.t 65))⟩,
 ⟨(some 69), none, .p (.ld1 (.t 68))⟩,
 ⟨(some 8), none, .p (.mov (.t 67))⟩,
 ⟨(some 9), none, .p (.mov (.t 69))⟩])
 (.seq
 (.seq
 (.reg [
 ⟨(some 70), none, .p (.mov (.t 9))⟩,
 ⟨(some 71), none, .p (.bin .lss (.i .i64) (.t 70) (.c (i64 0)))⟩,
 ⟨(some 72), none, .p (.mov (.t 71))⟩,
 ⟨(some 73), (some (72, false)), .p (.mov (.t 9))⟩,
 ⟨(some 74), (some (72, false)), .p (.mov (.t 0))⟩,
 ⟨(some 75), (some (72, false)), .p (.nck (.t 74))⟩,
 ⟨(some 76), (some (72, false)), .p (.fa 2 (.t 75))⟩,
 ⟨(some 77), (some (72, false)), .p (.fa 1 (.t 76))⟩,
 ⟨(some 78), (some (72, false)), .p (.ld1 (.t 77))⟩,
 ⟨(some 79), (some (72, false)), .p (.bin .geq (.i .i64) (.t 73) (.t 78))⟩,
 ⟨(some 80), none, .p (.pick (.t 72) (.c (bl true)) (.t 79))⟩])
 (.cond (.t 80)
 (.seq
 (.reg [
 ⟨(some 81), none, .p (.fa 11 (.t 3))⟩,
 ⟨(some 82), none, .p (.ld1 (.t 81))⟩,
 ⟨(some 83), none, .e (.call (.c (.fn (.func 28) [] [])) [(.c (i64 2)), (.t 82)])⟩,
 ⟨(some 4), none, .p (.mov (.t 83))⟩])
 .ret)
 .skip))
 (.seq
 (.reg [
 ⟨(some 84), none, .p (.mov (.t 8))⟩,
 ⟨(some 85), none, .p (.bin .gtr (.i .i64) (.t 84) (.c (i64 0)))⟩,
 ⟨(some 86), none, .p (.mov (.t 85))⟩,
 ⟨(some 87), (some (86, true)), .p (.mov (.t 9))⟩,
 ⟨(some 88), (some (86, true)), .p (.fa 7 (.t 3))⟩,
 ⟨(some 89), (some (86, true)), .p (.ld1 (.t 88))⟩,
 ⟨(some 90), (some (86, true)), .p (.mov (.t 8))⟩,
 ⟨(some 91), (some (86, true)), .p (.bin .sub (.i .i64) (.t 90) (.c (i64 1)))⟩,
 ⟨(some 92), (some (86, true)), .p (.ia 1 (.t 89) (.t 91))⟩,
 ⟨(some 93), (some (86, true)), .p (.ld1 (.t 92))⟩,
 ⟨(some 94), (some (86, true)), .p (.bin .leq (.i .i64) (.t 87) (.t 93))⟩,
 ⟨(some 95), none, .p (.pick (.t 86) (.t 94) (.c (bl false)))⟩])
 (.cond (.t 95)
 (.seq
 (.reg [
 ⟨(some 96), none, .p (.fa 11 (.t 3))⟩,
 ⟨(some 97), none, .p (.ld1 (.t 96))⟩,
 ⟨(some 98), none, .e (.call (.c (.fn (.func 28) [] [])) [(.c (i64 9)), (.t 97)])⟩,
 ⟨(some 4), none, .p (.mov (.t 98))⟩])
 .ret)
 .skip)))))
 (.reg [
 ⟨(some 99), none, .p (.bin .add (.i .i64) (.t 65) (.c (i64 1)))⟩,
 ⟨(some 65), none, .p (.mov (.t 99))⟩]))))
/-- (*parlour/types.checker).deal -/
def i29 : IC :=
 (.seq
 (.reg [
 ⟨(some 3), none, .e (.box 74 (.t 1))⟩,
 ⟨(some 4), none, .p (.mov (.c (.val .nilIface)))⟩])
 (.seq
 (.seq
 (.drw [0, 1, 2, 3, 4, 5, 6] [
 ⟨(some 10), none, .p (.mov (.t 0))⟩,
 ⟨(some 11), none, .p (.nck (.t 10))⟩,
 ⟨(some 12), none, .p (.fa 0 (.t 11))⟩,
 ⟨(some 13), none, .p (.fa 2 (.t 3))⟩,
 ⟨(some 14), none, .p (.ld1 (.t 13))⟩,
 ⟨(some 15), none, .q (.c (.fn (.func 44) [] [])) [(.t 12), (.t 14)]⟩,
 ⟨(some 16), none, .p (.not (.t 15))⟩])
 (.cond (.t 16)
 (.seq
 (.reg [
 ⟨(some 17), none, .p (.fa 11 (.t 3))⟩,
 ⟨(some 18), none, .p (.ld1 (.t 17))⟩,
 ⟨(some 19), none, .e (.call (.c (.fn (.func 28) [] [])) [(.c (i64 7)), (.t 18)])⟩,
 ⟨(some 4), none, .p (.mov (.t 19))⟩])
 .ret)
 .skip))
 (.seq
 (.seq
 (.reg [
 ⟨(some 20), none, .p (.fa 3 (.t 3))⟩,
 ⟨(some 21), none, .p (.ld1 (.t 20))⟩,
 ⟨(some 22), none, .p (.bin .lss (.i .i64) (.t 21) (.c (i64 (-1000000000))))⟩,
 ⟨(some 23), none, .p (.mov (.t 22))⟩,
 ⟨(some 24), (some (23, false)), .p (.fa 3 (.t 3))⟩,
 ⟨(some 25), (some (23, false)), .p (.ld1 (.t 24))⟩,
 ⟨(some 26), (some (23, false)), .p (.bin .gtr (.i .i64) (.t 25) (.c (i64 1000000000)))⟩,
 ⟨(some 27), none, .p (.pick (.t 23) (.c (bl true)) (.t 26))⟩,
 ⟨(some 28), none, .p (.mov (.t 27))⟩,
 ⟨(some 29), (some (28, false)), .p (.fa 4 (.t 3))⟩,
 ⟨(some 30), (some (28, false)), .p (.ld1 (.t 29))⟩,
 ⟨(some 31), (some (28, false)), .p (.fa 3 (.t 3))⟩,
 ⟨(some 32), (some (28, false)), .p (.ld1 (.t 31))⟩,
 ⟨(some 33), (some (28, false)), .p (.bin .lss (.i .i64) (.t 30) (.t 32))⟩,
 ⟨(some 34), none, .p (.pick (.t 28) (.c (bl true)) (.t 33))⟩,
 ⟨(some 35), none, .p (.mov (.t 34))⟩,
 ⟨(some 36), (some (35, false)), .p (.fa 4 (.t 3))⟩,
 ⟨(some 37), (some (35, false)), .p (.ld1 (.t 36))⟩,
 ⟨(some 38), (some (35, false)), .p (.fa 3 (.t 3))⟩,
 ⟨(some 39), (some (35, false)), .p (.ld1 (.t 38))⟩,
 ⟨(some 40), (some (35, false)), .p (.bin .add (.i .i64) (.t 39) (.c (i64 60)))⟩,
 ⟨(some 41), (some (35, false)), .p (.bin .geq (.i .i64) (.t 37) (.t 40))⟩,
 ⟨(some 42), none, .p (.pick (.t 35) (.c (bl true)) (.t 41))⟩])
 (.cond (.t 42)
 (.seq
 (.reg [
 ⟨(some 43), none, .p (.fa 11 (.t 3))⟩,
 ⟨(some 44), none, .p (.ld1 (.t 43))⟩,
 ⟨(some 45), none, .e (.call (.c (.fn (.func 28) [] [])) [(.c (i64 2)), (.t 44)])⟩,
 ⟨(some 4), none, .p (.mov (.t 45))⟩])
 .ret)
 .skip))
 (.seq
 (.seq
 (.reg [
 ⟨(some 46), none, .p (.fa 5 (.t 3))⟩,
 ⟨(some 47), none, .p (.ld1 (.t 46))⟩,
 ⟨(some 48), none, .p (.len (.t 47))⟩,
 ⟨(some 49), none, .p (.mov (.c (i64 0)))⟩])
 (.blk 0
 (.loop l29_0)))
 (.seq
 (.seq
 (.reg [
 ⟨(some 62), none, .p (.fa 7 (.t 3))⟩,
 ⟨(some 63), none, .p (.ld1 (.t 62))⟩,
 ⟨(some 64), none, .p (.len (.t 63))⟩,
 ⟨(some 65), none, .p (.mov (.c (i64 0)))⟩])
 (.blk 2
 (.loop l29_1)))
 (.seq
 (.reg [
 ⟨(some 4), none, .p (.mov (.c (.val .nilIface)))⟩])
 .ret))))))
def r29 : List RS := [.t 4]
theorem c29 : chkF Tryd.prog drawB Tryd.f29 i29 r29 = true := by kernel_rfl
def l30_0 : IC := .keep [0, 1, 8, 38, 39, 40]
 (.seq
 (.reg [
 ⟨(some 41), none, .p (.bin .lss (.i .i64) (.t 40) (.t 39))⟩])
 (.seq
 (.cond (.t 41)
 .skip
 (.exit 0))
 (.seq
 (.blk 1
 (.seq
 (.reg [
 ⟨(some 42), none, .p (.ia 6 (.t 38) (.t 40))⟩,
 ⟨(some 43), none, .p (.ldn 6 (.t 42))⟩,
 ⟨(some 10), none, .e (.alc 102 [st ⟨#[]⟩, .val (.slice none 0 0), bl false, .val (.slice none 0 0), st ⟨#[]⟩, i64 0])⟩,
 ⟨none, none, .e (.st 6 (.t 10) (.t 43))⟩])
 (.seq
 (.seq
 (.reg [
 ⟨(some 44), none, .p (.mov (.t 8))⟩,
 ⟨(some 45), none, .p (.fa 0 (.t 10))⟩,
 ⟨(some 46), none, .p (.ld1 (.t 45))⟩,
 ⟨(some 47), none, .p (.lkp .s false (bl false) (.t 44) (.t 46))⟩])
 (.cond (.t 47)
 (.seq
 (.reg [
 ⟨(some 48), none, .p (.fa 5 (.t 10))⟩,
 ⟨(some 49), none, .p (.ld1 (.t 48))⟩,
 ⟨(some 50), none, .e (.call (.c (.fn (.func 28) [] [])) [(.c (i64 8)), (.t 49)])⟩,
 ⟨(some 6), none, .p (.mov (.t 50))⟩])
 .ret)
 .skip))
 (.seq
 (.reg [
 ⟨(some 51), none, .p (.mov (.t 8))⟩,
 ⟨(some 52), none, .p (.fa 0 (.t 10))⟩,
 ⟨(some 53), none, .p (.ld1 (.t 52))⟩,
 ⟨none, none, .e (.mup .s (.t 51) (.t 53) (.c (bl true)))⟩])
 (.seq
 (.reg [
 ⟨(some 54), none, .p (.mov (.t 0))⟩,
 ⟨(some 55), none, .p (.mov (.t 1))⟩,
 ⟨(some 56), none, .p (.ldn 6 (.t 10))⟩,
 ⟨(some 57), none, .e (.call (.c (.fn (.func 47) [] [])) [(.t 54), (.t 55), (.t 56)])⟩,
 ⟨(some 11), none, .p (.mov (.t 57))⟩])
 (.seq
 (.reg [
 ⟨(some 58), none, .p (.mov (.t 11))⟩,
 ⟨(some 59), none, .p (.ifn true true (.t 58))⟩])
 (.cond (.t 59)
 (.seq
 (.reg [
 ⟨(some 60), none, .p (.mov (.t 11))⟩,
 ⟨(some 6), none, .p (.mov (.t 60))⟩])
 .ret)
 .skip)))))))
 (.reg [
 ⟨(some 61), none, .p (.bin .add (.i .i64) (.t 40) (.c (i64 1)))⟩,
 ⟨(some 40), none, .p (.mov (.t 61))⟩]))))
/-- (*parlour/types.checker).turn -/
def i30 : IC :=
 (.seq
 (.reg [
 ⟨(some 5), none, .e (.box 74 (.t 2))⟩,
 ⟨(some 6), none, .p (.mov (.c (.val .nilIface)))⟩])
 (.seq
 (.seq
 (.drw [0, 1, 2, 3, 4, 5, 6, 7, 8] [
 ⟨(some 12), none, .p (.mov (.t 0))⟩,
 ⟨(some 13), none, .p (.nck (.t 12))⟩,
 ⟨(some 14), none, .p (.fa 0 (.t 13))⟩,
 ⟨(some 15), none, .p (.fa 8 (.t 5))⟩,
 ⟨(some 16), none, .p (.ld1 (.t 15))⟩,
 ⟨(some 17), none, .p (.ia 5 (.t 16) (.c (i64 0)))⟩,
 ⟨(some 18), none, .p (.ldn 5 (.t 17))⟩,
 ⟨(some 19), none, .q (.c (.fn (.func 46) [] [])) [(.t 14), (.t 18), (.c (i64 1))]⟩,
 ⟨(some 7), none, .p (.mov (.t 19))⟩])
 (.seq
 (.reg [
 ⟨(some 20), none, .p (.mov (.t 7))⟩,
 ⟨(some 21), none, .p (.ifn true true (.t 20))⟩])
 (.cond (.t 21)
 (.seq
 (.reg [
 ⟨(some 22), none, .p (.mov (.t 7))⟩,
 ⟨(some 6), none, .p (.mov (.t 22))⟩])
 .ret)
 .skip)))
 (.seq
 (.seq
 (.reg [
 ⟨(some 23), none, .p (.fa 9 (.t 5))⟩,
 ⟨(some 24), none, .p (.ld1 (.t 23))⟩,
 ⟨(some 25), none, .p (.len (.t 24))⟩,
 ⟨(some 26), none, .p (.bin .lss (.i .i64) (.t 25) (.c (i64 1)))⟩,
 ⟨(some 27), none, .p (.mov (.t 26))⟩,
 ⟨(some 28), (some (27, false)), .p (.fa 9 (.t 5))⟩,
 ⟨(some 29), (some (27, false)), .p (.ld1 (.t 28))⟩,
 ⟨(some 30), (some (27, false)), .p (.len (.t 29))⟩,
 ⟨(some 31), (some (27, false)), .p (.bin .gtr (.i .i64) (.t 30) (.c (i64 10)))⟩,
 ⟨(some 32), none, .p (.pick (.t 27) (.c (bl true)) (.t 31))⟩])
 (.cond (.t 32)
 (.seq
 (.reg [
 ⟨(some 33), none, .p (.fa 11 (.t 5))⟩,
 ⟨(some 34), none, .p (.ld1 (.t 33))⟩,
 ⟨(some 35), none, .e (.call (.c (.fn (.func 28) [] [])) [(.c (i64 3)), (.t 34)])⟩,
 ⟨(some 6), none, .p (.mov (.t 35))⟩])
 .ret)
 .skip))
 (.seq
 (.reg [
 ⟨(some 36), none, .e (.mkm 44)⟩,
 ⟨(some 8), none, .p (.mov (.t 36))⟩])
 (.seq
 (.seq
 (.reg [
 ⟨(some 37), none, .p (.fa 9 (.t 5))⟩,
 ⟨(some 38), none, .p (.ld1 (.t 37))⟩,
 ⟨(some 39), none, .p (.len (.t 38))⟩,
 ⟨(some 40), none, .p (.mov (.c (i64 0)))⟩])
 (.blk 0
 (.loop l30_0)))
 (.seq
 (.reg [
 ⟨(some 6), none, .p (.mov (.c (.val .nilIface)))⟩])
 .ret))))))
def r30 : List RS := [.t 6]
theorem c30 : chkF Tryd.prog drawB Tryd.f30 i30 r30 = true := by kernel_rfl
def l31_0 : IC := .keep [0, 21, 22, 23]
 (.seq
 (.reg [
 ⟨(some 24), none, .p (.bin .lss (.i .i64) (.t 23) (.t 22))⟩])
 (.seq
 (.cond (.t 24)
 .skip
 (.exit 0))
 (.seq
 (.blk 1
 (.seq
 (.reg [
 ⟨(some 25), none, .p (.ia 5 (.t 21) (.t 23))⟩,
 ⟨(some 26), none, .p (.ldn 5 (.t 25))⟩,
 ⟨(some 6), none, .e (.alc 36 [i64 0, i64 0, st ⟨#[]⟩, .val (.slice none 0 0), i64 0])⟩,
 ⟨none, none, .e (.st 5 (.t 6) (.t 26))⟩])
 (.seq
 (.drw [0, 1, 2, 3, 4, 5] [
 ⟨(some 27), none, .p (.mov (.t 0))⟩,
 ⟨(some 28), none, .p (.nck (.t 27))⟩,
 ⟨(some 29), none, .p (.fa 0 (.t 28))⟩,
 ⟨(some 30), none, .p (.ldn 5 (.t 6))⟩,
 ⟨(some 31), none, .q (.c (.fn (.func 46) [] [])) [(.t 29), (.t 30), (.c (i64 1))]⟩,
 ⟨(some 7), none, .p (.mov (.t 31))⟩])
 (.seq
 (.reg [
 ⟨(some 32), none, .p (.mov (.t 7))⟩,
 ⟨(some 33), none, .p (.ifn true true (.t 32))⟩])
 (.cond (.t 33)
 (.seq
 (.reg [
 ⟨(some 34), none, .p (.mov (.t 7))⟩,
 ⟨(some 4), none, .p (.mov (.t 34))⟩])
 .ret)
 .skip)))))
 (.reg [
 ⟨(some 35), none, .p (.bin .add (.i .i64) (.t 23) (.c (i64 1)))⟩,
 ⟨(some 23), none, .p (.mov (.t 35))⟩]))))
/-- (*parlour/types.checker).end -/
def i31 : IC :=
 (.seq
 (.reg [
 ⟨(some 3), none, .e (.box 74 (.t 1))⟩,
 ⟨(some 4), none, .p (.mov (.c (.val .nilIface)))⟩])
 (.seq
 (.seq
 (.drw [0, 1, 2, 3, 4, 5, 6, 7, 8] [
 ⟨(some 8), none, .p (.fa 10 (.t 3))⟩,
 ⟨(some 9), none, .p (.ld1 (.t 8))⟩,
 ⟨(some 10), none, .p (.len (.t 9))⟩,
 ⟨(some 11), none, .p (.mov (.t 0))⟩,
 ⟨(some 12), none, .p (.nck (.t 11))⟩,
 ⟨(some 13), none, .p (.fa 2 (.t 12))⟩,
 ⟨(some 14), none, .p (.fa 1 (.t 13))⟩,
 ⟨(some 15), none, .p (.ld1 (.t 14))⟩,
 ⟨(some 16), none, .p (.bin .neq (.i .i64) (.t 10) (.t 15))⟩])
 (.cond (.t 16)
 (.seq
 (.reg [
 ⟨(some 17), none, .p (.fa 11 (.t 3))⟩,
 ⟨(some 18), none, .p (.ld1 (.t 17))⟩,
 ⟨(some 19), none, .e (.call (.c (.fn (.func 28) [] [])) [(.c (i64 3)), (.t 18)])⟩,
 ⟨(some 4), none, .p (.mov (.t 19))⟩])
 .ret)
 .skip))
 (.seq
 (.seq
 (.reg [
 ⟨(some 20), none, .p (.fa 10 (.t 3))⟩,
 ⟨(some 21), none, .p (.ld1 (.t 20))⟩,
 ⟨(some 22), none, .p (.len (.t 21))⟩,
 ⟨(some 23), none, .p (.mov (.c (i64 0)))⟩])
 (.blk 0
 (.loop l31_0)))
 (.seq
 (.reg [
 ⟨(some 4), none, .p (.mov (.c (.val .nilIface)))⟩])
 .ret))))
def r31 : List RS := [.t 4]
theorem c31 : chkF Tryd.prog drawB Tryd.f31 i31 r31 = true := by kernel_rfl
def l33_1 : IC := .keep [0, 3, 4, 5]
 (.seq
 (.seq
 (.reg [
 ⟨(some 27), none, .p (.mov (.t 5))⟩,
 ⟨(some 28), none, .p (.mov (.t 0))⟩,
 ⟨(some 29), none, .p (.lens (.t 28))⟩,
 ⟨(some 30), none, .p (.bin .lss (.i .i64) (.t 27) (.t 29))⟩,
 ⟨(some 31), none, .p (.mov (.t 30))⟩,
 ⟨(some 32), (some (31, true)), .p (.mov (.t 0))⟩,
 ⟨(some 33), (some (31, true)), .p (.mov (.t 5))⟩,
 ⟨(some 34), (some (31, true)), .p (.ixs (.t 32) (.t 33))⟩,
 ⟨(some 35), (some (31, true)), .p (.bin .neq (.i .u8) (.t 34) (.c (.val (.int .u8 10))))⟩,
 ⟨(some 36), none, .p (.pick (.t 31) (.t 35) (.c (bl false)))⟩])
 (.cond (.t 36)
 .skip
 (.exit 2)))
 (.blk 3
 (.reg [
 ⟨(some 37), none, .p (.mov (.t 5))⟩,
 ⟨(some 38), none, .p (.bin .add (.i .i64) (.t 37) (.c (i64 1)))⟩,
 ⟨(some 5), none, .p (.mov (.t 38))⟩])))
def l33_0 : IC := .keep [0, 3, 4, 5]
 (.seq
 (.seq
 (.reg [
 ⟨(some 13), none, .p (.mov (.t 5))⟩,
 ⟨(some 14), none, .p (.mov (.t 0))⟩,
 ⟨(some 15), none, .p (.lens (.t 14))⟩,
 ⟨(some 16), none, .p (.bin .lss (.i .i64) (.t 13) (.t 15))⟩])
 (.cond (.t 16)
 .skip
 (.exit 0)))
 (.blk 1
 (.seq
 (.seq
 (.reg [
 ⟨(some 17), none, .p (.mov (.t 0))⟩,
 ⟨(some 18), none, .p (.mov (.t 5))⟩,
 ⟨(some 19), none, .p (.ixs (.t 17) (.t 18))⟩,
 ⟨(some 20), none, .e (.call (.c (.fn (.func 52) [] [])) [(.t 19)])⟩])
 (.cond (.t 20)
 (.seq
 (.reg [
 ⟨(some 21), none, .p (.mov (.t 5))⟩,
 ⟨(some 22), none, .p (.bin .add (.i .i64) (.t 21) (.c (i64 1)))⟩,
 ⟨(some 5), none, .p (.mov (.t 22))⟩])
 (.exit 1))
 .skip))
 (.seq
 (.seq
 (.reg [
 ⟨(some 23), none, .p (.mov (.t 0))⟩,
 ⟨(some 24), none, .p (.mov (.t 5))⟩,
 ⟨(some 25), none, .p (.ixs (.t 23) (.t 24))⟩,
 ⟨(some 26), none, .p (.bin .eql (.i .u8) (.t 25) (.c (.val (.int .u8 35))))⟩])
 (.cond (.t 26)
 (.seq
 (.blk 2
 (.loop l33_1))
 (.exit 1))
 .skip))
 (.seq
 (.reg [
 ⟨(some 40), none, .p (.mov (.t 0))⟩,
 ⟨(some 41), none, .p (.mov (.t 5))⟩,
 ⟨(some 42), none, .e (.call (.c (.fn (.func 53) [] [])) [(.t 40), (.t 41)])⟩,
 ⟨(some 39), none, .p (.mov (.t 42))⟩,
 ⟨(some 43), none, .p (.ext (.t 39) 0)⟩,
 ⟨(some 44), none, .p (.ext (.t 39) 1)⟩,
 ⟨(some 45), none, .p (.ext (.t 39) 2)⟩,
 ⟨(some 6), none, .e (.alc 118 [i64 0, st ⟨#[]⟩, i64 0, i64 0])⟩,
 ⟨(some 8), none, .e (.alc 25 [i64 0, i64 0])⟩,
 ⟨none, none, .e (.st 4 (.t 6) (.t 43))⟩,
 ⟨(some 7), none, .p (.mov (.t 44))⟩,
 ⟨none, none, .e (.st 2 (.t 8) (.t 45))⟩])
 (.seq
 (.seq
 (.reg [
 ⟨(some 46), none, .p (.fa 0 (.t 8))⟩,
 ⟨(some 47), none, .p (.ld1 (.t 46))⟩,
 ⟨(some 48), none, .p (.bin .neq (.i .i64) (.t 47) (.c (i64 0)))⟩])
 (.cond (.t 48)
 (.seq
 (.drw [0, 1, 2] [
 ⟨(some 49), none, .p (.ldn 2 (.t 8))⟩,
 ⟨(some 2), none, .p (.mov (.c (.val (.slice none 0 0))))⟩,
 ⟨none, none, .e (.st 2 (.t 3) (.t 49))⟩])
 .ret)
 .skip))
 (.seq
 (.seq
 (.reg [
 ⟨(some 50), none, .p (.mov (.t 4))⟩,
 ⟨(some 51), none, .p (.len (.t 50))⟩,
 ⟨(some 52), none, .p (.bin .eql (.i .i64) (.t 51) (.c (i64 5000)))⟩])
 (.cond (.t 52)
 (.seq
 (.reg [
 ⟨(some 53), none, .p (.mov (.t 5))⟩,
 ⟨(some 54), none, .p (.bld [i64 0, i64 0] [(0, 1, (.c (i64 12))), (1, 1, (.t 53))])⟩,
 ⟨(some 2), none, .p (.mov (.c (.val (.slice none 0 0))))⟩,
 ⟨none, none, .e (.st 2 (.t 3) (.t 54))⟩])
 .ret)
 .skip))
 (.seq
 (.seq
 (.reg [
 ⟨(some 55), none, .p (.fa 0 (.t 6))⟩,
 ⟨(some 56), none, .p (.ld1 (.t 55))⟩,
 ⟨(some 57), none, .p (.bin .eql (.i .i64) (.t 56) (.c (i64 2)))⟩,
 ⟨(some 58), none, .p (.mov (.t 57))⟩,
 ⟨(some 59), (some (58, true)), .p (.mov (.t 7))⟩,
 ⟨(some 60), (some (58, true)), .p (.mov (.t 0))⟩,
 ⟨(some 61), (some (58, true)), .p (.lens (.t 60))⟩,
 ⟨(some 62), (some (58, true)), .p (.bin .lss (.i .i64) (.t 59) (.t 61))⟩,
 ⟨(some 63), none, .p (.pick (.t 58) (.t 62) (.c (bl false)))⟩,
 ⟨(some 64), none, .p (.mov (.t 63))⟩,
 ⟨(some 65), (some (64, true)), .p (.mov (.t 0))⟩,
 ⟨(some 66), (some (64, true)), .p (.mov (.t 7))⟩,
 ⟨(some 67), (some (64, true)), .p (.ixs (.t 65) (.t 66))⟩,
 ⟨(some 68), (some (64, true)), .q (.c (.fn (.func 54) [] [])) [(.t 67)]⟩,
 ⟨(some 69), none, .p (.pick (.t 64) (.t 68) (.c (bl false)))⟩])
 (.cond (.t 69)
 (.seq
 (.reg [
 ⟨(some 70), none, .p (.mov (.t 7))⟩,
 ⟨(some 71), none, .p (.bld [i64 0, i64 0] [(0, 1, (.c (i64 11))), (1, 1, (.t 70))])⟩,
 ⟨(some 2), none, .p (.mov (.c (.val (.slice none 0 0))))⟩,
 ⟨none, none, .e (.st 2 (.t 3) (.t 71))⟩])
 .ret)
 .skip))
 (.seq
 (.reg [
 ⟨(some 72), none, .p (.mov (.t 4))⟩,
 ⟨(some 73), none, .p (.ldn 4 (.t 6))⟩,
 ⟨(some 74), none, .e (.bsl 118 4 1 [i64 0, st ⟨#[]⟩, i64 0, i64 0] [(0, (.t 73))])⟩,
 ⟨(some 75), none, .e (.app 118 4 40 (.t 72) (.t 74))⟩,
 ⟨(some 4), none, .p (.mov (.t 75))⟩])
 (.reg [
 ⟨(some 76), none, .p (.mov (.t 7))⟩,
 ⟨(some 5), none, .p (.mov (.t 76))⟩]))))))))))
/-- parlour/parlourref06.Scan -/
def i33 : IC :=
 (.seq
 (.reg [
 ⟨(some 2), none, .p (.mov (.c (.val (.slice none 0 0))))⟩,
 ⟨(some 3), none, .e (.alc 25 [i64 0, i64 0])⟩])
 (.seq
 (.seq
 (.reg [
 ⟨(some 9), none, .p (.mov (.t 0))⟩,
 ⟨(some 10), none, .p (.lens (.t 9))⟩,
 ⟨(some 11), none, .p (.bin .gtr (.i .i64) (.t 10) (.c (i64 20000)))⟩])
 (.cond (.t 11)
 (.seq
 (.reg [
 ⟨(some 12), none, .p (.bld [i64 0, i64 0] [(0, 1, (.c (i64 4))), (1, 1, (.c (i64 20000)))])⟩,
 ⟨(some 2), none, .p (.mov (.c (.val (.slice none 0 0))))⟩,
 ⟨none, none, .e (.st 2 (.t 3) (.t 12))⟩])
 .ret)
 .skip))
 (.seq
 (.reg [
 ⟨(some 4), none, .e (.nil 118 4 (.c (.val (.slice none 0 0))))⟩])
 (.seq
 (.reg [
 ⟨(some 5), none, .p (.mov (.c (i64 0)))⟩])
 (.seq
 (.blk 0
 (.loop l33_0))
 (.seq
 (.reg [
 ⟨(some 77), none, .p (.mov (.t 4))⟩,
 ⟨(some 78), none, .p (.bld [i64 0, i64 0] [])⟩,
 ⟨(some 2), none, .p (.mov (.t 77))⟩,
 ⟨none, none, .e (.st 2 (.t 3) (.t 78))⟩])
 .ret))))))
def r33 : List RS := [.t 2, .cn 3 2]
theorem c33 : chkF Tryd.prog drawB Tryd.f33 i33 r33 = true := by kernel_rfl
/-- (*parlour/parlourref07.reader).take -/
def i34 : IC :=
 (.seq
 (.reg [
 ⟨(some 4), none, .p (.mov (.c (i64 0)))⟩])
 (.seq
 (.reg [
 ⟨(some 6), none, .p (.mov (.t 0))⟩,
 ⟨(some 7), none, .e (.call (.c (.fn (.func 40) [] [])) [(.t 6)])⟩,
 ⟨(some 5), none, .p (.mov (.t 7))⟩])
 (.seq
 (.seq
 (.reg [
 ⟨(some 8), none, .p (.mov (.t 0))⟩,
 ⟨(some 9), none, .p (.mov (.t 1))⟩,
 ⟨(some 10), none, .e (.call (.c (.fn (.func 37) [] [])) [(.t 8), (.t 9)])⟩,
 ⟨(some 11), none, .p (.not (.t 10))⟩])
 (.cond (.t 11)
 (.seq
 (.reg [
 ⟨(some 12), none, .p (.mov (.t 0))⟩,
 ⟨(some 13), none, .e (.call (.c (.fn (.func 39) [] [])) [(.t 12), (.c (i64 11))])⟩])
 (.seq
 (.reg [
 ⟨(some 14), none, .p (.mov (.t 5))⟩,
 ⟨(some 4), none, .p (.mov (.t 14))⟩])
 .ret))
 .skip))
 (.seq
 (.reg [
 ⟨(some 15), none, .p (.mov (.t 0))⟩,
 ⟨(some 16), none, .p (.nck (.t 15))⟩,
 ⟨(some 17), none, .p (.fa 2 (.t 16))⟩,
 ⟨(some 18), none, .p (.ld1 (.t 17))⟩,
 ⟨(some 19), none, .p (.bin .add (.i .i64) (.t 18) (.c (i64 1)))⟩,
 ⟨(some 20), none, .p (.nck (.t 15))⟩,
 ⟨(some 21), none, .p (.fa 2 (.t 20))⟩,
 ⟨none, none, .e (.st 1 (.t 21) (.t 19))⟩])
 (.seq
 (.reg [
 ⟨(some 22), none, .p (.mov (.t 5))⟩,
 ⟨(some 4), none, .p (.mov (.t 22))⟩])
 .ret)))))
def r34 : List RS := [.t 4]
theorem c34 : chkF Tryd.prog drawB Tryd.f34 i34 r34 = true := by kernel_rfl
/-- (*parlour/parlourref07.reader).word -/
def i35 : IC :=
 (.seq
 (.reg [
 ⟨(some 2), none, .p (.mov (.c (st ⟨#[]⟩)))⟩])
 (.seq
 (.seq
 (.reg [
 ⟨(some 3), none, .p (.mov (.t 0))⟩,
 ⟨(some 4), none, .e (.call (.c (.fn (.func 38) [] [])) [(.t 3)])⟩,
 ⟨(some 5), none, .p (.not (.t 4))⟩])
 (.cond (.t 5)
 (.seq
 (.reg [
 ⟨(some 6), none, .p (.mov (.t 0))⟩,
 ⟨(some 7), none, .e (.call (.c (.fn (.func 39) [] [])) [(.t 6), (.c (i64 11))])⟩])
 (.seq
 (.reg [
 ⟨(some 2), none, .p (.mov (.c (st ⟨#[]⟩)))⟩])
 .ret))
 .skip))
 (.seq
 (.reg [
 ⟨(some 8), none, .p (.mov (.t 0))⟩,
 ⟨(some 9), none, .p (.nck (.t 8))⟩,
 ⟨(some 10), none, .p (.fa 2 (.t 9))⟩,
 ⟨(some 11), none, .p (.ld1 (.t 10))⟩,
 ⟨(some 12), none, .p (.bin .add (.i .i64) (.t 11) (.c (i64 1)))⟩,
 ⟨(some 13), none, .p (.nck (.t 8))⟩,
 ⟨(some 14), none, .p (.fa 2 (.t 13))⟩,
 ⟨none, none, .e (.st 1 (.t 14) (.t 12))⟩])
 (.seq
 (.drw [0, 1, 2, 3, 4, 5, 6, 7, 8, 9, 10, 11, 12] [
 ⟨(some 15), none, .p (.mov (.t 0))⟩,
 ⟨(some 16), none, .p (.nck (.t 15))⟩,
 ⟨(some 17), none, .p (.fa 0 (.t 16))⟩,
 ⟨(some 18), none, .p (.ld1 (.t 17))⟩,
 ⟨(some 19), none, .p (.mov (.t 0))⟩,
 ⟨(some 20), none, .p (.nck (.t 19))⟩,
 ⟨(some 21), none, .p (.fa 2 (.t 20))⟩,
 ⟨(some 22), none, .p (.ld1 (.t 21))⟩,
 ⟨(some 23), none, .p (.bin .sub (.i .i64) (.t 22) (.c (i64 1)))⟩,
 ⟨(some 24), none, .p (.ia 4 (.t 18) (.t 23))⟩,
 ⟨(some 25), none, .p (.fa 1 (.t 24))⟩,
 ⟨(some 26), none, .p (.ld1 (.t 25))⟩,
 ⟨(some 2), none, .p (.mov (.t 26))⟩])
 .ret))))
def r35 : List RS := [.t 2]
theorem c35 : chkF Tryd.prog drawB Tryd.f35 i35 r35 = true := by kernel_rfl
/-- (*parlour/parlourref07.reader).number -/
def i36 : IC :=
 (.seq
 (.reg [
 ⟨(some 2), none, .p (.mov (.c (i64 0)))⟩])
 (.seq
 (.seq
 (.drw [0, 1, 2, 3, 4, 5, 6, 7, 8, 9, 10, 11, 12, 13, 14, 15, 16, 17, 18, 19, 20, 21, 22, 23, 24, 25, 26, 27] [
 ⟨(some 3), none, .p (.mov (.t 0))⟩,
 ⟨(some 4), none, .q (.c (.fn (.func 41) [] [])) [(.t 3)]⟩,
 ⟨(some 5), none, .p (.mov (.t 4))⟩,
 ⟨(some 6), (some (5, false)), .p (.mov (.t 0))⟩,
 ⟨(some 7), (some (5, false)), .p (.nck (.t 6))⟩,
 ⟨(some 8), (some (5, false)), .p (.fa 2 (.t 7))⟩,
 ⟨(some 9), (some (5, false)), .p (.ld1 (.t 8))⟩,
 ⟨(some 10), (some (5, false)), .p (.mov (.t 0))⟩,
 ⟨(some 11), (some (5, false)), .p (.nck (.t 10))⟩,
 ⟨(some 12), (some (5, false)), .p (.fa 0 (.t 11))⟩,
 ⟨(some 13), (some (5, false)), .p (.ld1 (.t 12))⟩,
 ⟨(some 14), (some (5, false)), .p (.len (.t 13))⟩,
 ⟨(some 15), (some (5, false)), .p (.bin .geq (.i .i64) (.t 9) (.t 14))⟩,
 ⟨(some 16), none, .p (.pick (.t 5) (.c (bl true)) (.t 15))⟩,
 ⟨(some 17), none, .p (.mov (.t 16))⟩,
 ⟨(some 18), (some (17, false)), .p (.mov (.t 0))⟩,
 ⟨(some 19), (some (17, false)), .p (.nck (.t 18))⟩,
 ⟨(some 20), (some (17, false)), .p (.fa 0 (.t 19))⟩,
 ⟨(some 21), (some (17, false)), .p (.ld1 (.t 20))⟩,
 ⟨(some 22), (some (17, false)), .p (.mov (.t 0))⟩,
 ⟨(some 23), (some (17, false)), .p (.nck (.t 22))⟩,
 ⟨(some 24), (some (17, false)), .p (.fa 2 (.t 23))⟩,
 ⟨(some 25), (some (17, false)), .p (.ld1 (.t 24))⟩,
 ⟨(some 26), (some (17, false)), .p (.ia 4 (.t 21) (.t 25))⟩,
 ⟨(some 27), (some (17, false)), .p (.fa 0 (.t 26))⟩,
 ⟨(some 28), (some (17, false)), .p (.ld1 (.t 27))⟩,
 ⟨(some 29), (some (17, false)), .p (.bin .neq (.i .i64) (.t 28) (.c (i64 2)))⟩,
 ⟨(some 30), none, .p (.pick (.t 17) (.c (bl true)) (.t 29))⟩])
 (.cond (.t 30)
 (.seq
 (.reg [
 ⟨(some 31), none, .p (.mov (.t 0))⟩,
 ⟨(some 32), none, .e (.call (.c (.fn (.func 39) [] [])) [(.t 31), (.c (i64 11))])⟩])
 (.seq
 (.reg [
 ⟨(some 2), none, .p (.mov (.c (i64 0)))⟩])
 .ret))
 .skip))
 (.seq
 (.reg [
 ⟨(some 33), none, .p (.mov (.t 0))⟩,
 ⟨(some 34), none, .p (.nck (.t 33))⟩,
 ⟨(some 35), none, .p (.fa 2 (.t 34))⟩,
 ⟨(some 36), none, .p (.ld1 (.t 35))⟩,
 ⟨(some 37), none, .p (.bin .add (.i .i64) (.t 36) (.c (i64 1)))⟩,
 ⟨(some 38), none, .p (.nck (.t 33))⟩,
 ⟨(some 39), none, .p (.fa 2 (.t 38))⟩,
 ⟨none, none, .e (.st 1 (.t 39) (.t 37))⟩])
 (.seq
 (.drw [0, 1, 2, 3, 4, 5, 6, 7, 8, 9, 10, 11, 12] [
 ⟨(some 40), none, .p (.mov (.t 0))⟩,
 ⟨(some 41), none, .p (.nck (.t 40))⟩,
 ⟨(some 42), none, .p (.fa 0 (.t 41))⟩,
 ⟨(some 43), none, .p (.ld1 (.t 42))⟩,
 ⟨(some 44), none, .p (.mov (.t 0))⟩,
 ⟨(some 45), none, .p (.nck (.t 44))⟩,
 ⟨(some 46), none, .p (.fa 2 (.t 45))⟩,
 ⟨(some 47), none, .p (.ld1 (.t 46))⟩,
 ⟨(some 48), none, .p (.bin .sub (.i .i64) (.t 47) (.c (i64 1)))⟩,
 ⟨(some 49), none, .p (.ia 4 (.t 43) (.t 48))⟩,
 ⟨(some 50), none, .p (.fa 2 (.t 49))⟩,
 ⟨(some 51), none, .p (.ld1 (.t 50))⟩,
 ⟨(some 2), none, .p (.mov (.t 51))⟩])
 .ret))))
def r36 : List RS := [.t 2]
theorem c36 : chkF Tryd.prog drawB Tryd.f36 i36 r36 = true := by kernel_rfl
/-- (*parlour/parlourref07.reader).peek -/
def i37 : IC :=
 (.seq
 (.reg [
 ⟨(some 4), none, .p (.mov (.c (bl false)))⟩])
 (.seq
 (.drw [0, 1, 2, 3, 4, 5, 6, 7, 8, 9, 10, 11, 12, 13, 14, 15, 16, 17, 18, 19, 20, 21, 22, 23, 24, 25, 26, 27, 28, 29, 30, 31, 32, 33, 34, 35, 36, 37, 38, 39, 40, 41, 42, 43, 44] [
 ⟨(some 5), none, .p (.mov (.t 0))⟩,
 ⟨(some 6), none, .q (.c (.fn (.func 41) [] [])) [(.t 5)]⟩,
 ⟨(some 7), none, .p (.not (.t 6))⟩,
 ⟨(some 8), none, .p (.mov (.t 7))⟩,
 ⟨(some 9), (some (8, true)), .p (.mov (.t 0))⟩,
 ⟨(some 10), (some (8, true)), .p (.nck (.t 9))⟩,
 ⟨(some 11), (some (8, true)), .p (.fa 2 (.t 10))⟩,
 ⟨(some 12), (some (8, true)), .p (.ld1 (.t 11))⟩,
 ⟨(some 13), (some (8, true)), .p (.mov (.t 0))⟩,
 ⟨(some 14), (some (8, true)), .p (.nck (.t 13))⟩,
 ⟨(some 15), (some (8, true)), .p (.fa 0 (.t 14))⟩,
 ⟨(some 16), (some (8, true)), .p (.ld1 (.t 15))⟩,
 ⟨(some 17), (some (8, true)), .p (.len (.t 16))⟩,
 ⟨(some 18), (some (8, true)), .p (.bin .lss (.i .i64) (.t 12) (.t 17))⟩,
 ⟨(some 19), none, .p (.pick (.t 8) (.t 18) (.c (bl false)))⟩,
 ⟨(some 20), none, .p (.mov (.t 19))⟩,
 ⟨(some 21), (some (20, true)), .p (.mov (.t 0))⟩,
 ⟨(some 22), (some (20, true)), .p (.nck (.t 21))⟩,
 ⟨(some 23), (some (20, true)), .p (.fa 0 (.t 22))⟩,
 ⟨(some 24), (some (20, true)), .p (.ld1 (.t 23))⟩,
 ⟨(some 25), (some (20, true)), .p (.mov (.t 0))⟩,
 ⟨(some 26), (some (20, true)), .p (.nck (.t 25))⟩,
 ⟨(some 27), (some (20, true)), .p (.fa 2 (.t 26))⟩,
 ⟨(some 28), (some (20, true)), .p (.ld1 (.t 27))⟩,
 ⟨(some 29), (some (20, true)), .p (.ia 4 (.t 24) (.t 28))⟩,
 ⟨(some 30), (some (20, true)), .p (.fa 0 (.t 29))⟩,
 ⟨(some 31), (some (20, true)), .p (.ld1 (.t 30))⟩,
 ⟨(some 32), (some (20, true)), .p (.bin .neq (.i .i64) (.t 31) (.c (i64 2)))⟩,
 ⟨(some 33), none, .p (.pick (.t 20) (.t 32) (.c (bl false)))⟩,
 ⟨(some 34), none, .p (.mov (.t 33))⟩,
 ⟨(some 35), (some (34, true)), .p (.mov (.t 0))⟩,
 ⟨(some 36), (some (34, true)), .p (.nck (.t 35))⟩,
 ⟨(some 37), (some (34, true)), .p (.fa 0 (.t 36))⟩,
 ⟨(some 38), (some (34, true)), .p (.ld1 (.t 37))⟩,
 ⟨(some 39), (some (34, true)), .p (.mov (.t 0))⟩,
 ⟨(some 40), (some (34, true)), .p (.nck (.t 39))⟩,
 ⟨(some 41), (some (34, true)), .p (.fa 2 (.t 40))⟩,
 ⟨(some 42), (some (34, true)), .p (.ld1 (.t 41))⟩,
 ⟨(some 43), (some (34, true)), .p (.ia 4 (.t 38) (.t 42))⟩,
 ⟨(some 44), (some (34, true)), .p (.fa 1 (.t 43))⟩,
 ⟨(some 45), (some (34, true)), .p (.ld1 (.t 44))⟩,
 ⟨(some 46), (some (34, true)), .p (.mov (.t 1))⟩,
 ⟨(some 47), (some (34, true)), .p (.bin .eql .s (.t 45) (.t 46))⟩,
 ⟨(some 48), none, .p (.pick (.t 34) (.t 47) (.c (bl false)))⟩,
 ⟨(some 4), none, .p (.mov (.t 48))⟩])
 .ret))
def r37 : List RS := [.t 4]
theorem c37 : chkF Tryd.prog drawB Tryd.f37 i37 r37 = true := by kernel_rfl
/-- (*parlour/parlourref07.reader).free -/
def i38 : IC :=
 (.seq
 (.reg [
 ⟨(some 2), none, .p (.mov (.c (bl false)))⟩])
 (.seq
 (.drw [0, 1, 2, 3, 4, 5, 6, 7, 8, 9, 10, 11, 12, 13, 14, 15, 16, 17, 18, 19, 20, 21, 22, 23, 24, 25, 26, 27, 28, 29, 30, 31, 32, 33, 34, 35, 36, 37, 38, 39, 40, 41, 42, 43, 44] [
 ⟨(some 3), none, .p (.mov (.t 0))⟩,
 ⟨(some 4), none, .q (.c (.fn (.func 41) [] [])) [(.t 3)]⟩,
 ⟨(some 5), none, .p (.not (.t 4))⟩,
 ⟨(some 6), none, .p (.mov (.t 5))⟩,
 ⟨(some 7), (some (6, true)), .p (.mov (.t 0))⟩,
 ⟨(some 8), (some (6, true)), .p (.nck (.t 7))⟩,
 ⟨(some 9), (some (6, true)), .p (.fa 2 (.t 8))⟩,
 ⟨(some 10), (some (6, true)), .p (.ld1 (.t 9))⟩,
 ⟨(some 11), (some (6, true)), .p (.mov (.t 0))⟩,
 ⟨(some 12), (some (6, true)), .p (.nck (.t 11))⟩,
 ⟨(some 13), (some (6, true)), .p (.fa 0 (.t 12))⟩,
 ⟨(some 14), (some (6, true)), .p (.ld1 (.t 13))⟩,
 ⟨(some 15), (some (6, true)), .p (.len (.t 14))⟩,
 ⟨(some 16), (some (6, true)), .p (.bin .lss (.i .i64) (.t 10) (.t 15))⟩,
 ⟨(some 17), none, .p (.pick (.t 6) (.t 16) (.c (bl false)))⟩,
 ⟨(some 18), none, .p (.mov (.t 17))⟩,
 ⟨(some 19), (some (18, true)), .p (.mov (.t 0))⟩,
 ⟨(some 20), (some (18, true)), .p (.nck (.t 19))⟩,
 ⟨(some 21), (some (18, true)), .p (.fa 0 (.t 20))⟩,
 ⟨(some 22), (some (18, true)), .p (.ld1 (.t 21))⟩,
 ⟨(some 23), (some (18, true)), .p (.mov (.t 0))⟩,
 ⟨(some 24), (some (18, true)), .p (.nck (.t 23))⟩,
 ⟨(some 25), (some (18, true)), .p (.fa 2 (.t 24))⟩,
 ⟨(some 26), (some (18, true)), .p (.ld1 (.t 25))⟩,
 ⟨(some 27), (some (18, true)), .p (.ia 4 (.t 22) (.t 26))⟩,
 ⟨(some 28), (some (18, true)), .p (.fa 0 (.t 27))⟩,
 ⟨(some 29), (some (18, true)), .p (.ld1 (.t 28))⟩,
 ⟨(some 30), (some (18, true)), .p (.bin .eql (.i .i64) (.t 29) (.c (i64 1)))⟩,
 ⟨(some 31), none, .p (.pick (.t 18) (.t 30) (.c (bl false)))⟩,
 ⟨(some 32), none, .p (.mov (.t 31))⟩,
 ⟨(some 33), (some (32, true)), .p (.mov (.t 0))⟩,
 ⟨(some 34), (some (32, true)), .p (.nck (.t 33))⟩,
 ⟨(some 35), (some (32, true)), .p (.fa 0 (.t 34))⟩,
 ⟨(some 36), (some (32, true)), .p (.ld1 (.t 35))⟩,
 ⟨(some 37), (some (32, true)), .p (.mov (.t 0))⟩,
 ⟨(some 38), (some (32, true)), .p (.nck (.t 37))⟩,
 ⟨(some 39), (some (32, true)), .p (.fa 2 (.t 38))⟩,
 ⟨(some 40), (some (32, true)), .p (.ld1 (.t 39))⟩,
 ⟨(some 41), (some (32, true)), .p (.ia 4 (.t 36) (.t 40))⟩,
 ⟨(some 42), (some (32, true)), .p (.fa 1 (.t 41))⟩,
 ⟨(some 43), (some (32, true)), .p (.ld1 (.t 42))⟩,
 ⟨(some 44), (some (32, true)), .q (.c (.fn (.func 55) [] [])) [(.t 43)]⟩,
 ⟨(some 45), (some (32, true)), .p (.not (.t 44))⟩,
 ⟨(some 46), none, .p (.pick (.t 32) (.t 45) (.c (bl false)))⟩,
 ⟨(some 2), none, .p (.mov (.t 46))⟩])
 .ret))
def r38 : List RS := [.t 2]
theorem c38 : chkF Tryd.prog drawB Tryd.f38 i38 r38 = true := by kernel_rfl
/-- (*parlour/parlourref07.reader).fail -/
def i39 : IC :=
 (.seq
 (.reg [
 ⟨(some 4), none, .p (.mov (.t 0))⟩,
 ⟨(some 5), none, .e (.call (.c (.fn (.func 41) [] [])) [(.t 4)])⟩,
 ⟨(some 6), none, .p (.not (.t 5))⟩])
 (.cond (.t 6)
 (.reg [
 ⟨(some 7), none, .p (.mov (.t 0))⟩,
 ⟨(some 8), none, .p (.mov (.t 1))⟩,
 ⟨(some 9), none, .p (.mov (.t 0))⟩,
 ⟨(some 10), none, .e (.call (.c (.fn (.func 40) [] [])) [(.t 9)])⟩,
 ⟨(some 11), none, .p (.bld [i64 0, i64 0] [(0, 1, (.t 8)), (1, 1, (.t 10))])⟩,
 ⟨(some 12), none, .p (.nck (.t 7))⟩,
 ⟨(some 13), none, .p (.fa 4 (.t 12))⟩,
 ⟨none, none, .e (.st 2 (.t 13) (.t 11))⟩])
 .skip))
def r39 : List RS := []
theorem c39 : chkF Tryd.prog drawB Tryd.f39 i39 r39 = true := by kernel_rfl
/-- (*parlour/parlourref07.reader).here -/
def i40 : IC :=
 (.seq
 (.reg [
 ⟨(some 2), none, .p (.mov (.c (i64 0)))⟩])
 (.seq
 (.seq
 (.drw [0, 1, 2, 3, 4, 5, 6, 7, 8, 9] [
 ⟨(some 3), none, .p (.mov (.t 0))⟩,
 ⟨(some 4), none, .p (.nck (.t 3))⟩,
 ⟨(some 5), none, .p (.fa 2 (.t 4))⟩,
 ⟨(some 6), none, .p (.ld1 (.t 5))⟩,
 ⟨(some 7), none, .p (.mov (.t 0))⟩,
 ⟨(some 8), none, .p (.nck (.t 7))⟩,
 ⟨(some 9), none, .p (.fa 0 (.t 8))⟩,
 ⟨(some 10), none, .p (.ld1 (.t 9))⟩,
 ⟨(some 11), none, .p (.len (.t 10))⟩,
 ⟨(some 12), none, .p (.bin .lss (.i .i64) (.t 6) (.t 11))⟩])
 (.cond (.t 12)
 (.seq
 (.drw [0, 1, 2, 3, 4, 5, 6, 7, 8, 9, 10, 11] [
 ⟨(some 13), none, .p (.mov (.t 0))⟩,
 ⟨(some 14), none, .p (.nck (.t 13))⟩,
 ⟨(some 15), none, .p (.fa 0 (.t 14))⟩,
 ⟨(some 16), none, .p (.ld1 (.t 15))⟩,
 ⟨(some 17), none, .p (.mov (.t 0))⟩,
 ⟨(some 18), none, .p (.nck (.t 17))⟩,
 ⟨(some 19), none, .p (.fa 2 (.t 18))⟩,
 ⟨(some 20), none, .p (.ld1 (.t 19))⟩,
 ⟨(some 21), none, .p (.ia 4 (.t 16) (.t 20))⟩,
 ⟨(some 22), none, .p (.fa 3 (.t 21))⟩,
 ⟨(some 23), none, .p (.ld1 (.t 22))⟩,
 ⟨(some 2), none, .p (.mov (.t 23))⟩])
 .ret)
 .skip))
 (.seq
 (.reg [
 ⟨(some 24), none, .p (.mov (.t 0))⟩,
 ⟨(some 25), none, .p (.nck (.t 24))⟩,
 ⟨(some 26), none, .p (.fa 1 (.t 25))⟩,
 ⟨(some 27), none, .p (.ld1 (.t 26))⟩,
 ⟨(some 2), none, .p (.mov (.t 27))⟩])
 .ret)))
def r40 : List RS := [.t 2]
theorem c40 : chkF Tryd.prog drawB Tryd.f40 i40 r40 = true := by kernel_rfl
/-- (*parlour/parlourref07.reader).bad -/
def i41 : IC :=
 (.seq
 (.reg [
 ⟨(some 2), none, .p (.mov (.c (bl false)))⟩])
 (.seq
 (.reg [
 ⟨(some 3), none, .p (.mov (.t 0))⟩,
 ⟨(some 4), none, .p (.nck (.t 3))⟩,
 ⟨(some 5), none, .p (.fa 4 (.t 4))⟩,
 ⟨(some 6), none, .p (.fa 0 (.t 5))⟩,
 ⟨(some 7), none, .p (.ld1 (.t 6))⟩,
 ⟨(some 8), none, .p (.bin .neq (.i .i64) (.t 7) (.c (i64 0)))⟩,
 ⟨(some 2), none, .p (.mov (.t 8))⟩])
 .ret))
def r41 : List RS := [.t 2]
theorem c41 : chkF Tryd.prog drawB Tryd.f41 i41 r41 = true := by kernel_rfl
/-- (*parlour/parlourref07.reader).stage -/
def i42 : IC :=
 (.seq
 (.reg [
 ⟨(some 2), none, .e (.alc 74 [i64 0, st ⟨#[]⟩, st ⟨#[]⟩, i64 0, i64 0, .val (.slice none 0 0), bl false, .val (.slice none 0 0), .val (.slice none 0 0), .val (.slice none 0 0), .val (.slice none 0 0), i64 0])⟩])
 (.seq
 (.reg [
 ⟨(some 3), none, .e (.alc 74 [i64 0, st ⟨#[]⟩, st ⟨#[]⟩, i64 0, i64 0, .val (.slice none 0 0), bl false, .val (.slice none 0 0), .val (.slice none 0 0), .val (.slice none 0 0), .val (.slice none 0 0), i64 0])⟩])
 (.seq
 (.seq
 (.reg [
 ⟨(some 4), none, .p (.mov (.t 0))⟩,
 ⟨(some 5), none, .e (.call (.c (.fn (.func 38) [] [])) [(.t 4)])⟩])
 (.cond (.t 5)
 (.seq
 (.reg [
 ⟨(some 6), none, .p (.mov (.t 0))⟩,
 ⟨(some 7), none, .e (.call (.c (.fn (.func 35) [] [])) [(.t 6)])⟩,
 ⟨(some 8), none, .p (.fa 1 (.t 3))⟩,
 ⟨none, none, .e (.st 1 (.t 8) (.t 7))⟩])
 (.reg [
 ⟨(some 9), none, .p (.mov (.t 0))⟩,
 ⟨(some 10), none, .e (.call (.c (.fn (.func 34) [] [])) [(.t 9), (.c (st ⟨#[58]⟩))])⟩]))
 .skip))
 (.seq
 (.seq
 (.reg [
 ⟨(some 11), none, .p (.mov (.t 0))⟩,
 ⟨(some 12), none, .e (.call (.c (.fn (.func 37) [] [])) [(.t 11), (.c (st ⟨#[100, 101, 97, 108]⟩))])⟩])
 (.cond (.t 12)
 (.seq
 (.reg [
 ⟨(some 13), none, .p (.mov (.t 0))⟩,
 ⟨(some 14), none, .p (.ldn 12 (.t 3))⟩,
 ⟨(some 15), none, .e (.call (.c (.fn (.func 56) [] [])) [(.t 13), (.t 14)])⟩,
 ⟨none, none, .e (.st 12 (.t 2) (.t 15))⟩])
 .ret)
 .skip))
 (.seq
 (.seq
 (.reg [
 ⟨(some 16), none, .p (.mov (.t 0))⟩,
 ⟨(some 17), none, .e (.call (.c (.fn (.func 37) [] [])) [(.t 16), (.c (st ⟨#[116, 117, 114, 110]⟩))])⟩])
 (.cond (.t 17)
 (.seq
 (.reg [
 ⟨(some 18), none, .p (.mov (.t 0))⟩,
 ⟨(some 19), none, .p (.ldn 12 (.t 3))⟩,
 ⟨(some 20), none, .e (.call (.c (.fn (.func 57) [] [])) [(.t 18), (.t 19)])⟩,
 ⟨none, none, .e (.st 12 (.t 2) (.t 20))⟩])
 .ret)
 .skip))
 (.seq
 (.reg [
 ⟨(some 21), none, .p (.fa 0 (.t 3))⟩,
 ⟨none, none, .e (.st 1 (.t 21) (.c (i64 3)))⟩])
 (.seq
 (.reg [
 ⟨(some 22), none, .p (.mov (.t 0))⟩,
 ⟨(some 23), none, .e (.call (.c (.fn (.func 34) [] [])) [(.t 22), (.c (st ⟨#[101, 110, 100]⟩))])⟩,
 ⟨(some 24), none, .p (.fa 11 (.t 3))⟩,
 ⟨none, none, .e (.st 1 (.t 24) (.t 23))⟩])
 (.seq
 (.reg [
 ⟨(some 25), none, .p (.mov (.t 0))⟩,
 ⟨(some 26), none, .e (.call (.c (.fn (.func 34) [] [])) [(.t 25), (.c (st ⟨#[123]⟩))])⟩])
 (.seq
 (.reg [
 ⟨(some 27), none, .p (.mov (.t 0))⟩,
 ⟨(some 28), none, .e (.call (.c (.fn (.func 34) [] [])) [(.t 27), (.c (st ⟨#[112, 97, 121]⟩))])⟩])
 (.seq
 (.reg [
 ⟨(some 29), none, .p (.mov (.t 0))⟩,
 ⟨(some 30), none, .e (.call (.c (.fn (.func 58) [] [])) [(.t 29)])⟩,
 ⟨(some 31), none, .p (.fa 10 (.t 3))⟩,
 ⟨none, none, .e (.st 1 (.t 31) (.t 30))⟩])
 (.seq
 (.reg [
 ⟨(some 32), none, .p (.mov (.t 0))⟩,
 ⟨(some 33), none, .e (.call (.c (.fn (.func 34) [] [])) [(.t 32), (.c (st ⟨#[59]⟩))])⟩])
 (.seq
 (.reg [
 ⟨(some 34), none, .p (.mov (.t 0))⟩,
 ⟨(some 35), none, .e (.call (.c (.fn (.func 34) [] [])) [(.t 34), (.c (st ⟨#[125]⟩))])⟩])
 (.seq
 (.reg [
 ⟨(some 36), none, .p (.ldn 12 (.t 3))⟩,
 ⟨none, none, .e (.st 12 (.t 2) (.t 36))⟩])
 .ret)))))))))))))
def r42 : List RS := [.cn 2 12]
theorem c42 : chkF Tryd.prog drawB Tryd.f42 i42 r42 = true := by kernel_rfl
/-- (*parlour/types.typer).known -/
def i44 : IC :=
 (.seq
 (.reg [
 ⟨(some 4), none, .p (.mov (.c (bl false)))⟩])
 (.seq
 (.reg [
 ⟨(some 5), none, .p (.mov (.t 0))⟩,
 ⟨(some 6), none, .p (.nck (.t 5))⟩,
 ⟨(some 7), none, .p (.fa 0 (.t 6))⟩,
 ⟨(some 8), none, .p (.ld1 (.t 7))⟩,
 ⟨(some 9), none, .p (.mov (.t 1))⟩,
 ⟨(some 10), none, .p (.lkp .s false (bl false) (.t 8) (.t 9))⟩,
 ⟨(some 4), none, .p (.mov (.t 10))⟩])
 .ret))
def r44 : List RS := [.t 4]
theorem c44 : chkF Tryd.prog drawB Tryd.f44 i44 r44 = true := by kernel_rfl
def l45_0 : IC := .keep [0, 2, 3]
 (.seq
 (.seq
 (.reg [
 ⟨(some 7), none, .p (.mov (.t 0))⟩,
 ⟨(some 8), none, .e (.call (.c (.fn (.func 37) [] [])) [(.t 7), (.c (st ⟨#[111, 114]⟩))])⟩])
 (.cond (.t 8)
 .skip
 (.exit 0)))
 (.blk 1
 (.seq
 (.reg [
 ⟨(some 9), none, .p (.mov (.t 0))⟩,
 ⟨(some 10), none, .e (.call (.c (.fn (.func 34) [] [])) [(.t 9), (.c (st ⟨#[111, 114]⟩))])⟩,
 ⟨(some 4), none, .p (.mov (.t 10))⟩])
 (.drw [0, 1, 2, 3, 4, 5] [
 ⟨(some 11), none, .p (.mov (.t 4))⟩,
 ⟨(some 12), none, .p (.ldn 5 (.t 3))⟩,
 ⟨(some 13), none, .p (.mov (.t 0))⟩,
 ⟨(some 14), none, .e (.call (.c (.fn (.func 60) [] [])) [(.t 13)])⟩,
 ⟨(some 15), none, .q (.c (.fn (.func 61) [] [])) [(.c (i64 17)), (.t 11), (.t 12), (.t 14)]⟩,
 ⟨none, none, .e (.st 5 (.t 3) (.t 15))⟩]))))
/-- (*parlour/parlourref07.reader).or -/
def i45 : IC :=
 (.seq
 (.reg [
 ⟨(some 2), none, .e (.alc 36 [i64 0, i64 0, st ⟨#[]⟩, .val (.slice none 0 0), i64 0])⟩])
 (.seq
 (.reg [
 ⟨(some 5), none, .p (.mov (.t 0))⟩,
 ⟨(some 6), none, .e (.call (.c (.fn (.func 60) [] [])) [(.t 5)])⟩,
 ⟨(some 3), none, .e (.alc 36 [i64 0, i64 0, st ⟨#[]⟩, .val (.slice none 0 0), i64 0])⟩,
 ⟨none, none, .e (.st 5 (.t 3) (.t 6))⟩])
 (.seq
 (.blk 0
 (.loop l45_0))
 (.seq
 (.reg [
 ⟨(some 16), none, .p (.ldn 5 (.t 3))⟩,
 ⟨none, none, .e (.st 5 (.t 2) (.t 16))⟩])
 .ret))))
def r45 : List RS := [.cn 2 5]
theorem c45 : chkF Tryd.prog drawB Tryd.f45 i45 r45 = true := by kernel_rfl
/-- (*parlour/types.typer).wants -/
def i46 : IC :=
 (.seq
 (.reg [
 ⟨(some 4), none, .e (.box 36 (.t 1))⟩,
 ⟨(some 6), none, .p (.mov (.c (.val .nilIface)))⟩])
 (.seq
 (.reg [
 ⟨(some 10), none, .p (.mov (.t 0))⟩,
 ⟨(some 11), none, .p (.ldn 5 (.t 4))⟩,
 ⟨(some 12), none, .e (.call (.c (.fn (.func 24) [] [])) [(.t 10), (.t 11), (.c (i64 0))])⟩,
 ⟨(some 9), none, .p (.mov (.t 12))⟩,
 ⟨(some 13), none, .p (.ext (.t 9) 0)⟩,
 ⟨(some 14), none, .p (.ext (.t 9) 1)⟩,
 ⟨(some 7), none, .p (.mov (.t 13))⟩,
 ⟨(some 8), none, .p (.mov (.t 14))⟩])
 (.seq
 (.seq
 (.reg [
 ⟨(some 15), none, .p (.mov (.t 8))⟩,
 ⟨(some 16), none, .p (.ifn false true (.t 15))⟩,
 ⟨(some 17), none, .p (.mov (.t 16))⟩,
 ⟨(some 18), (some (17, true)), .p (.mov (.t 7))⟩,
 ⟨(some 19), (some (17, true)), .p (.mov (.t 2))⟩,
 ⟨(some 20), (some (17, true)), .p (.bin .neq (.i .i64) (.t 18) (.t 19))⟩,
 ⟨(some 21), none, .p (.pick (.t 17) (.t 20) (.c (bl false)))⟩])
 (.cond (.t 21)
 (.reg [
 ⟨(some 22), none, .p (.fa 4 (.t 4))⟩,
 ⟨(some 23), none, .p (.ld1 (.t 22))⟩,
 ⟨(some 24), none, .e (.call (.c (.fn (.func 28) [] [])) [(.c (i64 10)), (.t 23)])⟩,
 ⟨(some 8), none, .p (.mov (.t 24))⟩])
 .skip))
 (.seq
 (.reg [
 ⟨(some 25), none, .p (.mov (.t 8))⟩,
 ⟨(some 6), none, .p (.mov (.t 25))⟩])
 .ret))))
def r46 : List RS := [.t 6]
theorem c46 : chkF Tryd.prog drawB Tryd.f46 i46 r46 = true := by kernel_rfl
def l47_0 : IC := .keep [0, 1, 5, 22, 23, 24]
 (.seq
 (.reg [
 ⟨(some 25), none, .p (.bin .lss (.i .i64) (.t 24) (.t 23))⟩])
 (.seq
 (.cond (.t 25)
 .skip
 (.exit 0))
 (.seq
 (.blk 1
 (.seq
 (.reg [
 ⟨(some 26), none, .p (.ia 5 (.t 22) (.t 24))⟩,
 ⟨(some 27), none, .p (.ldn 5 (.t 26))⟩,
 ⟨(some 8), none, .e (.alc 36 [i64 0, i64 0, st ⟨#[]⟩, .val (.slice none 0 0), i64 0])⟩,
 ⟨none, none, .e (.st 5 (.t 8) (.t 27))⟩])
 (.seq
 (.drw [0, 1, 2, 3, 4, 5] [
 ⟨(some 28), none, .p (.mov (.t 0))⟩,
 ⟨(some 29), none, .p (.nck (.t 28))⟩,
 ⟨(some 30), none, .p (.fa 0 (.t 29))⟩,
 ⟨(some 31), none, .p (.ldn 5 (.t 8))⟩,
 ⟨(some 32), none, .q (.c (.fn (.func 46) [] [])) [(.t 30), (.t 31), (.c (i64 2))]⟩,
 ⟨(some 9), none, .p (.mov (.t 32))⟩])
 (.seq
 (.reg [
 ⟨(some 33), none, .p (.mov (.t 9))⟩,
 ⟨(some 34), none, .p (.ifn true true (.t 33))⟩])
 (.cond (.t 34)
 (.seq
 (.reg [
 ⟨(some 35), none, .p (.mov (.t 9))⟩,
 ⟨(some 6), none, .p (.mov (.t 35))⟩])
 .ret)
 .skip)))))
 (.reg [
 ⟨(some 36), none, .p (.bin .add (.i .i64) (.t 24) (.c (i64 1)))⟩,
 ⟨(some 24), none, .p (.mov (.t 36))⟩]))))
def l47_1 : IC := .keep [0, 1, 5, 38, 39, 40]
 (.seq
 (.reg [
 ⟨(some 41), none, .p (.bin .lss (.i .i64) (.t 40) (.t 39))⟩])
 (.seq
 (.cond (.t 41)
 .skip
 (.exit 2))
 (.seq
 (.blk 3
 (.seq
 (.reg [
 ⟨(some 42), none, .p (.ia 7 (.t 38) (.t 40))⟩,
 ⟨(some 43), none, .p (.ldn 7 (.t 42))⟩,
 ⟨(some 11), none, .e (.alc 127 [st ⟨#[]⟩, i64 0, i64 0, st ⟨#[]⟩, .val (.slice none 0 0), i64 0, i64 0])⟩,
 ⟨none, none, .e (.st 7 (.t 11) (.t 43))⟩])
 (.seq
 (.seq
 (.drw [0, 1, 2, 3, 4, 5, 6] [
 ⟨(some 44), none, .p (.mov (.t 0))⟩,
 ⟨(some 45), none, .p (.nck (.t 44))⟩,
 ⟨(some 46), none, .p (.fa 0 (.t 45))⟩,
 ⟨(some 47), none, .p (.fa 0 (.t 11))⟩,
 ⟨(some 48), none, .p (.ld1 (.t 47))⟩,
 ⟨(some 49), none, .q (.c (.fn (.func 44) [] [])) [(.t 46), (.t 48)]⟩,
 ⟨(some 50), none, .p (.not (.t 49))⟩])
 (.cond (.t 50)
 (.seq
 (.reg [
 ⟨(some 51), none, .p (.fa 6 (.t 11))⟩,
 ⟨(some 52), none, .p (.ld1 (.t 51))⟩,
 ⟨(some 53), none, .e (.call (.c (.fn (.func 28) [] [])) [(.c (i64 7)), (.t 52)])⟩,
 ⟨(some 6), none, .p (.mov (.t 53))⟩])
 .ret)
 .skip))
 (.seq
 (.drw [0, 1, 2, 3, 4, 5, 6] [
 ⟨(some 54), none, .p (.mov (.t 0))⟩,
 ⟨(some 55), none, .p (.nck (.t 54))⟩,
 ⟨(some 56), none, .p (.fa 0 (.t 55))⟩,
 ⟨(some 57), none, .p (.fa 1 (.t 11))⟩,
 ⟨(some 58), none, .p (.ldn 5 (.t 57))⟩,
 ⟨(some 59), none, .q (.c (.fn (.func 46) [] [])) [(.t 56), (.t 58), (.c (i64 1))]⟩,
 ⟨(some 12), none, .p (.mov (.t 59))⟩])
 (.seq
 (.reg [
 ⟨(some 60), none, .p (.mov (.t 12))⟩,
 ⟨(some 61), none, .p (.ifn true true (.t 60))⟩])
 (.cond (.t 61)
 (.seq
 (.reg [
 ⟨(some 62), none, .p (.mov (.t 12))⟩,
 ⟨(some 6), none, .p (.mov (.t 62))⟩])
 .ret)
 .skip))))))
 (.reg [
 ⟨(some 63), none, .p (.bin .add (.i .i64) (.t 40) (.c (i64 1)))⟩,
 ⟨(some 40), none, .p (.mov (.t 63))⟩]))))
/-- (*parlour/types.checker).act -/
def i47 : IC :=
 (.seq
 (.reg [
 ⟨(some 5), none, .e (.box 102 (.t 2))⟩,
 ⟨(some 6), none, .p (.mov (.c (.val .nilIface)))⟩])
 (.seq
 (.seq
 (.reg [
 ⟨(some 14), none, .p (.fa 1 (.t 5))⟩,
 ⟨(some 15), none, .p (.ld1 (.t 14))⟩,
 ⟨(some 16), none, .p (.len (.t 15))⟩,
 ⟨(some 17), none, .p (.bin .gtr (.i .i64) (.t 16) (.c (i64 1)))⟩])
 (.cond (.t 17)
 (.seq
 (.reg [
 ⟨(some 18), none, .p (.fa 5 (.t 5))⟩,
 ⟨(some 19), none, .p (.ld1 (.t 18))⟩,
 ⟨(some 20), none, .e (.call (.c (.fn (.func 28) [] [])) [(.c (i64 3)), (.t 19)])⟩,
 ⟨(some 6), none, .p (.mov (.t 20))⟩])
 .ret)
 .skip))
 (.seq
 (.seq
 (.reg [
 ⟨(some 21), none, .p (.fa 1 (.t 5))⟩,
 ⟨(some 22), none, .p (.ld1 (.t 21))⟩,
 ⟨(some 23), none, .p (.len (.t 22))⟩,
 ⟨(some 24), none, .p (.mov (.c (i64 0)))⟩])
 (.blk 0
 (.loop l47_0)))
 (.seq
 (.seq
 (.reg [
 ⟨(some 37), none, .p (.fa 3 (.t 5))⟩,
 ⟨(some 38), none, .p (.ld1 (.t 37))⟩,
 ⟨(some 39), none, .p (.len (.t 38))⟩,
 ⟨(some 40), none, .p (.mov (.c (i64 0)))⟩])
 (.blk 2
 (.loop l47_1)))
 (.seq
 (.seq
 (.reg [
 ⟨(some 64), none, .p (.fa 4 (.t 5))⟩,
 ⟨(some 65), none, .p (.ld1 (.t 64))⟩,
 ⟨(some 66), none, .p (.bin .eql .s (.t 65) (.c (st ⟨#[]⟩)))⟩])
 (.cond (.t 66)
 (.seq
 (.reg [
 ⟨(some 6), none, .p (.mov (.c (.val .nilIface)))⟩])
 .ret)
 .skip))
 (.seq
 (.drw [0, 1, 2, 3, 4, 5, 6, 7] [
 ⟨(some 67), none, .p (.mov (.t 0))⟩,
 ⟨(some 68), none, .p (.nck (.t 67))⟩,
 ⟨(some 69), none, .p (.fa 6 (.t 68))⟩,
 ⟨(some 70), none, .p (.ld1 (.t 69))⟩,
 ⟨(some 71), none, .p (.fa 4 (.t 5))⟩,
 ⟨(some 72), none, .p (.ld1 (.t 71))⟩,
 ⟨(some 73), none, .e (.call (.t 70) [(.t 72)])⟩,
 ⟨(some 13), none, .p (.mov (.t 73))⟩])
 (.seq
 (.seq
 (.reg [
 ⟨(some 74), none, .p (.mov (.t 13))⟩,
 ⟨(some 75), none, .p (.bin .lss (.i .i64) (.t 74) (.c (i64 0)))⟩])
 (.cond (.t 75)
 (.seq
 (.reg [
 ⟨(some 76), none, .p (.fa 5 (.t 5))⟩,
 ⟨(some 77), none, .p (.ld1 (.t 76))⟩,
 ⟨(some 78), none, .e (.call (.c (.fn (.func 28) [] [])) [(.c (i64 7)), (.t 77)])⟩,
 ⟨(some 6), none, .p (.mov (.t 78))⟩])
 .ret)
 .skip))
 (.seq
 (.seq
 (.reg [
 ⟨(some 79), none, .p (.mov (.t 13))⟩,
 ⟨(some 80), none, .p (.mov (.t 1))⟩,
 ⟨(some 81), none, .p (.bin .leq (.i .i64) (.t 79) (.t 80))⟩])
 (.cond (.t 81)
 (.seq
 (.reg [
 ⟨(some 82), none, .p (.fa 5 (.t 5))⟩,
 ⟨(some 83), none, .p (.ld1 (.t 82))⟩,
 ⟨(some 84), none, .e (.call (.c (.fn (.func 28) [] [])) [(.c (i64 9)), (.t 83)])⟩,
 ⟨(some 6), none, .p (.mov (.t 84))⟩])
 .ret)
 .skip))
 (.seq
 (.reg [
 ⟨(some 6), none, .p (.mov (.c (.val .nilIface)))⟩])
 .ret)))))))))
def r47 : List RS := [.t 6]
theorem c47 : chkF Tryd.prog drawB Tryd.f47 i47 r47 = true := by kernel_rfl
/-- parlour/parlourref06.white -/
def i52 : IC :=
 (.seq
 (.reg [
 ⟨(some 2), none, .p (.mov (.c (bl false)))⟩])
 (.seq
 (.reg [
 ⟨(some 3), none, .p (.mov (.t 0))⟩,
 ⟨(some 4), none, .p (.bin .eql (.i .u8) (.t 3) (.c (.val (.int .u8 32))))⟩,
 ⟨(some 5), none, .p (.mov (.t 4))⟩,
 ⟨(some 6), (some (5, false)), .p (.mov (.t 0))⟩,
 ⟨(some 7), (some (5, false)), .p (.bin .eql (.i .u8) (.t 6) (.c (.val (.int .u8 9))))⟩,
 ⟨(some 8), none, .p (.pick (.t 5) (.c (bl true)) (.t 7))⟩,
 ⟨(some 9), none, .p (.mov (.t 8))⟩,
 ⟨(some 10), (some (9, false)), .p (.mov (.t 0))⟩,
 ⟨(some 11), (some (9, false)), .p (.bin .eql (.i .u8) (.t 10) (.c (.val (.int .u8 10))))⟩,
 ⟨(some 12), none, .p (.pick (.t 9) (.c (bl true)) (.t 11))⟩,
 ⟨(some 2), none, .p (.mov (.t 12))⟩])
 .ret))
def r52 : List RS := [.t 2]
theorem c52 : chkF Tryd.prog drawB Tryd.f52 i52 r52 = true := by kernel_rfl
def l53_0 : IC := .keep [0, 1, 4, 6, 7]
 (.seq
 (.seq
 (.reg [
 ⟨(some 17), none, .p (.mov (.t 7))⟩,
 ⟨(some 18), none, .p (.mov (.t 0))⟩,
 ⟨(some 19), none, .p (.lens (.t 18))⟩,
 ⟨(some 20), none, .p (.bin .lss (.i .i64) (.t 17) (.t 19))⟩,
 ⟨(some 21), none, .p (.mov (.t 20))⟩,
 ⟨(some 22), (some (21, true)), .p (.mov (.t 0))⟩,
 ⟨(some 23), (some (21, true)), .p (.mov (.t 7))⟩,
 ⟨(some 24), (some (21, true)), .p (.ixs (.t 22) (.t 23))⟩,
 ⟨(some 25), (some (21, true)), .q (.c (.fn (.func 54) [] [])) [(.t 24)]⟩,
 ⟨(some 26), (some (21, true)), .p (.mov (.t 25))⟩,
 ⟨(some 27), (some (26, false)), .p (.mov (.t 0))⟩,
 ⟨(some 28), (some (26, false)), .p (.mov (.t 7))⟩,
 ⟨(some 29), (some (26, false)), .p (.ixs (.t 27) (.t 28))⟩,
 ⟨(some 30), (some (26, false)), .q (.c (.fn (.func 65) [] [])) [(.t 29)]⟩,
 ⟨(some 31), (some (21, true)), .p (.pick (.t 26) (.c (bl true)) (.t 30))⟩,
 ⟨(some 32), none, .p (.pick (.t 21) (.t 31) (.c (bl false)))⟩])
 (.cond (.t 32)
 .skip
 (.exit 0)))
 (.blk 1
 (.reg [
 ⟨(some 33), none, .p (.mov (.t 7))⟩,
 ⟨(some 34), none, .p (.bin .add (.i .i64) (.t 33) (.c (i64 1)))⟩,
 ⟨(some 7), none, .p (.mov (.t 34))⟩])))
def l53_1 : IC := .keep [0, 1, 4, 6, 7]
 (.seq
 (.seq
 (.reg [
 ⟨(some 53), none, .p (.mov (.t 7))⟩,
 ⟨(some 54), none, .p (.mov (.t 0))⟩,
 ⟨(some 55), none, .p (.lens (.t 54))⟩,
 ⟨(some 56), none, .p (.bin .lss (.i .i64) (.t 53) (.t 55))⟩,
 ⟨(some 57), none, .p (.mov (.t 56))⟩,
 ⟨(some 58), (some (57, true)), .p (.mov (.t 0))⟩,
 ⟨(some 59), (some (57, true)), .p (.mov (.t 7))⟩,
 ⟨(some 60), (some (57, true)), .p (.ixs (.t 58) (.t 59))⟩,
 ⟨(some 61), (some (57, true)), .q (.c (.fn (.func 65) [] [])) [(.t 60)]⟩,
 ⟨(some 62), none, .p (.pick (.t 57) (.t 61) (.c (bl false)))⟩])
 (.cond (.t 62)
 .skip
 (.exit 2)))
 (.blk 3
 (.reg [
 ⟨(some 63), none, .p (.mov (.t 7))⟩,
 ⟨(some 64), none, .p (.bin .add (.i .i64) (.t 63) (.c (i64 1)))⟩,
 ⟨(some 7), none, .p (.mov (.t 64))⟩])))
/-- parlour/parlourref06.next -/
def i53 : IC :=
 (.seq
 (.reg [
 ⟨(some 4), none, .e (.alc 118 [i64 0, st ⟨#[]⟩, i64 0, i64 0])⟩,
 ⟨(some 5), none, .p (.mov (.c (i64 0)))⟩,
 ⟨(some 6), none, .e (.alc 25 [i64 0, i64 0])⟩])
 (.seq
 (.reg [
 ⟨(some 11), none, .p (.mov (.t 1))⟩,
 ⟨(some 7), none, .p (.mov (.t 11))⟩])
 (.seq
 (.reg [
 ⟨(some 12), none, .p (.mov (.t 0))⟩,
 ⟨(some 13), none, .p (.mov (.t 1))⟩,
 ⟨(some 14), none, .p (.ixs (.t 12) (.t 13))⟩,
 ⟨(some 8), none, .p (.mov (.t 14))⟩])
 (.seq
 (.seq
 (.reg [
 ⟨(some 15), none, .p (.mov (.t 8))⟩,
 ⟨(some 16), none, .e (.call (.c (.fn (.func 54) [] [])) [(.t 15)])⟩])
 (.cond (.t 16)
 (.seq
 (.blk 0
 (.loop l53_0))
 (.seq
 (.seq
 (.reg [
 ⟨(some 35), none, .p (.mov (.t 7))⟩,
 ⟨(some 36), none, .p (.mov (.t 1))⟩,
 ⟨(some 37), none, .p (.bin .sub (.i .i64) (.t 35) (.t 36))⟩,
 ⟨(some 38), none, .p (.bin .gtr (.i .i64) (.t 37) (.c (i64 40)))⟩])
 (.cond (.t 38)
 (.seq
 (.reg [
 ⟨(some 39), none, .p (.bld [i64 0, st ⟨#[]⟩, i64 0, i64 0] [])⟩,
 ⟨(some 40), none, .p (.mov (.t 1))⟩,
 ⟨(some 41), none, .p (.mov (.t 1))⟩,
 ⟨(some 42), none, .p (.bld [i64 0, i64 0] [(0, 1, (.c (i64 4))), (1, 1, (.t 41))])⟩,
 ⟨none, none, .e (.st 4 (.t 4) (.t 39))⟩,
 ⟨(some 5), none, .p (.mov (.t 40))⟩,
 ⟨none, none, .e (.st 2 (.t 6) (.t 42))⟩])
 .ret)
 .skip))
 (.seq
 (.reg [
 ⟨(some 43), none, .p (.mov (.t 0))⟩,
 ⟨(some 44), none, .p (.mov (.t 1))⟩,
 ⟨(some 45), none, .p (.mov (.t 7))⟩,
 ⟨(some 46), none, .p (.sls (.t 43) (some (.t 44)) (some (.t 45)))⟩,
 ⟨(some 47), none, .p (.mov (.t 1))⟩,
 ⟨(some 48), none, .p (.bld [i64 0, st ⟨#[]⟩, i64 0, i64 0] [(0, 1, (.c (i64 1))), (1, 1, (.t 46)), (3, 1, (.t 47))])⟩,
 ⟨(some 49), none, .p (.mov (.t 7))⟩,
 ⟨(some 50), none, .p (.bld [i64 0, i64 0] [])⟩,
 ⟨none, none, .e (.st 4 (.t 4) (.t 48))⟩,
 ⟨(some 5), none, .p (.mov (.t 49))⟩,
 ⟨none, none, .e (.st 2 (.t 6) (.t 50))⟩])
 .ret)))
 .skip))
 (.seq
 (.seq
 (.reg [
 ⟨(some 51), none, .p (.mov (.t 8))⟩,
 ⟨(some 52), none, .e (.call (.c (.fn (.func 65) [] [])) [(.t 51)])⟩])
 (.cond (.t 52)
 (.seq
 (.blk 2
 (.loop l53_1))
 (.seq
 (.reg [
 ⟨(some 66), none, .p (.mov (.t 0))⟩,
 ⟨(some 67), none, .p (.mov (.t 1))⟩,
 ⟨(some 68), none, .p (.mov (.t 7))⟩,
 ⟨(some 69), none, .p (.sls (.t 66) (some (.t 67)) (some (.t 68)))⟩,
 ⟨(some 70), none, .e (.call (.c (.fn (.func 66) [] [])) [(.t 69)])⟩,
 ⟨(some 65), none, .p (.mov (.t 70))⟩,
 ⟨(some 71), none, .p (.ext (.t 65) 0)⟩,
 ⟨(some 72), none, .p (.ext (.t 65) 1)⟩,
 ⟨(some 9), none, .p (.mov (.t 71))⟩,
 ⟨(some 10), none, .p (.mov (.t 72))⟩])
 (.seq
 (.seq
 (.reg [
 ⟨(some 73), none, .p (.mov (.t 10))⟩,
 ⟨(some 74), none, .p (.bin .neq (.i .i64) (.t 73) (.c (i64 0)))⟩])
 (.cond (.t 74)
 (.seq
 (.reg [
 ⟨(some 75), none, .p (.bld [i64 0, st ⟨#[]⟩, i64 0, i64 0] [])⟩,
 ⟨(some 76), none, .p (.mov (.t 1))⟩,
 ⟨(some 77), none, .p (.mov (.t 10))⟩,
 ⟨(some 78), none, .p (.mov (.t 1))⟩,
 ⟨(some 79), none, .p (.bld [i64 0, i64 0] [(0, 1, (.t 77)), (1, 1, (.t 78))])⟩,
 ⟨none, none, .e (.st 4 (.t 4) (.t 75))⟩,
 ⟨(some 5), none, .p (.mov (.t 76))⟩,
 ⟨none, none, .e (.st 2 (.t 6) (.t 79))⟩])
 .ret)
 .skip))
 (.seq
 (.reg [
 ⟨(some 80), none, .p (.mov (.t 0))⟩,
 ⟨(some 81), none, .p (.mov (.t 1))⟩,
 ⟨(some 82), none, .p (.mov (.t 7))⟩,
 ⟨(some 83), none, .p (.sls (.t 80) (some (.t 81)) (some (.t 82)))⟩,
 ⟨(some 84), none, .p (.mov (.t 9))⟩,
 ⟨(some 85), none, .p (.mov (.t 1))⟩,
 ⟨(some 86), none, .p (.bld [i64 0, st ⟨#[]⟩, i64 0, i64 0] [(0, 1, (.c (i64 2))), (1, 1, (.t 83)), (2, 1, (.t 84)), (3, 1, (.t 85))])⟩,
 ⟨(some 87), none, .p (.mov (.t 7))⟩,
 ⟨(some 88), none, .p (.bld [i64 0, i64 0] [])⟩,
 ⟨none, none, .e (.st 4 (.t 4) (.t 86))⟩,
 ⟨(some 5), none, .p (.mov (.t 87))⟩,
 ⟨none, none, .e (.st 2 (.t 6) (.t 88))⟩])
 .ret))))
 .skip))
 (.seq
 (.seq
 (.reg [
 ⟨(some 89), none, .p (.mov (.t 1))⟩,
 ⟨(some 90), none, .p (.bin .add (.i .i64) (.t 89) (.c (i64 2)))⟩,
 ⟨(some 91), none, .p (.mov (.t 0))⟩,
 ⟨(some 92), none, .p (.lens (.t 91))⟩,
 ⟨(some 93), none, .p (.bin .leq (.i .i64) (.t 90) (.t 92))⟩,
 ⟨(some 94), none, .p (.mov (.t 93))⟩,
 ⟨(some 95), (some (94, true)), .p (.mov (.t 0))⟩,
 ⟨(some 96), (some (94, true)), .p (.mov (.t 1))⟩,
 ⟨(some 97), (some (94, true)), .p (.mov (.t 1))⟩,
 ⟨(some 98), (some (94, true)), .p (.bin .add (.i .i64) (.t 97) (.c (i64 2)))⟩,
 ⟨(some 99), (some (94, true)), .p (.sls (.t 95) (some (.t 96)) (some (.t 98)))⟩,
 ⟨(some 100), (some (94, true)), .q (.c (.fn (.func 67) [] [])) [(.t 99)]⟩,
 ⟨(some 101), none, .p (.pick (.t 94) (.t 100) (.c (bl false)))⟩])
 (.cond (.t 101)
 (.seq
 (.reg [
 ⟨(some 102), none, .p (.mov (.t 0))⟩,
 ⟨(some 103), none, .p (.mov (.t 1))⟩,
 ⟨(some 104), none, .p (.mov (.t 1))⟩,
 ⟨(some 105), none, .p (.bin .add (.i .i64) (.t 104) (.c (i64 2)))⟩,
 ⟨(some 106), none, .p (.sls (.t 102) (some (.t 103)) (some (.t 105)))⟩,
 ⟨(some 107), none, .p (.mov (.t 1))⟩,
 ⟨(some 108), none, .p (.bld [i64 0, st ⟨#[]⟩, i64 0, i64 0] [(0, 1, (.c (i64 3))), (1, 1, (.t 106)), (3, 1, (.t 107))])⟩,
 ⟨(some 109), none, .p (.mov (.t 1))⟩,
 ⟨(some 110), none, .p (.bin .add (.i .i64) (.t 109) (.c (i64 2)))⟩,
 ⟨(some 111), none, .p (.bld [i64 0, i64 0] [])⟩,
 ⟨none, none, .e (.st 4 (.t 4) (.t 108))⟩,
 ⟨(some 5), none, .p (.mov (.t 110))⟩,
 ⟨none, none, .e (.st 2 (.t 6) (.t 111))⟩])
 .ret)
 .skip))
 (.seq
 (.seq
 (.reg [
 ⟨(some 112), none, .p (.mov (.t 8))⟩,
 ⟨(some 113), none, .e (.call (.c (.fn (.func 68) [] [])) [(.t 112)])⟩])
 (.cond (.t 113)
 (.seq
 (.reg [
 ⟨(some 114), none, .p (.mov (.t 0))⟩,
 ⟨(some 115), none, .p (.mov (.t 1))⟩,
 ⟨(some 116), none, .p (.mov (.t 1))⟩,
 ⟨(some 117), none, .p (.bin .add (.i .i64) (.t 116) (.c (i64 1)))⟩,
 ⟨(some 118), none, .p (.sls (.t 114) (some (.t 115)) (some (.t 117)))⟩,
 ⟨(some 119), none, .p (.mov (.t 1))⟩,
 ⟨(some 120), none, .p (.bld [i64 0, st ⟨#[]⟩, i64 0, i64 0] [(0, 1, (.c (i64 3))), (1, 1, (.t 118)), (3, 1, (.t 119))])⟩,
 ⟨(some 121), none, .p (.mov (.t 1))⟩,
 ⟨(some 122), none, .p (.bin .add (.i .i64) (.t 121) (.c (i64 1)))⟩,
 ⟨(some 123), none, .p (.bld [i64 0, i64 0] [])⟩,
 ⟨none, none, .e (.st 4 (.t 4) (.t 120))⟩,
 ⟨(some 5), none, .p (.mov (.t 122))⟩,
 ⟨none, none, .e (.st 2 (.t 6) (.t 123))⟩])
 .ret)
 .skip))
 (.seq
 (.reg [
 ⟨(some 124), none, .p (.bld [i64 0, st ⟨#[]⟩, i64 0, i64 0] [])⟩,
 ⟨(some 125), none, .p (.mov (.t 1))⟩,
 ⟨(some 126), none, .p (.mov (.t 1))⟩,
 ⟨(some 127), none, .p (.bld [i64 0, i64 0] [(0, 1, (.c (i64 11))), (1, 1, (.t 126))])⟩,
 ⟨none, none, .e (.st 4 (.t 4) (.t 124))⟩,
 ⟨(some 5), none, .p (.mov (.t 125))⟩,
 ⟨none, none, .e (.st 2 (.t 6) (.t 127))⟩])
 .ret))))))))
def r53 : List RS := [.cn 4 4, .t 5, .cn 6 2]
theorem c53 : chkF Tryd.prog drawB Tryd.f53 i53 r53 = true := by kernel_rfl
/-- parlour/parlourref06.letter -/
def i54 : IC :=
 (.seq
 (.reg [
 ⟨(some 2), none, .p (.mov (.c (bl false)))⟩])
 (.seq
 (.reg [
 ⟨(some 3), none, .p (.mov (.t 0))⟩,
 ⟨(some 4), none, .p (.bin .geq (.i .u8) (.t 3) (.c (.val (.int .u8 65))))⟩,
 ⟨(some 5), none, .p (.mov (.t 4))⟩,
 ⟨(some 6), (some (5, true)), .p (.mov (.t 0))⟩,
 ⟨(some 7), (some (5, true)), .p (.bin .leq (.i .u8) (.t 6) (.c (.val (.int .u8 90))))⟩,
 ⟨(some 8), none, .p (.pick (.t 5) (.t 7) (.c (bl false)))⟩,
 ⟨(some 9), none, .p (.mov (.t 8))⟩,
 ⟨(some 10), (some (9, false)), .p (.mov (.t 0))⟩,
 ⟨(some 11), (some (9, false)), .p (.bin .geq (.i .u8) (.t 10) (.c (.val (.int .u8 97))))⟩,
 ⟨(some 12), (some (9, false)), .p (.mov (.t 11))⟩,
 ⟨(some 13), (some (12, true)), .p (.mov (.t 0))⟩,
 ⟨(some 14), (some (12, true)), .p (.bin .leq (.i .u8) (.t 13) (.c (.val (.int .u8 122))))⟩,
 ⟨(some 15), (some (9, false)), .p (.pick (.t 12) (.t 14) (.c (bl false)))⟩,
 ⟨(some 16), none, .p (.pick (.t 9) (.c (bl true)) (.t 15))⟩,
 ⟨(some 17), none, .p (.mov (.t 16))⟩,
 ⟨(some 18), (some (17, false)), .p (.mov (.t 0))⟩,
 ⟨(some 19), (some (17, false)), .p (.bin .eql (.i .u8) (.t 18) (.c (.val (.int .u8 95))))⟩,
 ⟨(some 20), none, .p (.pick (.t 17) (.c (bl true)) (.t 19))⟩,
 ⟨(some 2), none, .p (.mov (.t 20))⟩])
 .ret))
def r54 : List RS := [.t 2]
theorem c54 : chkF Tryd.prog drawB Tryd.f54 i54 r54 = true := by kernel_rfl
def l55_0 : IC := .keep [0, 3, 4]
 (.seq
 (.seq
 (.reg [
 ⟨(some 6), none, .p (.mov (.t 4))⟩,
 ⟨(some 7), none, .p (.mov (.t 3))⟩,
 ⟨(some 8), none, .p (.len (.t 7))⟩,
 ⟨(some 9), none, .p (.bin .lss (.i .i64) (.t 6) (.t 8))⟩])
 (.cond (.t 9)
 .skip
 (.exit 0)))
 (.seq
 (.blk 1
 (.seq
 (.reg [
 ⟨(some 12), none, .p (.mov (.t 3))⟩,
 ⟨(some 13), none, .p (.mov (.t 4))⟩,
 ⟨(some 14), none, .p (.ia 1 (.t 12) (.t 13))⟩,
 ⟨(some 15), none, .p (.ld1 (.t 14))⟩,
 ⟨(some 16), none, .p (.mov (.t 0))⟩,
 ⟨(some 17), none, .p (.bin .eql .s (.t 15) (.t 16))⟩])
 (.cond (.t 17)
 (.seq
 (.reg [
 ⟨(some 2), none, .p (.mov (.c (bl true)))⟩])
 .ret)
 .skip)))
 (.reg [
 ⟨(some 10), none, .p (.mov (.t 4))⟩,
 ⟨(some 11), none, .p (.bin .add (.i .i64) (.t 10) (.c (i64 1)))⟩,
 ⟨(some 4), none, .p (.mov (.t 11))⟩])))
/-- parlour/parlourref07.Reserved -/
def i55 : IC :=
 (.seq
 (.reg [
 ⟨(some 2), none, .p (.mov (.c (bl false)))⟩])
 (.seq
 (.reg [
 ⟨(some 5), none, .e (.bsl 9 1 22 [st ⟨#[]⟩] [(0, (.c (st ⟨#[103, 97, 109, 101]⟩))), (1, (.c (st ⟨#[112, 108, 97, 121, 101, 114, 115]⟩))), (2, (.c (st ⟨#[118, 97, 114]⟩))), (3, (.c (st ⟨#[100, 101, 97, 108]⟩))), (4, (.c (st ⟨#[105, 110]⟩))), (5, (.c (st ⟨#[119, 101, 105, 103, 104, 116]⟩))), (6, (.c (st ⟨#[115, 101, 101, 110]⟩))), (7, (.c (st ⟨#[98, 121]⟩))), (8, (.c (st ⟨#[97, 108, 108]⟩))), (9, (.c (st ⟨#[116, 117, 114, 110]⟩))), (10, (.c (st ⟨#[97, 99, 116, 105, 111, 110]⟩))), (11, (.c (st ⟨#[119, 104, 101, 110]⟩))), (12, (.c (st ⟨#[104, 105, 100, 100, 101, 110]⟩))), (13, (.c (st ⟨#[103, 111, 116, 111]⟩))), (14, (.c (st ⟨#[101, 110, 100]⟩))), (15, (.c (st ⟨#[112, 97, 121]⟩))), (16, (.c (st ⟨#[111, 114]⟩))), (17, (.c (st ⟨#[97, 110, 100]⟩))), (18, (.c (st ⟨#[110, 111, 116]⟩))), (19, (.c (st ⟨#[109, 105, 110]⟩))), (20, (.c (st ⟨#[109, 97, 120]⟩))), (21, (.c (st ⟨#[105, 102]⟩)))])⟩,
 ⟨(some 3), none, .p (.mov (.t 5))⟩])
 (.seq
 (.seq
 (.reg [
 ⟨(some 4), none, .p (.mov (.c (i64 0)))⟩])
 (.blk 0
 (.loop l55_0)))
 (.seq
 (.reg [
 ⟨(some 2), none, .p (.mov (.c (bl false)))⟩])
 .ret))))
def r55 : List RS := [.t 2]
theorem c55 : chkF Tryd.prog drawB Tryd.f55 i55 r55 = true := by kernel_rfl
def l56_0 : IC := .keep [0, 3, 4]
 (.seq
 (.seq
 (.reg [
 ⟨(some 45), none, .p (.mov (.t 0))⟩,
 ⟨(some 46), none, .e (.call (.c (.fn (.func 37) [] [])) [(.t 45), (.c (st ⟨#[44]⟩))])⟩])
 (.cond (.t 46)
 .skip
 (.exit 0)))
 (.blk 1
 (.seq
 (.reg [
 ⟨(some 47), none, .p (.mov (.t 0))⟩,
 ⟨(some 48), none, .e (.call (.c (.fn (.func 34) [] [])) [(.t 47), (.c (st ⟨#[44]⟩))])⟩])
 (.seq
 (.seq
 (.drw [0, 1, 2, 3, 4, 5, 6, 7, 8, 9, 10, 11, 12, 13, 14, 15, 16, 17, 18, 19, 20, 21, 22, 23, 24, 25, 26, 27, 28, 29] [
 ⟨(some 49), none, .p (.fa 7 (.t 3))⟩,
 ⟨(some 50), none, .p (.ld1 (.t 49))⟩,
 ⟨(some 51), none, .p (.len (.t 50))⟩,
 ⟨(some 52), none, .p (.bin .eql (.i .i64) (.t 51) (.c (i64 32)))⟩,
 ⟨(some 53), none, .p (.mov (.t 52))⟩,
 ⟨(some 54), (some (53, true)), .p (.mov (.t 0))⟩,
 ⟨(some 55), (some (53, true)), .p (.nck (.t 54))⟩,
 ⟨(some 56), (some (53, true)), .p (.fa 2 (.t 55))⟩,
 ⟨(some 57), (some (53, true)), .p (.ld1 (.t 56))⟩,
 ⟨(some 58), (some (53, true)), .p (.mov (.t 0))⟩,
 ⟨(some 59), (some (53, true)), .p (.nck (.t 58))⟩,
 ⟨(some 60), (some (53, true)), .p (.fa 0 (.t 59))⟩,
 ⟨(some 61), (some (53, true)), .p (.ld1 (.t 60))⟩,
 ⟨(some 62), (some (53, true)), .p (.len (.t 61))⟩,
 ⟨(some 63), (some (53, true)), .p (.bin .lss (.i .i64) (.t 57) (.t 62))⟩,
 ⟨(some 64), none, .p (.pick (.t 53) (.t 63) (.c (bl false)))⟩,
 ⟨(some 65), none, .p (.mov (.t 64))⟩,
 ⟨(some 66), (some (65, true)), .p (.mov (.t 0))⟩,
 ⟨(some 67), (some (65, true)), .p (.nck (.t 66))⟩,
 ⟨(some 68), (some (65, true)), .p (.fa 0 (.t 67))⟩,
 ⟨(some 69), (some (65, true)), .p (.ld1 (.t 68))⟩,
 ⟨(some 70), (some (65, true)), .p (.mov (.t 0))⟩,
 ⟨(some 71), (some (65, true)), .p (.nck (.t 70))⟩,
 ⟨(some 72), (some (65, true)), .p (.fa 2 (.t 71))⟩,
 ⟨(some 73), (some (65, true)), .p (.ld1 (.t 72))⟩,
 ⟨(some 74), (some (65, true)), .p (.ia 4 (.t 69) (.t 73))⟩,
 ⟨(some 75), (some (65, true)), .p (.fa 0 (.t 74))⟩,
 ⟨(some 76), (some (65, true)), .p (.ld1 (.t 75))⟩,
 ⟨(some 77), (some (65, true)), .p (.bin .eql (.i .i64) (.t 76) (.c (i64 2)))⟩,
 ⟨(some 78), none, .p (.pick (.t 65) (.t 77) (.c (bl false)))⟩])
 (.cond (.t 78)
 (.reg [
 ⟨(some 79), none, .p (.mov (.t 0))⟩,
 ⟨(some 80), none, .e (.call (.c (.fn (.func 39) [] [])) [(.t 79), (.c (i64 12))])⟩])
 .skip))
 (.drw [0, 1, 2, 3, 4, 5, 6, 7] [
 ⟨(some 81), none, .p (.fa 7 (.t 3))⟩,
 ⟨(some 82), none, .p (.ld1 (.t 81))⟩,
 ⟨(some 83), none, .p (.mov (.t 0))⟩,
 ⟨(some 84), none, .e (.call (.c (.fn (.func 36) [] [])) [(.t 83)])⟩,
 ⟨(some 85), none, .e (.bsl 3 1 1 [i64 0] [(0, (.t 84))])⟩,
 ⟨(some 86), none, .e (.app 3 1 8 (.t 82) (.t 85))⟩,
 ⟨(some 87), none, .p (.fa 7 (.t 3))⟩,
 ⟨none, none, .e (.stw [82] 1 (.t 87) (.t 86))⟩])))))
/-- (*parlour/parlourref07.reader).deal -/
def i56 : IC :=
 (.seq
 (.reg [
 ⟨(some 3), none, .e (.box 74 (.t 1))⟩,
 ⟨(some 4), none, .e (.alc 74 [i64 0, st ⟨#[]⟩, st ⟨#[]⟩, i64 0, i64 0, .val (.slice none 0 0), bl false, .val (.slice none 0 0), .val (.slice none 0 0), .val (.slice none 0 0), .val (.slice none 0 0), i64 0])⟩])
 (.seq
 (.reg [
 ⟨(some 5), none, .p (.fa 0 (.t 3))⟩,
 ⟨none, none, .e (.st 1 (.t 5) (.c (i64 1)))⟩])
 (.seq
 (.reg [
 ⟨(some 6), none, .p (.mov (.t 0))⟩,
 ⟨(some 7), none, .e (.call (.c (.fn (.func 34) [] [])) [(.t 6), (.c (st ⟨#[100, 101, 97, 108]⟩))])⟩,
 ⟨(some 8), none, .p (.fa 11 (.t 3))⟩,
 ⟨none, none, .e (.st 1 (.t 8) (.t 7))⟩])
 (.seq
 (.reg [
 ⟨(some 9), none, .p (.mov (.t 0))⟩,
 ⟨(some 10), none, .e (.call (.c (.fn (.func 35) [] [])) [(.t 9)])⟩,
 ⟨(some 11), none, .p (.fa 2 (.t 3))⟩,
 ⟨none, none, .e (.st 1 (.t 11) (.t 10))⟩])
 (.seq
 (.reg [
 ⟨(some 12), none, .p (.mov (.t 0))⟩,
 ⟨(some 13), none, .e (.call (.c (.fn (.func 34) [] [])) [(.t 12), (.c (st ⟨#[105, 110]⟩))])⟩])
 (.seq
 (.reg [
 ⟨(some 14), none, .p (.mov (.t 0))⟩,
 ⟨(some 15), none, .e (.call (.c (.fn (.func 36) [] [])) [(.t 14)])⟩,
 ⟨(some 16), none, .p (.fa 3 (.t 3))⟩,
 ⟨none, none, .e (.st 1 (.t 16) (.t 15))⟩])
 (.seq
 (.reg [
 ⟨(some 17), none, .p (.mov (.t 0))⟩,
 ⟨(some 18), none, .e (.call (.c (.fn (.func 34) [] [])) [(.t 17), (.c (st ⟨#[46, 46]⟩))])⟩])
 (.seq
 (.reg [
 ⟨(some 19), none, .p (.mov (.t 0))⟩,
 ⟨(some 20), none, .e (.call (.c (.fn (.func 36) [] [])) [(.t 19)])⟩,
 ⟨(some 21), none, .p (.fa 4 (.t 3))⟩,
 ⟨none, none, .e (.st 1 (.t 21) (.t 20))⟩])
 (.seq
 (.seq
 (.reg [
 ⟨(some 22), none, .p (.mov (.t 0))⟩,
 ⟨(some 23), none, .e (.call (.c (.fn (.func 37) [] [])) [(.t 22), (.c (st ⟨#[119, 101, 105, 103, 104, 116]⟩))])⟩])
 (.cond (.t 23)
 (.seq
 (.reg [
 ⟨(some 24), none, .p (.mov (.t 0))⟩,
 ⟨(some 25), none, .e (.call (.c (.fn (.func 34) [] [])) [(.t 24), (.c (st ⟨#[119, 101, 105, 103, 104, 116]⟩))])⟩])
 (.reg [
 ⟨(some 26), none, .p (.mov (.t 0))⟩,
 ⟨(some 27), none, .e (.call (.c (.fn (.func 45) [] [])) [(.t 26)])⟩,
 ⟨(some 28), none, .e (.bsl 36 5 1 [i64 0, i64 0, st ⟨#[]⟩, .val (.slice none 0 0), i64 0] [(0, (.t 27))])⟩,
 ⟨(some 29), none, .p (.fa 5 (.t 3))⟩,
 ⟨none, none, .e (.st 1 (.t 29) (.t 28))⟩]))
 .skip))
 (.seq
 (.seq
 (.reg [
 ⟨(some 30), none, .p (.mov (.t 0))⟩,
 ⟨(some 31), none, .e (.call (.c (.fn (.func 37) [] [])) [(.t 30), (.c (st ⟨#[115, 101, 101, 110]⟩))])⟩])
 (.cond (.t 31)
 (.seq
 (.reg [
 ⟨(some 32), none, .p (.mov (.t 0))⟩,
 ⟨(some 33), none, .e (.call (.c (.fn (.func 34) [] [])) [(.t 32), (.c (st ⟨#[115, 101, 101, 110]⟩))])⟩])
 (.seq
 (.reg [
 ⟨(some 34), none, .p (.mov (.t 0))⟩,
 ⟨(some 35), none, .e (.call (.c (.fn (.func 34) [] [])) [(.t 34), (.c (st ⟨#[98, 121]⟩))])⟩])
 (.seq
 (.reg [
 ⟨(some 36), none, .p (.mov (.t 0))⟩,
 ⟨(some 37), none, .e (.call (.c (.fn (.func 37) [] [])) [(.t 36), (.c (st ⟨#[97, 108, 108]⟩))])⟩])
 (.cond (.t 37)
 (.seq
 (.reg [
 ⟨(some 38), none, .p (.mov (.t 0))⟩,
 ⟨(some 39), none, .e (.call (.c (.fn (.func 34) [] [])) [(.t 38), (.c (st ⟨#[97, 108, 108]⟩))])⟩])
 (.reg [
 ⟨(some 40), none, .p (.fa 6 (.t 3))⟩,
 ⟨none, none, .e (.st 1 (.t 40) (.c (bl true)))⟩]))
 (.seq
 (.reg [
 ⟨(some 41), none, .p (.mov (.t 0))⟩,
 ⟨(some 42), none, .e (.call (.c (.fn (.func 36) [] [])) [(.t 41)])⟩,
 ⟨(some 43), none, .e (.bsl 3 1 1 [i64 0] [(0, (.t 42))])⟩,
 ⟨(some 44), none, .p (.fa 7 (.t 3))⟩,
 ⟨none, none, .e (.st 1 (.t 44) (.t 43))⟩])
 (.blk 0
 (.loop l56_0)))))))
 .skip))
 (.seq
 (.reg [
 ⟨(some 88), none, .p (.mov (.t 0))⟩,
 ⟨(some 89), none, .e (.call (.c (.fn (.func 34) [] [])) [(.t 88), (.c (st ⟨#[59]⟩))])⟩])
 (.seq
 (.reg [
 ⟨(some 90), none, .p (.ldn 12 (.t 3))⟩,
 ⟨none, none, .e (.st 12 (.t 4) (.t 90))⟩])
 .ret))))))))))))
def r56 : List RS := [.cn 4 12]
theorem c56 : chkF Tryd.prog drawB Tryd.f56 i56 r56 = true := by kernel_rfl
def l57_0 : IC := .keep [0, 3, 4]
 (.seq
 (.seq
 (.reg [
 ⟨(some 19), none, .p (.mov (.t 0))⟩,
 ⟨(some 20), none, .e (.call (.c (.fn (.func 37) [] [])) [(.t 19), (.c (st ⟨#[97, 99, 116, 105, 111, 110]⟩))])⟩])
 (.cond (.t 20)
 .skip
 (.exit 0)))
 (.blk 1
 (.seq
 (.seq
 (.reg [
 ⟨(some 21), none, .p (.fa 9 (.t 3))⟩,
 ⟨(some 22), none, .p (.ld1 (.t 21))⟩,
 ⟨(some 23), none, .p (.len (.t 22))⟩,
 ⟨(some 24), none, .p (.bin .eql (.i .i64) (.t 23) (.c (i64 10)))⟩])
 (.cond (.t 24)
 (.reg [
 ⟨(some 25), none, .p (.mov (.t 0))⟩,
 ⟨(some 26), none, .e (.call (.c (.fn (.func 39) [] [])) [(.t 25), (.c (i64 12))])⟩])
 .skip))
 (.drw [0, 1, 2, 3, 4, 5, 6, 7] [
 ⟨(some 27), none, .p (.fa 9 (.t 3))⟩,
 ⟨(some 28), none, .p (.ld1 (.t 27))⟩,
 ⟨(some 29), none, .p (.mov (.t 0))⟩,
 ⟨(some 30), none, .e (.call (.c (.fn (.func 69) [] [])) [(.t 29)])⟩,
 ⟨(some 31), none, .e (.bsl 102 6 1 [st ⟨#[]⟩, .val (.slice none 0 0), bl false, .val (.slice none 0 0), st ⟨#[]⟩, i64 0] [(0, (.t 30))])⟩,
 ⟨(some 32), none, .e (.app 102 6 96 (.t 28) (.t 31))⟩,
 ⟨(some 33), none, .p (.fa 9 (.t 3))⟩,
 ⟨none, none, .e (.stw [28] 1 (.t 33) (.t 32))⟩]))))
/-- (*parlour/parlourref07.reader).turn -/
def i57 : IC :=
 (.seq
 (.reg [
 ⟨(some 3), none, .e (.box 74 (.t 1))⟩,
 ⟨(some 4), none, .e (.alc 74 [i64 0, st ⟨#[]⟩, st ⟨#[]⟩, i64 0, i64 0, .val (.slice none 0 0), bl false, .val (.slice none 0 0), .val (.slice none 0 0), .val (.slice none 0 0), .val (.slice none 0 0), i64 0])⟩])
 (.seq
 (.reg [
 ⟨(some 5), none, .p (.fa 0 (.t 3))⟩,
 ⟨none, none, .e (.st 1 (.t 5) (.c (i64 2)))⟩])
 (.seq
 (.reg [
 ⟨(some 6), none, .p (.mov (.t 0))⟩,
 ⟨(some 7), none, .e (.call (.c (.fn (.func 34) [] [])) [(.t 6), (.c (st ⟨#[116, 117, 114, 110]⟩))])⟩,
 ⟨(some 8), none, .p (.fa 11 (.t 3))⟩,
 ⟨none, none, .e (.st 1 (.t 8) (.t 7))⟩])
 (.seq
 (.reg [
 ⟨(some 9), none, .p (.mov (.t 0))⟩,
 ⟨(some 10), none, .e (.call (.c (.fn (.func 45) [] [])) [(.t 9)])⟩,
 ⟨(some 11), none, .e (.bsl 36 5 1 [i64 0, i64 0, st ⟨#[]⟩, .val (.slice none 0 0), i64 0] [(0, (.t 10))])⟩,
 ⟨(some 12), none, .p (.fa 8 (.t 3))⟩,
 ⟨none, none, .e (.st 1 (.t 12) (.t 11))⟩])
 (.seq
 (.reg [
 ⟨(some 13), none, .p (.mov (.t 0))⟩,
 ⟨(some 14), none, .e (.call (.c (.fn (.func 34) [] [])) [(.t 13), (.c (st ⟨#[123]⟩))])⟩])
 (.seq
 (.reg [
 ⟨(some 15), none, .p (.mov (.t 0))⟩,
 ⟨(some 16), none, .e (.call (.c (.fn (.func 69) [] [])) [(.t 15)])⟩,
 ⟨(some 17), none, .e (.bsl 102 6 1 [st ⟨#[]⟩, .val (.slice none 0 0), bl false, .val (.slice none 0 0), st ⟨#[]⟩, i64 0] [(0, (.t 16))])⟩,
 ⟨(some 18), none, .p (.fa 9 (.t 3))⟩,
 ⟨none, none, .e (.st 1 (.t 18) (.t 17))⟩])
 (.seq
 (.blk 0
 (.loop l57_0))
 (.seq
 (.reg [
 ⟨(some 34), none, .p (.mov (.t 0))⟩,
 ⟨(some 35), none, .e (.call (.c (.fn (.func 34) [] [])) [(.t 34), (.c (st ⟨#[125]⟩))])⟩])
 (.seq
 (.reg [
 ⟨(some 36), none, .p (.ldn 12 (.t 3))⟩,
 ⟨none, none, .e (.st 12 (.t 4) (.t 36))⟩])
 .ret)))))))))
def r57 : List RS := [.cn 4 12]
theorem c57 : chkF Tryd.prog drawB Tryd.f57 i57 r57 = true := by kernel_rfl
def l58_0 : IC := .keep [0, 3]
 (.seq
 (.seq
 (.reg [
 ⟨(some 7), none, .p (.mov (.t 0))⟩,
 ⟨(some 8), none, .e (.call (.c (.fn (.func 37) [] [])) [(.t 7), (.c (st ⟨#[44]⟩))])⟩])
 (.cond (.t 8)
 .skip
 (.exit 0)))
 (.blk 1
 (.seq
 (.reg [
 ⟨(some 9), none, .p (.mov (.t 0))⟩,
 ⟨(some 10), none, .e (.call (.c (.fn (.func 34) [] [])) [(.t 9), (.c (st ⟨#[44]⟩))])⟩])
 (.seq
 (.seq
 (.reg [
 ⟨(some 11), none, .p (.mov (.t 3))⟩,
 ⟨(some 12), none, .p (.len (.t 11))⟩,
 ⟨(some 13), none, .p (.bin .eql (.i .i64) (.t 12) (.c (i64 32)))⟩,
 ⟨(some 14), none, .p (.mov (.t 13))⟩,
 ⟨(some 15), (some (14, true)), .p (.mov (.t 0))⟩,
 ⟨(some 16), (some (14, true)), .q (.c (.fn (.func 70) [] [])) [(.t 15)]⟩,
 ⟨(some 17), none, .p (.pick (.t 14) (.t 16) (.c (bl false)))⟩])
 (.cond (.t 17)
 (.reg [
 ⟨(some 18), none, .p (.mov (.t 0))⟩,
 ⟨(some 19), none, .e (.call (.c (.fn (.func 39) [] [])) [(.t 18), (.c (i64 12))])⟩])
 .skip))
 (.reg [
 ⟨(some 20), none, .p (.mov (.t 3))⟩,
 ⟨(some 21), none, .p (.mov (.t 0))⟩,
 ⟨(some 22), none, .e (.call (.c (.fn (.func 45) [] [])) [(.t 21)])⟩,
 ⟨(some 23), none, .e (.bsl 36 5 1 [i64 0, i64 0, st ⟨#[]⟩, .val (.slice none 0 0), i64 0] [(0, (.t 22))])⟩,
 ⟨(some 24), none, .e (.app 36 5 64 (.t 20) (.t 23))⟩,
 ⟨(some 3), none, .p (.mov (.t 24))⟩])))))
/-- (*parlour/parlourref07.reader).exprs -/
def i58 : IC :=
 (.seq
 (.reg [
 ⟨(some 2), none, .p (.mov (.c (.val (.slice none 0 0))))⟩])
 (.seq
 (.reg [
 ⟨(some 4), none, .p (.mov (.t 0))⟩,
 ⟨(some 5), none, .e (.call (.c (.fn (.func 45) [] [])) [(.t 4)])⟩,
 ⟨(some 6), none, .e (.bsl 36 5 1 [i64 0, i64 0, st ⟨#[]⟩, .val (.slice none 0 0), i64 0] [(0, (.t 5))])⟩,
 ⟨(some 3), none, .p (.mov (.t 6))⟩])
 (.seq
 (.blk 0
 (.loop l58_0))
 (.seq
 (.reg [
 ⟨(some 25), none, .p (.mov (.t 3))⟩,
 ⟨(some 2), none, .p (.mov (.t 25))⟩])
 .ret))))
def r58 : List RS := [.t 2]
theorem c58 : chkF Tryd.prog drawB Tryd.f58 i58 r58 = true := by kernel_rfl
def l60_0 : IC := .keep [0, 2, 3]
 (.seq
 (.seq
 (.reg [
 ⟨(some 7), none, .p (.mov (.t 0))⟩,
 ⟨(some 8), none, .e (.call (.c (.fn (.func 37) [] [])) [(.t 7), (.c (st ⟨#[97, 110, 100]⟩))])⟩])
 (.cond (.t 8)
 .skip
 (.exit 0)))
 (.blk 1
 (.seq
 (.reg [
 ⟨(some 9), none, .p (.mov (.t 0))⟩,
 ⟨(some 10), none, .e (.call (.c (.fn (.func 34) [] [])) [(.t 9), (.c (st ⟨#[97, 110, 100]⟩))])⟩,
 ⟨(some 4), none, .p (.mov (.t 10))⟩])
 (.drw [0, 1, 2, 3, 4, 5] [
 ⟨(some 11), none, .p (.mov (.t 4))⟩,
 ⟨(some 12), none, .p (.ldn 5 (.t 3))⟩,
 ⟨(some 13), none, .p (.mov (.t 0))⟩,
 ⟨(some 14), none, .e (.call (.c (.fn (.func 71) [] [])) [(.t 13)])⟩,
 ⟨(some 15), none, .q (.c (.fn (.func 61) [] [])) [(.c (i64 16)), (.t 11), (.t 12), (.t 14)]⟩,
 ⟨none, none, .e (.st 5 (.t 3) (.t 15))⟩]))))
/-- (*parlour/parlourref07.reader).and -/
def i60 : IC :=
 (.seq
 (.reg [
 ⟨(some 2), none, .e (.alc 36 [i64 0, i64 0, st ⟨#[]⟩, .val (.slice none 0 0), i64 0])⟩])
 (.seq
 (.reg [
 ⟨(some 5), none, .p (.mov (.t 0))⟩,
 ⟨(some 6), none, .e (.call (.c (.fn (.func 71) [] [])) [(.t 5)])⟩,
 ⟨(some 3), none, .e (.alc 36 [i64 0, i64 0, st ⟨#[]⟩, .val (.slice none 0 0), i64 0])⟩,
 ⟨none, none, .e (.st 5 (.t 3) (.t 6))⟩])
 (.seq
 (.blk 0
 (.loop l60_0))
 (.seq
 (.reg [
 ⟨(some 16), none, .p (.ldn 5 (.t 3))⟩,
 ⟨none, none, .e (.st 5 (.t 2) (.t 16))⟩])
 .ret))))
def r60 : List RS := [.cn 2 5]
theorem c60 : chkF Tryd.prog drawB Tryd.f60 i60 r60 = true := by kernel_rfl
/-- parlour/parlourref07.two -/
def i61 : IC :=
 (.seq
 (.reg [
 ⟨(some 6), none, .e (.box 36 (.t 2))⟩,
 ⟨(some 7), none, .e (.box 36 (.t 3))⟩,
 ⟨(some 8), none, .e (.alc 36 [i64 0, i64 0, st ⟨#[]⟩, .val (.slice none 0 0), i64 0])⟩])
 (.seq
 (.reg [
 ⟨(some 9), none, .p (.mov (.t 0))⟩,
 ⟨(some 10), none, .p (.ldn 5 (.t 6))⟩,
 ⟨(some 11), none, .p (.ldn 5 (.t 7))⟩,
 ⟨(some 12), none, .e (.bsl 36 5 2 [i64 0, i64 0, st ⟨#[]⟩, .val (.slice none 0 0), i64 0] [(0, (.t 10)), (1, (.t 11))])⟩,
 ⟨(some 13), none, .p (.mov (.t 1))⟩,
 ⟨(some 14), none, .p (.bld [i64 0, i64 0, st ⟨#[]⟩, .val (.slice none 0 0), i64 0] [(0, 1, (.t 9)), (3, 1, (.t 12)), (4, 1, (.t 13))])⟩,
 ⟨none, none, .e (.st 5 (.t 8) (.t 14))⟩])
 .ret))
def r61 : List RS := [.cn 8 5]
theorem c61 : chkF Tryd.prog drawB Tryd.f61 i61 r61 = true := by kernel_rfl
/-- parlour/parlourref06.digit -/
def i65 : IC :=
 (.seq
 (.reg [
 ⟨(some 2), none, .p (.mov (.c (bl false)))⟩])
 (.seq
 (.reg [
 ⟨(some 3), none, .p (.mov (.t 0))⟩,
 ⟨(some 4), none, .p (.bin .geq (.i .u8) (.t 3) (.c (.val (.int .u8 48))))⟩,
 ⟨(some 5), none, .p (.mov (.t 4))⟩,
 ⟨(some 6), (some (5, true)), .p (.mov (.t 0))⟩,
 ⟨(some 7), (some (5, true)), .p (.bin .leq (.i .u8) (.t 6) (.c (.val (.int .u8 57))))⟩,
 ⟨(some 8), none, .p (.pick (.t 5) (.t 7) (.c (bl false)))⟩,
 ⟨(some 2), none, .p (.mov (.t 8))⟩])
 .ret))
def r65 : List RS := [.t 2]
theorem c65 : chkF Tryd.prog drawB Tryd.f65 i65 r65 = true := by kernel_rfl
def l66_0 : IC := .keep [0, 4, 5]
 (.seq
 (.seq
 (.reg [
 ⟨(some 17), none, .p (.mov (.t 5))⟩,
 ⟨(some 18), none, .p (.mov (.t 0))⟩,
 ⟨(some 19), none, .p (.lens (.t 18))⟩,
 ⟨(some 20), none, .p (.bin .lss (.i .i64) (.t 17) (.t 19))⟩])
 (.cond (.t 20)
 .skip
 (.exit 0)))
 (.seq
 (.blk 1
 (.reg [
 ⟨(some 23), none, .p (.mov (.t 4))⟩,
 ⟨(some 24), none, .p (.bin .mul (.i .i64) (.c (i64 10)) (.t 23))⟩,
 ⟨(some 25), none, .p (.mov (.t 0))⟩,
 ⟨(some 26), none, .p (.mov (.t 5))⟩,
 ⟨(some 27), none, .p (.ixs (.t 25) (.t 26))⟩,
 ⟨(some 28), none, .p (.bin .sub (.i .u8) (.t 27) (.c (.val (.int .u8 48))))⟩,
 ⟨(some 29), none, .p (.cvi .i64 (.t 28))⟩,
 ⟨(some 30), none, .p (.bin .add (.i .i64) (.t 24) (.t 29))⟩,
 ⟨(some 4), none, .p (.mov (.t 30))⟩]))
 (.reg [
 ⟨(some 21), none, .p (.mov (.t 5))⟩,
 ⟨(some 22), none, .p (.bin .add (.i .i64) (.t 21) (.c (i64 1)))⟩,
 ⟨(some 5), none, .p (.mov (.t 22))⟩])))
/-- parlour/parlourref06.number -/
def i66 : IC :=
 (.seq
 (.reg [
 ⟨(some 2), none, .p (.mov (.c (i64 0)))⟩,
 ⟨(some 3), none, .p (.mov (.c (i64 0)))⟩])
 (.seq
 (.seq
 (.reg [
 ⟨(some 6), none, .p (.mov (.t 0))⟩,
 ⟨(some 7), none, .p (.lens (.t 6))⟩,
 ⟨(some 8), none, .p (.bin .gtr (.i .i64) (.t 7) (.c (i64 1)))⟩,
 ⟨(some 9), none, .p (.mov (.t 8))⟩,
 ⟨(some 10), (some (9, true)), .p (.mov (.t 0))⟩,
 ⟨(some 11), (some (9, true)), .p (.ixs (.t 10) (.c (i64 0)))⟩,
 ⟨(some 12), (some (9, true)), .p (.bin .eql (.i .u8) (.t 11) (.c (.val (.int .u8 48))))⟩,
 ⟨(some 13), none, .p (.pick (.t 9) (.t 12) (.c (bl false)))⟩])
 (.cond (.t 13)
 (.seq
 (.reg [
 ⟨(some 2), none, .p (.mov (.c (i64 0)))⟩,
 ⟨(some 3), none, .p (.mov (.c (i64 3)))⟩])
 .ret)
 .skip))
 (.seq
 (.seq
 (.reg [
 ⟨(some 14), none, .p (.mov (.t 0))⟩,
 ⟨(some 15), none, .p (.lens (.t 14))⟩,
 ⟨(some 16), none, .p (.bin .gtr (.i .i64) (.t 15) (.c (i64 10)))⟩])
 (.cond (.t 16)
 (.seq
 (.reg [
 ⟨(some 2), none, .p (.mov (.c (i64 0)))⟩,
 ⟨(some 3), none, .p (.mov (.c (i64 2)))⟩])
 .ret)
 .skip))
 (.seq
 (.reg [
 ⟨(some 4), none, .p (.mov (.c (i64 0)))⟩])
 (.seq
 (.seq
 (.reg [
 ⟨(some 5), none, .p (.mov (.c (i64 0)))⟩])
 (.blk 0
 (.loop l66_0)))
 (.seq
 (.seq
 (.reg [
 ⟨(some 31), none, .p (.mov (.t 4))⟩,
 ⟨(some 32), none, .p (.bin .gtr (.i .i64) (.t 31) (.c (i64 1000000000)))⟩])
 (.cond (.t 32)
 (.seq
 (.reg [
 ⟨(some 2), none, .p (.mov (.c (i64 0)))⟩,
 ⟨(some 3), none, .p (.mov (.c (i64 2)))⟩])
 .ret)
 .skip))
 (.seq
 (.reg [
 ⟨(some 33), none, .p (.mov (.t 4))⟩,
 ⟨(some 2), none, .p (.mov (.t 33))⟩,
 ⟨(some 3), none, .p (.mov (.c (i64 0)))⟩])
 .ret)))))))
def r66 : List RS := [.t 2, .t 3]
theorem c66 : chkF Tryd.prog drawB Tryd.f66 i66 r66 = true := by kernel_rfl
/-- parlour/parlourref06.double -/
def i67 : IC :=
 (.seq
 (.reg [
 ⟨(some 2), none, .p (.mov (.c (bl false)))⟩])
 (.seq
 (.reg [
 ⟨(some 3), none, .p (.mov (.t 0))⟩,
 ⟨(some 4), none, .p (.bin .eql .s (.t 3) (.c (st ⟨#[61, 61]⟩)))⟩,
 ⟨(some 5), none, .p (.mov (.t 4))⟩,
 ⟨(some 6), (some (5, false)), .p (.mov (.t 0))⟩,
 ⟨(some 7), (some (5, false)), .p (.bin .eql .s (.t 6) (.c (st ⟨#[33, 61]⟩)))⟩,
 ⟨(some 8), none, .p (.pick (.t 5) (.c (bl true)) (.t 7))⟩,
 ⟨(some 9), none, .p (.mov (.t 8))⟩,
 ⟨(some 10), (some (9, false)), .p (.mov (.t 0))⟩,
 ⟨(some 11), (some (9, false)), .p (.bin .eql .s (.t 10) (.c (st ⟨#[60, 61]⟩)))⟩,
 ⟨(some 12), none, .p (.pick (.t 9) (.c (bl true)) (.t 11))⟩,
 ⟨(some 13), none, .p (.mov (.t 12))⟩,
 ⟨(some 14), (some (13, false)), .p (.mov (.t 0))⟩,
 ⟨(some 15), (some (13, false)), .p (.bin .eql .s (.t 14) (.c (st ⟨#[62, 61]⟩)))⟩,
 ⟨(some 16), none, .p (.pick (.t 13) (.c (bl true)) (.t 15))⟩,
 ⟨(some 17), none, .p (.mov (.t 16))⟩,
 ⟨(some 18), (some (17, false)), .p (.mov (.t 0))⟩,
 ⟨(some 19), (some (17, false)), .p (.bin .eql .s (.t 18) (.c (st ⟨#[46, 46]⟩)))⟩,
 ⟨(some 20), none, .p (.pick (.t 17) (.c (bl true)) (.t 19))⟩,
 ⟨(some 2), none, .p (.mov (.t 20))⟩])
 .ret))
def r67 : List RS := [.t 2]
theorem c67 : chkF Tryd.prog drawB Tryd.f67 i67 r67 = true := by kernel_rfl
def l68_0 : IC := .keep [0, 3, 4]
 (.seq
 (.seq
 (.reg [
 ⟨(some 5), none, .p (.mov (.t 4))⟩,
 ⟨(some 6), none, .p (.mov (.t 3))⟩,
 ⟨(some 7), none, .p (.lens (.t 6))⟩,
 ⟨(some 8), none, .p (.bin .lss (.i .i64) (.t 5) (.t 7))⟩])
 (.cond (.t 8)
 .skip
 (.exit 0)))
 (.seq
 (.blk 1
 (.seq
 (.reg [
 ⟨(some 11), none, .p (.mov (.t 3))⟩,
 ⟨(some 12), none, .p (.mov (.t 4))⟩,
 ⟨(some 13), none, .p (.ixs (.t 11) (.t 12))⟩,
 ⟨(some 14), none, .p (.mov (.t 0))⟩,
 ⟨(some 15), none, .p (.bin .eql (.i .u8) (.t 13) (.t 14))⟩])
 (.cond (.t 15)
 (.seq
 (.reg [
 ⟨(some 2), none, .p (.mov (.c (bl true)))⟩])
 .ret)
 .skip)))
 (.reg [
 ⟨(some 9), none, .p (.mov (.t 4))⟩,
 ⟨(some 10), none, .p (.bin .add (.i .i64) (.t 9) (.c (i64 1)))⟩,
 ⟨(some 4), none, .p (.mov (.t 10))⟩])))
/-- parlour/parlourref06.single -/
def i68 : IC :=
 (.seq
 (.reg [
 ⟨(some 2), none, .p (.mov (.c (bl false)))⟩])
 (.seq
 (.reg [
 ⟨(some 3), none, .p (.mov (.c (st ⟨#[123, 125, 40, 41, 58, 59, 44, 43, 45, 42, 47, 37, 60, 62, 61]⟩)))⟩])
 (.seq
 (.seq
 (.reg [
 ⟨(some 4), none, .p (.mov (.c (i64 0)))⟩])
 (.blk 0
 (.loop l68_0)))
 (.seq
 (.reg [
 ⟨(some 2), none, .p (.mov (.c (bl false)))⟩])
 .ret))))
def r68 : List RS := [.t 2]
theorem c68 : chkF Tryd.prog drawB Tryd.f68 i68 r68 = true := by kernel_rfl
def l69_0 : IC := .keep [0, 2, 3]
 (.seq
 (.seq
 (.reg [
 ⟨(some 26), none, .p (.mov (.t 0))⟩,
 ⟨(some 27), none, .e (.call (.c (.fn (.func 41) [] [])) [(.t 26)])⟩,
 ⟨(some 28), none, .p (.not (.t 27))⟩,
 ⟨(some 29), none, .p (.mov (.t 28))⟩,
 ⟨(some 30), (some (29, true)), .p (.mov (.t 0))⟩,
 ⟨(some 31), (some (29, true)), .q (.c (.fn (.func 37) [] [])) [(.t 30), (.c (st ⟨#[125]⟩))]⟩,
 ⟨(some 32), (some (29, true)), .p (.not (.t 31))⟩,
 ⟨(some 33), none, .p (.pick (.t 29) (.t 32) (.c (bl false)))⟩])
 (.cond (.t 33)
 .skip
 (.exit 0)))
 (.blk 1
 (.seq
 (.seq
 (.reg [
 ⟨(some 34), none, .p (.fa 3 (.t 3))⟩,
 ⟨(some 35), none, .p (.ld1 (.t 34))⟩,
 ⟨(some 36), none, .p (.len (.t 35))⟩,
 ⟨(some 37), none, .p (.bin .eql (.i .i64) (.t 36) (.c (i64 32)))⟩,
 ⟨(some 38), none, .p (.mov (.t 37))⟩,
 ⟨(some 39), (some (38, true)), .p (.mov (.t 0))⟩,
 ⟨(some 40), (some (38, true)), .q (.c (.fn (.func 38) [] [])) [(.t 39)]⟩,
 ⟨(some 41), none, .p (.pick (.t 38) (.t 40) (.c (bl false)))⟩])
 (.cond (.t 41)
 (.reg [
 ⟨(some 42), none, .p (.mov (.t 0))⟩,
 ⟨(some 43), none, .e (.call (.c (.fn (.func 39) [] [])) [(.t 42), (.c (i64 12))])⟩])
 .skip))
 (.seq
 (.reg [
 ⟨(some 44), none, .p (.mov (.t 0))⟩,
 ⟨(some 45), none, .e (.call (.c (.fn (.func 40) [] [])) [(.t 44)])⟩,
 ⟨(some 46), none, .p (.bld [st ⟨#[]⟩, i64 0, i64 0, st ⟨#[]⟩, .val (.slice none 0 0), i64 0, i64 0] [(6, 1, (.t 45))])⟩,
 ⟨(some 4), none, .e (.alc 127 [st ⟨#[]⟩, i64 0, i64 0, st ⟨#[]⟩, .val (.slice none 0 0), i64 0, i64 0])⟩,
 ⟨none, none, .e (.st 7 (.t 4) (.t 46))⟩])
 (.seq
 (.reg [
 ⟨(some 47), none, .p (.mov (.t 0))⟩,
 ⟨(some 48), none, .e (.call (.c (.fn (.func 35) [] [])) [(.t 47)])⟩,
 ⟨(some 49), none, .p (.fa 0 (.t 4))⟩,
 ⟨none, none, .e (.st 1 (.t 49) (.t 48))⟩])
 (.seq
 (.reg [
 ⟨(some 50), none, .p (.mov (.t 0))⟩,
 ⟨(some 51), none, .e (.call (.c (.fn (.func 34) [] [])) [(.t 50), (.c (st ⟨#[61]⟩))])⟩])
 (.seq
 (.reg [
 ⟨(some 52), none, .p (.mov (.t 0))⟩,
 ⟨(some 53), none, .e (.call (.c (.fn (.func 45) [] [])) [(.t 52)])⟩,
 ⟨(some 54), none, .p (.fa 1 (.t 4))⟩,
 ⟨none, none, .e (.st 5 (.t 54) (.t 53))⟩])
 (.seq
 (.reg [
 ⟨(some 55), none, .p (.mov (.t 0))⟩,
 ⟨(some 56), none, .e (.call (.c (.fn (.func 34) [] [])) [(.t 55), (.c (st ⟨#[59]⟩))])⟩])
 (.reg [
 ⟨(some 57), none, .p (.fa 3 (.t 3))⟩,
 ⟨(some 58), none, .p (.ld1 (.t 57))⟩,
 ⟨(some 59), none, .p (.ldn 7 (.t 4))⟩,
 ⟨(some 60), none, .e (.bsl 127 7 1 [st ⟨#[]⟩, i64 0, i64 0, st ⟨#[]⟩, .val (.slice none 0 0), i64 0, i64 0] [(0, (.t 59))])⟩,
 ⟨(some 61), none, .e (.app 127 7 88 (.t 58) (.t 60))⟩,
 ⟨(some 62), none, .p (.fa 3 (.t 3))⟩,
 ⟨none, none, .e (.st 1 (.t 62) (.t 61))⟩])))))))))
/-- (*parlour/parlourref07.reader).act -/
def i69 : IC :=
 (.seq
 (.reg [
 ⟨(some 2), none, .e (.alc 102 [st ⟨#[]⟩, .val (.slice none 0 0), bl false, .val (.slice none 0 0), st ⟨#[]⟩, i64 0])⟩])
 (.seq
 (.reg [
 ⟨(some 5), none, .p (.mov (.t 0))⟩,
 ⟨(some 6), none, .e (.call (.c (.fn (.func 34) [] [])) [(.t 5), (.c (st ⟨#[97, 99, 116, 105, 111, 110]⟩))])⟩,
 ⟨(some 7), none, .p (.bld [st ⟨#[]⟩, .val (.slice none 0 0), bl false, .val (.slice none 0 0), st ⟨#[]⟩, i64 0] [(5, 1, (.t 6))])⟩,
 ⟨(some 3), none, .e (.alc 102 [st ⟨#[]⟩, .val (.slice none 0 0), bl false, .val (.slice none 0 0), st ⟨#[]⟩, i64 0])⟩,
 ⟨none, none, .e (.st 6 (.t 3) (.t 7))⟩])
 (.seq
 (.reg [
 ⟨(some 8), none, .p (.mov (.t 0))⟩,
 ⟨(some 9), none, .e (.call (.c (.fn (.func 35) [] [])) [(.t 8)])⟩,
 ⟨(some 10), none, .p (.fa 0 (.t 3))⟩,
 ⟨none, none, .e (.st 1 (.t 10) (.t 9))⟩])
 (.seq
 (.seq
 (.reg [
 ⟨(some 11), none, .p (.mov (.t 0))⟩,
 ⟨(some 12), none, .e (.call (.c (.fn (.func 37) [] [])) [(.t 11), (.c (st ⟨#[119, 104, 101, 110]⟩))])⟩])
 (.cond (.t 12)
 (.seq
 (.reg [
 ⟨(some 13), none, .p (.mov (.t 0))⟩,
 ⟨(some 14), none, .e (.call (.c (.fn (.func 34) [] [])) [(.t 13), (.c (st ⟨#[119, 104, 101, 110]⟩))])⟩])
 (.reg [
 ⟨(some 15), none, .p (.mov (.t 0))⟩,
 ⟨(some 16), none, .e (.call (.c (.fn (.func 45) [] [])) [(.t 15)])⟩,
 ⟨(some 17), none, .e (.bsl 36 5 1 [i64 0, i64 0, st ⟨#[]⟩, .val (.slice none 0 0), i64 0] [(0, (.t 16))])⟩,
 ⟨(some 18), none, .p (.fa 1 (.t 3))⟩,
 ⟨none, none, .e (.st 1 (.t 18) (.t 17))⟩]))
 .skip))
 (.seq
 (.seq
 (.reg [
 ⟨(some 19), none, .p (.mov (.t 0))⟩,
 ⟨(some 20), none, .e (.call (.c (.fn (.func 37) [] [])) [(.t 19), (.c (st ⟨#[104, 105, 100, 100, 101, 110]⟩))])⟩])
 (.cond (.t 20)
 (.seq
 (.reg [
 ⟨(some 21), none, .p (.mov (.t 0))⟩,
 ⟨(some 22), none, .e (.call (.c (.fn (.func 34) [] [])) [(.t 21), (.c (st ⟨#[104, 105, 100, 100, 101, 110]⟩))])⟩])
 (.reg [
 ⟨(some 23), none, .p (.fa 2 (.t 3))⟩,
 ⟨none, none, .e (.st 1 (.t 23) (.c (bl true)))⟩]))
 .skip))
 (.seq
 (.reg [
 ⟨(some 24), none, .p (.mov (.t 0))⟩,
 ⟨(some 25), none, .e (.call (.c (.fn (.func 34) [] [])) [(.t 24), (.c (st ⟨#[123]⟩))])⟩])
 (.seq
 (.blk 0
 (.loop l69_0))
 (.seq
 (.reg [
 ⟨(some 63), none, .p (.mov (.t 0))⟩,
 ⟨(some 64), none, .e (.call (.c (.fn (.func 34) [] [])) [(.t 63), (.c (st ⟨#[125]⟩))])⟩])
 (.seq
 (.seq
 (.reg [
 ⟨(some 65), none, .p (.mov (.t 0))⟩,
 ⟨(some 66), none, .e (.call (.c (.fn (.func 37) [] [])) [(.t 65), (.c (st ⟨#[103, 111, 116, 111]⟩))])⟩])
 (.cond (.t 66)
 (.seq
 (.reg [
 ⟨(some 67), none, .p (.mov (.t 0))⟩,
 ⟨(some 68), none, .e (.call (.c (.fn (.func 34) [] [])) [(.t 67), (.c (st ⟨#[103, 111, 116, 111]⟩))])⟩])
 (.seq
 (.reg [
 ⟨(some 69), none, .p (.mov (.t 0))⟩,
 ⟨(some 70), none, .e (.call (.c (.fn (.func 35) [] [])) [(.t 69)])⟩,
 ⟨(some 71), none, .p (.fa 4 (.t 3))⟩,
 ⟨none, none, .e (.st 1 (.t 71) (.t 70))⟩])
 (.reg [
 ⟨(some 72), none, .p (.mov (.t 0))⟩,
 ⟨(some 73), none, .e (.call (.c (.fn (.func 34) [] [])) [(.t 72), (.c (st ⟨#[59]⟩))])⟩])))
 .skip))
 (.seq
 (.reg [
 ⟨(some 74), none, .p (.ldn 6 (.t 3))⟩,
 ⟨none, none, .e (.st 6 (.t 2) (.t 74))⟩])
 .ret))))))))))
def r69 : List RS := [.cn 2 6]
theorem c69 : chkF Tryd.prog drawB Tryd.f69 i69 r69 = true := by kernel_rfl
/-- (*parlour/parlourref07.reader).begins -/
def i70 : IC :=
 (.seq
 (.reg [
 ⟨(some 2), none, .p (.mov (.c (bl false)))⟩])
 (.seq
 (.seq
 (.drw [0, 1, 2, 3, 4, 5, 6, 7, 8, 9, 10, 11, 12, 13] [
 ⟨(some 3), none, .p (.mov (.t 0))⟩,
 ⟨(some 4), none, .q (.c (.fn (.func 41) [] [])) [(.t 3)]⟩,
 ⟨(some 5), none, .p (.mov (.t 4))⟩,
 ⟨(some 6), (some (5, false)), .p (.mov (.t 0))⟩,
 ⟨(some 7), (some (5, false)), .p (.nck (.t 6))⟩,
 ⟨(some 8), (some (5, false)), .p (.fa 2 (.t 7))⟩,
 ⟨(some 9), (some (5, false)), .p (.ld1 (.t 8))⟩,
 ⟨(some 10), (some (5, false)), .p (.mov (.t 0))⟩,
 ⟨(some 11), (some (5, false)), .p (.nck (.t 10))⟩,
 ⟨(some 12), (some (5, false)), .p (.fa 0 (.t 11))⟩,
 ⟨(some 13), (some (5, false)), .p (.ld1 (.t 12))⟩,
 ⟨(some 14), (some (5, false)), .p (.len (.t 13))⟩,
 ⟨(some 15), (some (5, false)), .p (.bin .geq (.i .i64) (.t 9) (.t 14))⟩,
 ⟨(some 16), none, .p (.pick (.t 5) (.c (bl true)) (.t 15))⟩])
 (.cond (.t 16)
 (.seq
 (.reg [
 ⟨(some 2), none, .p (.mov (.c (bl false)))⟩])
 .ret)
 .skip))
 (.seq
 (.drw [0, 1, 2, 3, 4, 5, 6, 7, 8, 9, 10, 11, 12, 13, 14, 15, 16, 17, 18, 19, 20, 21, 22, 23, 24, 25, 26, 27, 28, 29, 30, 31, 32, 33, 34, 35, 36, 37, 38, 39, 40] [
 ⟨(some 17), none, .p (.mov (.t 0))⟩,
 ⟨(some 18), none, .p (.nck (.t 17))⟩,
 ⟨(some 19), none, .p (.fa 0 (.t 18))⟩,
 ⟨(some 20), none, .p (.ld1 (.t 19))⟩,
 ⟨(some 21), none, .p (.mov (.t 0))⟩,
 ⟨(some 22), none, .p (.nck (.t 21))⟩,
 ⟨(some 23), none, .p (.fa 2 (.t 22))⟩,
 ⟨(some 24), none, .p (.ld1 (.t 23))⟩,
 ⟨(some 25), none, .p (.ia 4 (.t 20) (.t 24))⟩,
 ⟨(some 26), none, .p (.fa 0 (.t 25))⟩,
 ⟨(some 27), none, .p (.ld1 (.t 26))⟩,
 ⟨(some 28), none, .p (.bin .eql (.i .i64) (.t 27) (.c (i64 2)))⟩,
 ⟨(some 29), none, .p (.mov (.t 28))⟩,
 ⟨(some 30), (some (29, false)), .p (.mov (.t 0))⟩,
 ⟨(some 31), (some (29, false)), .q (.c (.fn (.func 38) [] [])) [(.t 30)]⟩,
 ⟨(some 32), none, .p (.pick (.t 29) (.c (bl true)) (.t 31))⟩,
 ⟨(some 33), none, .p (.mov (.t 32))⟩,
 ⟨(some 34), (some (33, false)), .p (.mov (.t 0))⟩,
 ⟨(some 35), (some (33, false)), .q (.c (.fn (.func 37) [] [])) [(.t 34), (.c (st ⟨#[110, 111, 116]⟩))]⟩,
 ⟨(some 36), none, .p (.pick (.t 33) (.c (bl true)) (.t 35))⟩,
 ⟨(some 37), none, .p (.mov (.t 36))⟩,
 ⟨(some 38), (some (37, false)), .p (.mov (.t 0))⟩,
 ⟨(some 39), (some (37, false)), .q (.c (.fn (.func 37) [] [])) [(.t 38), (.c (st ⟨#[45]⟩))]⟩,
 ⟨(some 40), none, .p (.pick (.t 37) (.c (bl true)) (.t 39))⟩,
 ⟨(some 41), none, .p (.mov (.t 40))⟩,
 ⟨(some 42), (some (41, false)), .p (.mov (.t 0))⟩,
 ⟨(some 43), (some (41, false)), .q (.c (.fn (.func 37) [] [])) [(.t 42), (.c (st ⟨#[40]⟩))]⟩,
 ⟨(some 44), none, .p (.pick (.t 41) (.c (bl true)) (.t 43))⟩,
 ⟨(some 45), none, .p (.mov (.t 44))⟩,
 ⟨(some 46), (some (45, false)), .p (.mov (.t 0))⟩,
 ⟨(some 47), (some (45, false)), .q (.c (.fn (.func 37) [] [])) [(.t 46), (.c (st ⟨#[109, 105, 110]⟩))]⟩,
 ⟨(some 48), none, .p (.pick (.t 45) (.c (bl true)) (.t 47))⟩,
 ⟨(some 49), none, .p (.mov (.t 48))⟩,
 ⟨(some 50), (some (49, false)), .p (.mov (.t 0))⟩,
 ⟨(some 51), (some (49, false)), .q (.c (.fn (.func 37) [] [])) [(.t 50), (.c (st ⟨#[109, 97, 120]⟩))]⟩,
 ⟨(some 52), none, .p (.pick (.t 49) (.c (bl true)) (.t 51))⟩,
 ⟨(some 53), none, .p (.mov (.t 52))⟩,
 ⟨(some 54), (some (53, false)), .p (.mov (.t 0))⟩,
 ⟨(some 55), (some (53, false)), .q (.c (.fn (.func 37) [] [])) [(.t 54), (.c (st ⟨#[105, 102]⟩))]⟩,
 ⟨(some 56), none, .p (.pick (.t 53) (.c (bl true)) (.t 55))⟩,
 ⟨(some 2), none, .p (.mov (.t 56))⟩])
 .ret)))
def r70 : List RS := [.t 2]
theorem c70 : chkF Tryd.prog drawB Tryd.f70 i70 r70 = true := by kernel_rfl
/-- (*parlour/parlourref07.reader).not -/
def i71 : IC :=
 (.seq
 (.reg [
 ⟨(some 2), none, .e (.alc 36 [i64 0, i64 0, st ⟨#[]⟩, .val (.slice none 0 0), i64 0])⟩])
 (.seq
 (.seq
 (.reg [
 ⟨(some 5), none, .p (.mov (.t 0))⟩,
 ⟨(some 6), none, .e (.call (.c (.fn (.func 37) [] [])) [(.t 5), (.c (st ⟨#[110, 111, 116]⟩))])⟩,
 ⟨(some 7), none, .p (.not (.t 6))⟩])
 (.cond (.t 7)
 (.seq
 (.reg [
 ⟨(some 8), none, .p (.mov (.t 0))⟩,
 ⟨(some 9), none, .e (.call (.c (.fn (.func 72) [] [])) [(.t 8)])⟩,
 ⟨none, none, .e (.st 5 (.t 2) (.t 9))⟩])
 .ret)
 .skip))
 (.seq
 (.reg [
 ⟨(some 10), none, .p (.mov (.t 0))⟩,
 ⟨(some 11), none, .e (.call (.c (.fn (.func 73) [] [])) [(.t 10), (.c (st ⟨#[110, 111, 116]⟩))])⟩,
 ⟨(some 3), none, .p (.mov (.t 11))⟩])
 (.seq
 (.seq
 (.reg [
 ⟨(some 12), none, .p (.mov (.t 0))⟩,
 ⟨(some 13), none, .e (.call (.c (.fn (.func 41) [] [])) [(.t 12)])⟩])
 (.cond (.t 13)
 (.seq
 (.reg [
 ⟨(some 14), none, .p (.bld [i64 0, i64 0, st ⟨#[]⟩, .val (.slice none 0 0), i64 0] [])⟩,
 ⟨none, none, .e (.st 5 (.t 2) (.t 14))⟩])
 .ret)
 .skip))
 (.seq
 (.reg [
 ⟨(some 15), none, .p (.mov (.t 0))⟩,
 ⟨(some 16), none, .e (.call (.c (.fn (.func 71) [] [])) [(.t 15)])⟩,
 ⟨(some 4), none, .e (.alc 36 [i64 0, i64 0, st ⟨#[]⟩, .val (.slice none 0 0), i64 0])⟩,
 ⟨none, none, .e (.st 5 (.t 4) (.t 16))⟩])
 (.seq
 (.reg [
 ⟨(some 17), none, .p (.mov (.t 0))⟩,
 ⟨(some 18), none, .p (.nck (.t 17))⟩,
 ⟨(some 19), none, .p (.fa 3 (.t 18))⟩,
 ⟨(some 20), none, .p (.ld1 (.t 19))⟩,
 ⟨(some 21), none, .p (.bin .sub (.i .i64) (.t 20) (.c (i64 1)))⟩,
 ⟨(some 22), none, .p (.nck (.t 17))⟩,
 ⟨(some 23), none, .p (.fa 3 (.t 22))⟩,
 ⟨none, none, .e (.st 1 (.t 23) (.t 21))⟩])
 (.seq
 (.reg [
 ⟨(some 24), none, .p (.ldn 5 (.t 4))⟩,
 ⟨(some 25), none, .e (.bsl 36 5 1 [i64 0, i64 0, st ⟨#[]⟩, .val (.slice none 0 0), i64 0] [(0, (.t 24))])⟩,
 ⟨(some 26), none, .p (.mov (.t 3))⟩,
 ⟨(some 27), none, .p (.bld [i64 0, i64 0, st ⟨#[]⟩, .val (.slice none 0 0), i64 0] [(0, 1, (.c (i64 4))), (3, 1, (.t 25)), (4, 1, (.t 26))])⟩,
 ⟨none, none, .e (.st 5 (.t 2) (.t 27))⟩])
 .ret)))))))
def r71 : List RS := [.cn 2 5]
theorem c71 : chkF Tryd.prog drawB Tryd.f71 i71 r71 = true := by kernel_rfl
def l72_0 : IC := .keep [0, 2, 3, 4, 5]
 (.seq
 (.seq
 (.reg [
 ⟨(some 10), none, .p (.mov (.t 5))⟩,
 ⟨(some 11), none, .p (.bin .lss (.i .i64) (.t 10) (.c (i64 6)))⟩])
 (.cond (.t 11)
 .skip
 (.exit 0)))
 (.seq
 (.blk 1
 (.seq
 (.reg [
 ⟨(some 14), none, .p (.mov (.t 0))⟩,
 ⟨(some 15), none, .p (.mov (.t 4))⟩,
 ⟨(some 16), none, .p (.mov (.t 5))⟩,
 ⟨(some 17), none, .p (.ia 1 (.t 15) (.t 16))⟩,
 ⟨(some 18), none, .p (.ld1 (.t 17))⟩,
 ⟨(some 19), none, .e (.call (.c (.fn (.func 37) [] [])) [(.t 14), (.t 18)])⟩])
 (.cond (.t 19)
 (.seq
 (.reg [
 ⟨(some 20), none, .p (.mov (.t 0))⟩,
 ⟨(some 21), none, .p (.mov (.t 4))⟩,
 ⟨(some 22), none, .p (.mov (.t 5))⟩,
 ⟨(some 23), none, .p (.ia 1 (.t 21) (.t 22))⟩,
 ⟨(some 24), none, .p (.ld1 (.t 23))⟩,
 ⟨(some 25), none, .e (.call (.c (.fn (.func 34) [] [])) [(.t 20), (.t 24)])⟩,
 ⟨(some 6), none, .p (.mov (.t 25))⟩])
 (.seq
 (.drw [0, 1, 2, 3, 4, 5, 6, 7] [
 ⟨(some 26), none, .p (.mov (.t 5))⟩,
 ⟨(some 27), none, .p (.bin .add (.i .i64) (.c (i64 10)) (.t 26))⟩,
 ⟨(some 28), none, .p (.mov (.t 6))⟩,
 ⟨(some 29), none, .p (.ldn 5 (.t 3))⟩,
 ⟨(some 30), none, .p (.mov (.t 0))⟩,
 ⟨(some 31), none, .e (.call (.c (.fn (.func 74) [] [])) [(.t 30)])⟩,
 ⟨(some 32), none, .q (.c (.fn (.func 61) [] [])) [(.t 27), (.t 28), (.t 29), (.t 31)]⟩,
 ⟨none, none, .e (.st 5 (.t 2) (.t 32))⟩])
 .ret))
 .skip)))
 (.reg [
 ⟨(some 12), none, .p (.mov (.t 5))⟩,
 ⟨(some 13), none, .p (.bin .add (.i .i64) (.t 12) (.c (i64 1)))⟩,
 ⟨(some 5), none, .p (.mov (.t 13))⟩])))
/-- (*parlour/parlourref07.reader).comp -/
def i72 : IC :=
 (.seq
 (.reg [
 ⟨(some 2), none, .e (.alc 36 [i64 0, i64 0, st ⟨#[]⟩, .val (.slice none 0 0), i64 0])⟩])
 (.seq
 (.reg [
 ⟨(some 7), none, .p (.mov (.t 0))⟩,
 ⟨(some 8), none, .e (.call (.c (.fn (.func 74) [] [])) [(.t 7)])⟩,
 ⟨(some 3), none, .e (.alc 36 [i64 0, i64 0, st ⟨#[]⟩, .val (.slice none 0 0), i64 0])⟩,
 ⟨none, none, .e (.st 5 (.t 3) (.t 8))⟩])
 (.seq
 (.reg [
 ⟨(some 9), none, .e (.bsl 9 1 6 [st ⟨#[]⟩] [(0, (.c (st ⟨#[61, 61]⟩))), (1, (.c (st ⟨#[33, 61]⟩))), (2, (.c (st ⟨#[60]⟩))), (3, (.c (st ⟨#[60, 61]⟩))), (4, (.c (st ⟨#[62]⟩))), (5, (.c (st ⟨#[62, 61]⟩)))])⟩,
 ⟨(some 4), none, .p (.mov (.t 9))⟩])
 (.seq
 (.seq
 (.reg [
 ⟨(some 5), none, .p (.mov (.c (i64 0)))⟩])
 (.blk 0
 (.loop l72_0)))
 (.seq
 (.reg [
 ⟨(some 33), none, .p (.ldn 5 (.t 3))⟩,
 ⟨none, none, .e (.st 5 (.t 2) (.t 33))⟩])
 .ret)))))
def r72 : List RS := [.cn 2 5]
theorem c72 : chkF Tryd.prog drawB Tryd.f72 i72 r72 = true := by kernel_rfl
/-- (*parlour/parlourref07.reader).open -/
def i73 : IC :=
 (.seq
 (.reg [
 ⟨(some 4), none, .p (.mov (.c (i64 0)))⟩])
 (.seq
 (.seq
 (.reg [
 ⟨(some 5), none, .p (.mov (.t 0))⟩,
 ⟨(some 6), none, .p (.mov (.t 1))⟩,
 ⟨(some 7), none, .e (.call (.c (.fn (.func 37) [] [])) [(.t 5), (.t 6)])⟩,
 ⟨(some 8), none, .p (.mov (.t 7))⟩,
 ⟨(some 9), (some (8, true)), .p (.mov (.t 0))⟩,
 ⟨(some 10), (some (8, true)), .p (.nck (.t 9))⟩,
 ⟨(some 11), (some (8, true)), .p (.fa 3 (.t 10))⟩,
 ⟨(some 12), (some (8, true)), .p (.ld1 (.t 11))⟩,
 ⟨(some 13), (some (8, true)), .p (.bin .eql (.i .i64) (.t 12) (.c (i64 40)))⟩,
 ⟨(some 14), none, .p (.pick (.t 8) (.t 13) (.c (bl false)))⟩])
 (.cond (.t 14)
 (.reg [
 ⟨(some 15), none, .p (.mov (.t 0))⟩,
 ⟨(some 16), none, .e (.call (.c (.fn (.func 39) [] [])) [(.t 15), (.c (i64 5))])⟩])
 .skip))
 (.seq
 (.reg [
 ⟨(some 17), none, .p (.mov (.t 0))⟩,
 ⟨(some 18), none, .p (.nck (.t 17))⟩,
 ⟨(some 19), none, .p (.fa 3 (.t 18))⟩,
 ⟨(some 20), none, .p (.ld1 (.t 19))⟩,
 ⟨(some 21), none, .p (.bin .add (.i .i64) (.t 20) (.c (i64 1)))⟩,
 ⟨(some 22), none, .p (.nck (.t 17))⟩,
 ⟨(some 23), none, .p (.fa 3 (.t 22))⟩,
 ⟨none, none, .e (.st 1 (.t 23) (.t 21))⟩])
 (.seq
 (.reg [
 ⟨(some 24), none, .p (.mov (.t 0))⟩,
 ⟨(some 25), none, .p (.mov (.t 1))⟩,
 ⟨(some 26), none, .e (.call (.c (.fn (.func 34) [] [])) [(.t 24), (.t 25)])⟩,
 ⟨(some 4), none, .p (.mov (.t 26))⟩])
 .ret))))
def r73 : List RS := [.t 4]
theorem c73 : chkF Tryd.prog drawB Tryd.f73 i73 r73 = true := by kernel_rfl
def l74_0 : IC := .keep [0, 2, 3]
 (.seq
 (.seq
 (.reg [
 ⟨(some 8), none, .p (.mov (.t 0))⟩,
 ⟨(some 9), none, .e (.call (.c (.fn (.func 37) [] [])) [(.t 8), (.c (st ⟨#[43]⟩))])⟩,
 ⟨(some 10), none, .p (.mov (.t 9))⟩,
 ⟨(some 11), (some (10, false)), .p (.mov (.t 0))⟩,
 ⟨(some 12), (some (10, false)), .q (.c (.fn (.func 37) [] [])) [(.t 11), (.c (st ⟨#[45]⟩))]⟩,
 ⟨(some 13), none, .p (.pick (.t 10) (.c (bl true)) (.t 12))⟩])
 (.cond (.t 13)
 .skip
 (.exit 0)))
 (.blk 1
 (.seq
 (.reg [
 ⟨(some 4), none, .p (.mov (.c (i64 8)))⟩])
 (.seq
 (.seq
 (.reg [
 ⟨(some 14), none, .p (.mov (.t 0))⟩,
 ⟨(some 15), none, .e (.call (.c (.fn (.func 37) [] [])) [(.t 14), (.c (st ⟨#[45]⟩))])⟩])
 (.cond (.t 15)
 (.reg [
 ⟨(some 4), none, .p (.mov (.c (i64 9)))⟩])
 .skip))
 (.seq
 (.reg [
 ⟨(some 16), none, .p (.mov (.t 0))⟩,
 ⟨(some 17), none, .e (.call (.c (.fn (.func 40) [] [])) [(.t 16)])⟩,
 ⟨(some 5), none, .p (.mov (.t 17))⟩])
 (.seq
 (.reg [
 ⟨(some 18), none, .p (.mov (.t 0))⟩,
 ⟨(some 19), none, .p (.nck (.t 18))⟩,
 ⟨(some 20), none, .p (.fa 2 (.t 19))⟩,
 ⟨(some 21), none, .p (.ld1 (.t 20))⟩,
 ⟨(some 22), none, .p (.bin .add (.i .i64) (.t 21) (.c (i64 1)))⟩,
 ⟨(some 23), none, .p (.nck (.t 18))⟩,
 ⟨(some 24), none, .p (.fa 2 (.t 23))⟩,
 ⟨none, none, .e (.st 1 (.t 24) (.t 22))⟩])
 (.drw [0, 1, 2, 3, 4, 5, 6] [
 ⟨(some 25), none, .p (.mov (.t 4))⟩,
 ⟨(some 26), none, .p (.mov (.t 5))⟩,
 ⟨(some 27), none, .p (.ldn 5 (.t 3))⟩,
 ⟨(some 28), none, .p (.mov (.t 0))⟩,
 ⟨(some 29), none, .e (.call (.c (.fn (.func 75) [] [])) [(.t 28)])⟩,
 ⟨(some 30), none, .q (.c (.fn (.func 61) [] [])) [(.t 25), (.t 26), (.t 27), (.t 29)]⟩,
 ⟨none, none, .e (.st 5 (.t 3) (.t 30))⟩])))))))
/-- (*parlour/parlourref07.reader).sum -/
def i74 : IC :=
 (.seq
 (.reg [
 ⟨(some 2), none, .e (.alc 36 [i64 0, i64 0, st ⟨#[]⟩, .val (.slice none 0 0), i64 0])⟩])
 (.seq
 (.reg [
 ⟨(some 6), none, .p (.mov (.t 0))⟩,
 ⟨(some 7), none, .e (.call (.c (.fn (.func 75) [] [])) [(.t 6)])⟩,
 ⟨(some 3), none, .e (.alc 36 [i64 0, i64 0, st ⟨#[]⟩, .val (.slice none 0 0), i64 0])⟩,
 ⟨none, none, .e (.st 5 (.t 3) (.t 7))⟩])
 (.seq
 (.blk 0
 (.loop l74_0))
 (.seq
 (.reg [
 ⟨(some 31), none, .p (.ldn 5 (.t 3))⟩,
 ⟨none, none, .e (.st 5 (.t 2) (.t 31))⟩])
 .ret))))
def r74 : List RS := [.cn 2 5]
theorem c74 : chkF Tryd.prog drawB Tryd.f74 i74 r74 = true := by kernel_rfl
def l75_0 : IC := .keep [0, 2, 3]
 (.seq
 (.seq
 (.reg [
 ⟨(some 8), none, .p (.mov (.t 0))⟩,
 ⟨(some 9), none, .e (.call (.c (.fn (.func 37) [] [])) [(.t 8), (.c (st ⟨#[42]⟩))])⟩,
 ⟨(some 10), none, .p (.mov (.t 9))⟩,
 ⟨(some 11), (some (10, false)), .p (.mov (.t 0))⟩,
 ⟨(some 12), (some (10, false)), .q (.c (.fn (.func 37) [] [])) [(.t 11), (.c (st ⟨#[47]⟩))]⟩,
 ⟨(some 13), none, .p (.pick (.t 10) (.c (bl true)) (.t 12))⟩,
 ⟨(some 14), none, .p (.mov (.t 13))⟩,
 ⟨(some 15), (some (14, false)), .p (.mov (.t 0))⟩,
 ⟨(some 16), (some (14, false)), .q (.c (.fn (.func 37) [] [])) [(.t 15), (.c (st ⟨#[37]⟩))]⟩,
 ⟨(some 17), none, .p (.pick (.t 14) (.c (bl true)) (.t 16))⟩])
 (.cond (.t 17)
 .skip
 (.exit 0)))
 (.blk 1
 (.seq
 (.reg [
 ⟨(some 4), none, .p (.mov (.c (i64 5)))⟩])
 (.seq
 (.seq
 (.reg [
 ⟨(some 18), none, .p (.mov (.t 0))⟩,
 ⟨(some 19), none, .e (.call (.c (.fn (.func 37) [] [])) [(.t 18), (.c (st ⟨#[47]⟩))])⟩])
 (.cond (.t 19)
 (.reg [
 ⟨(some 4), none, .p (.mov (.c (i64 6)))⟩])
 .skip))
 (.seq
 (.seq
 (.reg [
 ⟨(some 20), none, .p (.mov (.t 0))⟩,
 ⟨(some 21), none, .e (.call (.c (.fn (.func 37) [] [])) [(.t 20), (.c (st ⟨#[37]⟩))])⟩])
 (.cond (.t 21)
 (.reg [
 ⟨(some 4), none, .p (.mov (.c (i64 7)))⟩])
 .skip))
 (.seq
 (.reg [
 ⟨(some 22), none, .p (.mov (.t 0))⟩,
 ⟨(some 23), none, .e (.call (.c (.fn (.func 40) [] [])) [(.t 22)])⟩,
 ⟨(some 5), none, .p (.mov (.t 23))⟩])
 (.seq
 (.reg [
 ⟨(some 24), none, .p (.mov (.t 0))⟩,
 ⟨(some 25), none, .p (.nck (.t 24))⟩,
 ⟨(some 26), none, .p (.fa 2 (.t 25))⟩,
 ⟨(some 27), none, .p (.ld1 (.t 26))⟩,
 ⟨(some 28), none, .p (.bin .add (.i .i64) (.t 27) (.c (i64 1)))⟩,
 ⟨(some 29), none, .p (.nck (.t 24))⟩,
 ⟨(some 30), none, .p (.fa 2 (.t 29))⟩,
 ⟨none, none, .e (.st 1 (.t 30) (.t 28))⟩])
 (.drw [0, 1, 2, 3, 4, 5, 6] [
 ⟨(some 31), none, .p (.mov (.t 4))⟩,
 ⟨(some 32), none, .p (.mov (.t 5))⟩,
 ⟨(some 33), none, .p (.ldn 5 (.t 3))⟩,
 ⟨(some 34), none, .p (.mov (.t 0))⟩,
 ⟨(some 35), none, .e (.call (.c (.fn (.func 76) [] [])) [(.t 34)])⟩,
 ⟨(some 36), none, .q (.c (.fn (.func 61) [] [])) [(.t 31), (.t 32), (.t 33), (.t 35)]⟩,
 ⟨none, none, .e (.st 5 (.t 3) (.t 36))⟩]))))))))
/-- (*parlour/parlourref07.reader).term -/
def i75 : IC :=
 (.seq
 (.reg [
 ⟨(some 2), none, .e (.alc 36 [i64 0, i64 0, st ⟨#[]⟩, .val (.slice none 0 0), i64 0])⟩])
 (.seq
 (.reg [
 ⟨(some 6), none, .p (.mov (.t 0))⟩,
 ⟨(some 7), none, .e (.call (.c (.fn (.func 76) [] [])) [(.t 6)])⟩,
 ⟨(some 3), none, .e (.alc 36 [i64 0, i64 0, st ⟨#[]⟩, .val (.slice none 0 0), i64 0])⟩,
 ⟨none, none, .e (.st 5 (.t 3) (.t 7))⟩])
 (.seq
 (.blk 0
 (.loop l75_0))
 (.seq
 (.reg [
 ⟨(some 37), none, .p (.ldn 5 (.t 3))⟩,
 ⟨none, none, .e (.st 5 (.t 2) (.t 37))⟩])
 .ret))))
def r75 : List RS := [.cn 2 5]
theorem c75 : chkF Tryd.prog drawB Tryd.f75 i75 r75 = true := by kernel_rfl
def l76_1 : IC := .keep [0, 2, 8, 9, 10]
 (.seq
 (.seq
 (.reg [
 ⟨(some 97), none, .p (.mov (.t 10))⟩,
 ⟨(some 98), none, .p (.mov (.t 8))⟩,
 ⟨(some 99), none, .p (.bin .quo (.i .i64) (.t 98) (.c (i64 2)))⟩,
 ⟨(some 100), none, .p (.bin .leq (.i .i64) (.t 97) (.t 99))⟩])
 (.cond (.t 100)
 .skip
 (.exit 2)))
 (.seq
 (.blk 3
 (.seq
 (.reg [
 ⟨(some 103), none, .p (.mov (.t 0))⟩,
 ⟨(some 104), none, .e (.call (.c (.fn (.func 34) [] [])) [(.t 103), (.c (st ⟨#[44]⟩))])⟩])
 (.seq
 (.seq
 (.reg [
 ⟨(some 105), none, .p (.mov (.t 0))⟩,
 ⟨(some 106), none, .e (.call (.c (.fn (.func 41) [] [])) [(.t 105)])⟩])
 (.cond (.t 106)
 (.seq
 (.reg [
 ⟨(some 107), none, .p (.bld [i64 0, i64 0, st ⟨#[]⟩, .val (.slice none 0 0), i64 0] [])⟩,
 ⟨none, none, .e (.st 5 (.t 2) (.t 107))⟩])
 .ret)
 .skip))
 (.drw [0, 1, 2, 3, 4, 5, 6, 7] [
 ⟨(some 108), none, .p (.fa 3 (.t 9))⟩,
 ⟨(some 109), none, .p (.ld1 (.t 108))⟩,
 ⟨(some 110), none, .p (.mov (.t 0))⟩,
 ⟨(some 111), none, .e (.call (.c (.fn (.func 45) [] [])) [(.t 110)])⟩,
 ⟨(some 112), none, .e (.bsl 36 5 1 [i64 0, i64 0, st ⟨#[]⟩, .val (.slice none 0 0), i64 0] [(0, (.t 111))])⟩,
 ⟨(some 113), none, .e (.app 36 5 64 (.t 109) (.t 112))⟩,
 ⟨(some 114), none, .p (.fa 3 (.t 9))⟩,
 ⟨none, none, .e (.stw [109] 1 (.t 114) (.t 113))⟩]))))
 (.reg [
 ⟨(some 101), none, .p (.mov (.t 10))⟩,
 ⟨(some 102), none, .p (.bin .add (.i .i64) (.t 101) (.c (i64 1)))⟩,
 ⟨(some 10), none, .p (.mov (.t 102))⟩])))
def l76_0 : IC := .keep [0, 2, 3, 6, 7, 8]
 (.seq
 (.seq
 (.reg [
 ⟨(some 63), none, .p (.mov (.t 8))⟩,
 ⟨(some 64), none, .p (.bin .lss (.i .i64) (.t 63) (.c (i64 3)))⟩])
 (.cond (.t 64)
 .skip
 (.exit 0)))
 (.seq
 (.blk 1
 (.seq
 (.reg [
 ⟨(some 67), none, .p (.mov (.t 0))⟩,
 ⟨(some 68), none, .p (.mov (.t 7))⟩,
 ⟨(some 69), none, .p (.mov (.t 8))⟩,
 ⟨(some 70), none, .p (.ia 1 (.t 68) (.t 69))⟩,
 ⟨(some 71), none, .p (.ld1 (.t 70))⟩,
 ⟨(some 72), none, .e (.call (.c (.fn (.func 37) [] [])) [(.t 67), (.t 71)])⟩])
 (.cond (.t 72)
 (.seq
 (.reg [
 ⟨(some 73), none, .p (.mov (.t 0))⟩,
 ⟨(some 74), none, .p (.mov (.t 7))⟩,
 ⟨(some 75), none, .p (.mov (.t 8))⟩,
 ⟨(some 76), none, .p (.ia 1 (.t 74) (.t 75))⟩,
 ⟨(some 77), none, .p (.ld1 (.t 76))⟩,
 ⟨(some 78), none, .e (.call (.c (.fn (.func 34) [] [])) [(.t 73), (.t 77)])⟩])
 (.seq
 (.reg [
 ⟨(some 79), none, .p (.mov (.t 0))⟩,
 ⟨(some 80), none, .e (.call (.c (.fn (.func 73) [] [])) [(.t 79), (.c (st ⟨#[40]⟩))])⟩])
 (.seq
 (.seq
 (.reg [
 ⟨(some 81), none, .p (.mov (.t 0))⟩,
 ⟨(some 82), none, .e (.call (.c (.fn (.func 41) [] [])) [(.t 81)])⟩])
 (.cond (.t 82)
 (.seq
 (.reg [
 ⟨(some 83), none, .p (.bld [i64 0, i64 0, st ⟨#[]⟩, .val (.slice none 0 0), i64 0] [])⟩,
 ⟨none, none, .e (.st 5 (.t 2) (.t 83))⟩])
 .ret)
 .skip))
 (.seq
 (.reg [
 ⟨(some 84), none, .p (.mov (.t 6))⟩,
 ⟨(some 85), none, .p (.mov (.t 8))⟩,
 ⟨(some 86), none, .p (.ia 1 (.t 84) (.t 85))⟩,
 ⟨(some 87), none, .p (.ld1 (.t 86))⟩,
 ⟨(some 88), none, .p (.mov (.t 3))⟩,
 ⟨(some 89), none, .p (.bld [i64 0, i64 0, st ⟨#[]⟩, .val (.slice none 0 0), i64 0] [(0, 1, (.t 87)), (4, 1, (.t 88))])⟩,
 ⟨(some 9), none, .e (.alc 36 [i64 0, i64 0, st ⟨#[]⟩, .val (.slice none 0 0), i64 0])⟩,
 ⟨none, none, .e (.st 5 (.t 9) (.t 89))⟩])
 (.seq
 (.drw [0, 1, 2, 3, 4, 5, 6, 7] [
 ⟨(some 90), none, .p (.fa 3 (.t 9))⟩,
 ⟨(some 91), none, .p (.ld1 (.t 90))⟩,
 ⟨(some 92), none, .p (.mov (.t 0))⟩,
 ⟨(some 93), none, .e (.call (.c (.fn (.func 45) [] [])) [(.t 92)])⟩,
 ⟨(some 94), none, .e (.bsl 36 5 1 [i64 0, i64 0, st ⟨#[]⟩, .val (.slice none 0 0), i64 0] [(0, (.t 93))])⟩,
 ⟨(some 95), none, .e (.app 36 5 64 (.t 91) (.t 94))⟩,
 ⟨(some 96), none, .p (.fa 3 (.t 9))⟩,
 ⟨none, none, .e (.stw [91] 1 (.t 96) (.t 95))⟩])
 (.seq
 (.seq
 (.reg [
 ⟨(some 10), none, .p (.mov (.c (i64 0)))⟩])
 (.blk 2
 (.loop l76_1)))
 (.seq
 (.reg [
 ⟨(some 115), none, .p (.mov (.t 0))⟩,
 ⟨(some 116), none, .e (.call (.c (.fn (.func 34) [] [])) [(.t 115), (.c (st ⟨#[41]⟩))])⟩])
 (.seq
 (.reg [
 ⟨(some 117), none, .p (.mov (.t 0))⟩,
 ⟨(some 118), none, .p (.nck (.t 117))⟩,
 ⟨(some 119), none, .p (.fa 3 (.t 118))⟩,
 ⟨(some 120), none, .p (.ld1 (.t 119))⟩,
 ⟨(some 121), none, .p (.bin .sub (.i .i64) (.t 120) (.c (i64 1)))⟩,
 ⟨(some 122), none, .p (.nck (.t 117))⟩,
 ⟨(some 123), none, .p (.fa 3 (.t 122))⟩,
 ⟨none, none, .e (.st 1 (.t 123) (.t 121))⟩])
 (.seq
 (.reg [
 ⟨(some 124), none, .p (.ldn 5 (.t 9))⟩,
 ⟨none, none, .e (.st 5 (.t 2) (.t 124))⟩])
 .ret)))))))))
 .skip)))
 (.reg [
 ⟨(some 65), none, .p (.mov (.t 8))⟩,
 ⟨(some 66), none, .p (.bin .add (.i .i64) (.t 65) (.c (i64 1)))⟩,
 ⟨(some 8), none, .p (.mov (.t 66))⟩])))
/-- (*parlour/parlourref07.reader).factor -/
def i76 : IC :=
 (.seq
 (.reg [
 ⟨(some 2), none, .e (.alc 36 [i64 0, i64 0, st ⟨#[]⟩, .val (.slice none 0 0), i64 0])⟩])
 (.seq
 (.seq
 (.reg [
 ⟨(some 11), none, .p (.mov (.t 0))⟩,
 ⟨(some 12), none, .e (.call (.c (.fn (.func 41) [] [])) [(.t 11)])⟩])
 (.cond (.t 12)
 (.seq
 (.reg [
 ⟨(some 13), none, .p (.bld [i64 0, i64 0, st ⟨#[]⟩, .val (.slice none 0 0), i64 0] [])⟩,
 ⟨none, none, .e (.st 5 (.t 2) (.t 13))⟩])
 .ret)
 .skip))
 (.seq
 (.reg [
 ⟨(some 14), none, .p (.mov (.t 0))⟩,
 ⟨(some 15), none, .e (.call (.c (.fn (.func 40) [] [])) [(.t 14)])⟩,
 ⟨(some 3), none, .p (.mov (.t 15))⟩])
 (.seq
 (.seq
 (.reg [
 ⟨(some 16), none, .p (.mov (.t 0))⟩,
 ⟨(some 17), none, .e (.call (.c (.fn (.func 38) [] [])) [(.t 16)])⟩])
 (.cond (.t 17)
 (.seq
 (.reg [
 ⟨(some 18), none, .p (.mov (.t 0))⟩,
 ⟨(some 19), none, .e (.call (.c (.fn (.func 35) [] [])) [(.t 18)])⟩,
 ⟨(some 20), none, .p (.mov (.t 3))⟩,
 ⟨(some 21), none, .p (.bld [i64 0, i64 0, st ⟨#[]⟩, .val (.slice none 0 0), i64 0] [(0, 1, (.c (i64 2))), (2, 1, (.t 19)), (4, 1, (.t 20))])⟩,
 ⟨none, none, .e (.st 5 (.t 2) (.t 21))⟩])
 .ret)
 .skip))
 (.seq
 (.seq
 (.reg [
 ⟨(some 22), none, .p (.mov (.t 0))⟩,
 ⟨(some 23), none, .e (.call (.c (.fn (.func 37) [] [])) [(.t 22), (.c (st ⟨#[45]⟩))])⟩])
 (.cond (.t 23)
 (.seq
 (.reg [
 ⟨(some 24), none, .p (.mov (.t 0))⟩,
 ⟨(some 25), none, .e (.call (.c (.fn (.func 73) [] [])) [(.t 24), (.c (st ⟨#[45]⟩))])⟩])
 (.seq
 (.seq
 (.reg [
 ⟨(some 26), none, .p (.mov (.t 0))⟩,
 ⟨(some 27), none, .e (.call (.c (.fn (.func 41) [] [])) [(.t 26)])⟩])
 (.cond (.t 27)
 (.seq
 (.reg [
 ⟨(some 28), none, .p (.bld [i64 0, i64 0, st ⟨#[]⟩, .val (.slice none 0 0), i64 0] [])⟩,
 ⟨none, none, .e (.st 5 (.t 2) (.t 28))⟩])
 .ret)
 .skip))
 (.seq
 (.reg [
 ⟨(some 29), none, .p (.mov (.t 0))⟩,
 ⟨(some 30), none, .e (.call (.c (.fn (.func 76) [] [])) [(.t 29)])⟩,
 ⟨(some 4), none, .e (.alc 36 [i64 0, i64 0, st ⟨#[]⟩, .val (.slice none 0 0), i64 0])⟩,
 ⟨none, none, .e (.st 5 (.t 4) (.t 30))⟩])
 (.seq
 (.reg [
 ⟨(some 31), none, .p (.mov (.t 0))⟩,
 ⟨(some 32), none, .p (.nck (.t 31))⟩,
 ⟨(some 33), none, .p (.fa 3 (.t 32))⟩,
 ⟨(some 34), none, .p (.ld1 (.t 33))⟩,
 ⟨(some 35), none, .p (.bin .sub (.i .i64) (.t 34) (.c (i64 1)))⟩,
 ⟨(some 36), none, .p (.nck (.t 31))⟩,
 ⟨(some 37), none, .p (.fa 3 (.t 36))⟩,
 ⟨none, none, .e (.st 1 (.t 37) (.t 35))⟩])
 (.seq
 (.reg [
 ⟨(some 38), none, .p (.ldn 5 (.t 4))⟩,
 ⟨(some 39), none, .e (.bsl 36 5 1 [i64 0, i64 0, st ⟨#[]⟩, .val (.slice none 0 0), i64 0] [(0, (.t 38))])⟩,
 ⟨(some 40), none, .p (.mov (.t 3))⟩,
 ⟨(some 41), none, .p (.bld [i64 0, i64 0, st ⟨#[]⟩, .val (.slice none 0 0), i64 0] [(0, 1, (.c (i64 3))), (3, 1, (.t 39)), (4, 1, (.t 40))])⟩,
 ⟨none, none, .e (.st 5 (.t 2) (.t 41))⟩])
 .ret)))))
 .skip))
 (.seq
 (.seq
 (.reg [
 ⟨(some 42), none, .p (.mov (.t 0))⟩,
 ⟨(some 43), none, .e (.call (.c (.fn (.func 37) [] [])) [(.t 42), (.c (st ⟨#[40]⟩))])⟩])
 (.cond (.t 43)
 (.seq
 (.reg [
 ⟨(some 44), none, .p (.mov (.t 0))⟩,
 ⟨(some 45), none, .e (.call (.c (.fn (.func 73) [] [])) [(.t 44), (.c (st ⟨#[40]⟩))])⟩])
 (.seq
 (.seq
 (.reg [
 ⟨(some 46), none, .p (.mov (.t 0))⟩,
 ⟨(some 47), none, .e (.call (.c (.fn (.func 41) [] [])) [(.t 46)])⟩])
 (.cond (.t 47)
 (.seq
 (.reg [
 ⟨(some 48), none, .p (.bld [i64 0, i64 0, st ⟨#[]⟩, .val (.slice none 0 0), i64 0] [])⟩,
 ⟨none, none, .e (.st 5 (.t 2) (.t 48))⟩])
 .ret)
 .skip))
 (.seq
 (.reg [
 ⟨(some 49), none, .p (.mov (.t 0))⟩,
 ⟨(some 50), none, .e (.call (.c (.fn (.func 45) [] [])) [(.t 49)])⟩,
 ⟨(some 5), none, .e (.alc 36 [i64 0, i64 0, st ⟨#[]⟩, .val (.slice none 0 0), i64 0])⟩,
 ⟨none, none, .e (.st 5 (.t 5) (.t 50))⟩])
 (.seq
 (.reg [
 ⟨(some 51), none, .p (.mov (.t 0))⟩,
 ⟨(some 52), none, .e (.call (.c (.fn (.func 34) [] [])) [(.t 51), (.c (st ⟨#[41]⟩))])⟩])
 (.seq
 (.reg [
 ⟨(some 53), none, .p (.mov (.t 0))⟩,
 ⟨(some 54), none, .p (.nck (.t 53))⟩,
 ⟨(some 55), none, .p (.fa 3 (.t 54))⟩,
 ⟨(some 56), none, .p (.ld1 (.t 55))⟩,
 ⟨(some 57), none, .p (.bin .sub (.i .i64) (.t 56) (.c (i64 1)))⟩,
 ⟨(some 58), none, .p (.nck (.t 53))⟩,
 ⟨(some 59), none, .p (.fa 3 (.t 58))⟩,
 ⟨none, none, .e (.st 1 (.t 59) (.t 57))⟩])
 (.seq
 (.reg [
 ⟨(some 60), none, .p (.ldn 5 (.t 5))⟩,
 ⟨none, none, .e (.st 5 (.t 2) (.t 60))⟩])
 .ret))))))
 .skip))
 (.seq
 (.reg [
 ⟨(some 61), none, .e (.bsl 3 1 3 [i64 0] [(0, (.c (i64 18))), (1, (.c (i64 19))), (2, (.c (i64 20)))])⟩,
 ⟨(some 6), none, .p (.mov (.t 61))⟩])
 (.seq
 (.reg [
 ⟨(some 62), none, .e (.bsl 9 1 3 [st ⟨#[]⟩] [(0, (.c (st ⟨#[109, 105, 110]⟩))), (1, (.c (st ⟨#[109, 97, 120]⟩))), (2, (.c (st ⟨#[105, 102]⟩)))])⟩,
 ⟨(some 7), none, .p (.mov (.t 62))⟩])
 (.seq
 (.seq
 (.reg [
 ⟨(some 8), none, .p (.mov (.c (i64 0)))⟩])
 (.blk 0
 (.loop l76_0)))
 (.seq
 (.reg [
 ⟨(some 125), none, .p (.mov (.t 0))⟩,
 ⟨(some 126), none, .e (.call (.c (.fn (.func 36) [] [])) [(.t 125)])⟩,
 ⟨(some 127), none, .p (.mov (.t 3))⟩,
 ⟨(some 128), none, .p (.bld [i64 0, i64 0, st ⟨#[]⟩, .val (.slice none 0 0), i64 0] [(0, 1, (.c (i64 1))), (1, 1, (.t 126)), (4, 1, (.t 127))])⟩,
 ⟨none, none, .e (.st 5 (.t 2) (.t 128))⟩])
 .ret))))))))))
def r76 : List RS := [.cn 2 5]
theorem c76 : chkF Tryd.prog drawB Tryd.f76 i76 r76 = true := by kernel_rfl
def rows : List (Option Row) := [none,
 none,
 none,
 none,
 none,
 none,
 none,
 none,
 none,
 none,
 none,
 none,
 none,
 none,
 none,
 none,
 none,
 none,
 none,
 none,
 none,
 none,
 none,
 none,
 none,
 none,
 none,
 none,
 none,
 none,
 none,
 none,
 none,
 none,
 none,
 none,
 none,
 none,
 none,
 none,
 none,
 none,
 none,
 none,
 none,
 none,
 none,
 none,
 none,
 none,
 none,
 none,
 none,
 none,
 none,
 none,
 none,
 none,
 none,
 none,
 none,
 none,
 none,
 none,
 none,
 none,
 none,
 none,
 none,
 none,
 none,
 none,
 none,
 none,
 none,
 none,
 none,
 none,
 none,
 none,
 none,
 none,
 none,
 none,
 none,
 none,
 none,
 none,
 none,
 none,
 none,
 none,
 none,
 none,
 none,
 none,
 none,
 none,
 none,
 none,
 none,
 none,
 none,
 none,
 none,
 none,
 none,
 none,
 none,
 none,
 none,
 none,
 none,
 none,
 none]
end Go.Proofs.YthmdmnfojbnobaaDoor

