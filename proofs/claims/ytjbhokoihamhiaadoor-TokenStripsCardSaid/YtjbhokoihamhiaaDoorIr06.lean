/-
  Steps of the proof: contracts of functions and plain facts that the statement rests on.
-/
import Derived.Test.YtjbhokoihamhiaaDoorT0
set_option linter.all false
namespace Go.Proofs.YtjbhokoihamhiaaDoor
open Go.Ab
def l3_0 : IC := .keep [0, 3]
 (.seq
 (.seq
 (.reg [
 ⟨(some 12), none, .p (.mov (.t 3))⟩,
 ⟨(some 13), none, .p (.mov (.t 0))⟩,
 ⟨(some 14), none, .p (.len (.t 13))⟩,
 ⟨(some 15), none, .p (.bin .lss (.i .i64) (.t 12) (.t 14))⟩])
 (.cond (.t 15)
 .skip
 (.exit 0)))
 (.seq
 (.blk 1
 (.seq
 (.seq
 (.reg [
 ⟨(some 18), none, .p (.mov (.t 0))⟩,
 ⟨(some 19), none, .p (.mov (.t 3))⟩,
 ⟨(some 20), none, .p (.ia 4 (.t 18) (.t 19))⟩,
 ⟨(some 21), none, .p (.fa 1 (.t 20))⟩,
 ⟨(some 22), none, .p (.ld1 (.t 21))⟩,
 ⟨(some 23), none, .p (.lens (.t 22))⟩,
 ⟨(some 24), none, .p (.bin .gtr (.i .i64) (.t 23) (.c (i64 200)))⟩])
 (.cond (.t 24)
 (.seq
 (.reg [
 ⟨(some 25), none, .e (.call (.c (.fn (.func 10) [] [])) [])⟩,
 ⟨(some 2), none, .p (.mov (.t 25))⟩])
 .ret)
 .skip))
 (.seq
 (.drw [0, 1, 2, 3, 4, 5, 6, 7, 8, 9, 10] [
 ⟨(some 26), none, .p (.mov (.t 0))⟩,
 ⟨(some 27), none, .p (.mov (.t 3))⟩,
 ⟨(some 28), none, .p (.ia 4 (.t 26) (.t 27))⟩,
 ⟨(some 29), none, .p (.ldn 4 (.t 28))⟩,
 ⟨(some 30), none, .q (.c (.fn (.func 11) [] [])) [(.t 29)]⟩,
 ⟨(some 31), none, .p (.mov (.t 0))⟩,
 ⟨(some 32), none, .p (.mov (.t 3))⟩,
 ⟨(some 33), none, .p (.ia 4 (.t 31) (.t 32))⟩,
 ⟨(some 34), none, .p (.ldn 4 (.t 33))⟩,
 ⟨(some 35), none, .q (.c (.fn (.func 12) [] [])) [(.t 34)]⟩,
 ⟨(some 36), none, .p (.bin .neq (.i .i64) (.t 30) (.t 35))⟩])
 (.cond (.t 36)
 (.seq
 (.reg [
 ⟨(some 2), none, .p (.mov (.c (bl false)))⟩])
 .ret)
 .skip))))
 (.reg [
 ⟨(some 16), none, .p (.mov (.t 3))⟩,
 ⟨(some 17), none, .p (.bin .add (.i .i64) (.t 16) (.c (i64 1)))⟩,
 ⟨(some 3), none, .p (.mov (.t 17))⟩])))
/-- parlour/parlourlaw06.TokenChecks -/
def i3 : IC :=
 (.seq
 (.reg [
 ⟨(some 2), none, .p (.mov (.c (bl false)))⟩])
 (.seq
 (.seq
 (.reg [
 ⟨(some 8), none, .p (.mov (.t 0))⟩,
 ⟨(some 9), none, .p (.len (.t 8))⟩,
 ⟨(some 10), none, .p (.bin .gtr (.i .i64) (.t 9) (.c (i64 300)))⟩])
 (.cond (.t 10)
 (.seq
 (.reg [
 ⟨(some 11), none, .e (.call (.c (.fn (.func 10) [] [])) [])⟩,
 ⟨(some 2), none, .p (.mov (.t 11))⟩])
 .ret)
 .skip))
 (.seq
 (.seq
 (.reg [
 ⟨(some 3), none, .p (.mov (.c (i64 0)))⟩])
 (.blk 0
 (.loop l3_0)))
 (.seq
 (.reg [
 ⟨(some 38), none, .p (.mov (.t 0))⟩,
 ⟨(some 39), none, .e (.call (.c (.fn (.func 13) [] [])) [(.t 38)])⟩,
 ⟨(some 37), none, .p (.mov (.t 39))⟩,
 ⟨(some 40), none, .p (.ext (.t 37) 0)⟩,
 ⟨(some 41), none, .p (.ext (.t 37) 1)⟩,
 ⟨(some 4), none, .p (.mov (.t 40))⟩,
 ⟨(some 5), none, .p (.mov (.t 41))⟩])
 (.seq
 (.reg [
 ⟨(some 43), none, .p (.mov (.t 0))⟩,
 ⟨(some 44), none, .e (.call (.c (.fn (.func 14) [] [])) [(.t 43)])⟩,
 ⟨(some 42), none, .p (.mov (.t 44))⟩,
 ⟨(some 45), none, .p (.ext (.t 42) 0)⟩,
 ⟨(some 46), none, .p (.ext (.t 42) 1)⟩,
 ⟨(some 6), none, .p (.mov (.t 45))⟩,
 ⟨(some 7), none, .p (.mov (.t 46))⟩])
 (.seq
 (.reg [
 ⟨(some 47), none, .p (.mov (.t 4))⟩,
 ⟨(some 48), none, .p (.mov (.t 6))⟩,
 ⟨(some 49), none, .p (.bin .eql .s (.t 47) (.t 48))⟩,
 ⟨(some 50), none, .p (.mov (.t 49))⟩,
 ⟨(some 51), (some (50, true)), .p (.mov (.t 5))⟩,
 ⟨(some 52), (some (50, true)), .p (.mov (.t 7))⟩,
 ⟨(some 53), (some (50, true)), .p (.bin .eql (.i .i64) (.t 51) (.t 52))⟩,
 ⟨(some 54), none, .p (.pick (.t 50) (.t 53) (.c (bl false)))⟩,
 ⟨(some 55), none, .p (.mov (.t 54))⟩,
 ⟨(some 56), (some (55, true)), .q (.c (.fn (.func 10) [] [])) []⟩,
 ⟨(some 57), none, .p (.pick (.t 55) (.t 56) (.c (bl false)))⟩,
 ⟨(some 2), none, .p (.mov (.t 57))⟩])
 .ret))))))
def r3 : List RS := [.t 2]
theorem c3 : chkF Tryd.prog drawB Tryd.f3 i3 r3 = true := by kernel_rfl
/-- parlour/parlourlaw06.TokenScans -/
def i4 : IC :=
 (.seq
 (.reg [
 ⟨(some 2), none, .p (.mov (.c (bl false)))⟩])
 (.seq
 (.seq
 (.reg [
 ⟨(some 11), none, .p (.mov (.t 0))⟩,
 ⟨(some 12), none, .p (.lens (.t 11))⟩,
 ⟨(some 13), none, .p (.bin .gtr (.i .i64) (.t 12) (.c (i64 3000)))⟩])
 (.cond (.t 13)
 (.seq
 (.reg [
 ⟨(some 14), none, .e (.call (.c (.fn (.func 10) [] [])) [])⟩,
 ⟨(some 2), none, .p (.mov (.t 14))⟩])
 .ret)
 .skip))
 (.seq
 (.reg [
 ⟨(some 16), none, .p (.mov (.t 0))⟩,
 ⟨(some 17), none, .e (.call (.c (.fn (.func 15) [] [])) [(.t 16)])⟩,
 ⟨(some 15), none, .p (.mov (.t 17))⟩,
 ⟨(some 18), none, .p (.ext (.t 15) 0)⟩,
 ⟨(some 19), none, .p (.ext (.t 15) 1)⟩,
 ⟨(some 4), none, .e (.alc 32 [i64 0, i64 0])⟩,
 ⟨(some 3), none, .p (.mov (.t 18))⟩,
 ⟨none, none, .e (.st 2 (.t 4) (.t 19))⟩])
 (.seq
 (.reg [
 ⟨(some 21), none, .p (.mov (.t 0))⟩,
 ⟨(some 22), none, .e (.call (.c (.fn (.func 16) [] [])) [(.t 21)])⟩,
 ⟨(some 20), none, .p (.mov (.t 22))⟩,
 ⟨(some 23), none, .p (.ext (.t 20) 0)⟩,
 ⟨(some 24), none, .p (.ext (.t 20) 1)⟩,
 ⟨(some 6), none, .e (.alc 32 [i64 0, i64 0])⟩,
 ⟨(some 5), none, .p (.mov (.t 23))⟩,
 ⟨none, none, .e (.st 2 (.t 6) (.t 24))⟩])
 (.seq
 (.reg [
 ⟨(some 26), none, .p (.mov (.t 0))⟩,
 ⟨(some 27), none, .e (.call (.c (.fn (.func 17) [] [])) [(.t 26)])⟩,
 ⟨(some 25), none, .p (.mov (.t 27))⟩,
 ⟨(some 28), none, .p (.ext (.t 25) 0)⟩,
 ⟨(some 29), none, .p (.ext (.t 25) 1)⟩,
 ⟨(some 8), none, .e (.alc 32 [i64 0, i64 0])⟩,
 ⟨(some 7), none, .p (.mov (.t 28))⟩,
 ⟨none, none, .e (.st 2 (.t 8) (.t 29))⟩])
 (.seq
 (.reg [
 ⟨(some 31), none, .p (.mov (.t 0))⟩,
 ⟨(some 32), none, .e (.call (.c (.fn (.func 18) [] [])) [(.t 31)])⟩,
 ⟨(some 30), none, .p (.mov (.t 32))⟩,
 ⟨(some 33), none, .p (.ext (.t 30) 0)⟩,
 ⟨(some 34), none, .p (.ext (.t 30) 1)⟩,
 ⟨(some 10), none, .e (.alc 32 [i64 0, i64 0])⟩,
 ⟨(some 9), none, .p (.mov (.t 33))⟩,
 ⟨none, none, .e (.st 2 (.t 10) (.t 34))⟩])
 (.seq
 (.reg [
 ⟨(some 35), none, .p (.mov (.t 3))⟩,
 ⟨(some 36), none, .p (.mov (.t 5))⟩,
 ⟨(some 37), none, .e (.call (.c (.fn (.func 19) [] [])) [(.t 35), (.t 36)])⟩,
 ⟨(some 38), none, .p (.mov (.t 37))⟩,
 ⟨(some 39), (some (38, true)), .p (.ldn 2 (.t 4))⟩,
 ⟨(some 40), (some (38, true)), .p (.ldn 2 (.t 6))⟩,
 ⟨(some 41), (some (38, true)), .p (.eqf false [.i .i64, .i .i64] (.t 39) (.t 40))⟩,
 ⟨(some 42), none, .p (.pick (.t 38) (.t 41) (.c (bl false)))⟩,
 ⟨(some 43), none, .p (.mov (.t 42))⟩,
 ⟨(some 44), (some (43, true)), .p (.mov (.t 7))⟩,
 ⟨(some 45), (some (43, true)), .p (.mov (.t 9))⟩,
 ⟨(some 46), (some (43, true)), .p (.bin .eql .s (.t 44) (.t 45))⟩,
 ⟨(some 47), none, .p (.pick (.t 43) (.t 46) (.c (bl false)))⟩,
 ⟨(some 48), none, .p (.mov (.t 47))⟩,
 ⟨(some 49), (some (48, true)), .p (.ldn 2 (.t 8))⟩,
 ⟨(some 50), (some (48, true)), .p (.ldn 2 (.t 10))⟩,
 ⟨(some 51), (some (48, true)), .p (.eqf false [.i .i64, .i .i64] (.t 49) (.t 50))⟩,
 ⟨(some 52), none, .p (.pick (.t 48) (.t 51) (.c (bl false)))⟩,
 ⟨(some 53), none, .p (.mov (.t 52))⟩,
 ⟨(some 54), (some (53, true)), .q (.c (.fn (.func 10) [] [])) []⟩,
 ⟨(some 55), none, .p (.pick (.t 53) (.t 54) (.c (bl false)))⟩,
 ⟨(some 2), none, .p (.mov (.t 55))⟩])
 .ret)))))))
def r4 : List RS := [.t 2]
theorem c4 : chkF Tryd.prog drawB Tryd.f4 i4 r4 = true := by kernel_rfl
/-- parlour/parlourlaw06.TokenPlaces -/
def i5 : IC :=
 (.seq
 (.reg [
 ⟨(some 4), none, .p (.mov (.c (bl false)))⟩])
 (.seq
 (.seq
 (.reg [
 ⟨(some 11), none, .p (.mov (.t 0))⟩,
 ⟨(some 12), none, .p (.lens (.t 11))⟩,
 ⟨(some 13), none, .p (.bin .gtr (.i .i64) (.t 12) (.c (i64 3000)))⟩])
 (.cond (.t 13)
 (.seq
 (.reg [
 ⟨(some 14), none, .e (.call (.c (.fn (.func 10) [] [])) [])⟩,
 ⟨(some 4), none, .p (.mov (.t 14))⟩])
 .ret)
 .skip))
 (.seq
 (.reg [
 ⟨(some 16), none, .p (.mov (.t 0))⟩,
 ⟨(some 17), none, .p (.mov (.t 1))⟩,
 ⟨(some 18), none, .e (.call (.c (.fn (.func 20) [] [])) [(.t 16), (.t 17)])⟩,
 ⟨(some 15), none, .p (.mov (.t 18))⟩,
 ⟨(some 19), none, .p (.ext (.t 15) 0)⟩,
 ⟨(some 20), none, .p (.ext (.t 15) 1)⟩,
 ⟨(some 21), none, .p (.ext (.t 15) 2)⟩,
 ⟨(some 5), none, .p (.mov (.t 19))⟩,
 ⟨(some 6), none, .p (.mov (.t 20))⟩,
 ⟨(some 7), none, .p (.mov (.t 21))⟩])
 (.seq
 (.reg [
 ⟨(some 23), none, .p (.mov (.t 0))⟩,
 ⟨(some 24), none, .p (.mov (.t 1))⟩,
 ⟨(some 25), none, .e (.call (.c (.fn (.func 21) [] [])) [(.t 23), (.t 24)])⟩,
 ⟨(some 22), none, .p (.mov (.t 25))⟩,
 ⟨(some 26), none, .p (.ext (.t 22) 0)⟩,
 ⟨(some 27), none, .p (.ext (.t 22) 1)⟩,
 ⟨(some 28), none, .p (.ext (.t 22) 2)⟩,
 ⟨(some 8), none, .p (.mov (.t 26))⟩,
 ⟨(some 9), none, .p (.mov (.t 27))⟩,
 ⟨(some 10), none, .p (.mov (.t 28))⟩])
 (.seq
 (.reg [
 ⟨(some 29), none, .p (.mov (.t 5))⟩,
 ⟨(some 30), none, .p (.mov (.t 8))⟩,
 ⟨(some 31), none, .p (.bin .eql (.i .i64) (.t 29) (.t 30))⟩,
 ⟨(some 32), none, .p (.mov (.t 31))⟩,
 ⟨(some 33), (some (32, true)), .p (.mov (.t 6))⟩,
 ⟨(some 34), (some (32, true)), .p (.mov (.t 9))⟩,
 ⟨(some 35), (some (32, true)), .p (.bin .eql (.i .i64) (.t 33) (.t 34))⟩,
 ⟨(some 36), none, .p (.pick (.t 32) (.t 35) (.c (bl false)))⟩,
 ⟨(some 37), none, .p (.mov (.t 36))⟩,
 ⟨(some 38), (some (37, true)), .p (.mov (.t 7))⟩,
 ⟨(some 39), (some (37, true)), .p (.mov (.t 10))⟩,
 ⟨(some 40), (some (37, true)), .p (.bin .eql (.i .i64) (.t 38) (.t 39))⟩,
 ⟨(some 41), none, .p (.pick (.t 37) (.t 40) (.c (bl false)))⟩,
 ⟨(some 42), none, .p (.mov (.t 41))⟩,
 ⟨(some 43), (some (42, true)), .q (.c (.fn (.func 10) [] [])) []⟩,
 ⟨(some 44), none, .p (.pick (.t 42) (.t 43) (.c (bl false)))⟩,
 ⟨(some 4), none, .p (.mov (.t 44))⟩])
 .ret)))))
def r5 : List RS := [.t 4]
theorem c5 : chkF Tryd.prog drawB Tryd.f5 i5 r5 = true := by kernel_rfl
def l6_0 : IC := .keep [1, 2]
 (.seq
 (.seq
 (.reg [
 ⟨(some 21), none, .p (.mov (.t 2))⟩,
 ⟨(some 22), none, .p (.bin .lss (.i .i64) (.t 21) (.c (i64 40)))⟩])
 (.cond (.t 22)
 .skip
 (.exit 0)))
 (.seq
 (.blk 1
 (.reg [
 ⟨(some 25), none, .p (.mov (.t 1))⟩,
 ⟨(some 26), none, .p (.bin .add .s (.t 25) (.c (st ⟨#[97]⟩)))⟩,
 ⟨(some 1), none, .p (.mov (.t 26))⟩]))
 (.reg [
 ⟨(some 23), none, .p (.mov (.t 2))⟩,
 ⟨(some 24), none, .p (.bin .add (.i .i64) (.t 23) (.c (i64 1)))⟩,
 ⟨(some 2), none, .p (.mov (.t 24))⟩])))
def l6_1 : IC := .keep [1, 3, 4]
 (.seq
 (.seq
 (.reg [
 ⟨(some 27), none, .p (.mov (.t 4))⟩,
 ⟨(some 28), none, .p (.bin .lss (.i .i64) (.t 27) (.c (i64 5000)))⟩])
 (.cond (.t 28)
 .skip
 (.exit 2)))
 (.seq
 (.blk 3
 (.reg [
 ⟨(some 31), none, .p (.mov (.t 3))⟩,
 ⟨(some 32), none, .p (.bin .add .s (.t 31) (.c (st ⟨#[59]⟩)))⟩,
 ⟨(some 3), none, .p (.mov (.t 32))⟩]))
 (.reg [
 ⟨(some 29), none, .p (.mov (.t 4))⟩,
 ⟨(some 30), none, .p (.bin .add (.i .i64) (.t 29) (.c (i64 1)))⟩,
 ⟨(some 4), none, .p (.mov (.t 30))⟩])))
/-- parlour/parlourlaw06.TokenKnown -/
def i6 : IC :=
 (.seq
 (.reg [
 ⟨(some 0), none, .p (.mov (.c (bl false)))⟩])
 (.seq
 (.reg [
 ⟨(some 1), none, .p (.mov (.c (st ⟨#[]⟩)))⟩])
 (.seq
 (.seq
 (.reg [
 ⟨(some 2), none, .p (.mov (.c (i64 0)))⟩])
 (.blk 0
 (.loop l6_0)))
 (.seq
 (.reg [
 ⟨(some 3), none, .p (.mov (.c (st ⟨#[]⟩)))⟩])
 (.seq
 (.seq
 (.reg [
 ⟨(some 4), none, .p (.mov (.c (i64 0)))⟩])
 (.blk 2
 (.loop l6_1)))
 (.seq
 (.reg [
 ⟨(some 33), none, .e (.bsl 3 1 10 [i64 0] [(0, (.c (i64 1))), (1, (.c (i64 0))), (2, (.c (i64 3))), (3, (.c (i64 1))), (4, (.c (i64 2))), (5, (.c (i64 3))), (6, (.c (i64 3))), (7, (.c (i64 4))), (8, (.c (i64 2))), (9, (.c (i64 6)))])⟩,
 ⟨(some 34), none, .e (.call (.c (.fn (.func 22) [] [])) [(.c (st ⟨#[120, 60, 61, 49, 46, 46, 50]⟩)), (.t 33)])⟩,
 ⟨(some 35), none, .p (.mov (.t 34))⟩,
 ⟨(some 36), (some (35, true)), .e (.bsl 3 1 4 [i64 0] [(0, (.c (i64 3))), (1, (.c (i64 0))), (2, (.c (i64 3))), (3, (.c (i64 2)))])⟩,
 ⟨(some 37), (some (35, true)), .q (.c (.fn (.func 22) [] [])) [(.c (st ⟨#[60, 32, 61]⟩)), (.t 36)]⟩,
 ⟨(some 38), none, .p (.pick (.t 35) (.t 37) (.c (bl false)))⟩,
 ⟨(some 39), none, .p (.mov (.t 38))⟩,
 ⟨(some 40), (some (39, true)), .e (.bsl 3 1 2 [i64 0] [(0, (.c (i64 1))), (1, (.c (i64 0)))])⟩,
 ⟨(some 41), (some (39, true)), .q (.c (.fn (.func 22) [] [])) [(.c (st ⟨#[97, 32, 35, 32, 98]⟩)), (.t 40)]⟩,
 ⟨(some 42), none, .p (.pick (.t 39) (.t 41) (.c (bl false)))⟩,
 ⟨(some 43), none, .p (.mov (.t 42))⟩,
 ⟨(some 44), (some (43, true)), .q (.c (.fn (.func 22) [] [])) [(.c (st ⟨#[]⟩)), (.c (.val (.slice none 0 0)))]⟩,
 ⟨(some 45), none, .p (.pick (.t 43) (.t 44) (.c (bl false)))⟩,
 ⟨(some 46), none, .p (.mov (.t 45))⟩,
 ⟨(some 47), (some (46, true)), .p (.mov (.t 1))⟩,
 ⟨(some 48), (some (46, true)), .e (.bsl 3 1 2 [i64 0] [(0, (.c (i64 1))), (1, (.c (i64 0)))])⟩,
 ⟨(some 49), (some (46, true)), .q (.c (.fn (.func 22) [] [])) [(.t 47), (.t 48)]⟩,
 ⟨(some 50), none, .p (.pick (.t 46) (.t 49) (.c (bl false)))⟩,
 ⟨(some 51), none, .p (.mov (.t 50))⟩,
 ⟨(some 52), (some (51, true)), .e (.bsl 3 1 2 [i64 0] [(0, (.c (i64 2))), (1, (.c (i64 0)))])⟩,
 ⟨(some 53), (some (51, true)), .q (.c (.fn (.func 22) [] [])) [(.c (st ⟨#[49, 48, 48, 48, 48, 48, 48, 48, 48, 48]⟩)), (.t 52)]⟩,
 ⟨(some 54), none, .p (.pick (.t 51) (.t 53) (.c (bl false)))⟩,
 ⟨(some 5), none, .p (.mov (.t 54))⟩])
 (.seq
 (.reg [
 ⟨(some 55), none, .e (.call (.c (.fn (.func 23) [] [])) [(.c (st ⟨#[49, 97]⟩)), (.c (i64 11)), (.c (i64 1))])⟩,
 ⟨(some 56), none, .p (.mov (.t 55))⟩,
 ⟨(some 57), (some (56, true)), .q (.c (.fn (.func 23) [] [])) [(.c (st ⟨#[48, 48, 55]⟩)), (.c (i64 3)), (.c (i64 0))]⟩,
 ⟨(some 58), none, .p (.pick (.t 56) (.t 57) (.c (bl false)))⟩,
 ⟨(some 59), none, .p (.mov (.t 58))⟩,
 ⟨(some 60), (some (59, true)), .q (.c (.fn (.func 23) [] [])) [(.c (st ⟨#[49, 48, 48, 48, 48, 48, 48, 48, 48, 49]⟩)), (.c (i64 2)), (.c (i64 0))]⟩,
 ⟨(some 61), none, .p (.pick (.t 59) (.t 60) (.c (bl false)))⟩,
 ⟨(some 62), none, .p (.mov (.t 61))⟩,
 ⟨(some 63), (some (62, true)), .q (.c (.fn (.func 23) [] [])) [(.c (st ⟨#[97, 32, 46, 32, 98]⟩)), (.c (i64 11)), (.c (i64 2))]⟩,
 ⟨(some 64), none, .p (.pick (.t 62) (.t 63) (.c (bl false)))⟩,
 ⟨(some 65), none, .p (.mov (.t 64))⟩,
 ⟨(some 66), (some (65, true)), .q (.c (.fn (.func 23) [] [])) [(.c (st ⟨#[97, 33]⟩)), (.c (i64 11)), (.c (i64 1))]⟩,
 ⟨(some 67), none, .p (.pick (.t 65) (.t 66) (.c (bl false)))⟩,
 ⟨(some 68), none, .p (.mov (.t 67))⟩,
 ⟨(some 69), (some (68, true)), .p (.mov (.t 1))⟩,
 ⟨(some 70), (some (68, true)), .p (.bin .add .s (.t 69) (.c (st ⟨#[97]⟩)))⟩,
 ⟨(some 71), (some (68, true)), .q (.c (.fn (.func 23) [] [])) [(.t 70), (.c (i64 4)), (.c (i64 0))]⟩,
 ⟨(some 72), none, .p (.pick (.t 68) (.t 71) (.c (bl false)))⟩,
 ⟨(some 73), none, .p (.mov (.t 72))⟩,
 ⟨(some 74), (some (73, true)), .p (.mov (.t 3))⟩,
 ⟨(some 75), (some (73, true)), .p (.bin .add .s (.t 74) (.c (st ⟨#[59]⟩)))⟩,
 ⟨(some 76), (some (73, true)), .q (.c (.fn (.func 23) [] [])) [(.t 75), (.c (i64 12)), (.c (i64 5000))]⟩,
 ⟨(some 77), none, .p (.pick (.t 73) (.t 76) (.c (bl false)))⟩,
 ⟨(some 78), none, .p (.mov (.t 77))⟩,
 ⟨(some 79), (some (78, true)), .p (.mov (.t 3))⟩,
 ⟨(some 80), (some (78, true)), .p (.bin .add .s (.t 79) (.c (st ⟨#[33]⟩)))⟩,
 ⟨(some 81), (some (78, true)), .q (.c (.fn (.func 23) [] [])) [(.t 80), (.c (i64 11)), (.c (i64 5000))]⟩,
 ⟨(some 82), none, .p (.pick (.t 78) (.t 81) (.c (bl false)))⟩,
 ⟨(some 83), none, .p (.mov (.t 82))⟩,
 ⟨(some 84), (some (83, true)), .p (.mov (.t 3))⟩,
 ⟨(some 85), (some (83, true)), .p (.mov (.t 3))⟩,
 ⟨(some 86), (some (83, true)), .p (.bin .add .s (.t 84) (.t 85))⟩,
 ⟨(some 87), (some (83, true)), .p (.mov (.t 3))⟩,
 ⟨(some 88), (some (83, true)), .p (.bin .add .s (.t 86) (.t 87))⟩,
 ⟨(some 89), (some (83, true)), .p (.mov (.t 3))⟩,
 ⟨(some 90), (some (83, true)), .p (.bin .add .s (.t 88) (.t 89))⟩,
 ⟨(some 91), (some (83, true)), .p (.bin .add .s (.t 90) (.c (st ⟨#[32]⟩)))⟩,
 ⟨(some 92), (some (83, true)), .q (.c (.fn (.func 23) [] [])) [(.t 91), (.c (i64 4)), (.c (i64 20000))]⟩,
 ⟨(some 93), none, .p (.pick (.t 83) (.t 92) (.c (bl false)))⟩,
 ⟨(some 6), none, .p (.mov (.t 93))⟩])
 (.seq
 (.reg [
 ⟨(some 94), none, .p (.bld [i64 0, st ⟨#[]⟩, i64 0, i64 0] [(0, 1, (.c (i64 1))), (1, 1, (.c (st ⟨#[49, 97]⟩)))])⟩,
 ⟨(some 95), none, .e (.call (.c (.fn (.func 11) [] [])) [(.t 94)])⟩,
 ⟨(some 96), none, .p (.bin .eql (.i .i64) (.t 95) (.c (i64 3)))⟩,
 ⟨(some 97), none, .p (.mov (.t 96))⟩,
 ⟨(some 98), (some (97, true)), .p (.bld [i64 0, st ⟨#[]⟩, i64 0, i64 0] [(0, 1, (.c (i64 2))), (1, 1, (.c (st ⟨#[53]⟩))), (2, 1, (.c (i64 6)))])⟩,
 ⟨(some 99), (some (97, true)), .q (.c (.fn (.func 11) [] [])) [(.t 98)]⟩,
 ⟨(some 100), (some (97, true)), .p (.bin .eql (.i .i64) (.t 99) (.c (i64 2)))⟩,
 ⟨(some 101), none, .p (.pick (.t 97) (.t 100) (.c (bl false)))⟩,
 ⟨(some 102), none, .p (.mov (.t 101))⟩,
 ⟨(some 103), (some (102, true)), .p (.bld [i64 0, st ⟨#[]⟩, i64 0, i64 0] [(0, 1, (.c (i64 3))), (1, 1, (.c (st ⟨#[61, 61]⟩)))])⟩,
 ⟨(some 104), (some (102, true)), .q (.c (.fn (.func 11) [] [])) [(.t 103)]⟩,
 ⟨(some 105), (some (102, true)), .p (.bin .eql (.i .i64) (.t 104) (.c (i64 0)))⟩,
 ⟨(some 106), none, .p (.pick (.t 102) (.t 105) (.c (bl false)))⟩,
 ⟨(some 107), none, .p (.mov (.t 106))⟩,
 ⟨(some 108), (some (107, true)), .p (.bld [i64 0, st ⟨#[]⟩, i64 0, i64 0] [(0, 1, (.c (i64 4))), (1, 1, (.c (st ⟨#[97]⟩)))])⟩,
 ⟨(some 109), (some (107, true)), .q (.c (.fn (.func 11) [] [])) [(.t 108)]⟩,
 ⟨(some 110), (some (107, true)), .p (.bin .eql (.i .i64) (.t 109) (.c (i64 3)))⟩,
 ⟨(some 111), none, .p (.pick (.t 107) (.t 110) (.c (bl false)))⟩,
 ⟨(some 7), none, .p (.mov (.t 111))⟩])
 (.seq
 (.reg [
 ⟨(some 113), none, .e (.call (.c (.fn (.func 17) [] [])) [(.c (st ⟨#[97, 49, 61, 50, 48, 59, 35, 120]⟩))])⟩,
 ⟨(some 112), none, .p (.mov (.t 113))⟩,
 ⟨(some 114), none, .p (.ext (.t 112) 0)⟩,
 ⟨(some 115), none, .p (.ext (.t 112) 1)⟩,
 ⟨(some 9), none, .e (.alc 32 [i64 0, i64 0])⟩,
 ⟨(some 8), none, .p (.mov (.t 114))⟩,
 ⟨none, none, .e (.st 2 (.t 9) (.t 115))⟩])
 (.seq
 (.reg [
 ⟨(some 117), none, .e (.call (.c (.fn (.func 17) [] [])) [(.c (st ⟨#[49, 97]⟩))])⟩,
 ⟨(some 116), none, .p (.mov (.t 117))⟩,
 ⟨(some 118), none, .p (.ext (.t 116) 0)⟩,
 ⟨(some 119), none, .p (.ext (.t 116) 1)⟩,
 ⟨(some 11), none, .e (.alc 32 [i64 0, i64 0])⟩,
 ⟨(some 10), none, .p (.mov (.t 118))⟩,
 ⟨none, none, .e (.st 2 (.t 11) (.t 119))⟩])
 (.seq
 (.reg [
 ⟨(some 121), none, .e (.call (.c (.fn (.func 20) [] [])) [(.c (st ⟨#[97, 98, 10, 99]⟩)), (.c (i64 3))])⟩,
 ⟨(some 120), none, .p (.mov (.t 121))⟩,
 ⟨(some 122), none, .p (.ext (.t 120) 0)⟩,
 ⟨(some 123), none, .p (.ext (.t 120) 1)⟩,
 ⟨(some 124), none, .p (.ext (.t 120) 2)⟩,
 ⟨(some 12), none, .p (.mov (.t 122))⟩,
 ⟨(some 13), none, .p (.mov (.t 123))⟩,
 ⟨(some 14), none, .p (.mov (.t 124))⟩])
 (.seq
 (.reg [
 ⟨(some 126), none, .e (.call (.c (.fn (.func 20) [] [])) [(.c (st ⟨#[97, 98]⟩)), (.c (i64 2))])⟩,
 ⟨(some 125), none, .p (.mov (.t 126))⟩,
 ⟨(some 127), none, .p (.ext (.t 125) 0)⟩,
 ⟨(some 128), none, .p (.ext (.t 125) 1)⟩,
 ⟨(some 129), none, .p (.ext (.t 125) 2)⟩,
 ⟨(some 15), none, .p (.mov (.t 127))⟩,
 ⟨(some 16), none, .p (.mov (.t 128))⟩,
 ⟨(some 17), none, .p (.mov (.t 129))⟩])
 (.seq
 (.reg [
 ⟨(some 131), none, .e (.call (.c (.fn (.func 20) [] [])) [(.c (st ⟨#[97, 98]⟩)), (.c (i64 3))])⟩,
 ⟨(some 130), none, .p (.mov (.t 131))⟩,
 ⟨(some 132), none, .p (.ext (.t 130) 0)⟩,
 ⟨(some 133), none, .p (.ext (.t 130) 1)⟩,
 ⟨(some 134), none, .p (.ext (.t 130) 2)⟩,
 ⟨(some 18), none, .p (.mov (.t 132))⟩,
 ⟨(some 19), none, .p (.mov (.t 133))⟩,
 ⟨(some 20), none, .p (.mov (.t 134))⟩])
 (.seq
 (.reg [
 ⟨(some 135), none, .e (.call (.c (.fn (.func 10) [] [])) [])⟩,
 ⟨(some 136), none, .p (.mov (.t 135))⟩,
 ⟨(some 137), (some (136, true)), .p (.mov (.t 5))⟩,
 ⟨(some 138), none, .p (.pick (.t 136) (.t 137) (.c (bl false)))⟩,
 ⟨(some 139), none, .p (.mov (.t 138))⟩,
 ⟨(some 140), (some (139, true)), .p (.mov (.t 6))⟩,
 ⟨(some 141), none, .p (.pick (.t 139) (.t 140) (.c (bl false)))⟩,
 ⟨(some 142), none, .p (.mov (.t 141))⟩,
 ⟨(some 143), (some (142, true)), .p (.mov (.t 7))⟩,
 ⟨(some 144), none, .p (.pick (.t 142) (.t 143) (.c (bl false)))⟩,
 ⟨(some 145), none, .p (.mov (.t 144))⟩,
 ⟨(some 146), (some (145, true)), .p (.mov (.t 8))⟩,
 ⟨(some 147), (some (145, true)), .p (.bin .eql .s (.t 146) (.c (st ⟨#[97, 49, 32, 61, 32, 50, 48, 32, 59]⟩)))⟩,
 ⟨(some 148), none, .p (.pick (.t 145) (.t 147) (.c (bl false)))⟩,
 ⟨(some 149), none, .p (.mov (.t 148))⟩,
 ⟨(some 150), (some (149, true)), .p (.ldn 2 (.t 9))⟩,
 ⟨(some 151), (some (149, true)), .p (.bld [i64 0, i64 0] [])⟩,
 ⟨(some 152), (some (149, true)), .p (.eqf false [.i .i64, .i .i64] (.t 150) (.t 151))⟩,
 ⟨(some 153), none, .p (.pick (.t 149) (.t 152) (.c (bl false)))⟩,
 ⟨(some 154), none, .p (.mov (.t 153))⟩,
 ⟨(some 155), (some (154, true)), .p (.ldn 2 (.t 11))⟩,
 ⟨(some 156), (some (154, true)), .p (.bld [i64 0, i64 0] [(0, 1, (.c (i64 11))), (1, 1, (.c (i64 1)))])⟩,
 ⟨(some 157), (some (154, true)), .p (.eqf false [.i .i64, .i .i64] (.t 155) (.t 156))⟩,
 ⟨(some 158), none, .p (.pick (.t 154) (.t 157) (.c (bl false)))⟩,
 ⟨(some 159), none, .p (.mov (.t 158))⟩,
 ⟨(some 160), (some (159, true)), .p (.mov (.t 12))⟩,
 ⟨(some 161), (some (159, true)), .p (.bin .eql (.i .i64) (.t 160) (.c (i64 2)))⟩,
 ⟨(some 162), none, .p (.pick (.t 159) (.t 161) (.c (bl false)))⟩,
 ⟨(some 163), none, .p (.mov (.t 162))⟩,
 ⟨(some 164), (some (163, true)), .p (.mov (.t 13))⟩,
 ⟨(some 165), (some (163, true)), .p (.bin .eql (.i .i64) (.t 164) (.c (i64 1)))⟩,
 ⟨(some 166), none, .p (.pick (.t 163) (.t 165) (.c (bl false)))⟩,
 ⟨(some 167), none, .p (.mov (.t 166))⟩,
 ⟨(some 168), (some (167, true)), .p (.mov (.t 14))⟩,
 ⟨(some 169), (some (167, true)), .p (.bin .eql (.i .i64) (.t 168) (.c (i64 0)))⟩,
 ⟨(some 170), none, .p (.pick (.t 167) (.t 169) (.c (bl false)))⟩,
 ⟨(some 171), none, .p (.mov (.t 170))⟩,
 ⟨(some 172), (some (171, true)), .p (.mov (.t 15))⟩,
 ⟨(some 173), (some (171, true)), .p (.bin .eql (.i .i64) (.t 172) (.c (i64 1)))⟩,
 ⟨(some 174), none, .p (.pick (.t 171) (.t 173) (.c (bl false)))⟩,
 ⟨(some 175), none, .p (.mov (.t 174))⟩,
 ⟨(some 176), (some (175, true)), .p (.mov (.t 16))⟩,
 ⟨(some 177), (some (175, true)), .p (.bin .eql (.i .i64) (.t 176) (.c (i64 3)))⟩,
 ⟨(some 178), none, .p (.pick (.t 175) (.t 177) (.c (bl false)))⟩,
 ⟨(some 179), none, .p (.mov (.t 178))⟩,
 ⟨(some 180), (some (179, true)), .p (.mov (.t 17))⟩,
 ⟨(some 181), (some (179, true)), .p (.bin .eql (.i .i64) (.t 180) (.c (i64 0)))⟩,
 ⟨(some 182), none, .p (.pick (.t 179) (.t 181) (.c (bl false)))⟩,
 ⟨(some 183), none, .p (.mov (.t 182))⟩,
 ⟨(some 184), (some (183, true)), .p (.mov (.t 20))⟩,
 ⟨(some 185), (some (183, true)), .p (.bin .eql (.i .i64) (.t 184) (.c (i64 2)))⟩,
 ⟨(some 186), none, .p (.pick (.t 183) (.t 185) (.c (bl false)))⟩,
 ⟨(some 0), none, .p (.mov (.t 186))⟩])
 .ret))))))))))))))
def r6 : List RS := [.t 0]
theorem c6 : chkF Tryd.prog drawB Tryd.f6 i6 r6 = true := by kernel_rfl
def l7_0 : IC := .keep [3, 4, 6, 8, 10, 11]
 (.seq
 (.seq
 (.reg [
 ⟨(some 52), none, .p (.mov (.t 11))⟩,
 ⟨(some 53), none, .p (.mov (.t 4))⟩,
 ⟨(some 54), none, .p (.len (.t 53))⟩,
 ⟨(some 55), none, .p (.bin .lss (.i .i64) (.t 52) (.t 54))⟩])
 (.cond (.t 55)
 .skip
 (.exit 0)))
 (.seq
 (.blk 1
 (.seq
 (.reg [
 ⟨(some 58), none, .p (.mov (.t 4))⟩,
 ⟨(some 59), none, .p (.mov (.t 11))⟩,
 ⟨(some 60), none, .p (.ia 4 (.t 58) (.t 59))⟩,
 ⟨(some 61), none, .p (.ldn 4 (.t 60))⟩,
 ⟨(some 12), none, .e (.alc 25 [i64 0, st ⟨#[]⟩, i64 0, i64 0])⟩,
 ⟨none, none, .e (.st 4 (.t 12) (.t 61))⟩])
 (.seq
 (.reg [
 ⟨(some 62), none, .p (.mov (.t 10))⟩,
 ⟨(some 63), none, .p (.fa 3 (.t 12))⟩,
 ⟨none, none, .e (.st 1 (.t 63) (.t 62))⟩])
 (.seq
 (.seq
 (.drw [0, 1, 2, 3, 4, 5, 6, 7, 8, 9, 10, 11, 12, 13, 14, 15, 16, 17, 18, 19, 20, 21, 22, 23, 24, 25, 26, 27, 28] [
 ⟨(some 64), none, .p (.mov (.t 8))⟩,
 ⟨(some 65), none, .p (.mov (.t 11))⟩,
 ⟨(some 66), none, .p (.ia 4 (.t 64) (.t 65))⟩,
 ⟨(some 67), none, .p (.ldn 4 (.t 66))⟩,
 ⟨(some 68), none, .p (.ldn 4 (.t 12))⟩,
 ⟨(some 69), none, .p (.eqf true [.i .i64, .s, .i .i64, .i .i64] (.t 67) (.t 68))⟩,
 ⟨(some 70), none, .p (.mov (.t 69))⟩,
 ⟨(some 71), (some (70, false)), .p (.mov (.t 10))⟩,
 ⟨(some 72), (some (70, false)), .p (.fa 1 (.t 12))⟩,
 ⟨(some 73), (some (70, false)), .p (.ld1 (.t 72))⟩,
 ⟨(some 74), (some (70, false)), .p (.lens (.t 73))⟩,
 ⟨(some 75), (some (70, false)), .p (.bin .add (.i .i64) (.t 71) (.t 74))⟩,
 ⟨(some 76), (some (70, false)), .p (.mov (.t 6))⟩,
 ⟨(some 77), (some (70, false)), .p (.lens (.t 76))⟩,
 ⟨(some 78), (some (70, false)), .p (.bin .gtr (.i .i64) (.t 75) (.t 77))⟩,
 ⟨(some 79), none, .p (.pick (.t 70) (.c (bl true)) (.t 78))⟩,
 ⟨(some 80), none, .p (.mov (.t 79))⟩,
 ⟨(some 81), (some (80, false)), .p (.mov (.t 6))⟩,
 ⟨(some 82), (some (80, false)), .p (.mov (.t 10))⟩,
 ⟨(some 83), (some (80, false)), .p (.mov (.t 10))⟩,
 ⟨(some 84), (some (80, false)), .p (.fa 1 (.t 12))⟩,
 ⟨(some 85), (some (80, false)), .p (.ld1 (.t 84))⟩,
 ⟨(some 86), (some (80, false)), .p (.lens (.t 85))⟩,
 ⟨(some 87), (some (80, false)), .p (.bin .add (.i .i64) (.t 83) (.t 86))⟩,
 ⟨(some 88), (some (80, false)), .p (.sls (.t 81) (some (.t 82)) (some (.t 87)))⟩,
 ⟨(some 89), (some (80, false)), .p (.fa 1 (.t 12))⟩,
 ⟨(some 90), (some (80, false)), .p (.ld1 (.t 89))⟩,
 ⟨(some 91), (some (80, false)), .p (.bin .neq .s (.t 88) (.t 90))⟩,
 ⟨(some 92), none, .p (.pick (.t 80) (.c (bl true)) (.t 91))⟩])
 (.cond (.t 92)
 (.seq
 (.reg [
 ⟨(some 2), none, .p (.mov (.c (bl false)))⟩])
 .ret)
 .skip))
 (.reg [
 ⟨(some 93), none, .p (.mov (.t 10))⟩,
 ⟨(some 94), none, .p (.fa 1 (.t 12))⟩,
 ⟨(some 95), none, .p (.ld1 (.t 94))⟩,
 ⟨(some 96), none, .p (.lens (.t 95))⟩,
 ⟨(some 97), none, .p (.bin .add (.i .i64) (.t 93) (.t 96))⟩,
 ⟨(some 98), none, .p (.bin .add (.i .i64) (.t 97) (.c (i64 1)))⟩,
 ⟨(some 10), none, .p (.mov (.t 98))⟩])))))
 (.reg [
 ⟨(some 56), none, .p (.mov (.t 11))⟩,
 ⟨(some 57), none, .p (.bin .add (.i .i64) (.t 56) (.c (i64 1)))⟩,
 ⟨(some 11), none, .p (.mov (.t 57))⟩])))
/-- parlour/parlourlaw06.TokenBack -/
def i7 : IC :=
 (.seq
 (.reg [
 ⟨(some 2), none, .p (.mov (.c (bl false)))⟩])
 (.seq
 (.reg [
 ⟨(some 13), none, .e (.call (.c (.fn (.func 6) [] [])) [])⟩,
 ⟨(some 3), none, .p (.mov (.t 13))⟩])
 (.seq
 (.reg [
 ⟨(some 15), none, .p (.mov (.t 0))⟩,
 ⟨(some 16), none, .e (.call (.c (.fn (.func 15) [] [])) [(.t 15)])⟩,
 ⟨(some 14), none, .p (.mov (.t 16))⟩,
 ⟨(some 17), none, .p (.ext (.t 14) 0)⟩,
 ⟨(some 18), none, .p (.ext (.t 14) 1)⟩,
 ⟨(some 5), none, .e (.alc 32 [i64 0, i64 0])⟩,
 ⟨(some 4), none, .p (.mov (.t 17))⟩,
 ⟨none, none, .e (.st 2 (.t 5) (.t 18))⟩])
 (.seq
 (.seq
 (.reg [
 ⟨(some 19), none, .p (.mov (.t 0))⟩,
 ⟨(some 20), none, .p (.lens (.t 19))⟩,
 ⟨(some 21), none, .p (.bin .gtr (.i .i64) (.t 20) (.c (i64 3000)))⟩,
 ⟨(some 22), none, .p (.mov (.t 21))⟩,
 ⟨(some 23), (some (22, false)), .p (.fa 0 (.t 5))⟩,
 ⟨(some 24), (some (22, false)), .p (.ld1 (.t 23))⟩,
 ⟨(some 25), (some (22, false)), .p (.bin .neq (.i .i64) (.t 24) (.c (i64 0)))⟩,
 ⟨(some 26), none, .p (.pick (.t 22) (.c (bl true)) (.t 25))⟩])
 (.cond (.t 26)
 (.seq
 (.reg [
 ⟨(some 27), none, .p (.mov (.t 3))⟩,
 ⟨(some 2), none, .p (.mov (.t 27))⟩])
 .ret)
 .skip))
 (.seq
 (.reg [
 ⟨(some 29), none, .p (.mov (.t 4))⟩,
 ⟨(some 30), none, .e (.call (.c (.fn (.func 13) [] [])) [(.t 29)])⟩,
 ⟨(some 28), none, .p (.mov (.t 30))⟩,
 ⟨(some 31), none, .p (.ext (.t 28) 0)⟩,
 ⟨(some 32), none, .p (.ext (.t 28) 1)⟩,
 ⟨(some 6), none, .p (.mov (.t 31))⟩,
 ⟨(some 7), none, .p (.mov (.t 32))⟩])
 (.seq
 (.reg [
 ⟨(some 34), none, .p (.mov (.t 6))⟩,
 ⟨(some 35), none, .e (.call (.c (.fn (.func 15) [] [])) [(.t 34)])⟩,
 ⟨(some 33), none, .p (.mov (.t 35))⟩,
 ⟨(some 36), none, .p (.ext (.t 33) 0)⟩,
 ⟨(some 37), none, .p (.ext (.t 33) 1)⟩,
 ⟨(some 9), none, .e (.alc 32 [i64 0, i64 0])⟩,
 ⟨(some 8), none, .p (.mov (.t 36))⟩,
 ⟨none, none, .e (.st 2 (.t 9) (.t 37))⟩])
 (.seq
 (.seq
 (.reg [
 ⟨(some 38), none, .p (.mov (.t 7))⟩,
 ⟨(some 39), none, .p (.bin .neq (.i .i64) (.t 38) (.c (i64 0)))⟩,
 ⟨(some 40), none, .p (.mov (.t 39))⟩,
 ⟨(some 41), (some (40, false)), .p (.ldn 2 (.t 9))⟩,
 ⟨(some 42), (some (40, false)), .p (.bld [i64 0, i64 0] [])⟩,
 ⟨(some 43), (some (40, false)), .p (.eqf true [.i .i64, .i .i64] (.t 41) (.t 42))⟩,
 ⟨(some 44), none, .p (.pick (.t 40) (.c (bl true)) (.t 43))⟩,
 ⟨(some 45), none, .p (.mov (.t 44))⟩,
 ⟨(some 46), (some (45, false)), .p (.mov (.t 4))⟩,
 ⟨(some 47), (some (45, false)), .p (.len (.t 46))⟩,
 ⟨(some 48), (some (45, false)), .p (.mov (.t 8))⟩,
 ⟨(some 49), (some (45, false)), .p (.len (.t 48))⟩,
 ⟨(some 50), (some (45, false)), .p (.bin .neq (.i .i64) (.t 47) (.t 49))⟩,
 ⟨(some 51), none, .p (.pick (.t 45) (.c (bl true)) (.t 50))⟩])
 (.cond (.t 51)
 (.seq
 (.reg [
 ⟨(some 2), none, .p (.mov (.c (bl false)))⟩])
 .ret)
 .skip))
 (.seq
 (.reg [
 ⟨(some 10), none, .p (.mov (.c (i64 0)))⟩])
 (.seq
 (.seq
 (.reg [
 ⟨(some 11), none, .p (.mov (.c (i64 0)))⟩])
 (.blk 0
 (.loop l7_0)))
 (.seq
 (.reg [
 ⟨(some 99), none, .p (.mov (.t 3))⟩,
 ⟨(some 100), none, .p (.mov (.t 99))⟩,
 ⟨(some 101), (some (100, true)), .p (.mov (.t 6))⟩,
 ⟨(some 102), (some (100, true)), .p (.lens (.t 101))⟩,
 ⟨(some 103), (some (100, true)), .p (.mov (.t 10))⟩,
 ⟨(some 104), (some (100, true)), .p (.bin .sub (.i .i64) (.t 103) (.c (i64 1)))⟩,
 ⟨(some 105), (some (100, true)), .p (.mm true .i64 (.t 104) (.c (i64 0)))⟩,
 ⟨(some 106), (some (100, true)), .p (.bin .eql (.i .i64) (.t 102) (.t 105))⟩,
 ⟨(some 107), none, .p (.pick (.t 100) (.t 106) (.c (bl false)))⟩,
 ⟨(some 2), none, .p (.mov (.t 107))⟩])
 .ret))))))))))
def r7 : List RS := [.t 2]
theorem c7 : chkF Tryd.prog drawB Tryd.f7 i7 r7 = true := by kernel_rfl
def l8_0 : IC := .keep [0, 5, 6, 8, 10, 12]
 (.seq
 (.seq
 (.reg [
 ⟨(some 81), none, .p (.mov (.t 12))⟩,
 ⟨(some 82), none, .p (.mov (.t 10))⟩,
 ⟨(some 83), none, .p (.len (.t 82))⟩,
 ⟨(some 84), none, .p (.bin .lss (.i .i64) (.t 81) (.t 83))⟩])
 (.cond (.t 84)
 .skip
 (.exit 0)))
 (.seq
 (.blk 1
 (.seq
 (.reg [
 ⟨(some 13), none, .e (.alc 25 [i64 0, st ⟨#[]⟩, i64 0, i64 0])⟩])
 (.seq
 (.seq
 (.reg [
 ⟨(some 87), none, .p (.mov (.t 12))⟩,
 ⟨(some 88), none, .p (.mov (.t 6))⟩,
 ⟨(some 89), none, .p (.len (.t 88))⟩,
 ⟨(some 90), none, .p (.bin .lss (.i .i64) (.t 87) (.t 89))⟩])
 (.cond (.t 90)
 (.reg [
 ⟨(some 91), none, .p (.mov (.t 6))⟩,
 ⟨(some 92), none, .p (.mov (.t 12))⟩,
 ⟨(some 93), none, .p (.ia 4 (.t 91) (.t 92))⟩,
 ⟨(some 94), none, .p (.ldn 4 (.t 93))⟩,
 ⟨none, none, .e (.st 4 (.t 13) (.t 94))⟩])
 (.seq
 (.reg [
 ⟨(some 95), none, .p (.mov (.t 8))⟩,
 ⟨(some 96), none, .p (.mov (.t 12))⟩,
 ⟨(some 97), none, .p (.mov (.t 6))⟩,
 ⟨(some 98), none, .p (.len (.t 97))⟩,
 ⟨(some 99), none, .p (.bin .sub (.i .i64) (.t 96) (.t 98))⟩,
 ⟨(some 100), none, .p (.ia 4 (.t 95) (.t 99))⟩,
 ⟨(some 101), none, .p (.ldn 4 (.t 100))⟩,
 ⟨none, none, .e (.st 4 (.t 13) (.t 101))⟩])
 (.reg [
 ⟨(some 102), none, .p (.fa 3 (.t 13))⟩,
 ⟨(some 103), none, .p (.ld1 (.t 102))⟩,
 ⟨(some 104), none, .p (.mov (.t 0))⟩,
 ⟨(some 105), none, .p (.lens (.t 104))⟩,
 ⟨(some 106), none, .p (.bin .add (.i .i64) (.t 103) (.t 105))⟩,
 ⟨(some 107), none, .p (.bin .add (.i .i64) (.t 106) (.c (i64 1)))⟩,
 ⟨(some 108), none, .p (.fa 3 (.t 13))⟩,
 ⟨none, none, .e (.st 1 (.t 108) (.t 107))⟩]))))
 (.seq
 (.drw [0, 1, 2, 3, 4, 5] [
 ⟨(some 109), none, .p (.mov (.t 10))⟩,
 ⟨(some 110), none, .p (.mov (.t 12))⟩,
 ⟨(some 111), none, .p (.ia 4 (.t 109) (.t 110))⟩,
 ⟨(some 112), none, .p (.ldn 4 (.t 111))⟩,
 ⟨(some 113), none, .p (.ldn 4 (.t 13))⟩,
 ⟨(some 114), none, .p (.eqf true [.i .i64, .s, .i .i64, .i .i64] (.t 112) (.t 113))⟩])
 (.cond (.t 114)
 (.seq
 (.reg [
 ⟨(some 4), none, .p (.mov (.c (bl false)))⟩])
 .ret)
 .skip)))))
 (.reg [
 ⟨(some 85), none, .p (.mov (.t 12))⟩,
 ⟨(some 86), none, .p (.bin .add (.i .i64) (.t 85) (.c (i64 1)))⟩,
 ⟨(some 12), none, .p (.mov (.t 86))⟩])))
/-- parlour/parlourlaw06.TokenJoins -/
def i8 : IC :=
 (.seq
 (.reg [
 ⟨(some 4), none, .p (.mov (.c (bl false)))⟩])
 (.seq
 (.reg [
 ⟨(some 14), none, .e (.call (.c (.fn (.func 6) [] [])) [])⟩,
 ⟨(some 5), none, .p (.mov (.t 14))⟩])
 (.seq
 (.seq
 (.reg [
 ⟨(some 15), none, .p (.mov (.t 0))⟩,
 ⟨(some 16), none, .p (.lens (.t 15))⟩,
 ⟨(some 17), none, .p (.bin .gtr (.i .i64) (.t 16) (.c (i64 1500)))⟩,
 ⟨(some 18), none, .p (.mov (.t 17))⟩,
 ⟨(some 19), (some (18, false)), .p (.mov (.t 1))⟩,
 ⟨(some 20), (some (18, false)), .p (.lens (.t 19))⟩,
 ⟨(some 21), (some (18, false)), .p (.bin .gtr (.i .i64) (.t 20) (.c (i64 1500)))⟩,
 ⟨(some 22), none, .p (.pick (.t 18) (.c (bl true)) (.t 21))⟩])
 (.cond (.t 22)
 (.seq
 (.reg [
 ⟨(some 23), none, .p (.mov (.t 5))⟩,
 ⟨(some 4), none, .p (.mov (.t 23))⟩])
 .ret)
 .skip))
 (.seq
 (.reg [
 ⟨(some 25), none, .p (.mov (.t 0))⟩,
 ⟨(some 26), none, .e (.call (.c (.fn (.func 15) [] [])) [(.t 25)])⟩,
 ⟨(some 24), none, .p (.mov (.t 26))⟩,
 ⟨(some 27), none, .p (.ext (.t 24) 0)⟩,
 ⟨(some 28), none, .p (.ext (.t 24) 1)⟩,
 ⟨(some 7), none, .e (.alc 32 [i64 0, i64 0])⟩,
 ⟨(some 6), none, .p (.mov (.t 27))⟩,
 ⟨none, none, .e (.st 2 (.t 7) (.t 28))⟩])
 (.seq
 (.reg [
 ⟨(some 30), none, .p (.mov (.t 1))⟩,
 ⟨(some 31), none, .e (.call (.c (.fn (.func 15) [] [])) [(.t 30)])⟩,
 ⟨(some 29), none, .p (.mov (.t 31))⟩,
 ⟨(some 32), none, .p (.ext (.t 29) 0)⟩,
 ⟨(some 33), none, .p (.ext (.t 29) 1)⟩,
 ⟨(some 9), none, .e (.alc 32 [i64 0, i64 0])⟩,
 ⟨(some 8), none, .p (.mov (.t 32))⟩,
 ⟨none, none, .e (.st 2 (.t 9) (.t 33))⟩])
 (.seq
 (.reg [
 ⟨(some 35), none, .p (.mov (.t 0))⟩,
 ⟨(some 36), none, .p (.bin .add .s (.t 35) (.c (st ⟨#[10]⟩)))⟩,
 ⟨(some 37), none, .p (.mov (.t 1))⟩,
 ⟨(some 38), none, .p (.bin .add .s (.t 36) (.t 37))⟩,
 ⟨(some 39), none, .e (.call (.c (.fn (.func 15) [] [])) [(.t 38)])⟩,
 ⟨(some 34), none, .p (.mov (.t 39))⟩,
 ⟨(some 40), none, .p (.ext (.t 34) 0)⟩,
 ⟨(some 41), none, .p (.ext (.t 34) 1)⟩,
 ⟨(some 11), none, .e (.alc 32 [i64 0, i64 0])⟩,
 ⟨(some 10), none, .p (.mov (.t 40))⟩,
 ⟨none, none, .e (.st 2 (.t 11) (.t 41))⟩])
 (.seq
 (.seq
 (.reg [
 ⟨(some 42), none, .p (.fa 0 (.t 7))⟩,
 ⟨(some 43), none, .p (.ld1 (.t 42))⟩,
 ⟨(some 44), none, .p (.bin .neq (.i .i64) (.t 43) (.c (i64 0)))⟩])
 (.cond (.t 44)
 (.seq
 (.reg [
 ⟨(some 45), none, .p (.mov (.t 5))⟩,
 ⟨(some 46), none, .p (.mov (.t 45))⟩,
 ⟨(some 47), (some (46, true)), .p (.ldn 2 (.t 11))⟩,
 ⟨(some 48), (some (46, true)), .p (.ldn 2 (.t 7))⟩,
 ⟨(some 49), (some (46, true)), .p (.eqf false [.i .i64, .i .i64] (.t 47) (.t 48))⟩,
 ⟨(some 50), none, .p (.pick (.t 46) (.t 49) (.c (bl false)))⟩,
 ⟨(some 4), none, .p (.mov (.t 50))⟩])
 .ret)
 .skip))
 (.seq
 (.seq
 (.reg [
 ⟨(some 51), none, .p (.fa 0 (.t 9))⟩,
 ⟨(some 52), none, .p (.ld1 (.t 51))⟩,
 ⟨(some 53), none, .p (.bin .neq (.i .i64) (.t 52) (.c (i64 0)))⟩])
 (.cond (.t 53)
 (.seq
 (.reg [
 ⟨(some 54), none, .p (.mov (.t 5))⟩,
 ⟨(some 55), none, .p (.mov (.t 54))⟩,
 ⟨(some 56), (some (55, true)), .p (.ldn 2 (.t 11))⟩,
 ⟨(some 57), (some (55, true)), .p (.fa 0 (.t 9))⟩,
 ⟨(some 58), (some (55, true)), .p (.ld1 (.t 57))⟩,
 ⟨(some 59), (some (55, true)), .p (.fa 1 (.t 9))⟩,
 ⟨(some 60), (some (55, true)), .p (.ld1 (.t 59))⟩,
 ⟨(some 61), (some (55, true)), .p (.mov (.t 0))⟩,
 ⟨(some 62), (some (55, true)), .p (.lens (.t 61))⟩,
 ⟨(some 63), (some (55, true)), .p (.bin .add (.i .i64) (.t 60) (.t 62))⟩,
 ⟨(some 64), (some (55, true)), .p (.bin .add (.i .i64) (.t 63) (.c (i64 1)))⟩,
 ⟨(some 65), (some (55, true)), .p (.bld [i64 0, i64 0] [(0, 1, (.t 58)), (1, 1, (.t 64))])⟩,
 ⟨(some 66), (some (55, true)), .p (.eqf false [.i .i64, .i .i64] (.t 56) (.t 65))⟩,
 ⟨(some 67), none, .p (.pick (.t 55) (.t 66) (.c (bl false)))⟩,
 ⟨(some 4), none, .p (.mov (.t 67))⟩])
 .ret)
 .skip))
 (.seq
 (.seq
 (.reg [
 ⟨(some 68), none, .p (.ldn 2 (.t 11))⟩,
 ⟨(some 69), none, .p (.bld [i64 0, i64 0] [])⟩,
 ⟨(some 70), none, .p (.eqf true [.i .i64, .i .i64] (.t 68) (.t 69))⟩,
 ⟨(some 71), none, .p (.mov (.t 70))⟩,
 ⟨(some 72), (some (71, false)), .p (.mov (.t 10))⟩,
 ⟨(some 73), (some (71, false)), .p (.len (.t 72))⟩,
 ⟨(some 74), (some (71, false)), .p (.mov (.t 6))⟩,
 ⟨(some 75), (some (71, false)), .p (.len (.t 74))⟩,
 ⟨(some 76), (some (71, false)), .p (.mov (.t 8))⟩,
 ⟨(some 77), (some (71, false)), .p (.len (.t 76))⟩,
 ⟨(some 78), (some (71, false)), .p (.bin .add (.i .i64) (.t 75) (.t 77))⟩,
 ⟨(some 79), (some (71, false)), .p (.bin .neq (.i .i64) (.t 73) (.t 78))⟩,
 ⟨(some 80), none, .p (.pick (.t 71) (.c (bl true)) (.t 79))⟩])
 (.cond (.t 80)
 (.seq
 (.reg [
 ⟨(some 4), none, .p (.mov (.c (bl false)))⟩])
 .ret)
 .skip))
 (.seq
 (.seq
 (.reg [
 ⟨(some 12), none, .p (.mov (.c (i64 0)))⟩])
 (.blk 0
 (.loop l8_0)))
 (.seq
 (.reg [
 ⟨(some 115), none, .p (.mov (.t 5))⟩,
 ⟨(some 4), none, .p (.mov (.t 115))⟩])
 .ret)))))))))))
def r8 : List RS := [.t 4]
theorem c8 : chkF Tryd.prog drawB Tryd.f8 i8 r8 = true := by kernel_rfl
def l9_0 : IC := .keep [5, 6, 12, 13, 15]
 (.seq
 (.seq
 (.reg [
 ⟨(some 77), none, .p (.mov (.t 15))⟩,
 ⟨(some 78), none, .p (.mov (.t 6))⟩,
 ⟨(some 79), none, .p (.len (.t 78))⟩,
 ⟨(some 80), none, .p (.bin .lss (.i .i64) (.t 77) (.t 79))⟩])
 (.cond (.t 80)
 .skip
 (.exit 0)))
 (.seq
 (.blk 1
 (.seq
 (.reg [
 ⟨(some 83), none, .p (.mov (.t 6))⟩,
 ⟨(some 84), none, .p (.mov (.t 15))⟩,
 ⟨(some 85), none, .p (.ia 4 (.t 83) (.t 84))⟩,
 ⟨(some 86), none, .p (.ldn 4 (.t 85))⟩,
 ⟨(some 16), none, .e (.alc 25 [i64 0, st ⟨#[]⟩, i64 0, i64 0])⟩,
 ⟨none, none, .e (.st 4 (.t 16) (.t 86))⟩])
 (.seq
 (.reg [
 ⟨(some 87), none, .p (.fa 3 (.t 16))⟩,
 ⟨(some 88), none, .p (.ld1 (.t 87))⟩,
 ⟨(some 89), none, .p (.mov (.t 12))⟩,
 ⟨(some 90), none, .p (.lens (.t 89))⟩,
 ⟨(some 91), none, .p (.bin .add (.i .i64) (.t 88) (.t 90))⟩,
 ⟨(some 92), none, .p (.fa 3 (.t 16))⟩,
 ⟨none, none, .e (.st 1 (.t 92) (.t 91))⟩])
 (.seq
 (.drw [0, 1, 2, 3, 4, 5] [
 ⟨(some 93), none, .p (.mov (.t 13))⟩,
 ⟨(some 94), none, .p (.mov (.t 15))⟩,
 ⟨(some 95), none, .p (.ia 4 (.t 93) (.t 94))⟩,
 ⟨(some 96), none, .p (.ldn 4 (.t 95))⟩,
 ⟨(some 97), none, .p (.ldn 4 (.t 16))⟩,
 ⟨(some 98), none, .p (.eqf true [.i .i64, .s, .i .i64, .i .i64] (.t 96) (.t 97))⟩])
 (.cond (.t 98)
 (.seq
 (.reg [
 ⟨(some 4), none, .p (.mov (.c (bl false)))⟩])
 .ret)
 .skip)))))
 (.reg [
 ⟨(some 81), none, .p (.mov (.t 15))⟩,
 ⟨(some 82), none, .p (.bin .add (.i .i64) (.t 81) (.c (i64 1)))⟩,
 ⟨(some 15), none, .p (.mov (.t 82))⟩])))
/-- parlour/parlourlaw06.TokenStrips -/
def i9 : IC :=
 (.seq
 (.reg [
 ⟨(some 4), none, .p (.mov (.c (bl false)))⟩])
 (.seq
 (.reg [
 ⟨(some 17), none, .e (.call (.c (.fn (.func 6) [] [])) [])⟩,
 ⟨(some 5), none, .p (.mov (.t 17))⟩])
 (.seq
 (.reg [
 ⟨(some 19), none, .p (.mov (.t 0))⟩,
 ⟨(some 20), none, .e (.call (.c (.fn (.func 15) [] [])) [(.t 19)])⟩,
 ⟨(some 18), none, .p (.mov (.t 20))⟩,
 ⟨(some 21), none, .p (.ext (.t 18) 0)⟩,
 ⟨(some 22), none, .p (.ext (.t 18) 1)⟩,
 ⟨(some 7), none, .e (.alc 32 [i64 0, i64 0])⟩,
 ⟨(some 6), none, .p (.mov (.t 21))⟩,
 ⟨none, none, .e (.st 2 (.t 7) (.t 22))⟩])
 (.seq
 (.seq
 (.reg [
 ⟨(some 23), none, .p (.mov (.t 0))⟩,
 ⟨(some 24), none, .p (.lens (.t 23))⟩,
 ⟨(some 25), none, .p (.bin .gtr (.i .i64) (.t 24) (.c (i64 1500)))⟩,
 ⟨(some 26), none, .p (.mov (.t 25))⟩,
 ⟨(some 27), (some (26, false)), .p (.fa 0 (.t 7))⟩,
 ⟨(some 28), (some (26, false)), .p (.ld1 (.t 27))⟩,
 ⟨(some 29), (some (26, false)), .p (.bin .neq (.i .i64) (.t 28) (.c (i64 0)))⟩,
 ⟨(some 30), none, .p (.pick (.t 26) (.c (bl true)) (.t 29))⟩])
 (.cond (.t 30)
 (.seq
 (.reg [
 ⟨(some 31), none, .p (.mov (.t 5))⟩,
 ⟨(some 4), none, .p (.mov (.t 31))⟩])
 .ret)
 .skip))
 (.seq
 (.reg [
 ⟨(some 33), none, .p (.mov (.t 0))⟩,
 ⟨(some 34), none, .e (.call (.c (.fn (.func 17) [] [])) [(.t 33)])⟩,
 ⟨(some 32), none, .p (.mov (.t 34))⟩,
 ⟨(some 35), none, .p (.ext (.t 32) 0)⟩,
 ⟨(some 36), none, .p (.ext (.t 32) 1)⟩,
 ⟨(some 9), none, .e (.alc 32 [i64 0, i64 0])⟩,
 ⟨(some 8), none, .p (.mov (.t 35))⟩,
 ⟨none, none, .e (.st 2 (.t 9) (.t 36))⟩])
 (.seq
 (.reg [
 ⟨(some 38), none, .p (.mov (.t 8))⟩,
 ⟨(some 39), none, .e (.call (.c (.fn (.func 17) [] [])) [(.t 38)])⟩,
 ⟨(some 37), none, .p (.mov (.t 39))⟩,
 ⟨(some 40), none, .p (.ext (.t 37) 0)⟩,
 ⟨(some 41), none, .p (.ext (.t 37) 1)⟩,
 ⟨(some 11), none, .e (.alc 32 [i64 0, i64 0])⟩,
 ⟨(some 10), none, .p (.mov (.t 40))⟩,
 ⟨none, none, .e (.st 2 (.t 11) (.t 41))⟩])
 (.seq
 (.seq
 (.reg [
 ⟨(some 42), none, .p (.ldn 2 (.t 9))⟩,
 ⟨(some 43), none, .p (.bld [i64 0, i64 0] [])⟩,
 ⟨(some 44), none, .p (.eqf true [.i .i64, .i .i64] (.t 42) (.t 43))⟩,
 ⟨(some 45), none, .p (.mov (.t 44))⟩,
 ⟨(some 46), (some (45, false)), .p (.ldn 2 (.t 11))⟩,
 ⟨(some 47), (some (45, false)), .p (.bld [i64 0, i64 0] [])⟩,
 ⟨(some 48), (some (45, false)), .p (.eqf true [.i .i64, .i .i64] (.t 46) (.t 47))⟩,
 ⟨(some 49), none, .p (.pick (.t 45) (.c (bl true)) (.t 48))⟩,
 ⟨(some 50), none, .p (.mov (.t 49))⟩,
 ⟨(some 51), (some (50, false)), .p (.mov (.t 8))⟩,
 ⟨(some 52), (some (50, false)), .p (.mov (.t 10))⟩,
 ⟨(some 53), (some (50, false)), .p (.bin .neq .s (.t 51) (.t 52))⟩,
 ⟨(some 54), none, .p (.pick (.t 50) (.c (bl true)) (.t 53))⟩])
 (.cond (.t 54)
 (.seq
 (.reg [
 ⟨(some 4), none, .p (.mov (.c (bl false)))⟩])
 .ret)
 .skip))
 (.seq
 (.reg [
 ⟨(some 55), none, .e (.bsl 9 1 4 [st ⟨#[]⟩] [(0, (.c (st ⟨#[32]⟩))), (1, (.c (st ⟨#[10, 9, 32]⟩))), (2, (.c (st ⟨#[35, 32, 49, 97, 32, 33, 10]⟩))), (3, (.c (st ⟨#[32, 32, 35, 10, 10]⟩)))])⟩,
 ⟨(some 56), none, .p (.mov (.t 1))⟩,
 ⟨(some 57), none, .e (.call (.c (.fn (.func 24) [] [])) [(.t 56), (.c (i64 4))])⟩,
 ⟨(some 58), none, .p (.ia 1 (.t 55) (.t 57))⟩,
 ⟨(some 59), none, .p (.ld1 (.t 58))⟩,
 ⟨(some 12), none, .p (.mov (.t 59))⟩])
 (.seq
 (.reg [
 ⟨(some 61), none, .p (.mov (.t 12))⟩,
 ⟨(some 62), none, .p (.mov (.t 0))⟩,
 ⟨(some 63), none, .p (.bin .add .s (.t 61) (.t 62))⟩,
 ⟨(some 64), none, .e (.call (.c (.fn (.func 15) [] [])) [(.t 63)])⟩,
 ⟨(some 60), none, .p (.mov (.t 64))⟩,
 ⟨(some 65), none, .p (.ext (.t 60) 0)⟩,
 ⟨(some 66), none, .p (.ext (.t 60) 1)⟩,
 ⟨(some 14), none, .e (.alc 32 [i64 0, i64 0])⟩,
 ⟨(some 13), none, .p (.mov (.t 65))⟩,
 ⟨none, none, .e (.st 2 (.t 14) (.t 66))⟩])
 (.seq
 (.seq
 (.reg [
 ⟨(some 67), none, .p (.ldn 2 (.t 14))⟩,
 ⟨(some 68), none, .p (.bld [i64 0, i64 0] [])⟩,
 ⟨(some 69), none, .p (.eqf true [.i .i64, .i .i64] (.t 67) (.t 68))⟩,
 ⟨(some 70), none, .p (.mov (.t 69))⟩,
 ⟨(some 71), (some (70, false)), .p (.mov (.t 6))⟩,
 ⟨(some 72), (some (70, false)), .p (.len (.t 71))⟩,
 ⟨(some 73), (some (70, false)), .p (.mov (.t 13))⟩,
 ⟨(some 74), (some (70, false)), .p (.len (.t 73))⟩,
 ⟨(some 75), (some (70, false)), .p (.bin .neq (.i .i64) (.t 72) (.t 74))⟩,
 ⟨(some 76), none, .p (.pick (.t 70) (.c (bl true)) (.t 75))⟩])
 (.cond (.t 76)
 (.seq
 (.reg [
 ⟨(some 4), none, .p (.mov (.c (bl false)))⟩])
 .ret)
 .skip))
 (.seq
 (.seq
 (.reg [
 ⟨(some 15), none, .p (.mov (.c (i64 0)))⟩])
 (.blk 0
 (.loop l9_0)))
 (.seq
 (.reg [
 ⟨(some 99), none, .p (.mov (.t 5))⟩,
 ⟨(some 4), none, .p (.mov (.t 99))⟩])
 .ret))))))))))))
def r9 : List RS := [.t 4]
theorem c9 : chkF Tryd.prog drawB Tryd.f9 i9 r9 = true := by kernel_rfl
/-- parlour/parlourlaw06.awake -/
def i10 : IC :=
 (.seq
 (.reg [
 ⟨(some 0), none, .p (.mov (.c (bl false)))⟩])
 (.seq
 (.reg [
 ⟨(some 7), none, .e (.call (.c (.fn (.func 15) [] [])) [(.c (st ⟨#[97, 49, 32, 61, 32, 50, 48, 59]⟩))])⟩,
 ⟨(some 6), none, .p (.mov (.t 7))⟩,
 ⟨(some 8), none, .p (.ext (.t 6) 0)⟩,
 ⟨(some 9), none, .p (.ext (.t 6) 1)⟩,
 ⟨(some 2), none, .e (.alc 32 [i64 0, i64 0])⟩,
 ⟨(some 1), none, .p (.mov (.t 8))⟩,
 ⟨none, none, .e (.st 2 (.t 2) (.t 9))⟩])
 (.seq
 (.reg [
 ⟨(some 10), none, .p (.bld [i64 0, st ⟨#[]⟩, i64 0, i64 0] [(0, 1, (.c (i64 1))), (1, 1, (.c (st ⟨#[97, 49]⟩)))])⟩,
 ⟨(some 11), none, .p (.bld [i64 0, st ⟨#[]⟩, i64 0, i64 0] [(0, 1, (.c (i64 3))), (1, 1, (.c (st ⟨#[61]⟩))), (3, 1, (.c (i64 3)))])⟩,
 ⟨(some 12), none, .p (.bld [i64 0, st ⟨#[]⟩, i64 0, i64 0] [(0, 1, (.c (i64 2))), (1, 1, (.c (st ⟨#[50, 48]⟩))), (2, 1, (.c (i64 20))), (3, 1, (.c (i64 5)))])⟩,
 ⟨(some 13), none, .p (.bld [i64 0, st ⟨#[]⟩, i64 0, i64 0] [(0, 1, (.c (i64 3))), (1, 1, (.c (st ⟨#[59]⟩))), (3, 1, (.c (i64 7)))])⟩,
 ⟨(some 14), none, .e (.bsl 25 4 4 [i64 0, st ⟨#[]⟩, i64 0, i64 0] [(0, (.t 10)), (1, (.t 11)), (2, (.t 12)), (3, (.t 13))])⟩,
 ⟨(some 3), none, .p (.mov (.t 14))⟩])
 (.seq
 (.reg [
 ⟨(some 16), none, .p (.bld [i64 0, st ⟨#[]⟩, i64 0, i64 0] [(0, 1, (.c (i64 1))), (1, 1, (.c (st ⟨#[97]⟩)))])⟩,
 ⟨(some 17), none, .p (.bld [i64 0, st ⟨#[]⟩, i64 0, i64 0] [(0, 1, (.c (i64 2))), (1, 1, (.c (st ⟨#[49]⟩))), (2, 1, (.c (i64 1)))])⟩,
 ⟨(some 18), none, .p (.bld [i64 0, st ⟨#[]⟩, i64 0, i64 0] [(0, 1, (.c (i64 3))), (1, 1, (.c (st ⟨#[59]⟩)))])⟩,
 ⟨(some 19), none, .e (.bsl 25 4 3 [i64 0, st ⟨#[]⟩, i64 0, i64 0] [(0, (.t 16)), (1, (.t 17)), (2, (.t 18))])⟩,
 ⟨(some 20), none, .e (.call (.c (.fn (.func 13) [] [])) [(.t 19)])⟩,
 ⟨(some 15), none, .p (.mov (.t 20))⟩,
 ⟨(some 21), none, .p (.ext (.t 15) 0)⟩,
 ⟨(some 22), none, .p (.ext (.t 15) 1)⟩,
 ⟨(some 4), none, .p (.mov (.t 21))⟩,
 ⟨(some 5), none, .p (.mov (.t 22))⟩])
 (.seq
 (.reg [
 ⟨(some 23), none, .p (.ldn 2 (.t 2))⟩,
 ⟨(some 24), none, .p (.bld [i64 0, i64 0] [])⟩,
 ⟨(some 25), none, .p (.eqf false [.i .i64, .i .i64] (.t 23) (.t 24))⟩,
 ⟨(some 26), none, .p (.mov (.t 25))⟩,
 ⟨(some 27), (some (26, true)), .p (.mov (.t 1))⟩,
 ⟨(some 28), (some (26, true)), .p (.mov (.t 3))⟩,
 ⟨(some 29), (some (26, true)), .q (.c (.fn (.func 19) [] [])) [(.t 27), (.t 28)]⟩,
 ⟨(some 30), none, .p (.pick (.t 26) (.t 29) (.c (bl false)))⟩,
 ⟨(some 31), none, .p (.mov (.t 30))⟩,
 ⟨(some 32), (some (31, true)), .p (.mov (.t 4))⟩,
 ⟨(some 33), (some (31, true)), .p (.bin .eql .s (.t 32) (.c (st ⟨#[97, 32, 49, 32, 59]⟩)))⟩,
 ⟨(some 34), none, .p (.pick (.t 31) (.t 33) (.c (bl false)))⟩,
 ⟨(some 35), none, .p (.mov (.t 34))⟩,
 ⟨(some 36), (some (35, true)), .p (.mov (.t 5))⟩,
 ⟨(some 37), (some (35, true)), .p (.bin .eql (.i .i64) (.t 36) (.c (i64 0)))⟩,
 ⟨(some 38), none, .p (.pick (.t 35) (.t 37) (.c (bl false)))⟩,
 ⟨(some 0), none, .p (.mov (.t 38))⟩])
 .ret)))))
def r10 : List RS := [.t 0]
theorem c10 : chkF Tryd.prog drawB Tryd.f10 i10 r10 = true := by kernel_rfl
/-- parlour/token.Check -/
def i11 : IC :=
 (.seq
 (.reg [
 ⟨(some 1), none, .e (.box 25 (.t 0))⟩,
 ⟨(some 2), none, .p (.mov (.c (i64 0)))⟩])
 (.seq
 (.reg [
 ⟨(some 3), none, .e (.alc 25 [i64 0, st ⟨#[]⟩, i64 0, i64 0])⟩])
 (.seq
 (.reg [
 ⟨(some 6), none, .p (.mkf (.func 25) [] [(.t 3), (.t 1)])⟩,
 ⟨(some 4), none, .p (.mov (.t 6))⟩])
 (.seq
 (.seq
 (.reg [
 ⟨(some 7), none, .p (.fa 1 (.t 1))⟩,
 ⟨(some 8), none, .p (.ld1 (.t 7))⟩,
 ⟨(some 9), none, .p (.mov (.t 4))⟩,
 ⟨(some 10), none, .e (.call (.c (.fn (.func 28) [] [])) [(.t 8), (.t 9), (.c (i64 3))])⟩,
 ⟨(some 5), none, .p (.mov (.t 10))⟩])
 (.seq
 (.reg [
 ⟨(some 11), none, .p (.mov (.t 5))⟩,
 ⟨(some 12), none, .p (.bin .neq (.i .i64) (.t 11) (.c (i64 0)))⟩])
 (.cond (.t 12)
 (.seq
 (.reg [
 ⟨(some 13), none, .p (.mov (.t 5))⟩,
 ⟨(some 2), none, .p (.mov (.t 13))⟩])
 .ret)
 .skip)))
 (.seq
 (.reg [
 ⟨(some 14), none, .p (.fa 2 (.t 1))⟩,
 ⟨(some 15), none, .p (.ld1 (.t 14))⟩,
 ⟨(some 16), none, .p (.mkf (.func 30) [] [(.t 3)])⟩,
 ⟨(some 17), none, .e (.call (.c (.fn (.func 29) [] [])) [(.t 15), (.t 16), (.c (i64 2))])⟩,
 ⟨(some 2), none, .p (.mov (.t 17))⟩])
 .ret)))))
def r11 : List RS := [.t 2]
theorem c11 : chkF Tryd.prog drawB Tryd.f11 i11 r11 = true := by kernel_rfl
/-- parlour/parlourref06.Check -/
def i12 : IC :=
 (.seq
 (.reg [
 ⟨(some 1), none, .e (.box 25 (.t 0))⟩,
 ⟨(some 2), none, .p (.mov (.c (i64 0)))⟩])
 (.seq
 (.seq
 (.reg [
 ⟨(some 6), none, .p (.fa 1 (.t 1))⟩,
 ⟨(some 7), none, .p (.ld1 (.t 6))⟩,
 ⟨(some 8), none, .p (.bin .eql .s (.t 7) (.c (st ⟨#[]⟩)))⟩,
 ⟨(some 9), none, .p (.mov (.t 8))⟩,
 ⟨(some 10), (some (9, false)), .p (.fa 0 (.t 1))⟩,
 ⟨(some 11), (some (9, false)), .p (.ld1 (.t 10))⟩,
 ⟨(some 12), (some (9, false)), .p (.bin .lss (.i .i64) (.t 11) (.c (i64 1)))⟩,
 ⟨(some 13), none, .p (.pick (.t 9) (.c (bl true)) (.t 12))⟩,
 ⟨(some 14), none, .p (.mov (.t 13))⟩,
 ⟨(some 15), (some (14, false)), .p (.fa 0 (.t 1))⟩,
 ⟨(some 16), (some (14, false)), .p (.ld1 (.t 15))⟩,
 ⟨(some 17), (some (14, false)), .p (.bin .gtr (.i .i64) (.t 16) (.c (i64 3)))⟩,
 ⟨(some 18), none, .p (.pick (.t 14) (.c (bl true)) (.t 17))⟩,
 ⟨(some 19), none, .p (.mov (.t 18))⟩,
 ⟨(some 20), (some (19, false)), .p (.fa 1 (.t 1))⟩,
 ⟨(some 21), (some (19, false)), .p (.ld1 (.t 20))⟩,
 ⟨(some 22), (some (19, false)), .p (.ixs (.t 21) (.c (i64 0)))⟩,
 ⟨(some 23), (some (19, false)), .q (.c (.fn (.func 31) [] [])) [(.t 22)]⟩,
 ⟨(some 24), none, .p (.pick (.t 19) (.c (bl true)) (.t 23))⟩,
 ⟨(some 25), none, .p (.mov (.t 24))⟩,
 ⟨(some 26), (some (25, false)), .p (.fa 1 (.t 1))⟩,
 ⟨(some 27), (some (25, false)), .p (.ld1 (.t 26))⟩,
 ⟨(some 28), (some (25, false)), .p (.ixs (.t 27) (.c (i64 0)))⟩,
 ⟨(some 29), (some (25, false)), .p (.bin .eql (.i .u8) (.t 28) (.c (.val (.int .u8 35))))⟩,
 ⟨(some 30), none, .p (.pick (.t 25) (.c (bl true)) (.t 29))⟩])
 (.cond (.t 30)
 (.seq
 (.reg [
 ⟨(some 2), none, .p (.mov (.c (i64 3)))⟩])
 .ret)
 .skip))
 (.seq
 (.reg [
 ⟨(some 32), none, .p (.fa 1 (.t 1))⟩,
 ⟨(some 33), none, .p (.ld1 (.t 32))⟩,
 ⟨(some 34), none, .e (.call (.c (.fn (.func 32) [] [])) [(.t 33), (.c (i64 0))])⟩,
 ⟨(some 31), none, .p (.mov (.t 34))⟩,
 ⟨(some 35), none, .p (.ext (.t 31) 0)⟩,
 ⟨(some 36), none, .p (.ext (.t 31) 1)⟩,
 ⟨(some 37), none, .p (.ext (.t 31) 2)⟩,
 ⟨(some 3), none, .e (.alc 25 [i64 0, st ⟨#[]⟩, i64 0, i64 0])⟩,
 ⟨(some 5), none, .e (.alc 32 [i64 0, i64 0])⟩,
 ⟨none, none, .e (.st 4 (.t 3) (.t 35))⟩,
 ⟨(some 4), none, .p (.mov (.t 36))⟩,
 ⟨none, none, .e (.st 2 (.t 5) (.t 37))⟩])
 (.seq
 (.seq
 (.reg [
 ⟨(some 38), none, .p (.fa 0 (.t 5))⟩,
 ⟨(some 39), none, .p (.ld1 (.t 38))⟩,
 ⟨(some 40), none, .p (.bin .neq (.i .i64) (.t 39) (.c (i64 0)))⟩,
 ⟨(some 41), none, .p (.mov (.t 40))⟩,
 ⟨(some 42), (some (41, false)), .p (.mov (.t 4))⟩,
 ⟨(some 43), (some (41, false)), .p (.fa 1 (.t 1))⟩,
 ⟨(some 44), (some (41, false)), .p (.ld1 (.t 43))⟩,
 ⟨(some 45), (some (41, false)), .p (.lens (.t 44))⟩,
 ⟨(some 46), (some (41, false)), .p (.bin .neq (.i .i64) (.t 42) (.t 45))⟩,
 ⟨(some 47), none, .p (.pick (.t 41) (.c (bl true)) (.t 46))⟩,
 ⟨(some 48), none, .p (.mov (.t 47))⟩,
 ⟨(some 49), (some (48, false)), .p (.fa 0 (.t 3))⟩,
 ⟨(some 50), (some (48, false)), .p (.ld1 (.t 49))⟩,
 ⟨(some 51), (some (48, false)), .p (.fa 0 (.t 1))⟩,
 ⟨(some 52), (some (48, false)), .p (.ld1 (.t 51))⟩,
 ⟨(some 53), (some (48, false)), .p (.bin .neq (.i .i64) (.t 50) (.t 52))⟩,
 ⟨(some 54), none, .p (.pick (.t 48) (.c (bl true)) (.t 53))⟩])
 (.cond (.t 54)
 (.seq
 (.reg [
 ⟨(some 2), none, .p (.mov (.c (i64 3)))⟩])
 .ret)
 .skip))
 (.seq
 (.seq
 (.reg [
 ⟨(some 55), none, .p (.fa 2 (.t 3))⟩,
 ⟨(some 56), none, .p (.ld1 (.t 55))⟩,
 ⟨(some 57), none, .p (.fa 2 (.t 1))⟩,
 ⟨(some 58), none, .p (.ld1 (.t 57))⟩,
 ⟨(some 59), none, .p (.bin .neq (.i .i64) (.t 56) (.t 58))⟩])
 (.cond (.t 59)
 (.seq
 (.reg [
 ⟨(some 2), none, .p (.mov (.c (i64 2)))⟩])
 .ret)
 .skip))
 (.seq
 (.reg [
 ⟨(some 2), none, .p (.mov (.c (i64 0)))⟩])
 .ret))))))
def r12 : List RS := [.t 2]
theorem c12 : chkF Tryd.prog drawB Tryd.f12 i12 r12 = true := by kernel_rfl
def l13_0 : IC := .keep [4, 15, 16, 17]
 (.seq
 (.reg [
 ⟨(some 18), none, .p (.bin .lss (.i .i64) (.t 17) (.t 16))⟩])
 (.seq
 (.cond (.t 18)
 .skip
 (.exit 0))
 (.seq
 (.blk 1
 (.seq
 (.reg [
 ⟨(some 19), none, .p (.ia 4 (.t 15) (.t 17))⟩,
 ⟨(some 20), none, .p (.ldn 4 (.t 19))⟩,
 ⟨(some 6), none, .e (.alc 25 [i64 0, st ⟨#[]⟩, i64 0, i64 0])⟩,
 ⟨none, none, .e (.st 4 (.t 6) (.t 20))⟩])
 (.seq
 (.seq
 (.reg [
 ⟨(some 21), none, .p (.ldn 4 (.t 6))⟩,
 ⟨(some 22), none, .e (.call (.c (.fn (.func 11) [] [])) [(.t 21)])⟩,
 ⟨(some 7), none, .p (.mov (.t 22))⟩])
 (.seq
 (.reg [
 ⟨(some 23), none, .p (.mov (.t 7))⟩,
 ⟨(some 24), none, .p (.bin .neq (.i .i64) (.t 23) (.c (i64 0)))⟩])
 (.cond (.t 24)
 (.seq
 (.reg [
 ⟨(some 25), none, .p (.mov (.t 7))⟩,
 ⟨(some 2), none, .p (.mov (.c (st ⟨#[]⟩)))⟩,
 ⟨(some 3), none, .p (.mov (.t 25))⟩])
 .ret)
 .skip)))
 (.reg [
 ⟨(some 26), none, .p (.mov (.t 4))⟩,
 ⟨(some 27), none, .p (.fa 1 (.t 6))⟩,
 ⟨(some 28), none, .p (.ld1 (.t 27))⟩,
 ⟨(some 29), none, .e (.bsl 9 1 1 [st ⟨#[]⟩] [(0, (.t 28))])⟩,
 ⟨(some 30), none, .e (.app 9 1 16 (.t 26) (.t 29))⟩,
 ⟨(some 4), none, .p (.mov (.t 30))⟩]))))
 (.reg [
 ⟨(some 31), none, .p (.bin .add (.i .i64) (.t 17) (.c (i64 1)))⟩,
 ⟨(some 17), none, .p (.mov (.t 31))⟩]))))
/-- parlour/token.Render -/
def i13 : IC :=
 (.seq
 (.reg [
 ⟨(some 2), none, .p (.mov (.c (st ⟨#[]⟩)))⟩,
 ⟨(some 3), none, .p (.mov (.c (i64 0)))⟩])
 (.seq
 (.seq
 (.reg [
 ⟨(some 9), none, .p (.mov (.t 0))⟩,
 ⟨(some 10), none, .p (.len (.t 9))⟩,
 ⟨(some 11), none, .p (.bin .gtr (.i .i64) (.t 10) (.c (i64 5000)))⟩])
 (.cond (.t 11)
 (.seq
 (.reg [
 ⟨(some 2), none, .p (.mov (.c (st ⟨#[]⟩)))⟩,
 ⟨(some 3), none, .p (.mov (.c (i64 12)))⟩])
 .ret)
 .skip))
 (.seq
 (.reg [
 ⟨(some 12), none, .p (.mov (.t 0))⟩,
 ⟨(some 13), none, .p (.len (.t 12))⟩,
 ⟨(some 14), none, .e (.mks 9 1 16 [st ⟨#[]⟩] (.c (i64 0)) (.t 13))⟩,
 ⟨(some 4), none, .p (.mov (.t 14))⟩])
 (.seq
 (.seq
 (.reg [
 ⟨(some 15), none, .p (.mov (.t 0))⟩,
 ⟨(some 16), none, .p (.len (.t 15))⟩,
 ⟨(some 17), none, .p (.mov (.c (i64 0)))⟩])
 (.blk 0
 (.loop l13_0)))
 (.seq
 (.reg [
 ⟨(some 32), none, .p (.mov (.t 4))⟩,
 ⟨(some 33), none, .e (.call (.c (.fn (.func 33) [] [])) [(.t 32), (.c (st ⟨#[32]⟩))])⟩,
 ⟨(some 8), none, .p (.mov (.t 33))⟩])
 (.seq
 (.seq
 (.reg [
 ⟨(some 34), none, .p (.mov (.t 8))⟩,
 ⟨(some 35), none, .p (.lens (.t 34))⟩,
 ⟨(some 36), none, .p (.bin .gtr (.i .i64) (.t 35) (.c (i64 20000)))⟩])
 (.cond (.t 36)
 (.seq
 (.reg [
 ⟨(some 2), none, .p (.mov (.c (st ⟨#[]⟩)))⟩,
 ⟨(some 3), none, .p (.mov (.c (i64 4)))⟩])
 .ret)
 .skip))
 (.seq
 (.reg [
 ⟨(some 37), none, .p (.mov (.t 8))⟩,
 ⟨(some 2), none, .p (.mov (.t 37))⟩,
 ⟨(some 3), none, .p (.mov (.c (i64 0)))⟩])
 .ret)))))))
def r13 : List RS := [.t 2, .t 3]
theorem c13 : chkF Tryd.prog drawB Tryd.f13 i13 r13 = true := by kernel_rfl
def l14_0 : IC := .keep [0, 4, 5]
 (.seq
 (.seq
 (.reg [
 ⟨(some 10), none, .p (.mov (.t 5))⟩,
 ⟨(some 11), none, .p (.mov (.t 0))⟩,
 ⟨(some 12), none, .p (.len (.t 11))⟩,
 ⟨(some 13), none, .p (.bin .lss (.i .i64) (.t 10) (.t 12))⟩])
 (.cond (.t 13)
 .skip
 (.exit 0)))
 (.seq
 (.blk 1
 (.seq
 (.seq
 (.reg [
 ⟨(some 16), none, .p (.mov (.t 0))⟩,
 ⟨(some 17), none, .p (.mov (.t 5))⟩,
 ⟨(some 18), none, .p (.ia 4 (.t 16) (.t 17))⟩,
 ⟨(some 19), none, .p (.ldn 4 (.t 18))⟩,
 ⟨(some 20), none, .e (.call (.c (.fn (.func 12) [] [])) [(.t 19)])⟩,
 ⟨(some 6), none, .p (.mov (.t 20))⟩])
 (.seq
 (.reg [
 ⟨(some 21), none, .p (.mov (.t 6))⟩,
 ⟨(some 22), none, .p (.bin .neq (.i .i64) (.t 21) (.c (i64 0)))⟩])
 (.cond (.t 22)
 (.seq
 (.reg [
 ⟨(some 23), none, .p (.mov (.t 6))⟩,
 ⟨(some 2), none, .p (.mov (.c (st ⟨#[]⟩)))⟩,
 ⟨(some 3), none, .p (.mov (.t 23))⟩])
 .ret)
 .skip)))
 (.seq
 (.seq
 (.reg [
 ⟨(some 24), none, .p (.mov (.t 5))⟩,
 ⟨(some 25), none, .p (.bin .gtr (.i .i64) (.t 24) (.c (i64 0)))⟩])
 (.cond (.t 25)
 (.reg [
 ⟨(some 26), none, .p (.mov (.t 4))⟩,
 ⟨(some 27), none, .p (.bin .add .s (.t 26) (.c (st ⟨#[32]⟩)))⟩,
 ⟨(some 4), none, .p (.mov (.t 27))⟩])
 .skip))
 (.reg [
 ⟨(some 28), none, .p (.mov (.t 4))⟩,
 ⟨(some 29), none, .p (.mov (.t 0))⟩,
 ⟨(some 30), none, .p (.mov (.t 5))⟩,
 ⟨(some 31), none, .p (.ia 4 (.t 29) (.t 30))⟩,
 ⟨(some 32), none, .p (.fa 1 (.t 31))⟩,
 ⟨(some 33), none, .p (.ld1 (.t 32))⟩,
 ⟨(some 34), none, .p (.bin .add .s (.t 28) (.t 33))⟩,
 ⟨(some 4), none, .p (.mov (.t 34))⟩]))))
 (.reg [
 ⟨(some 14), none, .p (.mov (.t 5))⟩,
 ⟨(some 15), none, .p (.bin .add (.i .i64) (.t 14) (.c (i64 1)))⟩,
 ⟨(some 5), none, .p (.mov (.t 15))⟩])))
/-- parlour/parlourref06.Render -/
def i14 : IC :=
 (.seq
 (.reg [
 ⟨(some 2), none, .p (.mov (.c (st ⟨#[]⟩)))⟩,
 ⟨(some 3), none, .p (.mov (.c (i64 0)))⟩])
 (.seq
 (.seq
 (.reg [
 ⟨(some 7), none, .p (.mov (.t 0))⟩,
 ⟨(some 8), none, .p (.len (.t 7))⟩,
 ⟨(some 9), none, .p (.bin .gtr (.i .i64) (.t 8) (.c (i64 5000)))⟩])
 (.cond (.t 9)
 (.seq
 (.reg [
 ⟨(some 2), none, .p (.mov (.c (st ⟨#[]⟩)))⟩,
 ⟨(some 3), none, .p (.mov (.c (i64 12)))⟩])
 .ret)
 .skip))
 (.seq
 (.reg [
 ⟨(some 4), none, .p (.mov (.c (st ⟨#[]⟩)))⟩])
 (.seq
 (.seq
 (.reg [
 ⟨(some 5), none, .p (.mov (.c (i64 0)))⟩])
 (.blk 0
 (.loop l14_0)))
 (.seq
 (.seq
 (.reg [
 ⟨(some 35), none, .p (.mov (.t 4))⟩,
 ⟨(some 36), none, .p (.lens (.t 35))⟩,
 ⟨(some 37), none, .p (.bin .gtr (.i .i64) (.t 36) (.c (i64 20000)))⟩])
 (.cond (.t 37)
 (.seq
 (.reg [
 ⟨(some 2), none, .p (.mov (.c (st ⟨#[]⟩)))⟩,
 ⟨(some 3), none, .p (.mov (.c (i64 4)))⟩])
 .ret)
 .skip))
 (.seq
 (.reg [
 ⟨(some 38), none, .p (.mov (.t 4))⟩,
 ⟨(some 2), none, .p (.mov (.t 38))⟩,
 ⟨(some 3), none, .p (.mov (.c (i64 0)))⟩])
 .ret))))))
def r14 : List RS := [.t 2, .t 3]
theorem c14 : chkF Tryd.prog drawB Tryd.f14 i14 r14 = true := by kernel_rfl
def ya15_0 : IC :=
 (.seq
 (.reg [
 ⟨(some 5), none, .e (.alc 25 [i64 0, st ⟨#[]⟩, i64 0, i64 0])⟩,
 ⟨none, none, .e (.st 4 (.t 5) (.t 13))⟩])
 (.reg [
 ⟨(some 6), none, .p (.mov (.t 14))⟩]))
def yb15_0 : IC :=
 (.blk 1
 (.seq
 (.seq
 (.reg [
 ⟨(some 15), none, .p (.mov (.t 6))⟩,
 ⟨(some 16), none, .p (.ifn false true (.t 15))⟩,
 ⟨(some 17), none, .p (.mov (.t 16))⟩,
 ⟨(some 18), (some (17, true)), .p (.ld1 (.t 4))⟩,
 ⟨(some 19), (some (17, true)), .p (.len (.t 18))⟩,
 ⟨(some 20), (some (17, true)), .p (.bin .eql (.i .i64) (.t 19) (.c (i64 5000)))⟩,
 ⟨(some 21), none, .p (.pick (.t 17) (.t 20) (.c (bl false)))⟩])
 (.cond (.t 21)
 (.reg [
 ⟨(some 22), none, .p (.fa 3 (.t 5))⟩,
 ⟨(some 23), none, .p (.ld1 (.t 22))⟩,
 ⟨(some 24), none, .p (.bld [i64 0, i64 0] [(0, 1, (.c (i64 12))), (1, 1, (.t 23))])⟩,
 ⟨(some 25), none, .p (.bld [i64 0, i64 0] [(0, 2, (.t 24))])⟩,
 ⟨(some 26), none, .p (.mki 62 (.t 25))⟩,
 ⟨(some 6), none, .p (.mov (.t 26))⟩])
 .skip))
 (.seq
 (.seq
 (.reg [
 ⟨(some 27), none, .p (.mov (.t 6))⟩,
 ⟨(some 28), none, .p (.ifn true true (.t 27))⟩])
 (.cond (.t 28)
 (.seq
 (.reg [
 ⟨(some 29), none, .p (.mov (.t 6))⟩,
 ⟨(some 30), none, .e (.call (.c (.fn (.func 34) [] [])) [(.t 29)])⟩,
 ⟨none, none, .e (.st 1 (.t 2) (.c (.val (.slice none 0 0))))⟩,
 ⟨none, none, .e (.st 2 (.t 3) (.t 30))⟩])
 .ret)
 .skip))
 (.reg [
 ⟨(some 31), none, .p (.ld1 (.t 4))⟩,
 ⟨(some 32), none, .p (.ldn 4 (.t 5))⟩,
 ⟨(some 33), none, .e (.bsl 25 4 1 [i64 0, st ⟨#[]⟩, i64 0, i64 0] [(0, (.t 32))])⟩,
 ⟨(some 34), none, .e (.app 25 4 40 (.t 31) (.t 33))⟩,
 ⟨none, none, .e (.st 1 (.t 4) (.t 34))⟩]))))
/-- parlour/token.Scan -/
def i15 : IC :=
 (.seq
 (.reg [
 ⟨(some 2), none, .e (.alc 22 [.val (.slice none 0 0)])⟩,
 ⟨(some 3), none, .e (.alc 32 [i64 0, i64 0])⟩])
 (.seq
 (.seq
 (.reg [
 ⟨(some 7), none, .p (.mov (.t 0))⟩,
 ⟨(some 8), none, .p (.lens (.t 7))⟩,
 ⟨(some 9), none, .p (.bin .gtr (.i .i64) (.t 8) (.c (i64 20000)))⟩])
 (.cond (.t 9)
 (.seq
 (.reg [
 ⟨(some 10), none, .p (.bld [i64 0, i64 0] [(0, 1, (.c (i64 4))), (1, 1, (.c (i64 20000)))])⟩,
 ⟨none, none, .e (.st 1 (.t 2) (.c (.val (.slice none 0 0))))⟩,
 ⟨none, none, .e (.st 2 (.t 3) (.t 10))⟩])
 .ret)
 .skip))
 (.seq
 (.reg [
 ⟨(some 4), none, .e (.alc 22 [.val (.slice none 0 0)])⟩])
 (.seq
 (.seq
 (.reg [
 ⟨(some 11), none, .p (.mov (.t 0))⟩,
 ⟨(some 12), none, .e (.call (.c (.fn (.func 27) [] [])) [(.t 11)])⟩])
 (.blk 0
 (.keep [2, 3, 4, 12] (.rng 0 (.t 12) [13, 14] ya15_0 yb15_0))))
 (.seq
 (.reg [
 ⟨(some 35), none, .p (.ld1 (.t 4))⟩,
 ⟨(some 36), none, .p (.bld [i64 0, i64 0] [])⟩,
 ⟨none, none, .e (.st 1 (.t 2) (.t 35))⟩,
 ⟨none, none, .e (.st 2 (.t 3) (.t 36))⟩])
 .ret)))))
def r15 : List RS := [.c1 2, .cn 3 2]
theorem c15 : chkF Tryd.prog drawB Tryd.f15 i15 r15 = true := by kernel_rfl
def l16_1 : IC := .keep [0, 3, 4, 5]
 (.seq
 (.seq
 (.reg [
 ⟨(some 27), none, .p (.mov (.t 5))⟩,
 ⟨(some 28), none, .p (.mov (.t 0))⟩,
 ⟨(some 29), none, .p (.lens (.t 28))⟩,
 ⟨(some 30), none, .p (.bin .lss (.i .i64) (.t 27) (.t 29))⟩,
 ⟨(some 31), none, .p (.mov (.t 30))⟩,
 ⟨(some 32), (some (31, true)), .p (.mov (.t 0))⟩,
 ⟨(some 33), (some (31, true)), .p (.mov (.t 5))⟩,
 ⟨(some 34), (some (31, true)), .p (.ixs (.t 32) (.t 33))⟩,
 ⟨(some 35), (some (31, true)), .p (.bin .neq (.i .u8) (.t 34) (.c (.val (.int .u8 10))))⟩,
 ⟨(some 36), none, .p (.pick (.t 31) (.t 35) (.c (bl false)))⟩])
 (.cond (.t 36)
 .skip
 (.exit 2)))
 (.blk 3
 (.reg [
 ⟨(some 37), none, .p (.mov (.t 5))⟩,
 ⟨(some 38), none, .p (.bin .add (.i .i64) (.t 37) (.c (i64 1)))⟩,
 ⟨(some 5), none, .p (.mov (.t 38))⟩])))
def l16_0 : IC := .keep [0, 3, 4, 5]
 (.seq
 (.seq
 (.reg [
 ⟨(some 13), none, .p (.mov (.t 5))⟩,
 ⟨(some 14), none, .p (.mov (.t 0))⟩,
 ⟨(some 15), none, .p (.lens (.t 14))⟩,
 ⟨(some 16), none, .p (.bin .lss (.i .i64) (.t 13) (.t 15))⟩])
 (.cond (.t 16)
 .skip
 (.exit 0)))
 (.blk 1
 (.seq
 (.seq
 (.reg [
 ⟨(some 17), none, .p (.mov (.t 0))⟩,
 ⟨(some 18), none, .p (.mov (.t 5))⟩,
 ⟨(some 19), none, .p (.ixs (.t 17) (.t 18))⟩,
 ⟨(some 20), none, .e (.call (.c (.fn (.func 31) [] [])) [(.t 19)])⟩])
 (.cond (.t 20)
 (.seq
 (.reg [
 ⟨(some 21), none, .p (.mov (.t 5))⟩,
 ⟨(some 22), none, .p (.bin .add (.i .i64) (.t 21) (.c (i64 1)))⟩,
 ⟨(some 5), none, .p (.mov (.t 22))⟩])
 (.exit 1))
 .skip))
 (.seq
 (.seq
 (.reg [
 ⟨(some 23), none, .p (.mov (.t 0))⟩,
 ⟨(some 24), none, .p (.mov (.t 5))⟩,
 ⟨(some 25), none, .p (.ixs (.t 23) (.t 24))⟩,
 ⟨(some 26), none, .p (.bin .eql (.i .u8) (.t 25) (.c (.val (.int .u8 35))))⟩])
 (.cond (.t 26)
 (.seq
 (.blk 2
 (.loop l16_1))
 (.exit 1))
 .skip))
 (.seq
 (.reg [
 ⟨(some 40), none, .p (.mov (.t 0))⟩,
 ⟨(some 41), none, .p (.mov (.t 5))⟩,
 ⟨(some 42), none, .e (.call (.c (.fn (.func 32) [] [])) [(.t 40), (.t 41)])⟩,
 ⟨(some 39), none, .p (.mov (.t 42))⟩,
 ⟨(some 43), none, .p (.ext (.t 39) 0)⟩,
 ⟨(some 44), none, .p (.ext (.t 39) 1)⟩,
 ⟨(some 45), none, .p (.ext (.t 39) 2)⟩,
 ⟨(some 6), none, .e (.alc 25 [i64 0, st ⟨#[]⟩, i64 0, i64 0])⟩,
 ⟨(some 8), none, .e (.alc 32 [i64 0, i64 0])⟩,
 ⟨none, none, .e (.st 4 (.t 6) (.t 43))⟩,
 ⟨(some 7), none, .p (.mov (.t 44))⟩,
 ⟨none, none, .e (.st 2 (.t 8) (.t 45))⟩])
 (.seq
 (.seq
 (.reg [
 ⟨(some 46), none, .p (.fa 0 (.t 8))⟩,
 ⟨(some 47), none, .p (.ld1 (.t 46))⟩,
 ⟨(some 48), none, .p (.bin .neq (.i .i64) (.t 47) (.c (i64 0)))⟩])
 (.cond (.t 48)
 (.seq
 (.drw [0, 1, 2] [
 ⟨(some 49), none, .p (.ldn 2 (.t 8))⟩,
 ⟨(some 2), none, .p (.mov (.c (.val (.slice none 0 0))))⟩,
 ⟨none, none, .e (.st 2 (.t 3) (.t 49))⟩])
 .ret)
 .skip))
 (.seq
 (.seq
 (.reg [
 ⟨(some 50), none, .p (.mov (.t 4))⟩,
 ⟨(some 51), none, .p (.len (.t 50))⟩,
 ⟨(some 52), none, .p (.bin .eql (.i .i64) (.t 51) (.c (i64 5000)))⟩])
 (.cond (.t 52)
 (.seq
 (.reg [
 ⟨(some 53), none, .p (.mov (.t 5))⟩,
 ⟨(some 54), none, .p (.bld [i64 0, i64 0] [(0, 1, (.c (i64 12))), (1, 1, (.t 53))])⟩,
 ⟨(some 2), none, .p (.mov (.c (.val (.slice none 0 0))))⟩,
 ⟨none, none, .e (.st 2 (.t 3) (.t 54))⟩])
 .ret)
 .skip))
 (.seq
 (.seq
 (.reg [
 ⟨(some 55), none, .p (.fa 0 (.t 6))⟩,
 ⟨(some 56), none, .p (.ld1 (.t 55))⟩,
 ⟨(some 57), none, .p (.bin .eql (.i .i64) (.t 56) (.c (i64 2)))⟩,
 ⟨(some 58), none, .p (.mov (.t 57))⟩,
 ⟨(some 59), (some (58, true)), .p (.mov (.t 7))⟩,
 ⟨(some 60), (some (58, true)), .p (.mov (.t 0))⟩,
 ⟨(some 61), (some (58, true)), .p (.lens (.t 60))⟩,
 ⟨(some 62), (some (58, true)), .p (.bin .lss (.i .i64) (.t 59) (.t 61))⟩,
 ⟨(some 63), none, .p (.pick (.t 58) (.t 62) (.c (bl false)))⟩,
 ⟨(some 64), none, .p (.mov (.t 63))⟩,
 ⟨(some 65), (some (64, true)), .p (.mov (.t 0))⟩,
 ⟨(some 66), (some (64, true)), .p (.mov (.t 7))⟩,
 ⟨(some 67), (some (64, true)), .p (.ixs (.t 65) (.t 66))⟩,
 ⟨(some 68), (some (64, true)), .q (.c (.fn (.func 35) [] [])) [(.t 67)]⟩,
 ⟨(some 69), none, .p (.pick (.t 64) (.t 68) (.c (bl false)))⟩])
 (.cond (.t 69)
 (.seq
 (.reg [
 ⟨(some 70), none, .p (.mov (.t 7))⟩,
 ⟨(some 71), none, .p (.bld [i64 0, i64 0] [(0, 1, (.c (i64 11))), (1, 1, (.t 70))])⟩,
 ⟨(some 2), none, .p (.mov (.c (.val (.slice none 0 0))))⟩,
 ⟨none, none, .e (.st 2 (.t 3) (.t 71))⟩])
 .ret)
 .skip))
 (.seq
 (.reg [
 ⟨(some 72), none, .p (.mov (.t 4))⟩,
 ⟨(some 73), none, .p (.ldn 4 (.t 6))⟩,
 ⟨(some 74), none, .e (.bsl 25 4 1 [i64 0, st ⟨#[]⟩, i64 0, i64 0] [(0, (.t 73))])⟩,
 ⟨(some 75), none, .e (.app 25 4 40 (.t 72) (.t 74))⟩,
 ⟨(some 4), none, .p (.mov (.t 75))⟩])
 (.reg [
 ⟨(some 76), none, .p (.mov (.t 7))⟩,
 ⟨(some 5), none, .p (.mov (.t 76))⟩]))))))))))
/-- parlour/parlourref06.Scan -/
def i16 : IC :=
 (.seq
 (.reg [
 ⟨(some 2), none, .p (.mov (.c (.val (.slice none 0 0))))⟩,
 ⟨(some 3), none, .e (.alc 32 [i64 0, i64 0])⟩])
 (.seq
 (.seq
 (.reg [
 ⟨(some 9), none, .p (.mov (.t 0))⟩,
 ⟨(some 10), none, .p (.lens (.t 9))⟩,
 ⟨(some 11), none, .p (.bin .gtr (.i .i64) (.t 10) (.c (i64 20000)))⟩])
 (.cond (.t 11)
 (.seq
 (.reg [
 ⟨(some 12), none, .p (.bld [i64 0, i64 0] [(0, 1, (.c (i64 4))), (1, 1, (.c (i64 20000)))])⟩,
 ⟨(some 2), none, .p (.mov (.c (.val (.slice none 0 0))))⟩,
 ⟨none, none, .e (.st 2 (.t 3) (.t 12))⟩])
 .ret)
 .skip))
 (.seq
 (.reg [
 ⟨(some 4), none, .e (.nil 25 4 (.c (.val (.slice none 0 0))))⟩])
 (.seq
 (.reg [
 ⟨(some 5), none, .p (.mov (.c (i64 0)))⟩])
 (.seq
 (.blk 0
 (.loop l16_0))
 (.seq
 (.reg [
 ⟨(some 77), none, .p (.mov (.t 4))⟩,
 ⟨(some 78), none, .p (.bld [i64 0, i64 0] [])⟩,
 ⟨(some 2), none, .p (.mov (.t 77))⟩,
 ⟨none, none, .e (.st 2 (.t 3) (.t 78))⟩])
 .ret))))))
def r16 : List RS := [.t 2, .cn 3 2]
theorem c16 : chkF Tryd.prog drawB Tryd.f16 i16 r16 = true := by kernel_rfl
/-- parlour/token.Strip -/
def i17 : IC :=
 (.seq
 (.reg [
 ⟨(some 2), none, .p (.mov (.c (st ⟨#[]⟩)))⟩,
 ⟨(some 3), none, .e (.alc 32 [i64 0, i64 0])⟩])
 (.seq
 (.reg [
 ⟨(some 9), none, .p (.mov (.t 0))⟩,
 ⟨(some 10), none, .e (.call (.c (.fn (.func 15) [] [])) [(.t 9)])⟩,
 ⟨(some 8), none, .p (.mov (.t 10))⟩,
 ⟨(some 11), none, .p (.ext (.t 8) 0)⟩,
 ⟨(some 12), none, .p (.ext (.t 8) 1)⟩,
 ⟨(some 5), none, .e (.alc 32 [i64 0, i64 0])⟩,
 ⟨(some 4), none, .p (.mov (.t 11))⟩,
 ⟨none, none, .e (.st 2 (.t 5) (.t 12))⟩])
 (.seq
 (.seq
 (.reg [
 ⟨(some 13), none, .p (.fa 0 (.t 5))⟩,
 ⟨(some 14), none, .p (.ld1 (.t 13))⟩,
 ⟨(some 15), none, .p (.bin .neq (.i .i64) (.t 14) (.c (i64 0)))⟩])
 (.cond (.t 15)
 (.seq
 (.drw [0, 1, 2] [
 ⟨(some 16), none, .p (.ldn 2 (.t 5))⟩,
 ⟨(some 2), none, .p (.mov (.c (st ⟨#[]⟩)))⟩,
 ⟨none, none, .e (.st 2 (.t 3) (.t 16))⟩])
 .ret)
 .skip))
 (.seq
 (.reg [
 ⟨(some 18), none, .p (.mov (.t 4))⟩,
 ⟨(some 19), none, .e (.call (.c (.fn (.func 13) [] [])) [(.t 18)])⟩,
 ⟨(some 17), none, .p (.mov (.t 19))⟩,
 ⟨(some 20), none, .p (.ext (.t 17) 0)⟩,
 ⟨(some 21), none, .p (.ext (.t 17) 1)⟩,
 ⟨(some 6), none, .p (.mov (.t 20))⟩,
 ⟨(some 7), none, .p (.mov (.t 21))⟩])
 (.seq
 (.seq
 (.reg [
 ⟨(some 22), none, .p (.mov (.t 7))⟩,
 ⟨(some 23), none, .p (.bin .neq (.i .i64) (.t 22) (.c (i64 0)))⟩])
 (.cond (.t 23)
 (.seq
 (.reg [
 ⟨(some 24), none, .p (.mov (.t 7))⟩,
 ⟨(some 25), none, .p (.bld [i64 0, i64 0] [(0, 1, (.t 24)), (1, 1, (.c (i64 20000)))])⟩,
 ⟨(some 2), none, .p (.mov (.c (st ⟨#[]⟩)))⟩,
 ⟨none, none, .e (.st 2 (.t 3) (.t 25))⟩])
 .ret)
 .skip))
 (.seq
 (.reg [
 ⟨(some 26), none, .p (.mov (.t 6))⟩,
 ⟨(some 27), none, .p (.bld [i64 0, i64 0] [])⟩,
 ⟨(some 2), none, .p (.mov (.t 26))⟩,
 ⟨none, none, .e (.st 2 (.t 3) (.t 27))⟩])
 .ret))))))
def r17 : List RS := [.t 2, .cn 3 2]
theorem c17 : chkF Tryd.prog drawB Tryd.f17 i17 r17 = true := by kernel_rfl
/-- parlour/parlourref06.Strip -/
def i18 : IC :=
 (.seq
 (.reg [
 ⟨(some 2), none, .p (.mov (.c (st ⟨#[]⟩)))⟩,
 ⟨(some 3), none, .e (.alc 32 [i64 0, i64 0])⟩])
 (.seq
 (.reg [
 ⟨(some 9), none, .p (.mov (.t 0))⟩,
 ⟨(some 10), none, .e (.call (.c (.fn (.func 16) [] [])) [(.t 9)])⟩,
 ⟨(some 8), none, .p (.mov (.t 10))⟩,
 ⟨(some 11), none, .p (.ext (.t 8) 0)⟩,
 ⟨(some 12), none, .p (.ext (.t 8) 1)⟩,
 ⟨(some 5), none, .e (.alc 32 [i64 0, i64 0])⟩,
 ⟨(some 4), none, .p (.mov (.t 11))⟩,
 ⟨none, none, .e (.st 2 (.t 5) (.t 12))⟩])
 (.seq
 (.seq
 (.reg [
 ⟨(some 13), none, .p (.fa 0 (.t 5))⟩,
 ⟨(some 14), none, .p (.ld1 (.t 13))⟩,
 ⟨(some 15), none, .p (.bin .neq (.i .i64) (.t 14) (.c (i64 0)))⟩])
 (.cond (.t 15)
 (.seq
 (.drw [0, 1, 2] [
 ⟨(some 16), none, .p (.ldn 2 (.t 5))⟩,
 ⟨(some 2), none, .p (.mov (.c (st ⟨#[]⟩)))⟩,
 ⟨none, none, .e (.st 2 (.t 3) (.t 16))⟩])
 .ret)
 .skip))
 (.seq
 (.reg [
 ⟨(some 18), none, .p (.mov (.t 4))⟩,
 ⟨(some 19), none, .e (.call (.c (.fn (.func 14) [] [])) [(.t 18)])⟩,
 ⟨(some 17), none, .p (.mov (.t 19))⟩,
 ⟨(some 20), none, .p (.ext (.t 17) 0)⟩,
 ⟨(some 21), none, .p (.ext (.t 17) 1)⟩,
 ⟨(some 6), none, .p (.mov (.t 20))⟩,
 ⟨(some 7), none, .p (.mov (.t 21))⟩])
 (.seq
 (.seq
 (.reg [
 ⟨(some 22), none, .p (.mov (.t 7))⟩,
 ⟨(some 23), none, .p (.bin .neq (.i .i64) (.t 22) (.c (i64 0)))⟩])
 (.cond (.t 23)
 (.seq
 (.reg [
 ⟨(some 24), none, .p (.mov (.t 7))⟩,
 ⟨(some 25), none, .p (.bld [i64 0, i64 0] [(0, 1, (.t 24)), (1, 1, (.c (i64 20000)))])⟩,
 ⟨(some 2), none, .p (.mov (.c (st ⟨#[]⟩)))⟩,
 ⟨none, none, .e (.st 2 (.t 3) (.t 25))⟩])
 .ret)
 .skip))
 (.seq
 (.reg [
 ⟨(some 26), none, .p (.mov (.t 6))⟩,
 ⟨(some 27), none, .p (.bld [i64 0, i64 0] [])⟩,
 ⟨(some 2), none, .p (.mov (.t 26))⟩,
 ⟨none, none, .e (.st 2 (.t 3) (.t 27))⟩])
 .ret))))))
def r18 : List RS := [.t 2, .cn 3 2]
theorem c18 : chkF Tryd.prog drawB Tryd.f18 i18 r18 = true := by kernel_rfl
def l19_0 : IC := .keep [0, 1, 5]
 (.seq
 (.seq
 (.reg [
 ⟨(some 11), none, .p (.mov (.t 5))⟩,
 ⟨(some 12), none, .p (.mov (.t 0))⟩,
 ⟨(some 13), none, .p (.len (.t 12))⟩,
 ⟨(some 14), none, .p (.bin .lss (.i .i64) (.t 11) (.t 13))⟩])
 (.cond (.t 14)
 .skip
 (.exit 0)))
 (.seq
 (.blk 1
 (.seq
 (.drw [0, 1, 2, 3, 4, 5, 6, 7, 8] [
 ⟨(some 17), none, .p (.mov (.t 0))⟩,
 ⟨(some 18), none, .p (.mov (.t 5))⟩,
 ⟨(some 19), none, .p (.ia 4 (.t 17) (.t 18))⟩,
 ⟨(some 20), none, .p (.ldn 4 (.t 19))⟩,
 ⟨(some 21), none, .p (.mov (.t 1))⟩,
 ⟨(some 22), none, .p (.mov (.t 5))⟩,
 ⟨(some 23), none, .p (.ia 4 (.t 21) (.t 22))⟩,
 ⟨(some 24), none, .p (.ldn 4 (.t 23))⟩,
 ⟨(some 25), none, .p (.eqf true [.i .i64, .s, .i .i64, .i .i64] (.t 20) (.t 24))⟩])
 (.cond (.t 25)
 (.seq
 (.reg [
 ⟨(some 4), none, .p (.mov (.c (bl false)))⟩])
 .ret)
 .skip)))
 (.reg [
 ⟨(some 15), none, .p (.mov (.t 5))⟩,
 ⟨(some 16), none, .p (.bin .add (.i .i64) (.t 15) (.c (i64 1)))⟩,
 ⟨(some 5), none, .p (.mov (.t 16))⟩])))
/-- parlour/parlourkit.Alike(parlour/api.Token) -/
def i19 : IC :=
 (.seq
 (.reg [
 ⟨(some 4), none, .p (.mov (.c (bl false)))⟩])
 (.seq
 (.seq
 (.reg [
 ⟨(some 6), none, .p (.mov (.t 0))⟩,
 ⟨(some 7), none, .p (.len (.t 6))⟩,
 ⟨(some 8), none, .p (.mov (.t 1))⟩,
 ⟨(some 9), none, .p (.len (.t 8))⟩,
 ⟨(some 10), none, .p (.bin .neq (.i .i64) (.t 7) (.t 9))⟩])
 (.cond (.t 10)
 (.seq
 (.reg [
 ⟨(some 4), none, .p (.mov (.c (bl false)))⟩])
 .ret)
 .skip))
 (.seq
 (.seq
 (.reg [
 ⟨(some 5), none, .p (.mov (.c (i64 0)))⟩])
 (.blk 0
 (.loop l19_0)))
 (.seq
 (.reg [
 ⟨(some 4), none, .p (.mov (.c (bl true)))⟩])
 .ret))))
def r19 : List RS := [.t 4]
theorem c19 : chkF Tryd.prog drawB Tryd.f19 i19 r19 = true := by kernel_rfl
/-- parlour/token.Place -/
def i20 : IC :=
 (.seq
 (.reg [
 ⟨(some 4), none, .p (.mov (.c (i64 0)))⟩,
 ⟨(some 5), none, .p (.mov (.c (i64 0)))⟩,
 ⟨(some 6), none, .p (.mov (.c (i64 0)))⟩])
 (.seq
 (.seq
 (.reg [
 ⟨(some 8), none, .p (.mov (.t 0))⟩,
 ⟨(some 9), none, .p (.lens (.t 8))⟩,
 ⟨(some 10), none, .p (.bin .gtr (.i .i64) (.t 9) (.c (i64 20000)))⟩])
 (.cond (.t 10)
 (.seq
 (.reg [
 ⟨(some 4), none, .p (.mov (.c (i64 0)))⟩,
 ⟨(some 5), none, .p (.mov (.c (i64 0)))⟩,
 ⟨(some 6), none, .p (.mov (.c (i64 4)))⟩])
 .ret)
 .skip))
 (.seq
 (.seq
 (.reg [
 ⟨(some 11), none, .p (.mov (.t 1))⟩,
 ⟨(some 12), none, .p (.bin .lss (.i .i64) (.t 11) (.c (i64 0)))⟩,
 ⟨(some 13), none, .p (.mov (.t 12))⟩,
 ⟨(some 14), (some (13, false)), .p (.mov (.t 1))⟩,
 ⟨(some 15), (some (13, false)), .p (.mov (.t 0))⟩,
 ⟨(some 16), (some (13, false)), .p (.lens (.t 15))⟩,
 ⟨(some 17), (some (13, false)), .p (.bin .gtr (.i .i64) (.t 14) (.t 16))⟩,
 ⟨(some 18), none, .p (.pick (.t 13) (.c (bl true)) (.t 17))⟩])
 (.cond (.t 18)
 (.seq
 (.reg [
 ⟨(some 4), none, .p (.mov (.c (i64 0)))⟩,
 ⟨(some 5), none, .p (.mov (.c (i64 0)))⟩,
 ⟨(some 6), none, .p (.mov (.c (i64 2)))⟩])
 .ret)
 .skip))
 (.seq
 (.reg [
 ⟨(some 19), none, .p (.mov (.t 0))⟩,
 ⟨(some 20), none, .p (.mov (.t 1))⟩,
 ⟨(some 21), none, .p (.sls (.t 19) none (some (.t 20)))⟩,
 ⟨(some 7), none, .p (.mov (.t 21))⟩])
 (.seq
 (.reg [
 ⟨(some 22), none, .p (.mov (.t 7))⟩,
 ⟨(some 23), none, .e (.call (.c (.fn (.func 36) [] [])) [(.t 22), (.c (st ⟨#[10]⟩))])⟩,
 ⟨(some 24), none, .p (.bin .add (.i .i64) (.c (i64 1)) (.t 23))⟩,
 ⟨(some 25), none, .p (.mov (.t 1))⟩,
 ⟨(some 26), none, .p (.mov (.t 7))⟩,
 ⟨(some 27), none, .e (.call (.c (.fn (.func 37) [] [])) [(.t 26), (.c (.val (.int .u8 10)))])⟩,
 ⟨(some 28), none, .p (.bin .sub (.i .i64) (.t 25) (.t 27))⟩,
 ⟨(some 4), none, .p (.mov (.t 24))⟩,
 ⟨(some 5), none, .p (.mov (.t 28))⟩,
 ⟨(some 6), none, .p (.mov (.c (i64 0)))⟩])
 .ret)))))
def r20 : List RS := [.t 4, .t 5, .t 6]
theorem c20 : chkF Tryd.prog drawB Tryd.f20 i20 r20 = true := by kernel_rfl
def l21_0 : IC := .keep [0, 1, 4, 5, 7]
 (.seq
 (.seq
 (.reg [
 ⟨(some 19), none, .p (.mov (.t 7))⟩,
 ⟨(some 20), none, .p (.mov (.t 1))⟩,
 ⟨(some 21), none, .p (.bin .lss (.i .i64) (.t 19) (.t 20))⟩])
 (.cond (.t 21)
 .skip
 (.exit 0)))
 (.seq
 (.blk 1
 (.seq
 (.reg [
 ⟨(some 24), none, .p (.mov (.t 5))⟩,
 ⟨(some 25), none, .p (.bin .add (.i .i64) (.t 24) (.c (i64 1)))⟩,
 ⟨(some 5), none, .p (.mov (.t 25))⟩])
 (.seq
 (.reg [
 ⟨(some 26), none, .p (.mov (.t 0))⟩,
 ⟨(some 27), none, .p (.mov (.t 7))⟩,
 ⟨(some 28), none, .p (.ixs (.t 26) (.t 27))⟩,
 ⟨(some 29), none, .p (.bin .eql (.i .u8) (.t 28) (.c (.val (.int .u8 10))))⟩])
 (.cond (.t 29)
 (.reg [
 ⟨(some 30), none, .p (.mov (.t 4))⟩,
 ⟨(some 31), none, .p (.bin .add (.i .i64) (.t 30) (.c (i64 1)))⟩,
 ⟨(some 4), none, .p (.mov (.t 31))⟩,
 ⟨(some 5), none, .p (.mov (.c (i64 1)))⟩])
 .skip))))
 (.reg [
 ⟨(some 22), none, .p (.mov (.t 7))⟩,
 ⟨(some 23), none, .p (.bin .add (.i .i64) (.t 22) (.c (i64 1)))⟩,
 ⟨(some 7), none, .p (.mov (.t 23))⟩])))
/-- parlour/parlourref06.Place -/
def i21 : IC :=
 (.seq
 (.reg [
 ⟨(some 4), none, .p (.mov (.c (i64 0)))⟩,
 ⟨(some 5), none, .p (.mov (.c (i64 0)))⟩,
 ⟨(some 6), none, .p (.mov (.c (i64 0)))⟩])
 (.seq
 (.seq
 (.reg [
 ⟨(some 8), none, .p (.mov (.t 0))⟩,
 ⟨(some 9), none, .p (.lens (.t 8))⟩,
 ⟨(some 10), none, .p (.bin .gtr (.i .i64) (.t 9) (.c (i64 20000)))⟩])
 (.cond (.t 10)
 (.seq
 (.reg [
 ⟨(some 4), none, .p (.mov (.c (i64 0)))⟩,
 ⟨(some 5), none, .p (.mov (.c (i64 0)))⟩,
 ⟨(some 6), none, .p (.mov (.c (i64 4)))⟩])
 .ret)
 .skip))
 (.seq
 (.seq
 (.reg [
 ⟨(some 11), none, .p (.mov (.t 1))⟩,
 ⟨(some 12), none, .p (.bin .lss (.i .i64) (.t 11) (.c (i64 0)))⟩,
 ⟨(some 13), none, .p (.mov (.t 12))⟩,
 ⟨(some 14), (some (13, false)), .p (.mov (.t 1))⟩,
 ⟨(some 15), (some (13, false)), .p (.mov (.t 0))⟩,
 ⟨(some 16), (some (13, false)), .p (.lens (.t 15))⟩,
 ⟨(some 17), (some (13, false)), .p (.bin .gtr (.i .i64) (.t 14) (.t 16))⟩,
 ⟨(some 18), none, .p (.pick (.t 13) (.c (bl true)) (.t 17))⟩])
 (.cond (.t 18)
 (.seq
 (.reg [
 ⟨(some 4), none, .p (.mov (.c (i64 0)))⟩,
 ⟨(some 5), none, .p (.mov (.c (i64 0)))⟩,
 ⟨(some 6), none, .p (.mov (.c (i64 2)))⟩])
 .ret)
 .skip))
 (.seq
 (.reg [
 ⟨(some 4), none, .p (.mov (.c (i64 1)))⟩,
 ⟨(some 5), none, .p (.mov (.c (i64 1)))⟩])
 (.seq
 (.seq
 (.reg [
 ⟨(some 7), none, .p (.mov (.c (i64 0)))⟩])
 (.blk 0
 (.loop l21_0)))
 (.seq
 (.reg [
 ⟨(some 32), none, .p (.mov (.t 4))⟩,
 ⟨(some 33), none, .p (.mov (.t 5))⟩,
 ⟨(some 4), none, .p (.mov (.t 32))⟩,
 ⟨(some 5), none, .p (.mov (.t 33))⟩,
 ⟨(some 6), none, .p (.mov (.c (i64 0)))⟩])
 .ret))))))
def r21 : List RS := [.t 4, .t 5, .t 6]
theorem c21 : chkF Tryd.prog drawB Tryd.f21 i21 r21 = true := by kernel_rfl
def l22_0 : IC := .keep [1, 5, 7]
 (.seq
 (.seq
 (.reg [
 ⟨(some 24), none, .p (.mov (.t 7))⟩,
 ⟨(some 25), none, .p (.mov (.t 5))⟩,
 ⟨(some 26), none, .p (.len (.t 25))⟩,
 ⟨(some 27), none, .p (.bin .lss (.i .i64) (.t 24) (.t 26))⟩])
 (.cond (.t 27)
 .skip
 (.exit 0)))
 (.seq
 (.blk 1
 (.seq
 (.drw [0, 1, 2, 3, 4, 5, 6, 7, 8, 9, 10, 11, 12, 13, 14, 15, 16, 17, 18, 19, 20, 21, 22, 23, 24] [
 ⟨(some 30), none, .p (.mov (.t 5))⟩,
 ⟨(some 31), none, .p (.mov (.t 7))⟩,
 ⟨(some 32), none, .p (.ia 4 (.t 30) (.t 31))⟩,
 ⟨(some 33), none, .p (.fa 0 (.t 32))⟩,
 ⟨(some 34), none, .p (.ld1 (.t 33))⟩,
 ⟨(some 35), none, .p (.mov (.t 1))⟩,
 ⟨(some 36), none, .p (.mov (.t 7))⟩,
 ⟨(some 37), none, .p (.bin .mul (.i .i64) (.c (i64 2)) (.t 36))⟩,
 ⟨(some 38), none, .p (.ia 1 (.t 35) (.t 37))⟩,
 ⟨(some 39), none, .p (.ld1 (.t 38))⟩,
 ⟨(some 40), none, .p (.bin .neq (.i .i64) (.t 34) (.t 39))⟩,
 ⟨(some 41), none, .p (.mov (.t 40))⟩,
 ⟨(some 42), (some (41, false)), .p (.mov (.t 5))⟩,
 ⟨(some 43), (some (41, false)), .p (.mov (.t 7))⟩,
 ⟨(some 44), (some (41, false)), .p (.ia 4 (.t 42) (.t 43))⟩,
 ⟨(some 45), (some (41, false)), .p (.fa 3 (.t 44))⟩,
 ⟨(some 46), (some (41, false)), .p (.ld1 (.t 45))⟩,
 ⟨(some 47), (some (41, false)), .p (.mov (.t 1))⟩,
 ⟨(some 48), (some (41, false)), .p (.mov (.t 7))⟩,
 ⟨(some 49), (some (41, false)), .p (.bin .mul (.i .i64) (.c (i64 2)) (.t 48))⟩,
 ⟨(some 50), (some (41, false)), .p (.bin .add (.i .i64) (.t 49) (.c (i64 1)))⟩,
 ⟨(some 51), (some (41, false)), .p (.ia 1 (.t 47) (.t 50))⟩,
 ⟨(some 52), (some (41, false)), .p (.ld1 (.t 51))⟩,
 ⟨(some 53), (some (41, false)), .p (.bin .neq (.i .i64) (.t 46) (.t 52))⟩,
 ⟨(some 54), none, .p (.pick (.t 41) (.c (bl true)) (.t 53))⟩])
 (.cond (.t 54)
 (.seq
 (.reg [
 ⟨(some 4), none, .p (.mov (.c (bl false)))⟩])
 .ret)
 .skip)))
 (.reg [
 ⟨(some 28), none, .p (.mov (.t 7))⟩,
 ⟨(some 29), none, .p (.bin .add (.i .i64) (.t 28) (.c (i64 1)))⟩,
 ⟨(some 7), none, .p (.mov (.t 29))⟩])))
/-- parlour/parlourlaw06.kinds -/
def i22 : IC :=
 (.seq
 (.reg [
 ⟨(some 4), none, .p (.mov (.c (bl false)))⟩])
 (.seq
 (.reg [
 ⟨(some 9), none, .p (.mov (.t 0))⟩,
 ⟨(some 10), none, .e (.call (.c (.fn (.func 15) [] [])) [(.t 9)])⟩,
 ⟨(some 8), none, .p (.mov (.t 10))⟩,
 ⟨(some 11), none, .p (.ext (.t 8) 0)⟩,
 ⟨(some 12), none, .p (.ext (.t 8) 1)⟩,
 ⟨(some 6), none, .e (.alc 32 [i64 0, i64 0])⟩,
 ⟨(some 5), none, .p (.mov (.t 11))⟩,
 ⟨none, none, .e (.st 2 (.t 6) (.t 12))⟩])
 (.seq
 (.seq
 (.reg [
 ⟨(some 13), none, .p (.ldn 2 (.t 6))⟩,
 ⟨(some 14), none, .p (.bld [i64 0, i64 0] [])⟩,
 ⟨(some 15), none, .p (.eqf true [.i .i64, .i .i64] (.t 13) (.t 14))⟩,
 ⟨(some 16), none, .p (.mov (.t 15))⟩,
 ⟨(some 17), (some (16, false)), .p (.mov (.t 5))⟩,
 ⟨(some 18), (some (16, false)), .p (.len (.t 17))⟩,
 ⟨(some 19), (some (16, false)), .p (.bin .mul (.i .i64) (.c (i64 2)) (.t 18))⟩,
 ⟨(some 20), (some (16, false)), .p (.mov (.t 1))⟩,
 ⟨(some 21), (some (16, false)), .p (.len (.t 20))⟩,
 ⟨(some 22), (some (16, false)), .p (.bin .neq (.i .i64) (.t 19) (.t 21))⟩,
 ⟨(some 23), none, .p (.pick (.t 16) (.c (bl true)) (.t 22))⟩])
 (.cond (.t 23)
 (.seq
 (.reg [
 ⟨(some 4), none, .p (.mov (.c (bl false)))⟩])
 .ret)
 .skip))
 (.seq
 (.seq
 (.reg [
 ⟨(some 7), none, .p (.mov (.c (i64 0)))⟩])
 (.blk 0
 (.loop l22_0)))
 (.seq
 (.reg [
 ⟨(some 4), none, .p (.mov (.c (bl true)))⟩])
 .ret)))))
def r22 : List RS := [.t 4]
theorem c22 : chkF Tryd.prog drawB Tryd.f22 i22 r22 = true := by kernel_rfl
/-- parlour/parlourlaw06.fails -/
def i23 : IC :=
 (.seq
 (.reg [
 ⟨(some 6), none, .p (.mov (.c (bl false)))⟩])
 (.seq
 (.reg [
 ⟨(some 10), none, .p (.mov (.t 0))⟩,
 ⟨(some 11), none, .e (.call (.c (.fn (.func 15) [] [])) [(.t 10)])⟩,
 ⟨(some 9), none, .p (.mov (.t 11))⟩,
 ⟨(some 12), none, .p (.ext (.t 9) 0)⟩,
 ⟨(some 13), none, .p (.ext (.t 9) 1)⟩,
 ⟨(some 8), none, .e (.alc 32 [i64 0, i64 0])⟩,
 ⟨(some 7), none, .p (.mov (.t 12))⟩,
 ⟨none, none, .e (.st 2 (.t 8) (.t 13))⟩])
 (.seq
 (.reg [
 ⟨(some 14), none, .p (.mov (.t 7))⟩,
 ⟨(some 15), none, .p (.len (.t 14))⟩,
 ⟨(some 16), none, .p (.bin .eql (.i .i64) (.t 15) (.c (i64 0)))⟩,
 ⟨(some 17), none, .p (.mov (.t 16))⟩,
 ⟨(some 18), (some (17, true)), .p (.ldn 2 (.t 8))⟩,
 ⟨(some 19), (some (17, true)), .p (.mov (.t 1))⟩,
 ⟨(some 20), (some (17, true)), .p (.mov (.t 2))⟩,
 ⟨(some 21), (some (17, true)), .p (.bld [i64 0, i64 0] [(0, 1, (.t 19)), (1, 1, (.t 20))])⟩,
 ⟨(some 22), (some (17, true)), .p (.eqf false [.i .i64, .i .i64] (.t 18) (.t 21))⟩,
 ⟨(some 23), none, .p (.pick (.t 17) (.t 22) (.c (bl false)))⟩,
 ⟨(some 6), none, .p (.mov (.t 23))⟩])
 .ret)))
def r23 : List RS := [.t 6]
theorem c23 : chkF Tryd.prog drawB Tryd.f23 i23 r23 = true := by kernel_rfl
/-- parlour/parlourkit.Mod -/
def i24 : IC :=
 (.seq
 (.reg [
 ⟨(some 4), none, .p (.mov (.c (i64 0)))⟩])
 (.seq
 (.reg [
 ⟨(some 5), none, .p (.mov (.t 0))⟩,
 ⟨(some 6), none, .p (.mov (.t 1))⟩,
 ⟨(some 7), none, .p (.bin .rem (.i .i64) (.t 5) (.t 6))⟩,
 ⟨(some 0), none, .p (.mov (.t 7))⟩])
 (.seq
 (.seq
 (.reg [
 ⟨(some 8), none, .p (.mov (.t 0))⟩,
 ⟨(some 9), none, .p (.bin .lss (.i .i64) (.t 8) (.c (i64 0)))⟩])
 (.cond (.t 9)
 (.reg [
 ⟨(some 10), none, .p (.mov (.t 0))⟩,
 ⟨(some 11), none, .p (.mov (.t 1))⟩,
 ⟨(some 12), none, .p (.bin .add (.i .i64) (.t 10) (.t 11))⟩,
 ⟨(some 0), none, .p (.mov (.t 12))⟩])
 .skip))
 (.seq
 (.reg [
 ⟨(some 13), none, .p (.mov (.t 0))⟩,
 ⟨(some 4), none, .p (.mov (.t 13))⟩])
 .ret))))
def r24 : List RS := [.t 4]
theorem c24 : chkF Tryd.prog drawB Tryd.f24 i24 r24 = true := by kernel_rfl
def ya25_0 : IC :=
 (.seq
 (.reg [
 ⟨(some 5), none, .e (.alc 25 [i64 0, st ⟨#[]⟩, i64 0, i64 0])⟩,
 ⟨none, none, .e (.st 4 (.t 5) (.t 28))⟩])
 (.reg [
 ⟨(some 6), none, .p (.mov (.t 29))⟩]))
def yb25_0 : IC :=
 (.blk 1
 (.seq
 (.reg [
 ⟨(some 30), none, .p (.ldn 4 (.t 5))⟩,
 ⟨none, none, .e (.st 4 (.t 1) (.t 30))⟩])
 (.seq
 (.reg [
 ⟨(some 31), none, .p (.mov (.t 6))⟩,
 ⟨(some 32), none, .p (.ifn false true (.t 31))⟩,
 ⟨(some 33), none, .p (.mov (.t 32))⟩,
 ⟨(some 34), (some (33, true)), .p (.fa 1 (.t 5))⟩,
 ⟨(some 35), (some (33, true)), .p (.ld1 (.t 34))⟩,
 ⟨(some 36), (some (33, true)), .p (.ld1 (.t 3))⟩,
 ⟨(some 37), (some (33, true)), .p (.bin .eql .s (.t 35) (.t 36))⟩,
 ⟨(some 38), none, .p (.pick (.t 33) (.t 37) (.c (bl false)))⟩,
 ⟨(some 39), none, .p (.mov (.t 38))⟩,
 ⟨(some 40), (some (39, true)), .p (.fa 0 (.t 5))⟩,
 ⟨(some 41), (some (39, true)), .p (.ld1 (.t 40))⟩,
 ⟨(some 42), (some (39, true)), .p (.fa 0 (.t 2))⟩,
 ⟨(some 43), (some (39, true)), .p (.ld1 (.t 42))⟩,
 ⟨(some 44), (some (39, true)), .p (.bin .eql (.i .i64) (.t 41) (.t 43))⟩,
 ⟨(some 45), none, .p (.pick (.t 39) (.t 44) (.c (bl false)))⟩,
 ⟨none, none, .e (.st 1 (.t 4) (.t 45))⟩])
 .ret)))
/-- parlour/token.Check$1 -/
def i25 : IC :=
 (.seq
 (.reg [
 ⟨(some 3), none, .e (.box 9 (.t 0))⟩,
 ⟨(some 4), none, .e (.alc 4 [bl false])⟩])
 (.seq
 (.seq
 (.reg [
 ⟨(some 7), none, .p (.ld1 (.t 3))⟩,
 ⟨(some 8), none, .p (.lens (.t 7))⟩,
 ⟨(some 9), none, .p (.bin .eql (.i .i64) (.t 8) (.c (i64 0)))⟩,
 ⟨(some 10), none, .p (.mov (.t 9))⟩,
 ⟨(some 11), (some (10, false)), .p (.ld1 (.t 3))⟩,
 ⟨(some 12), (some (10, false)), .p (.lens (.t 11))⟩,
 ⟨(some 13), (some (10, false)), .p (.bin .gtr (.i .i64) (.t 12) (.c (i64 40)))⟩,
 ⟨(some 14), none, .p (.pick (.t 10) (.c (bl true)) (.t 13))⟩,
 ⟨(some 15), none, .p (.mov (.t 14))⟩,
 ⟨(some 16), (some (15, false)), .p (.ld1 (.t 3))⟩,
 ⟨(some 17), (some (15, false)), .p (.ixs (.t 16) (.c (i64 0)))⟩,
 ⟨(some 18), (some (15, false)), .q (.c (.fn (.func 26) [] [])) [(.t 17)]⟩,
 ⟨(some 19), (some (15, false)), .p (.bin .eql (.i .i64) (.t 18) (.c (i64 1)))⟩,
 ⟨(some 20), none, .p (.pick (.t 15) (.c (bl true)) (.t 19))⟩,
 ⟨(some 21), none, .p (.mov (.t 20))⟩,
 ⟨(some 22), (some (21, false)), .p (.ld1 (.t 3))⟩,
 ⟨(some 23), (some (21, false)), .p (.ixs (.t 22) (.c (i64 0)))⟩,
 ⟨(some 24), (some (21, false)), .p (.bin .eql (.i .u8) (.t 23) (.c (.val (.int .u8 35))))⟩,
 ⟨(some 25), none, .p (.pick (.t 21) (.c (bl true)) (.t 24))⟩])
 (.cond (.t 25)
 (.seq
 (.reg [
 ⟨none, none, .e (.st 1 (.t 4) (.c (bl false)))⟩])
 .ret)
 .skip))
 (.seq
 (.seq
 (.reg [
 ⟨(some 26), none, .p (.ld1 (.t 3))⟩,
 ⟨(some 27), none, .e (.call (.c (.fn (.func 27) [] [])) [(.t 26)])⟩])
 (.blk 0
 (.keep [1, 2, 3, 4, 27] (.rng 1 (.t 27) [28, 29] ya25_0 yb25_0))))
 (.seq
 (.reg [
 ⟨none, none, .e (.st 1 (.t 4) (.c (bl false)))⟩])
 .ret))))
def r25 : List RS := [.c1 4]
theorem c25 : chkF Tryd.prog drawB Tryd.f25 i25 r25 = true := by kernel_rfl
/-- parlour/token.classOf -/
def i26 : IC :=
 (.seq
 (.reg [
 ⟨(some 2), none, .p (.mov (.c (i64 0)))⟩])
 (.seq
 (.blk 0
 (.seq
 (.reg [
 ⟨(some 4), none, .p (.mov (.t 0))⟩,
 ⟨(some 5), none, .p (.cvi .i64 (.t 4))⟩,
 ⟨(some 6), none, .p (.bin .lss (.i .i64) (.t 5) (.c (i64 33)))⟩,
 ⟨(some 7), none, .p (.mov (.t 6))⟩,
 ⟨(some 8), (some (7, true)), .p (.mov (.t 0))⟩,
 ⟨(some 9), (some (7, true)), .p (.gix 0 33 1 gv0 (.t 8))⟩,
 ⟨(some 10), (some (7, true)), .p (.ld1 (.t 9))⟩,
 ⟨(some 11), none, .p (.pick (.t 7) (.t 10) (.c (bl false)))⟩,
 ⟨(some 3), none, .p (.mov (.t 11))⟩])
 (.cond (.t 3)
 (.seq
 (.reg [
 ⟨(some 2), none, .p (.mov (.c (i64 1)))⟩])
 .ret)
 (.seq
 (.reg [
 ⟨(some 13), none, .p (.mov (.t 0))⟩,
 ⟨(some 14), none, .p (.bin .leq (.i .u8) (.c (.val (.int .u8 97))) (.t 13))⟩,
 ⟨(some 15), none, .p (.mov (.t 14))⟩,
 ⟨(some 16), (some (15, true)), .p (.mov (.t 0))⟩,
 ⟨(some 17), (some (15, true)), .p (.bin .leq (.i .u8) (.t 16) (.c (.val (.int .u8 122))))⟩,
 ⟨(some 18), none, .p (.pick (.t 15) (.t 17) (.c (bl false)))⟩,
 ⟨(some 19), none, .p (.mov (.t 18))⟩,
 ⟨(some 20), (some (19, false)), .p (.mov (.t 0))⟩,
 ⟨(some 21), (some (19, false)), .p (.bin .leq (.i .u8) (.c (.val (.int .u8 65))) (.t 20))⟩,
 ⟨(some 22), (some (19, false)), .p (.mov (.t 21))⟩,
 ⟨(some 23), (some (22, true)), .p (.mov (.t 0))⟩,
 ⟨(some 24), (some (22, true)), .p (.bin .leq (.i .u8) (.t 23) (.c (.val (.int .u8 90))))⟩,
 ⟨(some 25), (some (19, false)), .p (.pick (.t 22) (.t 24) (.c (bl false)))⟩,
 ⟨(some 26), none, .p (.pick (.t 19) (.c (bl true)) (.t 25))⟩,
 ⟨(some 27), none, .p (.mov (.t 26))⟩,
 ⟨(some 28), (some (27, false)), .p (.mov (.t 0))⟩,
 ⟨(some 29), (some (27, false)), .p (.bin .eql (.i .u8) (.t 28) (.c (.val (.int .u8 95))))⟩,
 ⟨(some 30), none, .p (.pick (.t 27) (.c (bl true)) (.t 29))⟩,
 ⟨(some 12), none, .p (.mov (.t 30))⟩])
 (.cond (.t 12)
 (.seq
 (.reg [
 ⟨(some 2), none, .p (.mov (.c (i64 2)))⟩])
 .ret)
 (.seq
 (.reg [
 ⟨(some 32), none, .p (.mov (.t 0))⟩,
 ⟨(some 33), none, .p (.bin .leq (.i .u8) (.c (.val (.int .u8 48))) (.t 32))⟩,
 ⟨(some 34), none, .p (.mov (.t 33))⟩,
 ⟨(some 35), (some (34, true)), .p (.mov (.t 0))⟩,
 ⟨(some 36), (some (34, true)), .p (.bin .leq (.i .u8) (.t 35) (.c (.val (.int .u8 57))))⟩,
 ⟨(some 37), none, .p (.pick (.t 34) (.t 36) (.c (bl false)))⟩,
 ⟨(some 31), none, .p (.mov (.t 37))⟩])
 (.cond (.t 31)
 (.seq
 (.reg [
 ⟨(some 2), none, .p (.mov (.c (i64 3)))⟩])
 .ret)
 (.seq
 (.reg [
 ⟨(some 39), none, .p (.mov (.t 0))⟩,
 ⟨(some 40), none, .p (.cvi .i64 (.t 39))⟩,
 ⟨(some 41), none, .p (.bin .lss (.i .i64) (.t 40) (.c (i64 126)))⟩,
 ⟨(some 42), none, .p (.mov (.t 41))⟩,
 ⟨(some 43), (some (42, true)), .p (.mov (.t 0))⟩,
 ⟨(some 44), (some (42, true)), .p (.gix 1 126 1 gv1 (.t 43))⟩,
 ⟨(some 45), (some (42, true)), .p (.ld1 (.t 44))⟩,
 ⟨(some 46), none, .p (.pick (.t 42) (.t 45) (.c (bl false)))⟩,
 ⟨(some 38), none, .p (.mov (.t 46))⟩])
 (.cond (.t 38)
 (.seq
 (.reg [
 ⟨(some 2), none, .p (.mov (.c (i64 4)))⟩])
 .ret)
 .skip)))))))))
 (.seq
 (.reg [
 ⟨(some 2), none, .p (.mov (.c (i64 0)))⟩])
 .ret)))
def r26 : List RS := [.t 2]
theorem c26 : chkF Tryd.prog drawB Tryd.f26 i26 r26 = true := by kernel_rfl
/-- parlour/token.tokens -/
def i27 : IC :=
 (.seq
 (.reg [
 ⟨(some 1), none, .e (.box 9 (.t 0))⟩,
 ⟨(some 2), none, .p (.mov (.c (.val .nilFunc)))⟩])
 (.seq
 (.reg [
 ⟨(some 3), none, .p (.mkf (.func 38) [] [(.t 1)])⟩,
 ⟨(some 2), none, .p (.mov (.t 3))⟩])
 .ret))
def r27 : List RS := [.t 2]
theorem c27 : chkF Tryd.prog drawB Tryd.f27 i27 r27 = true := by kernel_rfl
/-- parlour/token.require(string) -/
def i28 : IC :=
 (.seq
 (.reg [
 ⟨(some 6), none, .p (.mov (.c (i64 0)))⟩])
 (.seq
 (.seq
 (.reg [
 ⟨(some 7), none, .p (.mov (.t 1))⟩,
 ⟨(some 8), none, .p (.mov (.t 0))⟩,
 ⟨(some 9), none, .e (.call (.t 7) [(.t 8)])⟩])
 (.cond (.t 9)
 (.seq
 (.reg [
 ⟨(some 6), none, .p (.mov (.c (i64 0)))⟩])
 .ret)
 .skip))
 (.seq
 (.reg [
 ⟨(some 10), none, .p (.mov (.t 2))⟩,
 ⟨(some 6), none, .p (.mov (.t 10))⟩])
 .ret)))
def r28 : List RS := [.t 6]
theorem c28 : chkF Tryd.prog drawB Tryd.f28 i28 r28 = true := by kernel_rfl
/-- parlour/token.require(int) -/
def i29 : IC :=
 (.seq
 (.reg [
 ⟨(some 6), none, .p (.mov (.c (i64 0)))⟩])
 (.seq
 (.seq
 (.reg [
 ⟨(some 7), none, .p (.mov (.t 1))⟩,
 ⟨(some 8), none, .p (.mov (.t 0))⟩,
 ⟨(some 9), none, .e (.call (.t 7) [(.t 8)])⟩])
 (.cond (.t 9)
 (.seq
 (.reg [
 ⟨(some 6), none, .p (.mov (.c (i64 0)))⟩])
 .ret)
 .skip))
 (.seq
 (.reg [
 ⟨(some 10), none, .p (.mov (.t 2))⟩,
 ⟨(some 6), none, .p (.mov (.t 10))⟩])
 .ret)))
def r29 : List RS := [.t 6]
theorem c29 : chkF Tryd.prog drawB Tryd.f29 i29 r29 = true := by kernel_rfl
/-- parlour/token.Check$2 -/
def i30 : IC :=
 (.seq
 (.reg [
 ⟨(some 3), none, .p (.mov (.c (bl false)))⟩])
 (.seq
 (.reg [
 ⟨(some 4), none, .p (.mov (.t 0))⟩,
 ⟨(some 5), none, .p (.fa 2 (.t 1))⟩,
 ⟨(some 6), none, .p (.ld1 (.t 5))⟩,
 ⟨(some 7), none, .p (.bin .eql (.i .i64) (.t 4) (.t 6))⟩,
 ⟨(some 3), none, .p (.mov (.t 7))⟩])
 .ret))
def r30 : List RS := [.t 3]
theorem c30 : chkF Tryd.prog drawB Tryd.f30 i30 r30 = true := by kernel_rfl
/-- parlour/parlourref06.white -/
def i31 : IC :=
 (.seq
 (.reg [
 ⟨(some 2), none, .p (.mov (.c (bl false)))⟩])
 (.seq
 (.reg [
 ⟨(some 3), none, .p (.mov (.t 0))⟩,
 ⟨(some 4), none, .p (.bin .eql (.i .u8) (.t 3) (.c (.val (.int .u8 32))))⟩,
 ⟨(some 5), none, .p (.mov (.t 4))⟩,
 ⟨(some 6), (some (5, false)), .p (.mov (.t 0))⟩,
 ⟨(some 7), (some (5, false)), .p (.bin .eql (.i .u8) (.t 6) (.c (.val (.int .u8 9))))⟩,
 ⟨(some 8), none, .p (.pick (.t 5) (.c (bl true)) (.t 7))⟩,
 ⟨(some 9), none, .p (.mov (.t 8))⟩,
 ⟨(some 10), (some (9, false)), .p (.mov (.t 0))⟩,
 ⟨(some 11), (some (9, false)), .p (.bin .eql (.i .u8) (.t 10) (.c (.val (.int .u8 10))))⟩,
 ⟨(some 12), none, .p (.pick (.t 9) (.c (bl true)) (.t 11))⟩,
 ⟨(some 2), none, .p (.mov (.t 12))⟩])
 .ret))
def r31 : List RS := [.t 2]
theorem c31 : chkF Tryd.prog drawB Tryd.f31 i31 r31 = true := by kernel_rfl
def l32_0 : IC := .keep [0, 1, 4, 6, 7]
 (.seq
 (.seq
 (.reg [
 ⟨(some 17), none, .p (.mov (.t 7))⟩,
 ⟨(some 18), none, .p (.mov (.t 0))⟩,
 ⟨(some 19), none, .p (.lens (.t 18))⟩,
 ⟨(some 20), none, .p (.bin .lss (.i .i64) (.t 17) (.t 19))⟩,
 ⟨(some 21), none, .p (.mov (.t 20))⟩,
 ⟨(some 22), (some (21, true)), .p (.mov (.t 0))⟩,
 ⟨(some 23), (some (21, true)), .p (.mov (.t 7))⟩,
 ⟨(some 24), (some (21, true)), .p (.ixs (.t 22) (.t 23))⟩,
 ⟨(some 25), (some (21, true)), .q (.c (.fn (.func 35) [] [])) [(.t 24)]⟩,
 ⟨(some 26), (some (21, true)), .p (.mov (.t 25))⟩,
 ⟨(some 27), (some (26, false)), .p (.mov (.t 0))⟩,
 ⟨(some 28), (some (26, false)), .p (.mov (.t 7))⟩,
 ⟨(some 29), (some (26, false)), .p (.ixs (.t 27) (.t 28))⟩,
 ⟨(some 30), (some (26, false)), .q (.c (.fn (.func 43) [] [])) [(.t 29)]⟩,
 ⟨(some 31), (some (21, true)), .p (.pick (.t 26) (.c (bl true)) (.t 30))⟩,
 ⟨(some 32), none, .p (.pick (.t 21) (.t 31) (.c (bl false)))⟩])
 (.cond (.t 32)
 .skip
 (.exit 0)))
 (.blk 1
 (.reg [
 ⟨(some 33), none, .p (.mov (.t 7))⟩,
 ⟨(some 34), none, .p (.bin .add (.i .i64) (.t 33) (.c (i64 1)))⟩,
 ⟨(some 7), none, .p (.mov (.t 34))⟩])))
def l32_1 : IC := .keep [0, 1, 4, 6, 7]
 (.seq
 (.seq
 (.reg [
 ⟨(some 53), none, .p (.mov (.t 7))⟩,
 ⟨(some 54), none, .p (.mov (.t 0))⟩,
 ⟨(some 55), none, .p (.lens (.t 54))⟩,
 ⟨(some 56), none, .p (.bin .lss (.i .i64) (.t 53) (.t 55))⟩,
 ⟨(some 57), none, .p (.mov (.t 56))⟩,
 ⟨(some 58), (some (57, true)), .p (.mov (.t 0))⟩,
 ⟨(some 59), (some (57, true)), .p (.mov (.t 7))⟩,
 ⟨(some 60), (some (57, true)), .p (.ixs (.t 58) (.t 59))⟩,
 ⟨(some 61), (some (57, true)), .q (.c (.fn (.func 43) [] [])) [(.t 60)]⟩,
 ⟨(some 62), none, .p (.pick (.t 57) (.t 61) (.c (bl false)))⟩])
 (.cond (.t 62)
 .skip
 (.exit 2)))
 (.blk 3
 (.reg [
 ⟨(some 63), none, .p (.mov (.t 7))⟩,
 ⟨(some 64), none, .p (.bin .add (.i .i64) (.t 63) (.c (i64 1)))⟩,
 ⟨(some 7), none, .p (.mov (.t 64))⟩])))
/-- parlour/parlourref06.next -/
def i32 : IC :=
 (.seq
 (.reg [
 ⟨(some 4), none, .e (.alc 25 [i64 0, st ⟨#[]⟩, i64 0, i64 0])⟩,
 ⟨(some 5), none, .p (.mov (.c (i64 0)))⟩,
 ⟨(some 6), none, .e (.alc 32 [i64 0, i64 0])⟩])
 (.seq
 (.reg [
 ⟨(some 11), none, .p (.mov (.t 1))⟩,
 ⟨(some 7), none, .p (.mov (.t 11))⟩])
 (.seq
 (.reg [
 ⟨(some 12), none, .p (.mov (.t 0))⟩,
 ⟨(some 13), none, .p (.mov (.t 1))⟩,
 ⟨(some 14), none, .p (.ixs (.t 12) (.t 13))⟩,
 ⟨(some 8), none, .p (.mov (.t 14))⟩])
 (.seq
 (.seq
 (.reg [
 ⟨(some 15), none, .p (.mov (.t 8))⟩,
 ⟨(some 16), none, .e (.call (.c (.fn (.func 35) [] [])) [(.t 15)])⟩])
 (.cond (.t 16)
 (.seq
 (.blk 0
 (.loop l32_0))
 (.seq
 (.seq
 (.reg [
 ⟨(some 35), none, .p (.mov (.t 7))⟩,
 ⟨(some 36), none, .p (.mov (.t 1))⟩,
 ⟨(some 37), none, .p (.bin .sub (.i .i64) (.t 35) (.t 36))⟩,
 ⟨(some 38), none, .p (.bin .gtr (.i .i64) (.t 37) (.c (i64 40)))⟩])
 (.cond (.t 38)
 (.seq
 (.reg [
 ⟨(some 39), none, .p (.bld [i64 0, st ⟨#[]⟩, i64 0, i64 0] [])⟩,
 ⟨(some 40), none, .p (.mov (.t 1))⟩,
 ⟨(some 41), none, .p (.mov (.t 1))⟩,
 ⟨(some 42), none, .p (.bld [i64 0, i64 0] [(0, 1, (.c (i64 4))), (1, 1, (.t 41))])⟩,
 ⟨none, none, .e (.st 4 (.t 4) (.t 39))⟩,
 ⟨(some 5), none, .p (.mov (.t 40))⟩,
 ⟨none, none, .e (.st 2 (.t 6) (.t 42))⟩])
 .ret)
 .skip))
 (.seq
 (.reg [
 ⟨(some 43), none, .p (.mov (.t 0))⟩,
 ⟨(some 44), none, .p (.mov (.t 1))⟩,
 ⟨(some 45), none, .p (.mov (.t 7))⟩,
 ⟨(some 46), none, .p (.sls (.t 43) (some (.t 44)) (some (.t 45)))⟩,
 ⟨(some 47), none, .p (.mov (.t 1))⟩,
 ⟨(some 48), none, .p (.bld [i64 0, st ⟨#[]⟩, i64 0, i64 0] [(0, 1, (.c (i64 1))), (1, 1, (.t 46)), (3, 1, (.t 47))])⟩,
 ⟨(some 49), none, .p (.mov (.t 7))⟩,
 ⟨(some 50), none, .p (.bld [i64 0, i64 0] [])⟩,
 ⟨none, none, .e (.st 4 (.t 4) (.t 48))⟩,
 ⟨(some 5), none, .p (.mov (.t 49))⟩,
 ⟨none, none, .e (.st 2 (.t 6) (.t 50))⟩])
 .ret)))
 .skip))
 (.seq
 (.seq
 (.reg [
 ⟨(some 51), none, .p (.mov (.t 8))⟩,
 ⟨(some 52), none, .e (.call (.c (.fn (.func 43) [] [])) [(.t 51)])⟩])
 (.cond (.t 52)
 (.seq
 (.blk 2
 (.loop l32_1))
 (.seq
 (.reg [
 ⟨(some 66), none, .p (.mov (.t 0))⟩,
 ⟨(some 67), none, .p (.mov (.t 1))⟩,
 ⟨(some 68), none, .p (.mov (.t 7))⟩,
 ⟨(some 69), none, .p (.sls (.t 66) (some (.t 67)) (some (.t 68)))⟩,
 ⟨(some 70), none, .e (.call (.c (.fn (.func 44) [] [])) [(.t 69)])⟩,
 ⟨(some 65), none, .p (.mov (.t 70))⟩,
 ⟨(some 71), none, .p (.ext (.t 65) 0)⟩,
 ⟨(some 72), none, .p (.ext (.t 65) 1)⟩,
 ⟨(some 9), none, .p (.mov (.t 71))⟩,
 ⟨(some 10), none, .p (.mov (.t 72))⟩])
 (.seq
 (.seq
 (.reg [
 ⟨(some 73), none, .p (.mov (.t 10))⟩,
 ⟨(some 74), none, .p (.bin .neq (.i .i64) (.t 73) (.c (i64 0)))⟩])
 (.cond (.t 74)
 (.seq
 (.reg [
 ⟨(some 75), none, .p (.bld [i64 0, st ⟨#[]⟩, i64 0, i64 0] [])⟩,
 ⟨(some 76), none, .p (.mov (.t 1))⟩,
 ⟨(some 77), none, .p (.mov (.t 10))⟩,
 ⟨(some 78), none, .p (.mov (.t 1))⟩,
 ⟨(some 79), none, .p (.bld [i64 0, i64 0] [(0, 1, (.t 77)), (1, 1, (.t 78))])⟩,
 ⟨none, none, .e (.st 4 (.t 4) (.t 75))⟩,
 ⟨(some 5), none, .p (.mov (.t 76))⟩,
 ⟨none, none, .e (.st 2 (.t 6) (.t 79))⟩])
 .ret)
 .skip))
 (.seq
 (.reg [
 ⟨(some 80), none, .p (.mov (.t 0))⟩,
 ⟨(some 81), none, .p (.mov (.t 1))⟩,
 ⟨(some 82), none, .p (.mov (.t 7))⟩,
 ⟨(some 83), none, .p (.sls (.t 80) (some (.t 81)) (some (.t 82)))⟩,
 ⟨(some 84), none, .p (.mov (.t 9))⟩,
 ⟨(some 85), none, .p (.mov (.t 1))⟩,
 ⟨(some 86), none, .p (.bld [i64 0, st ⟨#[]⟩, i64 0, i64 0] [(0, 1, (.c (i64 2))), (1, 1, (.t 83)), (2, 1, (.t 84)), (3, 1, (.t 85))])⟩,
 ⟨(some 87), none, .p (.mov (.t 7))⟩,
 ⟨(some 88), none, .p (.bld [i64 0, i64 0] [])⟩,
 ⟨none, none, .e (.st 4 (.t 4) (.t 86))⟩,
 ⟨(some 5), none, .p (.mov (.t 87))⟩,
 ⟨none, none, .e (.st 2 (.t 6) (.t 88))⟩])
 .ret))))
 .skip))
 (.seq
 (.seq
 (.reg [
 ⟨(some 89), none, .p (.mov (.t 1))⟩,
 ⟨(some 90), none, .p (.bin .add (.i .i64) (.t 89) (.c (i64 2)))⟩,
 ⟨(some 91), none, .p (.mov (.t 0))⟩,
 ⟨(some 92), none, .p (.lens (.t 91))⟩,
 ⟨(some 93), none, .p (.bin .leq (.i .i64) (.t 90) (.t 92))⟩,
 ⟨(some 94), none, .p (.mov (.t 93))⟩,
 ⟨(some 95), (some (94, true)), .p (.mov (.t 0))⟩,
 ⟨(some 96), (some (94, true)), .p (.mov (.t 1))⟩,
 ⟨(some 97), (some (94, true)), .p (.mov (.t 1))⟩,
 ⟨(some 98), (some (94, true)), .p (.bin .add (.i .i64) (.t 97) (.c (i64 2)))⟩,
 ⟨(some 99), (some (94, true)), .p (.sls (.t 95) (some (.t 96)) (some (.t 98)))⟩,
 ⟨(some 100), (some (94, true)), .q (.c (.fn (.func 45) [] [])) [(.t 99)]⟩,
 ⟨(some 101), none, .p (.pick (.t 94) (.t 100) (.c (bl false)))⟩])
 (.cond (.t 101)
 (.seq
 (.reg [
 ⟨(some 102), none, .p (.mov (.t 0))⟩,
 ⟨(some 103), none, .p (.mov (.t 1))⟩,
 ⟨(some 104), none, .p (.mov (.t 1))⟩,
 ⟨(some 105), none, .p (.bin .add (.i .i64) (.t 104) (.c (i64 2)))⟩,
 ⟨(some 106), none, .p (.sls (.t 102) (some (.t 103)) (some (.t 105)))⟩,
 ⟨(some 107), none, .p (.mov (.t 1))⟩,
 ⟨(some 108), none, .p (.bld [i64 0, st ⟨#[]⟩, i64 0, i64 0] [(0, 1, (.c (i64 3))), (1, 1, (.t 106)), (3, 1, (.t 107))])⟩,
 ⟨(some 109), none, .p (.mov (.t 1))⟩,
 ⟨(some 110), none, .p (.bin .add (.i .i64) (.t 109) (.c (i64 2)))⟩,
 ⟨(some 111), none, .p (.bld [i64 0, i64 0] [])⟩,
 ⟨none, none, .e (.st 4 (.t 4) (.t 108))⟩,
 ⟨(some 5), none, .p (.mov (.t 110))⟩,
 ⟨none, none, .e (.st 2 (.t 6) (.t 111))⟩])
 .ret)
 .skip))
 (.seq
 (.seq
 (.reg [
 ⟨(some 112), none, .p (.mov (.t 8))⟩,
 ⟨(some 113), none, .e (.call (.c (.fn (.func 46) [] [])) [(.t 112)])⟩])
 (.cond (.t 113)
 (.seq
 (.reg [
 ⟨(some 114), none, .p (.mov (.t 0))⟩,
 ⟨(some 115), none, .p (.mov (.t 1))⟩,
 ⟨(some 116), none, .p (.mov (.t 1))⟩,
 ⟨(some 117), none, .p (.bin .add (.i .i64) (.t 116) (.c (i64 1)))⟩,
 ⟨(some 118), none, .p (.sls (.t 114) (some (.t 115)) (some (.t 117)))⟩,
 ⟨(some 119), none, .p (.mov (.t 1))⟩,
 ⟨(some 120), none, .p (.bld [i64 0, st ⟨#[]⟩, i64 0, i64 0] [(0, 1, (.c (i64 3))), (1, 1, (.t 118)), (3, 1, (.t 119))])⟩,
 ⟨(some 121), none, .p (.mov (.t 1))⟩,
 ⟨(some 122), none, .p (.bin .add (.i .i64) (.t 121) (.c (i64 1)))⟩,
 ⟨(some 123), none, .p (.bld [i64 0, i64 0] [])⟩,
 ⟨none, none, .e (.st 4 (.t 4) (.t 120))⟩,
 ⟨(some 5), none, .p (.mov (.t 122))⟩,
 ⟨none, none, .e (.st 2 (.t 6) (.t 123))⟩])
 .ret)
 .skip))
 (.seq
 (.reg [
 ⟨(some 124), none, .p (.bld [i64 0, st ⟨#[]⟩, i64 0, i64 0] [])⟩,
 ⟨(some 125), none, .p (.mov (.t 1))⟩,
 ⟨(some 126), none, .p (.mov (.t 1))⟩,
 ⟨(some 127), none, .p (.bld [i64 0, i64 0] [(0, 1, (.c (i64 11))), (1, 1, (.t 126))])⟩,
 ⟨none, none, .e (.st 4 (.t 4) (.t 124))⟩,
 ⟨(some 5), none, .p (.mov (.t 125))⟩,
 ⟨none, none, .e (.st 2 (.t 6) (.t 127))⟩])
 .ret))))))))
def r32 : List RS := [.cn 4 4, .t 5, .cn 6 2]
theorem c32 : chkF Tryd.prog drawB Tryd.f32 i32 r32 = true := by kernel_rfl
/-- parlour/token.faultOf -/
def i34 : IC :=
 (.seq
 (.reg [
 ⟨(some 2), none, .e (.alc 32 [i64 0, i64 0])⟩])
 (.seq
 (.reg [
 ⟨(some 3), none, .e (.alc 62 [i64 0, i64 0])⟩])
 (.seq
 (.seq
 (.reg [
 ⟨(some 4), none, .p (.mov (.t 0))⟩,
 ⟨(some 5), none, .p (.mki 85 (.t 3))⟩,
 ⟨(some 6), none, .e (.call (.c (.fn (.func 50) [] [])) [(.t 4), (.t 5)])⟩])
 (.cond (.t 6)
 (.seq
 (.reg [
 ⟨(some 7), none, .p (.fa 0 (.t 3))⟩,
 ⟨(some 8), none, .p (.ldn 2 (.t 7))⟩,
 ⟨none, none, .e (.st 2 (.t 2) (.t 8))⟩])
 .ret)
 .skip))
 (.seq
 (.reg [
 ⟨(some 9), none, .p (.bld [i64 0, i64 0] [])⟩,
 ⟨none, none, .e (.st 2 (.t 2) (.t 9))⟩])
 .ret))))
def r34 : List RS := [.cn 2 2]
theorem c34 : chkF Tryd.prog drawB Tryd.f34 i34 r34 = true := by kernel_rfl
/-- parlour/parlourref06.letter -/
def i35 : IC :=
 (.seq
 (.reg [
 ⟨(some 2), none, .p (.mov (.c (bl false)))⟩])
 (.seq
 (.reg [
 ⟨(some 3), none, .p (.mov (.t 0))⟩,
 ⟨(some 4), none, .p (.bin .geq (.i .u8) (.t 3) (.c (.val (.int .u8 65))))⟩,
 ⟨(some 5), none, .p (.mov (.t 4))⟩,
 ⟨(some 6), (some (5, true)), .p (.mov (.t 0))⟩,
 ⟨(some 7), (some (5, true)), .p (.bin .leq (.i .u8) (.t 6) (.c (.val (.int .u8 90))))⟩,
 ⟨(some 8), none, .p (.pick (.t 5) (.t 7) (.c (bl false)))⟩,
 ⟨(some 9), none, .p (.mov (.t 8))⟩,
 ⟨(some 10), (some (9, false)), .p (.mov (.t 0))⟩,
 ⟨(some 11), (some (9, false)), .p (.bin .geq (.i .u8) (.t 10) (.c (.val (.int .u8 97))))⟩,
 ⟨(some 12), (some (9, false)), .p (.mov (.t 11))⟩,
 ⟨(some 13), (some (12, true)), .p (.mov (.t 0))⟩,
 ⟨(some 14), (some (12, true)), .p (.bin .leq (.i .u8) (.t 13) (.c (.val (.int .u8 122))))⟩,
 ⟨(some 15), (some (9, false)), .p (.pick (.t 12) (.t 14) (.c (bl false)))⟩,
 ⟨(some 16), none, .p (.pick (.t 9) (.c (bl true)) (.t 15))⟩,
 ⟨(some 17), none, .p (.mov (.t 16))⟩,
 ⟨(some 18), (some (17, false)), .p (.mov (.t 0))⟩,
 ⟨(some 19), (some (17, false)), .p (.bin .eql (.i .u8) (.t 18) (.c (.val (.int .u8 95))))⟩,
 ⟨(some 20), none, .p (.pick (.t 17) (.c (bl true)) (.t 19))⟩,
 ⟨(some 2), none, .p (.mov (.t 20))⟩])
 .ret))
def r35 : List RS := [.t 2]
theorem c35 : chkF Tryd.prog drawB Tryd.f35 i35 r35 = true := by kernel_rfl
def l38_0 : IC := .keep [0, 1, 3]
 (.seq
 (.seq
 (.reg [
 ⟨(some 7), none, .p (.mov (.t 3))⟩,
 ⟨(some 8), none, .p (.ld1 (.t 1))⟩,
 ⟨(some 9), none, .p (.lens (.t 8))⟩,
 ⟨(some 10), none, .p (.bin .lss (.i .i64) (.t 7) (.t 9))⟩])
 (.cond (.t 10)
 .skip
 (.exit 0)))
 (.blk 1
 (.seq
 (.reg [
 ⟨(some 11), none, .p (.mov (.t 3))⟩,
 ⟨(some 12), none, .p (.bld [i64 0, st ⟨#[]⟩, i64 0, i64 0] [(3, 1, (.t 11))])⟩,
 ⟨(some 4), none, .e (.alc 25 [i64 0, st ⟨#[]⟩, i64 0, i64 0])⟩,
 ⟨none, none, .e (.st 4 (.t 4) (.t 12))⟩])
 (.seq
 (.reg [
 ⟨(some 13), none, .p (.mov (.t 3))⟩,
 ⟨(some 5), none, .p (.mov (.t 13))⟩])
 (.seq
 (.seq
 (.reg [
 ⟨(some 14), none, .p (.ld1 (.t 1))⟩,
 ⟨(some 15), none, .p (.mov (.t 3))⟩,
 ⟨(some 16), none, .p (.ixs (.t 14) (.t 15))⟩,
 ⟨(some 17), none, .e (.call (.c (.fn (.func 26) [] [])) [(.t 16)])⟩])
 (.blk 2
 (.seq
 (.reg [
 ⟨(some 26), none, .p (.bin .eql (.i .i64) (.t 17) (.c (i64 1)))⟩,
 ⟨(some 25), none, .p (.mov (.t 26))⟩])
 (.cond (.t 25)
 (.seq
 (.reg [
 ⟨(some 27), none, .p (.mov (.t 3))⟩,
 ⟨(some 28), none, .p (.bin .add (.i .i64) (.t 27) (.c (i64 1)))⟩,
 ⟨(some 3), none, .p (.mov (.t 28))⟩])
 (.exit 1))
 (.seq
 (.reg [
 ⟨(some 30), none, .p (.bin .eql (.i .i64) (.t 17) (.c (i64 2)))⟩,
 ⟨(some 29), none, .p (.mov (.t 30))⟩])
 (.cond (.t 29)
 (.reg [
 ⟨(some 31), none, .p (.ld1 (.t 1))⟩,
 ⟨(some 32), none, .p (.mov (.t 3))⟩,
 ⟨(some 33), none, .e (.bsl 47 1 2 [i64 0] [(0, (.c (i64 2))), (1, (.c (i64 3)))])⟩,
 ⟨(some 34), none, .e (.call (.c (.fn (.func 39) [] [])) [(.t 31), (.t 32), (.t 33)])⟩,
 ⟨(some 35), none, .p (.fa 0 (.t 4))⟩,
 ⟨none, none, .e (.st 1 (.t 35) (.c (i64 1)))⟩,
 ⟨(some 5), none, .p (.mov (.t 34))⟩])
 (.seq
 (.reg [
 ⟨(some 37), none, .p (.bin .eql (.i .i64) (.t 17) (.c (i64 3)))⟩,
 ⟨(some 36), none, .p (.mov (.t 37))⟩])
 (.cond (.t 36)
 (.reg [
 ⟨(some 38), none, .p (.ld1 (.t 1))⟩,
 ⟨(some 39), none, .p (.mov (.t 3))⟩,
 ⟨(some 40), none, .e (.bsl 47 1 1 [i64 0] [(0, (.c (i64 3)))])⟩,
 ⟨(some 41), none, .e (.call (.c (.fn (.func 39) [] [])) [(.t 38), (.t 39), (.t 40)])⟩,
 ⟨(some 42), none, .p (.fa 0 (.t 4))⟩,
 ⟨none, none, .e (.st 1 (.t 42) (.c (i64 2)))⟩,
 ⟨(some 5), none, .p (.mov (.t 41))⟩])
 (.seq
 (.reg [
 ⟨(some 44), none, .p (.bin .eql (.i .i64) (.t 17) (.c (i64 4)))⟩,
 ⟨(some 43), none, .p (.mov (.t 44))⟩])
 (.cond (.t 43)
 (.reg [
 ⟨(some 45), none, .p (.ld1 (.t 1))⟩,
 ⟨(some 46), none, .p (.mov (.t 3))⟩,
 ⟨(some 47), none, .e (.call (.c (.fn (.func 40) [] [])) [(.t 45), (.t 46)])⟩,
 ⟨(some 48), none, .p (.fa 0 (.t 4))⟩,
 ⟨none, none, .e (.st 1 (.t 48) (.c (i64 3)))⟩,
 ⟨(some 5), none, .p (.mov (.t 47))⟩])
 (.seq
 (.reg [
 ⟨(some 18), none, .p (.ld1 (.t 1))⟩,
 ⟨(some 19), none, .p (.mov (.t 3))⟩,
 ⟨(some 20), none, .p (.ixs (.t 18) (.t 19))⟩,
 ⟨(some 21), none, .p (.bin .eql (.i .u8) (.t 20) (.c (.val (.int .u8 35))))⟩])
 (.cond (.t 21)
 (.seq
 (.reg [
 ⟨(some 22), none, .p (.ld1 (.t 1))⟩,
 ⟨(some 23), none, .p (.mov (.t 3))⟩,
 ⟨(some 24), none, .e (.call (.c (.fn (.func 41) [] [])) [(.t 22), (.t 23)])⟩,
 ⟨(some 3), none, .p (.mov (.t 24))⟩])
 (.exit 1))
 .skip))))))))))))
 (.seq
 (.reg [
 ⟨(some 49), none, .p (.ld1 (.t 1))⟩,
 ⟨(some 50), none, .p (.mov (.t 3))⟩,
 ⟨(some 51), none, .p (.mov (.t 5))⟩,
 ⟨(some 52), none, .p (.sls (.t 49) (some (.t 50)) (some (.t 51)))⟩,
 ⟨(some 53), none, .p (.fa 1 (.t 4))⟩,
 ⟨none, none, .e (.st 1 (.t 53) (.t 52))⟩])
 (.seq
 (.seq
 (.reg [
 ⟨(some 54), none, .p (.ld1 (.t 1))⟩,
 ⟨(some 55), none, .e (.call (.c (.fn (.func 42) [] [])) [(.t 54), (.t 4)])⟩,
 ⟨(some 6), none, .p (.mov (.t 55))⟩])
 (.seq
 (.reg [
 ⟨(some 56), none, .p (.mov (.t 6))⟩,
 ⟨(some 57), none, .p (.bin .neq (.i .i64) (.t 56) (.c (i64 0)))⟩])
 (.cond (.t 57)
 (.seq
 (.reg [
 ⟨(some 58), none, .p (.mov (.t 0))⟩,
 ⟨(some 59), none, .p (.bld [i64 0, st ⟨#[]⟩, i64 0, i64 0] [])⟩,
 ⟨(some 60), none, .p (.mov (.t 6))⟩,
 ⟨(some 61), none, .p (.mov (.t 3))⟩,
 ⟨(some 62), none, .p (.bld [i64 0, i64 0] [(0, 1, (.t 60)), (1, 1, (.t 61))])⟩,
 ⟨(some 63), none, .p (.bld [i64 0, i64 0] [(0, 2, (.t 62))])⟩,
 ⟨(some 64), none, .p (.mki 62 (.t 63))⟩,
 ⟨(some 65), none, .e (.call (.t 58) [(.t 59), (.t 64)])⟩])
 (.exit 0))
 .skip)))
 (.seq
 (.seq
 (.reg [
 ⟨(some 66), none, .p (.mov (.t 0))⟩,
 ⟨(some 67), none, .p (.ldn 4 (.t 4))⟩,
 ⟨(some 68), none, .e (.call (.t 66) [(.t 67), (.c (.val .nilIface))])⟩,
 ⟨(some 69), none, .p (.not (.t 68))⟩])
 (.cond (.t 69)
 (.exit 0)
 .skip))
 (.reg [
 ⟨(some 70), none, .p (.mov (.t 5))⟩,
 ⟨(some 3), none, .p (.mov (.t 70))⟩])))))))))
/-- parlour/token.tokens$1 -/
def i38 : IC :=
 (.scp
 (.seq
 (.reg [
 ⟨(some 3), none, .p (.mov (.c (i64 0)))⟩])
 (.seq
 .lab
 (.blk 0
 (.loop l38_0)))))
def r38 : List RS := []
theorem c38 : chkF Tryd.prog drawB Tryd.f38 i38 r38 = true := by kernel_rfl
def l39_1 : IC := .keep [0, 2, 7, 15, 16, 17]
 (.seq
 (.reg [
 ⟨(some 18), none, .p (.bin .lss (.i .i64) (.t 17) (.t 16))⟩])
 (.seq
 (.cond (.t 18)
 .skip
 (.exit 2))
 (.seq
 (.blk 3
 (.seq
 (.reg [
 ⟨(some 19), none, .p (.ia 1 (.t 15) (.t 17))⟩,
 ⟨(some 20), none, .p (.ld1 (.t 19))⟩,
 ⟨(some 9), none, .p (.mov (.t 20))⟩])
 (.seq
 (.reg [
 ⟨(some 21), none, .p (.mov (.t 0))⟩,
 ⟨(some 22), none, .p (.mov (.t 7))⟩,
 ⟨(some 23), none, .p (.ixs (.t 21) (.t 22))⟩,
 ⟨(some 24), none, .e (.call (.c (.fn (.func 26) [] [])) [(.t 23)])⟩,
 ⟨(some 25), none, .p (.mov (.t 9))⟩,
 ⟨(some 26), none, .p (.bin .eql (.i .i64) (.t 24) (.t 25))⟩])
 (.cond (.t 26)
 (.seq
 (.reg [
 ⟨(some 27), none, .p (.mov (.t 7))⟩,
 ⟨(some 28), none, .p (.bin .add (.i .i64) (.t 27) (.c (i64 1)))⟩,
 ⟨(some 7), none, .p (.mov (.t 28))⟩])
 (.exit 1))
 .skip))))
 (.reg [
 ⟨(some 29), none, .p (.bin .add (.i .i64) (.t 17) (.c (i64 1)))⟩,
 ⟨(some 17), none, .p (.mov (.t 29))⟩]))))
def l39_0 : IC := .keep [0, 2, 7]
 (.seq
 (.seq
 (.reg [
 ⟨(some 11), none, .p (.mov (.t 7))⟩,
 ⟨(some 12), none, .p (.mov (.t 0))⟩,
 ⟨(some 13), none, .p (.lens (.t 12))⟩,
 ⟨(some 14), none, .p (.bin .lss (.i .i64) (.t 11) (.t 13))⟩])
 (.cond (.t 14)
 .skip
 (.exit 0)))
 (.blk 1
 (.seq
 (.seq
 (.reg [
 ⟨(some 15), none, .p (.mov (.t 2))⟩,
 ⟨(some 16), none, .p (.len (.t 15))⟩,
 ⟨(some 17), none, .p (.mov (.c (i64 0)))⟩])
 (.blk 2
 (.loop l39_1)))
 (.exit 0))))
/-- parlour/token.run -/
def i39 : IC :=
 (.seq
 (.reg [
 ⟨(some 6), none, .p (.mov (.c (i64 0)))⟩])
 (.scp
 (.seq
 (.reg [
 ⟨(some 10), none, .p (.mov (.t 1))⟩,
 ⟨(some 7), none, .p (.mov (.t 10))⟩])
 (.seq
 .lab
 (.seq
 (.blk 0
 (.loop l39_0))
 (.seq
 (.reg [
 ⟨(some 30), none, .p (.mov (.t 7))⟩,
 ⟨(some 6), none, .p (.mov (.t 30))⟩])
 .ret))))))
def r39 : List RS := [.t 6]
theorem c39 : chkF Tryd.prog drawB Tryd.f39 i39 r39 = true := by kernel_rfl
def l40_0 : IC := .keep [1, 5, 11, 12]
 (.seq
 (.reg [
 ⟨(some 13), none, .p (.bin .lss (.i .i64) (.t 12) (.c (i64 5)))⟩])
 (.seq
 (.cond (.t 13)
 .skip
 (.exit 0))
 (.seq
 (.blk 1
 (.seq
 (.reg [
 ⟨(some 14), none, .p (.ixa 5 1 true (.t 11) (.t 12))⟩,
 ⟨(some 7), none, .p (.mov (.t 14))⟩])
 (.seq
 (.reg [
 ⟨(some 15), none, .p (.mov (.t 5))⟩,
 ⟨(some 16), none, .p (.mov (.t 7))⟩,
 ⟨(some 17), none, .e (.call (.c (.fn (.func 55) [] [])) [(.t 15), (.t 16)])⟩])
 (.cond (.t 17)
 (.seq
 (.reg [
 ⟨(some 18), none, .p (.mov (.t 1))⟩,
 ⟨(some 19), none, .p (.mov (.t 7))⟩,
 ⟨(some 20), none, .p (.lens (.t 19))⟩,
 ⟨(some 21), none, .p (.bin .add (.i .i64) (.t 18) (.t 20))⟩,
 ⟨(some 4), none, .p (.mov (.t 21))⟩])
 .ret)
 .skip))))
 (.reg [
 ⟨(some 22), none, .p (.bin .add (.i .i64) (.t 12) (.c (i64 1)))⟩,
 ⟨(some 12), none, .p (.mov (.t 22))⟩]))))
/-- parlour/token.signEnd -/
def i40 : IC :=
 (.seq
 (.reg [
 ⟨(some 4), none, .p (.mov (.c (i64 0)))⟩])
 (.seq
 (.reg [
 ⟨(some 8), none, .p (.mov (.t 0))⟩,
 ⟨(some 9), none, .p (.mov (.t 1))⟩,
 ⟨(some 10), none, .p (.sls (.t 8) (some (.t 9)) none)⟩,
 ⟨(some 5), none, .p (.mov (.t 10))⟩])
 (.seq
 (.seq
 (.reg [
 ⟨(some 11), none, .p (.bld [st ⟨#[]⟩, st ⟨#[]⟩, st ⟨#[]⟩, st ⟨#[]⟩, st ⟨#[]⟩] [(0, 1, (.c (st ⟨#[61, 61]⟩))), (1, 1, (.c (st ⟨#[33, 61]⟩))), (2, 1, (.c (st ⟨#[60, 61]⟩))), (3, 1, (.c (st ⟨#[62, 61]⟩))), (4, 1, (.c (st ⟨#[46, 46]⟩)))])⟩,
 ⟨(some 12), none, .p (.mov (.c (i64 0)))⟩])
 (.blk 0
 (.loop l40_0)))
 (.seq
 (.seq
 (.reg [
 ⟨(some 23), none, .p (.mov (.t 5))⟩,
 ⟨(some 24), none, .p (.ixs (.t 23) (.c (i64 0)))⟩,
 ⟨(some 25), none, .p (.bin .eql (.i .u8) (.t 24) (.c (.val (.int .u8 33))))⟩,
 ⟨(some 26), none, .p (.mov (.t 25))⟩,
 ⟨(some 27), (some (26, false)), .p (.mov (.t 5))⟩,
 ⟨(some 28), (some (26, false)), .p (.ixs (.t 27) (.c (i64 0)))⟩,
 ⟨(some 29), (some (26, false)), .p (.bin .eql (.i .u8) (.t 28) (.c (.val (.int .u8 46))))⟩,
 ⟨(some 30), none, .p (.pick (.t 26) (.c (bl true)) (.t 29))⟩])
 (.cond (.t 30)
 (.seq
 (.reg [
 ⟨(some 31), none, .p (.mov (.t 1))⟩,
 ⟨(some 4), none, .p (.mov (.t 31))⟩])
 .ret)
 .skip))
 (.seq
 (.reg [
 ⟨(some 32), none, .p (.mov (.t 1))⟩,
 ⟨(some 33), none, .p (.bin .add (.i .i64) (.t 32) (.c (i64 1)))⟩,
 ⟨(some 4), none, .p (.mov (.t 33))⟩])
 .ret)))))
def r40 : List RS := [.t 4]
theorem c40 : chkF Tryd.prog drawB Tryd.f40 i40 r40 = true := by kernel_rfl
/-- parlour/token.commentEnd -/
def i41 : IC :=
 (.seq
 (.reg [
 ⟨(some 4), none, .p (.mov (.c (i64 0)))⟩])
 (.seq
 (.seq
 (.reg [
 ⟨(some 6), none, .p (.mov (.t 0))⟩,
 ⟨(some 7), none, .p (.mov (.t 1))⟩,
 ⟨(some 8), none, .p (.sls (.t 6) (some (.t 7)) none)⟩,
 ⟨(some 9), none, .e (.call (.c (.fn (.func 56) [] [])) [(.t 8), (.c (.val (.int .u8 10)))])⟩,
 ⟨(some 5), none, .p (.mov (.t 9))⟩])
 (.seq
 (.reg [
 ⟨(some 10), none, .p (.mov (.t 5))⟩,
 ⟨(some 11), none, .p (.bin .geq (.i .i64) (.t 10) (.c (i64 0)))⟩])
 (.cond (.t 11)
 (.seq
 (.reg [
 ⟨(some 12), none, .p (.mov (.t 1))⟩,
 ⟨(some 13), none, .p (.mov (.t 5))⟩,
 ⟨(some 14), none, .p (.bin .add (.i .i64) (.t 12) (.t 13))⟩,
 ⟨(some 4), none, .p (.mov (.t 14))⟩])
 .ret)
 .skip)))
 (.seq
 (.reg [
 ⟨(some 15), none, .p (.mov (.t 0))⟩,
 ⟨(some 16), none, .p (.lens (.t 15))⟩,
 ⟨(some 4), none, .p (.mov (.t 16))⟩])
 .ret)))
def r41 : List RS := [.t 4]
theorem c41 : chkF Tryd.prog drawB Tryd.f41 i41 r41 = true := by kernel_rfl
def l42_0 : IC := .keep [1, 73, 74, 75]
 (.seq
 (.reg [
 ⟨(some 76), none, .p (.bin .lss (.i .i64) (.t 75) (.t 74))⟩])
 (.seq
 (.cond (.t 76)
 .skip
 (.exit 0))
 (.seq
 (.blk 1
 (.seq
 (.reg [
 ⟨(some 77), none, .p (.ia 1 (.t 73) (.t 75))⟩,
 ⟨(some 78), none, .p (.ld1 (.t 77))⟩,
 ⟨(some 6), none, .p (.mov (.t 78))⟩])
 (.seq
 (.reg [
 ⟨(some 79), none, .p (.mov (.t 1))⟩,
 ⟨(some 80), none, .p (.mov (.t 1))⟩,
 ⟨(some 81), none, .p (.nck (.t 80))⟩,
 ⟨(some 82), none, .p (.fa 2 (.t 81))⟩,
 ⟨(some 83), none, .p (.ld1 (.t 82))⟩,
 ⟨(some 84), none, .p (.bin .mul (.i .i64) (.c (i64 10)) (.t 83))⟩,
 ⟨(some 85), none, .p (.mov (.t 6))⟩,
 ⟨(some 86), none, .p (.bin .sub (.i .u8) (.t 85) (.c (.val (.int .u8 48))))⟩,
 ⟨(some 87), none, .p (.cvi .i64 (.t 86))⟩,
 ⟨(some 88), none, .p (.bin .add (.i .i64) (.t 84) (.t 87))⟩,
 ⟨(some 89), none, .p (.nck (.t 79))⟩,
 ⟨(some 90), none, .p (.fa 2 (.t 89))⟩,
 ⟨none, none, .e (.st 1 (.t 90) (.t 88))⟩])
 (.seq
 (.reg [
 ⟨(some 91), none, .p (.mov (.t 1))⟩,
 ⟨(some 92), none, .p (.nck (.t 91))⟩,
 ⟨(some 93), none, .p (.fa 2 (.t 92))⟩,
 ⟨(some 94), none, .p (.ld1 (.t 93))⟩,
 ⟨(some 95), none, .p (.bin .gtr (.i .i64) (.t 94) (.c (i64 1000000000)))⟩])
 (.cond (.t 95)
 (.seq
 (.reg [
 ⟨(some 4), none, .p (.mov (.c (i64 2)))⟩])
 .ret)
 .skip)))))
 (.reg [
 ⟨(some 96), none, .p (.bin .add (.i .i64) (.t 75) (.c (i64 1)))⟩,
 ⟨(some 75), none, .p (.mov (.t 96))⟩]))))
/-- parlour/token.whole -/
def i42 : IC :=
 (.seq
 (.reg [
 ⟨(some 4), none, .p (.mov (.c (i64 0)))⟩])
 (.seq
 (.seq
 (.reg [
 ⟨(some 7), none, .p (.mov (.t 1))⟩,
 ⟨(some 8), none, .p (.nck (.t 7))⟩,
 ⟨(some 9), none, .p (.fa 1 (.t 8))⟩,
 ⟨(some 10), none, .p (.ld1 (.t 9))⟩,
 ⟨(some 11), none, .p (.bin .eql .s (.t 10) (.c (st ⟨#[]⟩)))⟩,
 ⟨(some 12), none, .p (.mov (.t 11))⟩,
 ⟨(some 13), (some (12, false)), .p (.mov (.t 1))⟩,
 ⟨(some 14), (some (12, false)), .p (.nck (.t 13))⟩,
 ⟨(some 15), (some (12, false)), .p (.fa 0 (.t 14))⟩,
 ⟨(some 16), (some (12, false)), .p (.ld1 (.t 15))⟩,
 ⟨(some 17), (some (12, false)), .p (.bin .eql (.i .i64) (.t 16) (.c (i64 1)))⟩,
 ⟨(some 18), (some (12, false)), .p (.mov (.t 17))⟩,
 ⟨(some 19), (some (18, true)), .p (.mov (.t 1))⟩,
 ⟨(some 20), (some (18, true)), .p (.nck (.t 19))⟩,
 ⟨(some 21), (some (18, true)), .p (.fa 3 (.t 20))⟩,
 ⟨(some 22), (some (18, true)), .p (.ld1 (.t 21))⟩,
 ⟨(some 23), (some (18, true)), .p (.bin .gtr (.i .i64) (.t 22) (.c (i64 0)))⟩,
 ⟨(some 24), (some (12, false)), .p (.pick (.t 18) (.t 23) (.c (bl false)))⟩,
 ⟨(some 25), (some (12, false)), .p (.mov (.t 24))⟩,
 ⟨(some 26), (some (25, true)), .p (.mov (.t 0))⟩,
 ⟨(some 27), (some (25, true)), .p (.mov (.t 1))⟩,
 ⟨(some 28), (some (25, true)), .p (.nck (.t 27))⟩,
 ⟨(some 29), (some (25, true)), .p (.fa 3 (.t 28))⟩,
 ⟨(some 30), (some (25, true)), .p (.ld1 (.t 29))⟩,
 ⟨(some 31), (some (25, true)), .p (.bin .sub (.i .i64) (.t 30) (.c (i64 1)))⟩,
 ⟨(some 32), (some (25, true)), .p (.ixs (.t 26) (.t 31))⟩,
 ⟨(some 33), (some (25, true)), .q (.c (.fn (.func 26) [] [])) [(.t 32)]⟩,
 ⟨(some 34), (some (25, true)), .p (.bin .eql (.i .i64) (.t 33) (.c (i64 3)))⟩,
 ⟨(some 35), (some (12, false)), .p (.pick (.t 25) (.t 34) (.c (bl false)))⟩,
 ⟨(some 36), none, .p (.pick (.t 12) (.c (bl true)) (.t 35))⟩])
 (.cond (.t 36)
 (.seq
 (.reg [
 ⟨(some 4), none, .p (.mov (.c (i64 11)))⟩])
 .ret)
 .skip))
 (.seq
 (.seq
 (.reg [
 ⟨(some 37), none, .p (.mov (.t 1))⟩,
 ⟨(some 38), none, .p (.nck (.t 37))⟩,
 ⟨(some 39), none, .p (.fa 0 (.t 38))⟩,
 ⟨(some 40), none, .p (.ld1 (.t 39))⟩,
 ⟨(some 41), none, .p (.bin .eql (.i .i64) (.t 40) (.c (i64 1)))⟩,
 ⟨(some 42), none, .p (.mov (.t 41))⟩,
 ⟨(some 43), (some (42, true)), .p (.mov (.t 1))⟩,
 ⟨(some 44), (some (42, true)), .p (.nck (.t 43))⟩,
 ⟨(some 45), (some (42, true)), .p (.fa 1 (.t 44))⟩,
 ⟨(some 46), (some (42, true)), .p (.ld1 (.t 45))⟩,
 ⟨(some 47), (some (42, true)), .p (.lens (.t 46))⟩,
 ⟨(some 48), (some (42, true)), .p (.bin .gtr (.i .i64) (.t 47) (.c (i64 40)))⟩,
 ⟨(some 49), none, .p (.pick (.t 42) (.t 48) (.c (bl false)))⟩])
 (.cond (.t 49)
 (.seq
 (.reg [
 ⟨(some 4), none, .p (.mov (.c (i64 4)))⟩])
 .ret)
 .skip))
 (.seq
 (.seq
 (.reg [
 ⟨(some 50), none, .p (.mov (.t 1))⟩,
 ⟨(some 51), none, .p (.nck (.t 50))⟩,
 ⟨(some 52), none, .p (.fa 0 (.t 51))⟩,
 ⟨(some 53), none, .p (.ld1 (.t 52))⟩,
 ⟨(some 54), none, .p (.bin .neq (.i .i64) (.t 53) (.c (i64 2)))⟩])
 (.cond (.t 54)
 (.seq
 (.reg [
 ⟨(some 4), none, .p (.mov (.c (i64 0)))⟩])
 .ret)
 .skip))
 (.seq
 (.seq
 (.reg [
 ⟨(some 55), none, .p (.mov (.t 1))⟩,
 ⟨(some 56), none, .p (.nck (.t 55))⟩,
 ⟨(some 57), none, .p (.fa 1 (.t 56))⟩,
 ⟨(some 58), none, .p (.ld1 (.t 57))⟩,
 ⟨(some 59), none, .p (.lens (.t 58))⟩,
 ⟨(some 60), none, .p (.bin .gtr (.i .i64) (.t 59) (.c (i64 1)))⟩,
 ⟨(some 61), none, .p (.mov (.t 60))⟩,
 ⟨(some 62), (some (61, true)), .p (.mov (.t 1))⟩,
 ⟨(some 63), (some (61, true)), .p (.nck (.t 62))⟩,
 ⟨(some 64), (some (61, true)), .p (.fa 1 (.t 63))⟩,
 ⟨(some 65), (some (61, true)), .p (.ld1 (.t 64))⟩,
 ⟨(some 66), (some (61, true)), .p (.ixs (.t 65) (.c (i64 0)))⟩,
 ⟨(some 67), (some (61, true)), .p (.bin .eql (.i .u8) (.t 66) (.c (.val (.int .u8 48))))⟩,
 ⟨(some 68), none, .p (.pick (.t 61) (.t 67) (.c (bl false)))⟩])
 (.cond (.t 68)
 (.seq
 (.reg [
 ⟨(some 4), none, .p (.mov (.c (i64 3)))⟩])
 .ret)
 .skip))
 (.seq
 (.seq
 (.reg [
 ⟨(some 69), none, .p (.mov (.t 1))⟩,
 ⟨(some 70), none, .p (.nck (.t 69))⟩,
 ⟨(some 71), none, .p (.fa 1 (.t 70))⟩,
 ⟨(some 72), none, .p (.ld1 (.t 71))⟩,
 ⟨(some 73), none, .e (.sby (.t 72))⟩,
 ⟨(some 74), none, .p (.len (.t 73))⟩,
 ⟨(some 75), none, .p (.mov (.c (i64 0)))⟩])
 (.blk 0
 (.loop l42_0)))
 (.seq
 (.reg [
 ⟨(some 4), none, .p (.mov (.c (i64 0)))⟩])
 .ret)))))))
def r42 : List RS := [.t 4]
theorem c42 : chkF Tryd.prog drawB Tryd.f42 i42 r42 = true := by kernel_rfl
/-- parlour/parlourref06.digit -/
def i43 : IC :=
 (.seq
 (.reg [
 ⟨(some 2), none, .p (.mov (.c (bl false)))⟩])
 (.seq
 (.reg [
 ⟨(some 3), none, .p (.mov (.t 0))⟩,
 ⟨(some 4), none, .p (.bin .geq (.i .u8) (.t 3) (.c (.val (.int .u8 48))))⟩,
 ⟨(some 5), none, .p (.mov (.t 4))⟩,
 ⟨(some 6), (some (5, true)), .p (.mov (.t 0))⟩,
 ⟨(some 7), (some (5, true)), .p (.bin .leq (.i .u8) (.t 6) (.c (.val (.int .u8 57))))⟩,
 ⟨(some 8), none, .p (.pick (.t 5) (.t 7) (.c (bl false)))⟩,
 ⟨(some 2), none, .p (.mov (.t 8))⟩])
 .ret))
def r43 : List RS := [.t 2]
theorem c43 : chkF Tryd.prog drawB Tryd.f43 i43 r43 = true := by kernel_rfl
def l44_0 : IC := .keep [0, 4, 5]
 (.seq
 (.seq
 (.reg [
 ⟨(some 17), none, .p (.mov (.t 5))⟩,
 ⟨(some 18), none, .p (.mov (.t 0))⟩,
 ⟨(some 19), none, .p (.lens (.t 18))⟩,
 ⟨(some 20), none, .p (.bin .lss (.i .i64) (.t 17) (.t 19))⟩])
 (.cond (.t 20)
 .skip
 (.exit 0)))
 (.seq
 (.blk 1
 (.reg [
 ⟨(some 23), none, .p (.mov (.t 4))⟩,
 ⟨(some 24), none, .p (.bin .mul (.i .i64) (.c (i64 10)) (.t 23))⟩,
 ⟨(some 25), none, .p (.mov (.t 0))⟩,
 ⟨(some 26), none, .p (.mov (.t 5))⟩,
 ⟨(some 27), none, .p (.ixs (.t 25) (.t 26))⟩,
 ⟨(some 28), none, .p (.bin .sub (.i .u8) (.t 27) (.c (.val (.int .u8 48))))⟩,
 ⟨(some 29), none, .p (.cvi .i64 (.t 28))⟩,
 ⟨(some 30), none, .p (.bin .add (.i .i64) (.t 24) (.t 29))⟩,
 ⟨(some 4), none, .p (.mov (.t 30))⟩]))
 (.reg [
 ⟨(some 21), none, .p (.mov (.t 5))⟩,
 ⟨(some 22), none, .p (.bin .add (.i .i64) (.t 21) (.c (i64 1)))⟩,
 ⟨(some 5), none, .p (.mov (.t 22))⟩])))
/-- parlour/parlourref06.number -/
def i44 : IC :=
 (.seq
 (.reg [
 ⟨(some 2), none, .p (.mov (.c (i64 0)))⟩,
 ⟨(some 3), none, .p (.mov (.c (i64 0)))⟩])
 (.seq
 (.seq
 (.reg [
 ⟨(some 6), none, .p (.mov (.t 0))⟩,
 ⟨(some 7), none, .p (.lens (.t 6))⟩,
 ⟨(some 8), none, .p (.bin .gtr (.i .i64) (.t 7) (.c (i64 1)))⟩,
 ⟨(some 9), none, .p (.mov (.t 8))⟩,
 ⟨(some 10), (some (9, true)), .p (.mov (.t 0))⟩,
 ⟨(some 11), (some (9, true)), .p (.ixs (.t 10) (.c (i64 0)))⟩,
 ⟨(some 12), (some (9, true)), .p (.bin .eql (.i .u8) (.t 11) (.c (.val (.int .u8 48))))⟩,
 ⟨(some 13), none, .p (.pick (.t 9) (.t 12) (.c (bl false)))⟩])
 (.cond (.t 13)
 (.seq
 (.reg [
 ⟨(some 2), none, .p (.mov (.c (i64 0)))⟩,
 ⟨(some 3), none, .p (.mov (.c (i64 3)))⟩])
 .ret)
 .skip))
 (.seq
 (.seq
 (.reg [
 ⟨(some 14), none, .p (.mov (.t 0))⟩,
 ⟨(some 15), none, .p (.lens (.t 14))⟩,
 ⟨(some 16), none, .p (.bin .gtr (.i .i64) (.t 15) (.c (i64 10)))⟩])
 (.cond (.t 16)
 (.seq
 (.reg [
 ⟨(some 2), none, .p (.mov (.c (i64 0)))⟩,
 ⟨(some 3), none, .p (.mov (.c (i64 2)))⟩])
 .ret)
 .skip))
 (.seq
 (.reg [
 ⟨(some 4), none, .p (.mov (.c (i64 0)))⟩])
 (.seq
 (.seq
 (.reg [
 ⟨(some 5), none, .p (.mov (.c (i64 0)))⟩])
 (.blk 0
 (.loop l44_0)))
 (.seq
 (.seq
 (.reg [
 ⟨(some 31), none, .p (.mov (.t 4))⟩,
 ⟨(some 32), none, .p (.bin .gtr (.i .i64) (.t 31) (.c (i64 1000000000)))⟩])
 (.cond (.t 32)
 (.seq
 (.reg [
 ⟨(some 2), none, .p (.mov (.c (i64 0)))⟩,
 ⟨(some 3), none, .p (.mov (.c (i64 2)))⟩])
 .ret)
 .skip))
 (.seq
 (.reg [
 ⟨(some 33), none, .p (.mov (.t 4))⟩,
 ⟨(some 2), none, .p (.mov (.t 33))⟩,
 ⟨(some 3), none, .p (.mov (.c (i64 0)))⟩])
 .ret)))))))
def r44 : List RS := [.t 2, .t 3]
theorem c44 : chkF Tryd.prog drawB Tryd.f44 i44 r44 = true := by kernel_rfl
/-- parlour/parlourref06.double -/
def i45 : IC :=
 (.seq
 (.reg [
 ⟨(some 2), none, .p (.mov (.c (bl false)))⟩])
 (.seq
 (.reg [
 ⟨(some 3), none, .p (.mov (.t 0))⟩,
 ⟨(some 4), none, .p (.bin .eql .s (.t 3) (.c (st ⟨#[61, 61]⟩)))⟩,
 ⟨(some 5), none, .p (.mov (.t 4))⟩,
 ⟨(some 6), (some (5, false)), .p (.mov (.t 0))⟩,
 ⟨(some 7), (some (5, false)), .p (.bin .eql .s (.t 6) (.c (st ⟨#[33, 61]⟩)))⟩,
 ⟨(some 8), none, .p (.pick (.t 5) (.c (bl true)) (.t 7))⟩,
 ⟨(some 9), none, .p (.mov (.t 8))⟩,
 ⟨(some 10), (some (9, false)), .p (.mov (.t 0))⟩,
 ⟨(some 11), (some (9, false)), .p (.bin .eql .s (.t 10) (.c (st ⟨#[60, 61]⟩)))⟩,
 ⟨(some 12), none, .p (.pick (.t 9) (.c (bl true)) (.t 11))⟩,
 ⟨(some 13), none, .p (.mov (.t 12))⟩,
 ⟨(some 14), (some (13, false)), .p (.mov (.t 0))⟩,
 ⟨(some 15), (some (13, false)), .p (.bin .eql .s (.t 14) (.c (st ⟨#[62, 61]⟩)))⟩,
 ⟨(some 16), none, .p (.pick (.t 13) (.c (bl true)) (.t 15))⟩,
 ⟨(some 17), none, .p (.mov (.t 16))⟩,
 ⟨(some 18), (some (17, false)), .p (.mov (.t 0))⟩,
 ⟨(some 19), (some (17, false)), .p (.bin .eql .s (.t 18) (.c (st ⟨#[46, 46]⟩)))⟩,
 ⟨(some 20), none, .p (.pick (.t 17) (.c (bl true)) (.t 19))⟩,
 ⟨(some 2), none, .p (.mov (.t 20))⟩])
 .ret))
def r45 : List RS := [.t 2]
theorem c45 : chkF Tryd.prog drawB Tryd.f45 i45 r45 = true := by kernel_rfl
def l46_0 : IC := .keep [0, 3, 4]
 (.seq
 (.seq
 (.reg [
 ⟨(some 5), none, .p (.mov (.t 4))⟩,
 ⟨(some 6), none, .p (.mov (.t 3))⟩,
 ⟨(some 7), none, .p (.lens (.t 6))⟩,
 ⟨(some 8), none, .p (.bin .lss (.i .i64) (.t 5) (.t 7))⟩])
 (.cond (.t 8)
 .skip
 (.exit 0)))
 (.seq
 (.blk 1
 (.seq
 (.reg [
 ⟨(some 11), none, .p (.mov (.t 3))⟩,
 ⟨(some 12), none, .p (.mov (.t 4))⟩,
 ⟨(some 13), none, .p (.ixs (.t 11) (.t 12))⟩,
 ⟨(some 14), none, .p (.mov (.t 0))⟩,
 ⟨(some 15), none, .p (.bin .eql (.i .u8) (.t 13) (.t 14))⟩])
 (.cond (.t 15)
 (.seq
 (.reg [
 ⟨(some 2), none, .p (.mov (.c (bl true)))⟩])
 .ret)
 .skip)))
 (.reg [
 ⟨(some 9), none, .p (.mov (.t 4))⟩,
 ⟨(some 10), none, .p (.bin .add (.i .i64) (.t 9) (.c (i64 1)))⟩,
 ⟨(some 4), none, .p (.mov (.t 10))⟩])))
/-- parlour/parlourref06.single -/
def i46 : IC :=
 (.seq
 (.reg [
 ⟨(some 2), none, .p (.mov (.c (bl false)))⟩])
 (.seq
 (.reg [
 ⟨(some 3), none, .p (.mov (.c (st ⟨#[123, 125, 40, 41, 58, 59, 44, 43, 45, 42, 47, 37, 60, 62, 61]⟩)))⟩])
 (.seq
 (.seq
 (.reg [
 ⟨(some 4), none, .p (.mov (.c (i64 0)))⟩])
 (.blk 0
 (.loop l46_0)))
 (.seq
 (.reg [
 ⟨(some 2), none, .p (.mov (.c (bl false)))⟩])
 .ret))))
def r46 : List RS := [.t 2]
theorem c46 : chkF Tryd.prog drawB Tryd.f46 i46 r46 = true := by kernel_rfl
def rows : List (Option Row) := [none,
 none,
 none,
 some ⟨i3, r3, 1, false⟩,
 some ⟨i4, r4, 1, false⟩,
 some ⟨i5, r5, 2, false⟩,
 some ⟨i6, r6, 0, false⟩,
 some ⟨i7, r7, 1, false⟩,
 some ⟨i8, r8, 2, false⟩,
 some ⟨i9, r9, 2, false⟩,
 some ⟨i10, r10, 0, false⟩,
 some ⟨i11, r11, 1, false⟩,
 some ⟨i12, r12, 1, false⟩,
 some ⟨i13, r13, 1, false⟩,
 some ⟨i14, r14, 1, false⟩,
 some ⟨i15, r15, 1, false⟩,
 some ⟨i16, r16, 1, false⟩,
 some ⟨i17, r17, 1, false⟩,
 some ⟨i18, r18, 1, false⟩,
 some ⟨i19, r19, 2, false⟩,
 some ⟨i20, r20, 2, false⟩,
 some ⟨i21, r21, 2, false⟩,
 some ⟨i22, r22, 2, false⟩,
 some ⟨i23, r23, 3, false⟩,
 some ⟨i24, r24, 2, false⟩,
 some ⟨i25, r25, 3, false⟩,
 some ⟨i26, r26, 1, false⟩,
 some ⟨i27, r27, 1, false⟩,
 some ⟨i28, r28, 3, false⟩,
 some ⟨i29, r29, 3, false⟩,
 some ⟨i30, r30, 2, false⟩,
 some ⟨i31, r31, 1, false⟩,
 some ⟨i32, r32, 2, false⟩,
 none,
 some ⟨i34, r34, 1, false⟩,
 some ⟨i35, r35, 1, false⟩,
 none,
 none,
 some ⟨i38, r38, 2, true⟩,
 some ⟨i39, r39, 3, false⟩,
 some ⟨i40, r40, 2, false⟩,
 some ⟨i41, r41, 2, false⟩,
 some ⟨i42, r42, 2, false⟩,
 some ⟨i43, r43, 1, false⟩,
 some ⟨i44, r44, 1, false⟩,
 some ⟨i45, r45, 1, false⟩,
 some ⟨i46, r46, 1, false⟩,
 none,
 none,
 none,
 none,
 none,
 none,
 none,
 none,
 none,
 none,
 none,
 none,
 none,
 none,
 none,
 none,
 none,
 none,
 none,
 none,
 none,
 none,
 none,
 none,
 none,
 none,
 none,
 none,
 none,
 none,
 none,
 none,
 none,
 none,
 none,
 none,
 none,
 none,
 none,
 none,
 none,
 none,
 none,
 none,
 none,
 none,
 none,
 none,
 none,
 none,
 none,
 none,
 none,
 none,
 none,
 none,
 none,
 none,
 none,
 none,
 none,
 none,
 none,
 none,
 none,
 none,
 none,
 none,
 none,
 none]
theorem rows_ok : RowsOk Tryd.prog 0 rows :=
 rows_skip <|
 rows_skip <|
 rows_skip <|
 rows_cons ⟨Tryd.f3, Tryd.func3, c3, rfl⟩ <|
 rows_cons ⟨Tryd.f4, Tryd.func4, c4, rfl⟩ <|
 rows_cons ⟨Tryd.f5, Tryd.func5, c5, rfl⟩ <|
 rows_cons ⟨Tryd.f6, Tryd.func6, c6, rfl⟩ <|
 rows_cons ⟨Tryd.f7, Tryd.func7, c7, rfl⟩ <|
 rows_cons ⟨Tryd.f8, Tryd.func8, c8, rfl⟩ <|
 rows_cons ⟨Tryd.f9, Tryd.func9, c9, rfl⟩ <|
 rows_cons ⟨Tryd.f10, Tryd.func10, c10, rfl⟩ <|
 rows_cons ⟨Tryd.f11, Tryd.func11, c11, rfl⟩ <|
 rows_cons ⟨Tryd.f12, Tryd.func12, c12, rfl⟩ <|
 rows_cons ⟨Tryd.f13, Tryd.func13, c13, rfl⟩ <|
 rows_cons ⟨Tryd.f14, Tryd.func14, c14, rfl⟩ <|
 rows_cons ⟨Tryd.f15, Tryd.func15, c15, rfl⟩ <|
 rows_cons ⟨Tryd.f16, Tryd.func16, c16, rfl⟩ <|
 rows_cons ⟨Tryd.f17, Tryd.func17, c17, rfl⟩ <|
 rows_cons ⟨Tryd.f18, Tryd.func18, c18, rfl⟩ <|
 rows_cons ⟨Tryd.f19, Tryd.func19, c19, rfl⟩ <|
 rows_cons ⟨Tryd.f20, Tryd.func20, c20, rfl⟩ <|
 rows_cons ⟨Tryd.f21, Tryd.func21, c21, rfl⟩ <|
 rows_cons ⟨Tryd.f22, Tryd.func22, c22, rfl⟩ <|
 rows_cons ⟨Tryd.f23, Tryd.func23, c23, rfl⟩ <|
 rows_cons ⟨Tryd.f24, Tryd.func24, c24, rfl⟩ <|
 rows_cons ⟨Tryd.f25, Tryd.func25, c25, rfl⟩ <|
 rows_cons ⟨Tryd.f26, Tryd.func26, c26, rfl⟩ <|
 rows_cons ⟨Tryd.f27, Tryd.func27, c27, rfl⟩ <|
 rows_cons ⟨Tryd.f28, Tryd.func28, c28, rfl⟩ <|
 rows_cons ⟨Tryd.f29, Tryd.func29, c29, rfl⟩ <|
 rows_cons ⟨Tryd.f30, Tryd.func30, c30, rfl⟩ <|
 rows_cons ⟨Tryd.f31, Tryd.func31, c31, rfl⟩ <|
 rows_cons ⟨Tryd.f32, Tryd.func32, c32, rfl⟩ <|
 rows_skip <|
 rows_cons ⟨Tryd.f34, Tryd.func34, c34, rfl⟩ <|
 rows_cons ⟨Tryd.f35, Tryd.func35, c35, rfl⟩ <|
 rows_skip <|
 rows_skip <|
 rows_cons ⟨Tryd.f38, Tryd.func38, c38, rfl⟩ <|
 rows_cons ⟨Tryd.f39, Tryd.func39, c39, rfl⟩ <|
 rows_cons ⟨Tryd.f40, Tryd.func40, c40, rfl⟩ <|
 rows_cons ⟨Tryd.f41, Tryd.func41, c41, rfl⟩ <|
 rows_cons ⟨Tryd.f42, Tryd.func42, c42, rfl⟩ <|
 rows_cons ⟨Tryd.f43, Tryd.func43, c43, rfl⟩ <|
 rows_cons ⟨Tryd.f44, Tryd.func44, c44, rfl⟩ <|
 rows_cons ⟨Tryd.f45, Tryd.func45, c45, rfl⟩ <|
 rows_cons ⟨Tryd.f46, Tryd.func46, c46, rfl⟩ <|
 rows_skip <|
 rows_skip <|
 rows_skip <|
 rows_skip <|
 rows_skip <|
 rows_skip <|
 rows_skip <|
 rows_skip <|
 rows_skip <|
 rows_skip <|
 rows_skip <|
 rows_skip <|
 rows_skip <|
 rows_skip <|
 rows_skip <|
 rows_skip <|
 rows_skip <|
 rows_skip <|
 rows_skip <|
 rows_skip <|
 rows_skip <|
 rows_skip <|
 rows_skip <|
 rows_skip <|
 rows_skip <|
 rows_skip <|
 rows_skip <|
 rows_skip <|
 rows_skip <|
 rows_skip <|
 rows_skip <|
 rows_skip <|
 rows_skip <|
 rows_skip <|
 rows_skip <|
 rows_skip <|
 rows_skip <|
 rows_skip <|
 rows_skip <|
 rows_skip <|
 rows_skip <|
 rows_skip <|
 rows_skip <|
 rows_skip <|
 rows_skip <|
 rows_skip <|
 rows_skip <|
 rows_skip <|
 rows_skip <|
 rows_skip <|
 rows_skip <|
 rows_skip <|
 rows_skip <|
 rows_skip <|
 rows_skip <|
 rows_skip <|
 rows_skip <|
 rows_skip <|
 rows_skip <|
 rows_skip <|
 rows_skip <|
 rows_skip <|
 rows_skip <|
 rows_skip <|
 rows_skip <|
 rows_skip <|
 rows_skip <|
 rows_skip <|
 rows_skip <|
 rows_skip <|
 rows_nil
def rtL : List RT := [⟨37, [13, 14], ya15_0, yb15_0⟩,
 ⟨46, [28, 29], ya25_0, yb25_0⟩]
def rt : Nat → Option RT := fun k => rtL[k]?
theorem rt_ok : RtOk rt := rt_list ⟨⟨rng_nil rfl, rng_nil rfl, rfl⟩, ⟨rng_nil rfl, rng_nil rfl, rfl⟩, trivial⟩
theorem rngs_ok : RngsOk Tryd.prog rt 0 rows :=
 rngs_skip <|
 rngs_skip <|
 rngs_skip <|
 rngs_cons (rngs_one Tryd.func3 (rng_nil rfl)) <|
 rngs_cons (rngs_one Tryd.func4 (rng_nil rfl)) <|
 rngs_cons (rngs_one Tryd.func5 (rng_nil rfl)) <|
 rngs_cons (rngs_one Tryd.func6 (rng_nil rfl)) <|
 rngs_cons (rngs_one Tryd.func7 (rng_nil rfl)) <|
 rngs_cons (rngs_one Tryd.func8 (rng_nil rfl)) <|
 rngs_cons (rngs_one Tryd.func9 (rng_nil rfl)) <|
 rngs_cons (rngs_one Tryd.func10 (rng_nil rfl)) <|
 rngs_cons (rngs_one Tryd.func11 (rng_nil rfl)) <|
 rngs_cons (rngs_one Tryd.func12 (rng_nil rfl)) <|
 rngs_cons (rngs_one Tryd.func13 (rng_nil rfl)) <|
 rngs_cons (rngs_one Tryd.func14 (rng_nil rfl)) <|
 rngs_cons (rngs_one Tryd.func15 (rng_of [(0, [13, 14], ya15_0, yb15_0)] rfl ⟨rfl, trivial⟩)) <|
 rngs_cons (rngs_one Tryd.func16 (rng_nil rfl)) <|
 rngs_cons (rngs_one Tryd.func17 (rng_nil rfl)) <|
 rngs_cons (rngs_one Tryd.func18 (rng_nil rfl)) <|
 rngs_cons (rngs_one Tryd.func19 (rng_nil rfl)) <|
 rngs_cons (rngs_one Tryd.func20 (rng_nil rfl)) <|
 rngs_cons (rngs_one Tryd.func21 (rng_nil rfl)) <|
 rngs_cons (rngs_one Tryd.func22 (rng_nil rfl)) <|
 rngs_cons (rngs_one Tryd.func23 (rng_nil rfl)) <|
 rngs_cons (rngs_one Tryd.func24 (rng_nil rfl)) <|
 rngs_cons (rngs_one Tryd.func25 (rng_of [(1, [28, 29], ya25_0, yb25_0)] rfl ⟨rfl, trivial⟩)) <|
 rngs_cons (rngs_one Tryd.func26 (rng_nil rfl)) <|
 rngs_cons (rngs_one Tryd.func27 (rng_nil rfl)) <|
 rngs_cons (rngs_one Tryd.func28 (rng_nil rfl)) <|
 rngs_cons (rngs_one Tryd.func29 (rng_nil rfl)) <|
 rngs_cons (rngs_one Tryd.func30 (rng_nil rfl)) <|
 rngs_cons (rngs_one Tryd.func31 (rng_nil rfl)) <|
 rngs_cons (rngs_one Tryd.func32 (rng_nil rfl)) <|
 rngs_skip <|
 rngs_cons (rngs_one Tryd.func34 (rng_nil rfl)) <|
 rngs_cons (rngs_one Tryd.func35 (rng_nil rfl)) <|
 rngs_skip <|
 rngs_skip <|
 rngs_cons (rngs_one Tryd.func38 (rng_nil rfl)) <|
 rngs_cons (rngs_one Tryd.func39 (rng_nil rfl)) <|
 rngs_cons (rngs_one Tryd.func40 (rng_nil rfl)) <|
 rngs_cons (rngs_one Tryd.func41 (rng_nil rfl)) <|
 rngs_cons (rngs_one Tryd.func42 (rng_nil rfl)) <|
 rngs_cons (rngs_one Tryd.func43 (rng_nil rfl)) <|
 rngs_cons (rngs_one Tryd.func44 (rng_nil rfl)) <|
 rngs_cons (rngs_one Tryd.func45 (rng_nil rfl)) <|
 rngs_cons (rngs_one Tryd.func46 (rng_nil rfl)) <|
 rngs_skip <|
 rngs_skip <|
 rngs_skip <|
 rngs_skip <|
 rngs_skip <|
 rngs_skip <|
 rngs_skip <|
 rngs_skip <|
 rngs_skip <|
 rngs_skip <|
 rngs_skip <|
 rngs_skip <|
 rngs_skip <|
 rngs_skip <|
 rngs_skip <|
 rngs_skip <|
 rngs_skip <|
 rngs_skip <|
 rngs_skip <|
 rngs_skip <|
 rngs_skip <|
 rngs_skip <|
 rngs_skip <|
 rngs_skip <|
 rngs_skip <|
 rngs_skip <|
 rngs_skip <|
 rngs_skip <|
 rngs_skip <|
 rngs_skip <|
 rngs_skip <|
 rngs_skip <|
 rngs_skip <|
 rngs_skip <|
 rngs_skip <|
 rngs_skip <|
 rngs_skip <|
 rngs_skip <|
 rngs_skip <|
 rngs_skip <|
 rngs_skip <|
 rngs_skip <|
 rngs_skip <|
 rngs_skip <|
 rngs_skip <|
 rngs_skip <|
 rngs_skip <|
 rngs_skip <|
 rngs_skip <|
 rngs_skip <|
 rngs_skip <|
 rngs_skip <|
 rngs_skip <|
 rngs_skip <|
 rngs_skip <|
 rngs_skip <|
 rngs_skip <|
 rngs_skip <|
 rngs_skip <|
 rngs_skip <|
 rngs_skip <|
 rngs_skip <|
 rngs_skip <|
 rngs_skip <|
 rngs_skip <|
 rngs_skip <|
 rngs_skip <|
 rngs_skip <|
 rngs_skip <|
 rngs_skip <|
 rngs_nil
end Go.Proofs.YtjbhokoihamhiaaDoor
