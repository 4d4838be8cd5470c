/-
  Steps of the proof: contracts of functions and plain facts that the statement rests on.
-/
import Derived.Test.YthmdmnfojbnobaaGreatDoorG0
set_option linter.all false
namespace Go.Proofs.YthmdmnfojbnobaaGreatDoor
open Go.Ab
abbrev iP (n : Nat) (i : I) : Ins := ⟨some n, none, .p i⟩
abbrev iM (n m : Nat) : Ins := ⟨some n, none, .p (.mov (.t m))⟩
abbrev iF (n k m : Nat) : Ins := ⟨some n, none, .p (.fa k (.t m))⟩
abbrev iL (n m : Nat) : Ins := ⟨some n, none, .p (.ld1 (.t m))⟩
abbrev iC (n f : Nat) (l : List Od) : Ins := ⟨some n, none, .e (.call (.c (.fn (.func f) [] [])) l)⟩
abbrev iE (n : Nat) (e : E) : Ins := ⟨some n, none, .e e⟩
abbrev iG (n g : Nat) (b : Bool) (i : I) : Ins := ⟨some n, some (g, b), .p i⟩
def l4_1 : IC := .keep [5, 6, 8, 9, 10]
 (.seq
 (.seq
 (.reg [
 iM 77 10,
 iF 78 3 6,
 iL 79 78,
 iM 80 9,
 iP 81 (.ia 12 (.t 79) (.t 80)),
 iF 82 9 81,
 iL 83 82,
 iP 84 (.len (.t 83)),
 iP 85 (.bin .lss (.i .i64) (.t 77) (.t 84))])
 (.cond (.t 85)
 .skip
 (.exit 2)))
 (.seq
 (.blk 3
 (.seq
 (.reg [
 iP 89 (.ldn 4 (.t 6)),
 iM 90 9,
 iM 91 10,
 iC 92 8 [.t 89, .t 90, .t 91],
 iM 88 92,
 iP 93 (.ext (.t 88) 0),
 iP 94 (.ext (.t 88) 1),
 iM 11 93,
 iM 12 94])
 (.seq
 (.reg [
 iP 96 (.ldn 4 (.t 8)),
 iM 97 9,
 iP 98 (.bin .add (.i .i64) (.t 97) (.c (i64 1))),
 iM 99 10,
 iC 100 8 [.t 96, .t 98, .t 99],
 iM 95 100,
 iP 101 (.ext (.t 95) 0),
 iP 102 (.ext (.t 95) 1),
 iM 13 101,
 iM 14 102])
 (.seq
 (.reg [
 iM 103 12,
 iP 104 (.bin .neq (.i .i64) (.t 103) (.c (i64 0))),
 iM 105 104,
 iG 106 105 false (.mov (.t 14)),
 iG 107 105 false (.bin .neq (.i .i64) (.t 106) (.c (i64 0))),
 iP 108 (.pick (.t 105) (.c (bl true)) (.t 107)),
 iM 109 108,
 iG 110 109 false (.mov (.t 13)),
 iG 111 109 false (.mov (.t 11)),
 iG 112 109 false (.bin .add (.i .i64) (.t 111) (.c (i64 1))),
 iG 113 109 false (.bin .neq (.i .i64) (.t 110) (.t 112)),
 iP 114 (.pick (.t 109) (.c (bl true)) (.t 113)),
 iM 115 114,
 iG 116 115 false (.mov (.t 11)),
 iG 117 115 false (.mov (.t 9)),
 iG 118 115 false (.bin .leq (.i .i64) (.t 116) (.t 117)),
 iP 119 (.pick (.t 115) (.c (bl true)) (.t 118)),
 iM 120 119,
 iG 121 120 false (.mov (.t 11)),
 iG 122 120 false (.fa 3 (.t 6)),
 iG 123 120 false (.ld1 (.t 122)),
 iG 124 120 false (.len (.t 123)),
 iG 125 120 false (.bin .geq (.i .i64) (.t 121) (.t 124)),
 iP 126 (.pick (.t 120) (.c (bl true)) (.t 125))])
 (.cond (.t 126)
 (.seq
 (.reg [
 iP 4 (.mov (.c (bl false)))])
 .ret)
 .skip)))))
 (.reg [
 iM 86 10,
 iP 87 (.bin .add (.i .i64) (.t 86) (.c (i64 1))),
 iM 10 87])))
def l4_0 : IC := .keep [5, 6, 8, 9]
 (.seq
 (.seq
 (.reg [
 iM 70 9,
 iF 71 3 6,
 iL 72 71,
 iP 73 (.len (.t 72)),
 iP 74 (.bin .lss (.i .i64) (.t 70) (.t 73))])
 (.cond (.t 74)
 .skip
 (.exit 0)))
 (.seq
 (.blk 1
 (.seq
 (.reg [
 iP 10 (.mov (.c (i64 0)))])
 (.blk 2
 (.loop l4_1))))
 (.reg [
 iM 75 9,
 iP 76 (.bin .add (.i .i64) (.t 75) (.c (i64 1))),
 iM 9 76])))
def i4 : IC :=
 (.seq
 (.reg [
 iP 4 (.mov (.c (bl false)))])
 (.seq
 (.reg [
 iC 15 15 [],
 iM 5 15])
 (.seq
 (.seq
 (.reg [
 iM 16 0,
 iP 17 (.len (.t 16)),
 iP 18 (.bin .gtr (.i .i64) (.t 17) (.c (i64 100)))])
 (.cond (.t 18)
 (.seq
 (.reg [
 iM 19 5,
 iM 4 19])
 .ret)
 .skip))
 (.seq
 (.reg [
 iM 20 0,
 iC 21 17 [.t 20],
 iC 22 16 [.t 21],
 iE 6 (.alc 25 [st ⟨#[]⟩, i64 0, .val (.slice none 0 0), .val (.slice none 0 0)]),
 ⟨none, none, .e (.st 4 (.t 6) (.t 22))⟩])
 (.seq
 (.reg [
 iE 23 (.bsl 9 1 2 [st ⟨#[]⟩] [(0, (.c (st ⟨#[103, 97, 109, 101, 32, 102, 59, 32, 112, 108, 97, 121, 101, 114, 115, 32, 49, 59, 32, 118, 97, 114, 32, 118, 48, 32, 61, 32, 48, 59, 32, 100, 101, 97, 108, 32, 118, 48, 32, 105, 110, 32, 50, 32, 46, 46, 32, 52, 32, 115, 101, 101, 110, 32, 98, 121, 32, 48, 59, 32, 101, 110, 100, 32, 123, 32, 112, 97, 121, 32, 48, 59, 32, 125]⟩))), (1, (.c (st ⟨#[103, 97, 109, 101, 32, 102, 59, 32, 112, 108, 97, 121, 101, 114, 115, 32, 49, 59, 32, 116, 117, 114, 110, 32, 48, 32, 123, 32, 97, 99, 116, 105, 111, 110, 32, 97, 32, 123, 32, 125, 32, 97, 99, 116, 105, 111, 110, 32, 98, 32, 119, 104, 101, 110, 32, 49, 32, 60, 32, 50, 32, 104, 105, 100, 100, 101, 110, 32, 123, 32, 118, 48, 32, 61, 32, 51, 59, 32, 125, 32, 125, 32, 101, 110, 100, 32, 123, 32, 112, 97, 121, 32, 48, 59, 32, 125]⟩)))]),
 iM 24 1,
 iC 25 18 [.t 24, (.c (i64 2))],
 iP 26 (.ia 1 (.t 23) (.t 25)),
 iL 27 26,
 iC 28 16 [.t 27],
 iE 7 (.alc 25 [st ⟨#[]⟩, i64 0, .val (.slice none 0 0), .val (.slice none 0 0)]),
 ⟨none, none, .e (.st 4 (.t 7) (.t 28))⟩])
 (.seq
 (.seq
 (.reg [
 iP 29 (.ldn 4 (.t 6)),
 iC 30 10 [.t 29],
 iP 31 (.bld [i64 0, i64 0] []),
 iP 32 (.eqf true [.i .i64, .i .i64] (.t 30) (.t 31)),
 iM 33 32,
 iG 34 33 false (.fa 3 (.t 7)),
 iG 35 33 false (.ld1 (.t 34)),
 iG 36 33 false (.len (.t 35)),
 iG 37 33 false (.bin .neq (.i .i64) (.t 36) (.c (i64 2))),
 iP 38 (.pick (.t 33) (.c (bl true)) (.t 37))])
 (.cond (.t 38)
 (.seq
 (.reg [
 iP 4 (.mov (.c (bl false)))])
 .ret)
 .skip))
 (.seq
 (.reg [
 iP 39 (.ldn 4 (.t 6)),
 iE 8 (.alc 25 [st ⟨#[]⟩, i64 0, .val (.slice none 0 0), .val (.slice none 0 0)]),
 ⟨none, none, .e (.st 4 (.t 8) (.t 39))⟩])
 (.seq
 (.drw [0, 1, 2, 3, 5, 6, 4, 7, 8, 9] [
 iF 40 3 7,
 iL 41 40,
 iP 42 (.ia 12 (.t 41) (.c (i64 0))),
 iP 43 (.ldn 12 (.t 42)),
 iF 45 3 6,
 iL 46 45,
 iE 44 (.bsl 45 12 1 [i64 0, st ⟨#[]⟩, st ⟨#[]⟩, i64 0, i64 0, .val (.slice none 0 0), bl false, .val (.slice none 0 0), .val (.slice none 0 0), .val (.slice none 0 0), .val (.slice none 0 0), i64 0] [(0, (.t 43))]),
 iE 47 (.app 45 12 192 (.t 44) (.t 46)),
 iF 48 3 8,
 ⟨none, none, .e (.stw [46, 43, 41] 1 (.t 48) (.t 47))⟩])
 (.seq
 (.seq
 (.drw [0, 1, 2, 3, 4, 5, 6, 7, 8, 9, 10, 11, 12, 13, 14, 15, 16, 17, 18, 19, 20] [
 iP 49 (.ldn 4 (.t 8)),
 ⟨(some 50), none, .q (.c (.fn (.func 10) [] [])) [(.t 49)]⟩,
 iP 51 (.bld [i64 0, i64 0] []),
 iP 52 (.eqf true [.i .i64, .i .i64] (.t 50) (.t 51)),
 iM 53 52,
 iG 54 53 false (.ldn 4 (.t 8)),
 ⟨(some 55), (some (53, false)), .q (.c (.fn (.func 13) [] [])) [(.t 54)]⟩,
 iG 56 53 false (.ldn 4 (.t 6)),
 ⟨(some 57), (some (53, false)), .q (.c (.fn (.func 13) [] [])) [(.t 56)]⟩,
 ⟨(some 58), (some (53, false)), .q (.c (.fn (.func 12) [] [])) [(.t 55), (.t 57)]⟩,
 iG 59 53 false (.not (.t 58)),
 iP 60 (.pick (.t 53) (.c (bl true)) (.t 59)),
 iM 61 60,
 iG 62 61 false (.ldn 4 (.t 6)),
 ⟨(some 63), (some (61, false)), .q (.c (.fn (.func 13) [] [])) [(.t 62)]⟩,
 iG 64 61 false (.len (.t 63)),
 iG 65 61 false (.fa 2 (.t 6)),
 iG 66 61 false (.ld1 (.t 65)),
 iG 67 61 false (.len (.t 66)),
 iG 68 61 false (.bin .neq (.i .i64) (.t 64) (.t 67)),
 iP 69 (.pick (.t 61) (.c (bl true)) (.t 68))])
 (.cond (.t 69)
 (.seq
 (.reg [
 iP 4 (.mov (.c (bl false)))])
 .ret)
 .skip))
 (.seq
 (.seq
 (.reg [
 iP 9 (.mov (.c (i64 0)))])
 (.blk 0
 (.loop l4_0)))
 (.seq
 (.reg [
 iM 127 5,
 iM 4 127])
 .ret)))))))))))
def r4 : List RS := [.t 4]
theorem c4 : chkF Tryz.prog drawB Tryz.f4 i4 r4 = true := by kernel_rfl
def i7 : IC :=
 (.seq
 (.reg [
 iP 0 (.mov (.c (bl false)))])
 (.seq
 (.reg [
 iC 1 21 [(.c (st ⟨#[49, 32, 43, 32, 120]⟩)), (.c (i64 1)), (.c (i64 0)), (.c (i64 0))],
 iM 2 1,
 ⟨(some 3), (some (2, true)), .q (.c (.fn (.func 21) [] [])) [(.c (st ⟨#[120, 32, 60, 32, 50, 32, 97, 110, 100, 32, 110, 111, 116, 32, 120, 32, 61, 61, 32, 49]⟩)), (.c (i64 2)), (.c (i64 0)), (.c (i64 0))]⟩,
 iP 4 (.pick (.t 2) (.t 3) (.c (bl false))),
 iM 5 4,
 ⟨(some 6), (some (5, true)), .q (.c (.fn (.func 16) [] [])) [(.c (st ⟨#[103, 97, 109, 101, 32, 103, 59, 32, 112, 108, 97, 121, 101, 114, 115, 32, 53, 59, 32, 101, 110, 100, 32, 123, 32, 112, 97, 121, 32, 49, 59, 32, 125]⟩))]⟩,
 ⟨(some 7), (some (5, true)), .q (.c (.fn (.func 10) [] [])) [(.t 6)]⟩,
 iG 8 5 true (.bld [i64 0, i64 0] [(0, 1, (.c (i64 2)))]),
 iG 9 5 true (.eqf false [.i .i64, .i .i64] (.t 7) (.t 8)),
 iP 10 (.pick (.t 5) (.t 9) (.c (bl false))),
 iM 0 10])
 .ret))
def r7 : List RS := [.t 0]
theorem c7 : chkF Tryz.prog drawB Tryz.f7 i7 r7 = true := by kernel_rfl
def i8 : IC :=
 (.seq
 (.reg [
 iE 3 (.box 25 (.t 0)),
 iP 6 (.mov (.c (i64 0))),
 iP 7 (.mov (.c (i64 0)))])
 (.seq
 (.seq
 (.reg [
 iM 12 1,
 iP 13 (.bin .lss (.i .i64) (.t 12) (.c (i64 0))),
 iM 14 13,
 iG 15 14 false (.mov (.t 1)),
 iG 16 14 false (.fa 3 (.t 3)),
 iG 17 14 false (.ld1 (.t 16)),
 iG 18 14 false (.len (.t 17)),
 iG 19 14 false (.bin .geq (.i .i64) (.t 15) (.t 18)),
 iP 20 (.pick (.t 14) (.c (bl true)) (.t 19)),
 iM 21 20,
 iG 22 21 false (.fa 3 (.t 3)),
 iG 23 21 false (.ld1 (.t 22)),
 iG 24 21 false (.mov (.t 1)),
 iG 25 21 false (.ia 12 (.t 23) (.t 24)),
 iG 26 21 false (.fa 0 (.t 25)),
 iG 27 21 false (.ld1 (.t 26)),
 iG 28 21 false (.bin .neq (.i .i64) (.t 27) (.c (i64 2))),
 iP 29 (.pick (.t 21) (.c (bl true)) (.t 28))])
 (.cond (.t 29)
 (.seq
 (.reg [
 iP 6 (.mov (.c (i64 0))),
 iP 7 (.mov (.c (i64 2)))])
 .ret)
 .skip))
 (.seq
 (.reg [
 iF 30 3 3,
 iL 31 30,
 iM 32 1,
 iP 33 (.ia 12 (.t 31) (.t 32)),
 iP 34 (.ldn 12 (.t 33)),
 iE 8 (.alc 45 [i64 0, st ⟨#[]⟩, st ⟨#[]⟩, i64 0, i64 0, .val (.slice none 0 0), bl false, .val (.slice none 0 0), .val (.slice none 0 0), .val (.slice none 0 0), .val (.slice none 0 0), i64 0]),
 ⟨none, none, .e (.st 12 (.t 8) (.t 34))⟩])
 (.seq
 (.seq
 (.reg [
 iM 35 2,
 iP 36 (.bin .lss (.i .i64) (.t 35) (.c (i64 0))),
 iM 37 36,
 iG 38 37 false (.mov (.t 2)),
 iG 39 37 false (.fa 9 (.t 8)),
 iG 40 37 false (.ld1 (.t 39)),
 iG 41 37 false (.len (.t 40)),
 iG 42 37 false (.bin .geq (.i .i64) (.t 38) (.t 41)),
 iP 43 (.pick (.t 37) (.c (bl true)) (.t 42))])
 (.cond (.t 43)
 (.seq
 (.reg [
 iP 6 (.mov (.c (i64 0))),
 iP 7 (.mov (.c (i64 2)))])
 .ret)
 .skip))
 (.seq
 (.reg [
 iF 44 9 8,
 iL 45 44,
 iM 46 2,
 iP 47 (.ia 6 (.t 45) (.t 46)),
 iF 48 4 47,
 iL 49 48,
 iM 9 49])
 (.seq
 (.seq
 (.reg [
 iM 50 9,
 iP 51 (.bin .eql .s (.t 50) (.c (st ⟨#[]⟩)))])
 (.cond (.t 51)
 (.seq
 (.reg [
 iM 52 1,
 iP 53 (.bin .add (.i .i64) (.t 52) (.c (i64 1))),
 iM 6 53,
 iP 7 (.mov (.c (i64 0)))])
 .ret)
 .skip))
 (.seq
 (.reg [
 iF 54 3 3,
 iL 55 54,
 iP 56 (.mkf (.func 22) [(.t 55)] []),
 iM 10 56])
 (.seq
 (.seq
 (.reg [
 iM 57 10,
 iM 58 9,
 iE 59 (.call (.t 57) [(.t 58)]),
 iM 11 59])
 (.seq
 (.reg [
 iM 60 11,
 iP 61 (.bin .geq (.i .i64) (.t 60) (.c (i64 0)))])
 (.cond (.t 61)
 (.seq
 (.reg [
 iM 62 11,
 iM 6 62,
 iP 7 (.mov (.c (i64 0)))])
 .ret)
 .skip)))
 (.seq
 (.reg [
 iP 6 (.mov (.c (i64 0))),
 iP 7 (.mov (.c (i64 7)))])
 .ret)))))))))
def r8 : List RS := [.t 6, .t 7]
theorem c8 : chkF Tryz.prog drawB Tryz.f8 i8 r8 = true := by kernel_rfl
def i10 : IC :=
 (.seq
 (.reg [
 iE 1 (.box 25 (.t 0)),
 iE 2 (.alc 32 [i64 0, i64 0])])
 (.seq
 (.drw [0, 1, 2, 3, 4, 5, 6] [
 iP 5 (.ldn 4 (.t 1)),
 ⟨(some 6), none, .q (.c (.fn (.func 13) [] [])) [(.t 5)]⟩,
 ⟨(some 7), none, .q (.c (.fn (.func 24) [] [])) [(.t 6)]⟩,
 iP 8 (.ldn 4 (.t 1)),
 iP 9 (.bld [.val (.map none), .val (.map none), st ⟨#[]⟩, i64 0, .val (.slice none 0 0), .val (.slice none 0 0), .val .nilFunc] [(0, 2, (.t 7)), (2, 4, (.t 8))]),
 iE 10 (.box 68 (.t 9)),
 iM 3 10])
 (.seq
 (.reg [
 iM 11 3,
 iF 12 3 1,
 iL 13 12,
 iP 14 (.mkf (.func 22) [(.t 13)] []),
 iP 15 (.nck (.t 11)),
 iF 16 6 15,
 ⟨none, none, .e (.st 1 (.t 16) (.t 14))⟩])
 (.seq
 (.seq
 (.reg [
 iM 17 3,
 iP 18 (.mkf (.func 26) [(.t 17)] []),
 iM 19 3,
 iP 20 (.mkf (.func 27) [(.t 19)] []),
 iM 21 3,
 iP 22 (.mkf (.func 28) [(.t 21)] []),
 iM 23 3,
 iP 24 (.mkf (.func 29) [(.t 23)] []),
 iM 25 3,
 iP 26 (.mkf (.func 30) [(.t 25)] []),
 iE 27 (.bsl 72 1 5 [.val .nilFunc] [(0, (.t 18)), (1, (.t 20)), (2, (.t 22)), (3, (.t 24)), (4, (.t 26))]),
 iC 28 25 [.t 27],
 iM 4 28])
 (.seq
 (.reg [
 iM 29 4,
 iP 30 (.ifn true true (.t 29))])
 (.cond (.t 30)
 (.seq
 (.reg [
 iM 31 4,
 iC 32 31 [.t 31],
 ⟨none, none, .e (.st 2 (.t 2) (.t 32))⟩])
 .ret)
 .skip)))
 (.seq
 (.reg [
 iP 33 (.bld [i64 0, i64 0] []),
 ⟨none, none, .e (.st 2 (.t 2) (.t 33))⟩])
 .ret)))))
def r10 : List RS := [.cn 2 2]
theorem c10 : chkF Tryz.prog drawB Tryz.f10 i10 r10 = true := by kernel_rfl
def l12_0 : IC := .keep [0, 1, 5]
 (.seq
 (.seq
 (.reg [
 iM 11 5,
 iM 12 0,
 iP 13 (.len (.t 12)),
 iP 14 (.bin .lss (.i .i64) (.t 11) (.t 13))])
 (.cond (.t 14)
 .skip
 (.exit 0)))
 (.seq
 (.blk 1
 (.seq
 (.drw [0, 1, 2, 3, 4, 5, 6, 7, 8] [
 iM 17 0,
 iM 18 5,
 iP 19 (.ia 1 (.t 17) (.t 18)),
 iL 20 19,
 iM 21 1,
 iM 22 5,
 iP 23 (.ia 1 (.t 21) (.t 22)),
 iL 24 23,
 iP 25 (.bin .neq .s (.t 20) (.t 24))])
 (.cond (.t 25)
 (.seq
 (.reg [
 iP 4 (.mov (.c (bl false)))])
 .ret)
 .skip)))
 (.reg [
 iM 15 5,
 iP 16 (.bin .add (.i .i64) (.t 15) (.c (i64 1))),
 iM 5 16])))
def i12 : IC :=
 (.seq
 (.reg [
 iP 4 (.mov (.c (bl false)))])
 (.seq
 (.seq
 (.reg [
 iM 6 0,
 iP 7 (.len (.t 6)),
 iM 8 1,
 iP 9 (.len (.t 8)),
 iP 10 (.bin .neq (.i .i64) (.t 7) (.t 9))])
 (.cond (.t 10)
 (.seq
 (.reg [
 iP 4 (.mov (.c (bl false)))])
 .ret)
 .skip))
 (.seq
 (.seq
 (.reg [
 iP 5 (.mov (.c (i64 0)))])
 (.blk 0
 (.loop l12_0)))
 (.seq
 (.reg [
 iP 4 (.mov (.c (bl true)))])
 .ret))))
def r12 : List RS := [.t 4]
theorem c12 : chkF Tryz.prog drawB Tryz.f12 i12 r12 = true := by kernel_rfl
def l13_0 : IC := .keep [3, 11, 12, 13]
 (.seq
 (.reg [
 iP 14 (.bin .lss (.i .i64) (.t 13) (.t 12))])
 (.seq
 (.cond (.t 14)
 .skip
 (.exit 0))
 (.seq
 (.blk 1
 (.seq
 (.reg [
 iP 15 (.ia 3 (.t 11) (.t 13)),
 iP 16 (.ldn 3 (.t 15)),
 iE 5 (.alc 77 [st ⟨#[]⟩, i64 0, i64 0]),
 ⟨none, none, .e (.st 3 (.t 5) (.t 16))⟩])
 (.reg [
 iM 17 3,
 iF 18 0 5,
 iL 19 18,
 iE 20 (.bsl 9 1 1 [st ⟨#[]⟩] [(0, (.t 19))]),
 iE 21 (.app 9 1 16 (.t 17) (.t 20)),
 iM 3 21])))
 (.reg [
 iP 22 (.bin .add (.i .i64) (.t 13) (.c (i64 1))),
 iM 13 22]))))
def i13 : IC :=
 (.seq
 (.reg [
 iE 1 (.box 25 (.t 0)),
 iP 2 (.mov (.c (.val (.slice none 0 0))))])
 (.seq
 (.reg [
 iF 6 2 1,
 iL 7 6,
 iP 8 (.len (.t 7)),
 iE 9 (.mks 9 1 16 [st ⟨#[]⟩] (.c (i64 0)) (.t 8)),
 iM 3 9])
 (.seq
 (.seq
 (.reg [
 iF 10 2 1,
 iL 11 10,
 iP 12 (.len (.t 11)),
 iP 13 (.mov (.c (i64 0)))])
 (.blk 0
 (.loop l13_0)))
 (.seq
 (.reg [
 iM 23 3,
 iM 2 23])
 .ret))))
def r13 : List RS := [.t 2]
theorem c13 : chkF Tryz.prog drawB Tryz.f13 i13 r13 = true := by kernel_rfl
def i15 : IC :=
 (.seq
 (.reg [
 iP 0 (.mov (.c (bl false)))])
 (.seq
 (.reg [
 iC 5 21 [(.c (st ⟨#[105, 102, 40, 120, 32, 60, 32, 49, 44, 32, 50, 44, 32, 120, 41]⟩)), (.c (i64 1)), (.c (i64 0)), (.c (i64 0))],
 iM 6 5,
 ⟨(some 7), (some (6, true)), .q (.c (.fn (.func 21) [] [])) [(.c (st ⟨#[121]⟩)), (.c (i64 0)), (.c (i64 7)), (.c (i64 0))]⟩,
 iP 8 (.pick (.t 6) (.t 7) (.c (bl false))),
 iM 9 8,
 ⟨(some 10), (some (9, true)), .q (.c (.fn (.func 21) [] [])) [(.c (st ⟨#[49, 32, 43, 32, 40, 120, 32, 60, 32, 50, 41]⟩)), (.c (i64 0)), (.c (i64 10)), (.c (i64 7))]⟩,
 iP 11 (.pick (.t 9) (.t 10) (.c (bl false))),
 iM 12 11,
 ⟨(some 13), (some (12, true)), .q (.c (.fn (.func 21) [] [])) [(.c (st ⟨#[105, 102, 40, 49, 44, 32, 50, 44, 32, 51, 41]⟩)), (.c (i64 0)), (.c (i64 10)), (.c (i64 3))]⟩,
 iP 14 (.pick (.t 12) (.t 13) (.c (bl false))),
 iM 15 14,
 ⟨(some 16), (some (15, true)), .q (.c (.fn (.func 21) [] [])) [(.c (st ⟨#[105, 102, 40, 120, 32, 60, 32, 49, 44, 32, 50, 44, 32, 120, 32, 60, 32, 51, 41]⟩)), (.c (i64 0)), (.c (i64 10)), (.c (i64 15))]⟩,
 iP 17 (.pick (.t 15) (.t 16) (.c (bl false))),
 iM 1 17])
 (.seq
 (.reg [
 iC 18 16 [(.c (st ⟨#[103, 97, 109, 101, 32, 103, 59, 32, 112, 108, 97, 121, 101, 114, 115, 32, 50, 59, 32, 101, 110, 100, 32, 123, 32, 112, 97, 121, 32, 49, 44, 32, 50, 59, 32, 125]⟩))],
 iC 19 10 [.t 18],
 iP 20 (.bld [i64 0, i64 0] []),
 iP 21 (.eqf false [.i .i64, .i .i64] (.t 19) (.t 20)),
 iM 22 21,
 ⟨(some 23), (some (22, true)), .q (.c (.fn (.func 16) [] [])) [(.c (st ⟨#[103, 97, 109, 101, 32, 103, 59, 32, 112, 108, 97, 121, 101, 114, 115, 32, 50, 59, 32, 101, 110, 100, 32, 123, 32, 112, 97, 121, 32, 49, 59, 32, 125]⟩))]⟩,
 ⟨(some 24), (some (22, true)), .q (.c (.fn (.func 10) [] [])) [(.t 23)]⟩,
 iG 25 22 true (.bld [i64 0, i64 0] [(0, 1, (.c (i64 3))), (1, 1, (.c (i64 19)))]),
 iG 26 22 true (.eqf false [.i .i64, .i .i64] (.t 24) (.t 25)),
 iP 27 (.pick (.t 22) (.t 26) (.c (bl false))),
 iM 28 27,
 ⟨(some 29), (some (28, true)), .q (.c (.fn (.func 16) [] [])) [(.c (st ⟨#[103, 97, 109, 101, 32, 103, 59, 32, 112, 108, 97, 121, 101, 114, 115, 32, 50, 59, 32, 101, 110, 100, 32, 123, 32, 112, 97, 121, 32, 49, 44, 32, 49, 32, 60, 32, 50, 59, 32, 125]⟩))]⟩,
 ⟨(some 30), (some (28, true)), .q (.c (.fn (.func 10) [] [])) [(.t 29)]⟩,
 iG 31 28 true (.bld [i64 0, i64 0] [(0, 1, (.c (i64 10))), (1, 1, (.c (i64 34)))]),
 iG 32 28 true (.eqf false [.i .i64, .i .i64] (.t 30) (.t 31)),
 iP 33 (.pick (.t 28) (.t 32) (.c (bl false))),
 iM 2 33])
 (.seq
 (.reg [
 iC 34 16 [(.c (st ⟨#[103, 97, 109, 101, 32, 103, 59, 32, 112, 108, 97, 121, 101, 114, 115, 32, 49, 59, 32, 97, 58, 32, 116, 117, 114, 110, 32, 48, 32, 123, 32, 97, 99, 116, 105, 111, 110, 32, 108, 32, 123, 32, 125, 32, 103, 111, 116, 111, 32, 97, 59, 32, 125, 32, 101, 110, 100, 32, 123, 32, 112, 97, 121, 32, 48, 59, 32, 125]⟩))],
 iC 35 10 [.t 34],
 iP 36 (.bld [i64 0, i64 0] [(0, 1, (.c (i64 9))), (1, 1, (.c (i64 31)))]),
 iP 37 (.eqf false [.i .i64, .i .i64] (.t 35) (.t 36)),
 iM 38 37,
 ⟨(some 39), (some (38, true)), .q (.c (.fn (.func 16) [] [])) [(.c (st ⟨#[103, 97, 109, 101, 32, 103, 59, 32, 112, 108, 97, 121, 101, 114, 115, 32, 49, 59, 32, 116, 117, 114, 110, 32, 48, 32, 123, 32, 97, 99, 116, 105, 111, 110, 32, 108, 32, 123, 32, 125, 32, 97, 99, 116, 105, 111, 110, 32, 108, 32, 123, 32, 125, 32, 125, 32, 101, 110, 100, 32, 123, 32, 112, 97, 121, 32, 48, 59, 32, 125]⟩))]⟩,
 ⟨(some 40), (some (38, true)), .q (.c (.fn (.func 10) [] [])) [(.t 39)]⟩,
 iG 41 38 true (.bld [i64 0, i64 0] [(0, 1, (.c (i64 8))), (1, 1, (.c (i64 41)))]),
 iG 42 38 true (.eqf false [.i .i64, .i .i64] (.t 40) (.t 41)),
 iP 43 (.pick (.t 38) (.t 42) (.c (bl false))),
 iM 44 43,
 ⟨(some 45), (some (44, true)), .q (.c (.fn (.func 16) [] [])) [(.c (st ⟨#[103, 97, 109, 101, 32, 103, 59, 32, 112, 108, 97, 121, 101, 114, 115, 32, 49, 59, 32, 116, 117, 114, 110, 32, 48, 32, 123, 32, 97, 99, 116, 105, 111, 110, 32, 108, 32, 123, 32, 125, 32, 125]⟩))]⟩,
 ⟨(some 46), (some (44, true)), .q (.c (.fn (.func 10) [] [])) [(.t 45)]⟩,
 iG 47 44 true (.bld [i64 0, i64 0] [(0, 1, (.c (i64 3))), (1, 1, (.c (i64 19)))]),
 iG 48 44 true (.eqf false [.i .i64, .i .i64] (.t 46) (.t 47)),
 iP 49 (.pick (.t 44) (.t 48) (.c (bl false))),
 iM 3 49])
 (.seq
 (.reg [
 iC 50 16 [(.c (st ⟨#[103, 97, 109, 101, 32, 103, 59, 32, 112, 108, 97, 121, 101, 114, 115, 32, 49, 59, 32, 118, 97, 114, 32, 120, 32, 61, 32, 48, 59, 32, 100, 101, 97, 108, 32, 120, 32, 105, 110, 32, 48, 32, 46, 46, 32, 53, 57, 59, 32, 101, 110, 100, 32, 123, 32, 112, 97, 121, 32, 48, 59, 32, 125]⟩))],
 iC 51 10 [.t 50],
 iP 52 (.bld [i64 0, i64 0] []),
 iP 53 (.eqf false [.i .i64, .i .i64] (.t 51) (.t 52)),
 iM 54 53,
 ⟨(some 55), (some (54, true)), .q (.c (.fn (.func 16) [] [])) [(.c (st ⟨#[103, 97, 109, 101, 32, 103, 59, 32, 112, 108, 97, 121, 101, 114, 115, 32, 49, 59, 32, 118, 97, 114, 32, 120, 32, 61, 32, 48, 59, 32, 100, 101, 97, 108, 32, 120, 32, 105, 110, 32, 48, 32, 46, 46, 32, 54, 48, 59, 32, 101, 110, 100, 32, 123, 32, 112, 97, 121, 32, 48, 59, 32, 125]⟩))]⟩,
 ⟨(some 56), (some (54, true)), .q (.c (.fn (.func 10) [] [])) [(.t 55)]⟩,
 iG 57 54 true (.bld [i64 0, i64 0] [(0, 1, (.c (i64 2))), (1, 1, (.c (i64 30)))]),
 iG 58 54 true (.eqf false [.i .i64, .i .i64] (.t 56) (.t 57)),
 iP 59 (.pick (.t 54) (.t 58) (.c (bl false))),
 iM 60 59,
 ⟨(some 61), (some (60, true)), .q (.c (.fn (.func 16) [] [])) [(.c (st ⟨#[103, 97, 109, 101, 32, 103, 59, 32, 112, 108, 97, 121, 101, 114, 115, 32, 52, 59, 32, 101, 110, 100, 32, 123, 32, 112, 97, 121, 32, 48, 44, 32, 48, 44, 32, 48, 44, 32, 48, 59, 32, 125]⟩))]⟩,
 ⟨(some 62), (some (60, true)), .q (.c (.fn (.func 10) [] [])) [(.t 61)]⟩,
 iG 63 60 true (.bld [i64 0, i64 0] []),
 iG 64 60 true (.eqf false [.i .i64, .i .i64] (.t 62) (.t 63)),
 iP 65 (.pick (.t 60) (.t 64) (.c (bl false))),
 iM 4 65])
 (.seq
 (.reg [
 iC 66 7 [],
 iM 67 66,
 iG 68 67 true (.mov (.t 1)),
 iP 69 (.pick (.t 67) (.t 68) (.c (bl false))),
 iM 70 69,
 iG 71 70 true (.mov (.t 2)),
 iP 72 (.pick (.t 70) (.t 71) (.c (bl false))),
 iM 73 72,
 iG 74 73 true (.mov (.t 3)),
 iP 75 (.pick (.t 73) (.t 74) (.c (bl false))),
 iM 76 75,
 iG 77 76 true (.mov (.t 4)),
 iP 78 (.pick (.t 76) (.t 77) (.c (bl false))),
 iM 0 78])
 .ret))))))
def r15 : List RS := [.t 0]
theorem c15 : chkF Tryz.prog drawB Tryz.f15 i15 r15 = true := by kernel_rfl
def i16 : IC :=
 (.seq
 (.reg [
 iE 2 (.alc 25 [st ⟨#[]⟩, i64 0, .val (.slice none 0 0), .val (.slice none 0 0)])])
 (.seq
 (.reg [
 iM 6 0,
 iC 7 36 [.t 6],
 iM 5 7,
 iP 8 (.ext (.t 5) 0),
 iP 9 (.ext (.t 5) 1),
 iE 3 (.alc 25 [st ⟨#[]⟩, i64 0, .val (.slice none 0 0), .val (.slice none 0 0)]),
 iE 4 (.alc 32 [i64 0, i64 0]),
 ⟨none, none, .e (.st 4 (.t 3) (.t 8))⟩,
 ⟨none, none, .e (.st 2 (.t 4) (.t 9))⟩])
 (.seq
 (.reg [
 iP 10 (.ldn 4 (.t 3)),
 ⟨none, none, .e (.st 4 (.t 2) (.t 10))⟩])
 .ret)))
def r16 : List RS := [.cn 2 4]
theorem c16 : chkF Tryz.prog drawB Tryz.f16 i16 r16 = true := by kernel_rfl
def l17_0 : IC := .keep [3, 4, 5, 6, 7, 8]
 (.seq
 (.seq
 (.reg [
 iM 32 8,
 iM 33 5,
 iP 34 (.bin .lss (.i .i64) (.t 32) (.t 33))])
 (.cond (.t 34)
 .skip
 (.exit 0)))
 (.seq
 (.blk 1
 (.reg [
 iM 37 7,
 iP 38 (.bin .add .s (.t 37) (.c (st ⟨#[118, 97, 114, 32, 118]⟩))),
 iM 39 8,
 iC 40 38 [.t 39],
 iP 41 (.bin .add .s (.t 38) (.t 40)),
 iP 42 (.bin .add .s (.t 41) (.c (st ⟨#[32, 61, 32]⟩))),
 iM 43 3,
 iE 44 (.bsl 9 1 4 [st ⟨#[]⟩] [(0, (.c (st ⟨#[48]⟩))), (1, (.c (st ⟨#[49]⟩))), (2, (.c (st ⟨#[45, 49]⟩))), (3, (.c (st ⟨#[50]⟩)))]),
 iC 45 39 [.t 43, .t 44],
 iP 46 (.bin .add .s (.t 42) (.t 45)),
 iP 47 (.bin .add .s (.t 46) (.c (st ⟨#[59, 10]⟩))),
 iM 7 47]))
 (.reg [
 iM 35 8,
 iP 36 (.bin .add (.i .i64) (.t 35) (.c (i64 1))),
 iM 8 36])))
def l17_1 : IC := .keep [3, 4, 5, 6, 7, 9]
 (.seq
 (.seq
 (.reg [
 iM 48 9,
 iM 49 6,
 iP 50 (.bin .lss (.i .i64) (.t 48) (.t 49))])
 (.cond (.t 50)
 .skip
 (.exit 2)))
 (.seq
 (.blk 3
 (.seq
 (.reg [
 iM 53 7,
 iP 54 (.bin .add .s (.t 53) (.c (st ⟨#[115]⟩))),
 iM 55 9,
 iC 56 38 [.t 55],
 iP 57 (.bin .add .s (.t 54) (.t 56)),
 iP 58 (.bin .add .s (.t 57) (.c (st ⟨#[58, 32]⟩))),
 iM 7 58])
 (.seq
 (.reg [
 iM 59 3,
 iC 60 37 [.t 59, (.c (i64 3))],
 iP 61 (.bin .eql (.i .i64) (.t 60) (.c (i64 0)))])
 (.cond (.t 61)
 (.reg [
 iM 62 7,
 iM 63 3,
 iM 64 4,
 iM 65 5,
 iC 66 40 [.t 63, .t 64, .t 65],
 iP 67 (.bin .add .s (.t 62) (.t 66)),
 iM 7 67])
 (.reg [
 iM 68 7,
 iM 69 3,
 iM 70 4,
 iM 71 5,
 iM 72 9,
 iM 73 6,
 iC 74 41 [.t 69, .t 70, .t 71, .t 72, .t 73],
 iP 75 (.bin .add .s (.t 68) (.t 74)),
 iM 7 75])))))
 (.reg [
 iM 51 9,
 iP 52 (.bin .add (.i .i64) (.t 51) (.c (i64 1))),
 iM 9 52])))
def l17_2 : IC := .keep [3, 4, 5, 7, 10]
 (.seq
 (.seq
 (.reg [
 iM 82 10,
 iM 83 4,
 iP 84 (.bin .lss (.i .i64) (.t 82) (.t 83))])
 (.cond (.t 84)
 .skip
 (.exit 4)))
 (.seq
 (.blk 5
 (.seq
 (.seq
 (.reg [
 iM 87 10,
 iP 88 (.bin .gtr (.i .i64) (.t 87) (.c (i64 0)))])
 (.cond (.t 88)
 (.reg [
 iM 89 7,
 iP 90 (.bin .add .s (.t 89) (.c (st ⟨#[44, 32]⟩))),
 iM 7 90])
 .skip))
 (.reg [
 iM 91 7,
 iM 92 3,
 iM 93 5,
 iC 94 42 [.t 92, .t 93],
 iP 95 (.bin .add .s (.t 91) (.t 94)),
 iM 7 95])))
 (.reg [
 iM 85 10,
 iP 86 (.bin .add (.i .i64) (.t 85) (.c (i64 1))),
 iM 10 86])))
def i17 : IC :=
 (.seq
 (.reg [
 iP 2 (.mov (.c (st ⟨#[]⟩)))])
 (.seq
 (.reg [
 iM 11 0,
 iP 12 (.bld [.val (.slice none 0 0), i64 0] [(0, 1, (.t 11))]),
 iE 13 (.box 84 (.t 12)),
 iM 3 13])
 (.seq
 (.reg [
 iM 14 3,
 iC 15 37 [.t 14, (.c (i64 3))],
 iP 16 (.bin .add (.i .i64) (.c (i64 1)) (.t 15)),
 iM 17 3,
 iC 18 37 [.t 17, (.c (i64 3))],
 iP 19 (.bin .add (.i .i64) (.c (i64 1)) (.t 18)),
 iM 20 3,
 iC 21 37 [.t 20, (.c (i64 4))],
 iP 22 (.bin .add (.i .i64) (.c (i64 1)) (.t 21)),
 iM 4 16,
 iM 5 19,
 iM 6 22])
 (.seq
 (.reg [
 iM 23 3,
 iC 24 37 [.t 23, (.c (i64 9))],
 iC 25 38 [.t 24],
 iP 26 (.bin .add .s (.c (st ⟨#[103, 97, 109, 101, 32, 103]⟩)) (.t 25)),
 iP 27 (.bin .add .s (.t 26) (.c (st ⟨#[59, 10, 112, 108, 97, 121, 101, 114, 115, 32]⟩))),
 iM 28 4,
 iC 29 38 [.t 28],
 iP 30 (.bin .add .s (.t 27) (.t 29)),
 iP 31 (.bin .add .s (.t 30) (.c (st ⟨#[59, 10]⟩))),
 iM 7 31])
 (.seq
 (.seq
 (.reg [
 iP 8 (.mov (.c (i64 0)))])
 (.blk 0
 (.loop l17_0)))
 (.seq
 (.seq
 (.reg [
 iP 9 (.mov (.c (i64 0)))])
 (.blk 2
 (.loop l17_1)))
 (.seq
 (.reg [
 iM 76 7,
 iP 77 (.bin .add .s (.t 76) (.c (st ⟨#[115]⟩))),
 iM 78 6,
 iC 79 38 [.t 78],
 iP 80 (.bin .add .s (.t 77) (.t 79)),
 iP 81 (.bin .add .s (.t 80) (.c (st ⟨#[58, 32, 101, 110, 100, 32, 123, 32, 112, 97, 121, 32]⟩))),
 iM 7 81])
 (.seq
 (.seq
 (.reg [
 iP 10 (.mov (.c (i64 0)))])
 (.blk 4
 (.loop l17_2)))
 (.seq
 (.reg [
 iM 96 7,
 iP 97 (.bin .add .s (.t 96) (.c (st ⟨#[59, 32, 125, 10]⟩))),
 iM 2 97])
 .ret)))))))))
def r17 : List RS := [.t 2]
theorem c17 : chkF Tryz.prog drawB Tryz.f17 i17 r17 = true := by kernel_rfl
def i18 : IC :=
 (.seq
 (.reg [
 iP 4 (.mov (.c (i64 0)))])
 (.seq
 (.reg [
 iM 5 0,
 iM 6 1,
 iP 7 (.bin .rem (.i .i64) (.t 5) (.t 6)),
 iM 0 7])
 (.seq
 (.seq
 (.reg [
 iM 8 0,
 iP 9 (.bin .lss (.i .i64) (.t 8) (.c (i64 0)))])
 (.cond (.t 9)
 (.reg [
 iM 10 0,
 iM 11 1,
 iP 12 (.bin .add (.i .i64) (.t 10) (.t 11)),
 iM 0 12])
 .skip))
 (.seq
 (.reg [
 iM 13 0,
 iM 4 13])
 .ret))))
def r18 : List RS := [.t 4]
theorem c18 : chkF Tryz.prog drawB Tryz.f18 i18 r18 = true := by kernel_rfl
def i21 : IC :=
 (.seq
 (.reg [
 iP 8 (.mov (.c (bl false)))])
 (.seq
 (.reg [
 iE 12 (.bsl 9 1 1 [st ⟨#[]⟩] [(0, (.c (st ⟨#[120]⟩)))]),
 iM 13 0,
 iC 14 50 [.t 13],
 iC 15 49 [.t 12, .t 14],
 iM 11 15,
 iP 16 (.ext (.t 11) 0),
 iP 17 (.ext (.t 11) 1),
 iE 10 (.alc 32 [i64 0, i64 0]),
 iM 9 16,
 ⟨none, none, .e (.st 2 (.t 10) (.t 17))⟩])
 (.seq
 (.reg [
 iM 18 9,
 iM 19 1,
 iP 20 (.bin .eql (.i .i64) (.t 18) (.t 19)),
 iM 21 20,
 iG 22 21 true (.ldn 2 (.t 10)),
 iG 23 21 true (.mov (.t 2)),
 iG 24 21 true (.mov (.t 3)),
 iG 25 21 true (.bld [i64 0, i64 0] [(0, 1, (.t 23)), (1, 1, (.t 24))]),
 iG 26 21 true (.eqf false [.i .i64, .i .i64] (.t 22) (.t 25)),
 iP 27 (.pick (.t 21) (.t 26) (.c (bl false))),
 iM 8 27])
 .ret)))
def r21 : List RS := [.t 8]
theorem c21 : chkF Tryz.prog drawB Tryz.f21 i21 r21 = true := by kernel_rfl
def l22_0 : IC := .keep [1, 7, 8, 9]
 (.seq
 (.reg [
 iP 10 (.bin .lss (.i .i64) (.t 9) (.t 8))])
 (.seq
 (.cond (.t 10)
 .skip
 (.exit 0))
 (.seq
 (.blk 1
 (.seq
 (.reg [
 iM 11 9,
 iP 12 (.ia 12 (.t 7) (.t 9)),
 iP 13 (.ldn 12 (.t 12)),
 iE 6 (.alc 45 [i64 0, st ⟨#[]⟩, st ⟨#[]⟩, i64 0, i64 0, .val (.slice none 0 0), bl false, .val (.slice none 0 0), .val (.slice none 0 0), .val (.slice none 0 0), .val (.slice none 0 0), i64 0]),
 iM 5 11,
 ⟨none, none, .e (.st 12 (.t 6) (.t 13))⟩])
 (.seq
 (.reg [
 iF 14 1 6,
 iL 15 14,
 iM 16 1,
 iP 17 (.bin .eql .s (.t 15) (.t 16))])
 (.cond (.t 17)
 (.seq
 (.reg [
 iM 18 5,
 iM 4 18])
 .ret)
 .skip))))
 (.reg [
 iP 19 (.bin .add (.i .i64) (.t 9) (.c (i64 1))),
 iM 9 19]))))
def i22 : IC :=
 (.seq
 (.reg [
 iP 4 (.mov (.c (i64 0)))])
 (.seq
 (.seq
 (.reg [
 iM 7 0,
 iP 8 (.len (.t 7)),
 iP 9 (.mov (.c (i64 0)))])
 (.blk 0
 (.loop l22_0)))
 (.seq
 (.reg [
 iP 4 (.mov (.c (i64 (-1))))])
 .ret)))
def r22 : List RS := [.t 4]
theorem c22 : chkF Tryz.prog drawB Tryz.f22 i22 r22 = true := by kernel_rfl
def l24_0 : IC := .keep [2, 3, 12, 13, 14]
 (.seq
 (.reg [
 iP 15 (.bin .lss (.i .i64) (.t 14) (.t 13))])
 (.seq
 (.cond (.t 15)
 .skip
 (.exit 0))
 (.seq
 (.blk 1
 (.seq
 (.reg [
 iP 16 (.ia 1 (.t 12) (.t 14)),
 iL 17 16,
 iM 5 17])
 (.reg [
 iF 18 0 3,
 iL 19 18,
 iM 20 5,
 ⟨none, none, .e (.mup .s (.t 19) (.t 20) (.c (bl true)))⟩])))
 (.reg [
 iP 21 (.bin .add (.i .i64) (.t 14) (.c (i64 1))),
 iM 14 21]))))
def i24 : IC :=
 (.seq
 (.reg [
 iE 2 (.alc 65 [.val (.map none), .val (.map none)])])
 (.seq
 (.reg [
 iE 9 (.mkm 62),
 iE 10 (.mkm 63),
 iP 11 (.bld [.val (.map none), .val (.map none)] [(0, 1, (.t 9)), (1, 1, (.t 10))]),
 iE 3 (.alc 65 [.val (.map none), .val (.map none)]),
 ⟨none, none, .e (.st 2 (.t 3) (.t 11))⟩])
 (.seq
 (.seq
 (.reg [
 iM 12 0,
 iP 13 (.len (.t 12)),
 iP 14 (.mov (.c (i64 0)))])
 (.blk 0
 (.loop l24_0)))
 (.seq
 (.reg [
 iP 22 (.mkf (.func 51) [] [(.t 3)]),
 iM 6 22])
 (.seq
 (.reg [
 iM 23 6,
 iE 24 (.bsl 3 1 1 [i64 0] [(0, (.c (i64 1)))]),
 iP 25 (.bld [.val (.slice none 0 0), i64 0, .val .nilFunc] [(0, 1, (.t 24)), (1, 1, (.c (i64 1)))]),
 iE 26 (.bsl 3 1 1 [i64 0] [(0, (.c (i64 3)))]),
 iE 27 (.call (.t 23) [(.t 25), (.t 26)])])
 (.seq
 (.reg [
 iM 28 6,
 iE 29 (.bsl 3 1 1 [i64 0] [(0, (.c (i64 2)))]),
 iP 30 (.bld [.val (.slice none 0 0), i64 0, .val .nilFunc] [(0, 1, (.t 29)), (1, 1, (.c (i64 2)))]),
 iE 31 (.bsl 3 1 1 [i64 0] [(0, (.c (i64 4)))]),
 iE 32 (.call (.t 28) [(.t 30), (.t 31)])])
 (.seq
 (.reg [
 iE 33 (.bsl 3 1 2 [i64 0] [(0, (.c (i64 1))), (1, (.c (i64 1)))]),
 iE 34 (.bsl 3 1 2 [i64 0] [(0, (.c (i64 2))), (1, (.c (i64 2)))]),
 iM 7 33,
 iM 8 34])
 (.seq
 (.reg [
 iM 35 6,
 iM 36 7,
 iP 37 (.bld [.val (.slice none 0 0), i64 0, .val .nilFunc] [(0, 1, (.t 36)), (1, 1, (.c (i64 1)))]),
 iE 38 (.bsl 3 1 7 [i64 0] [(0, (.c (i64 5))), (1, (.c (i64 6))), (2, (.c (i64 7))), (3, (.c (i64 8))), (4, (.c (i64 9))), (5, (.c (i64 18))), (6, (.c (i64 19)))]),
 iE 39 (.call (.t 35) [(.t 37), (.t 38)])])
 (.seq
 (.reg [
 iM 40 6,
 iM 41 7,
 iP 42 (.bld [.val (.slice none 0 0), i64 0, .val .nilFunc] [(0, 1, (.t 41)), (1, 1, (.c (i64 2)))]),
 iE 43 (.bsl 3 1 6 [i64 0] [(0, (.c (i64 10))), (1, (.c (i64 11))), (2, (.c (i64 12))), (3, (.c (i64 13))), (4, (.c (i64 14))), (5, (.c (i64 15)))]),
 iE 44 (.call (.t 40) [(.t 42), (.t 43)])])
 (.seq
 (.reg [
 iM 45 6,
 iM 46 8,
 iP 47 (.bld [.val (.slice none 0 0), i64 0, .val .nilFunc] [(0, 1, (.t 46)), (1, 1, (.c (i64 2)))]),
 iE 48 (.bsl 3 1 2 [i64 0] [(0, (.c (i64 16))), (1, (.c (i64 17)))]),
 iE 49 (.call (.t 45) [(.t 47), (.t 48)])])
 (.seq
 (.reg [
 iM 50 6,
 iE 51 (.mks 3 1 8 [i64 0] (.c (i64 3)) (.c (i64 3))),
 iP 52 (.bld [.val (.slice none 0 0), i64 0, .val .nilFunc] [(0, 1, (.t 51)), (2, 1, (.c (.fn (.func 52) [] [])))]),
 iE 53 (.bsl 3 1 1 [i64 0] [(0, (.c (i64 20)))]),
 iE 54 (.call (.t 50) [(.t 52), (.t 53)])])
 (.seq
 (.reg [
 iP 55 (.ldn 2 (.t 3)),
 ⟨none, none, .e (.st 2 (.t 2) (.t 55))⟩])
 .ret))))))))))))
def r24 : List RS := [.cn 2 2]
theorem c24 : chkF Tryz.prog drawB Tryz.f24 i24 r24 = true := by kernel_rfl
def l25_0 : IC := .keep [6, 7, 8]
 (.seq
 (.reg [
 iP 9 (.bin .lss (.i .i64) (.t 8) (.t 7))])
 (.seq
 (.cond (.t 9)
 .skip
 (.exit 0))
 (.seq
 (.blk 1
 (.seq
 (.reg [
 iP 10 (.ia 1 (.t 6) (.t 8)),
 iL 11 10,
 iM 4 11])
 (.seq
 (.reg [
 iM 12 4,
 iE 13 (.call (.t 12) []),
 iM 5 13])
 (.seq
 (.reg [
 iM 14 5,
 iP 15 (.ifn true true (.t 14))])
 (.cond (.t 15)
 (.seq
 (.reg [
 iM 16 5,
 iM 2 16])
 .ret)
 .skip)))))
 (.reg [
 iP 17 (.bin .add (.i .i64) (.t 8) (.c (i64 1))),
 iM 8 17]))))
def i25 : IC :=
 (.seq
 (.reg [
 iP 2 (.mov (.c (.val .nilIface)))])
 (.seq
 (.seq
 (.reg [
 iM 6 0,
 iP 7 (.len (.t 6)),
 iP 8 (.mov (.c (i64 0)))])
 (.blk 0
 (.loop l25_0)))
 (.seq
 (.reg [
 iP 2 (.mov (.c (.val .nilIface)))])
 .ret)))
def r25 : List RS := [.t 2]
theorem c25 : chkF Tryz.prog drawB Tryz.f25 i25 r25 = true := by kernel_rfl
def i26 : IC :=
 (.seq
 (.reg [
 iP 2 (.mov (.c (.val .nilIface)))])
 (.seq
 (.seq
 (.reg [
 iM 3 0,
 iP 4 (.nck (.t 3)),
 iF 5 2 4,
 iF 6 1 5,
 iL 7 6,
 iP 8 (.bin .lss (.i .i64) (.t 7) (.c (i64 1))),
 iM 9 8,
 iG 10 9 false (.mov (.t 0)),
 iG 11 9 false (.nck (.t 10)),
 iG 12 9 false (.fa 2 (.t 11)),
 iG 13 9 false (.fa 1 (.t 12)),
 iG 14 9 false (.ld1 (.t 13)),
 iG 15 9 false (.bin .gtr (.i .i64) (.t 14) (.c (i64 4))),
 iP 16 (.pick (.t 9) (.c (bl true)) (.t 15))])
 (.cond (.t 16)
 (.seq
 (.reg [
 iC 17 53 [(.c (i64 2)), (.c (i64 0))],
 iM 2 17])
 .ret)
 .skip))
 (.seq
 (.reg [
 iP 2 (.mov (.c (.val .nilIface)))])
 .ret)))
def r26 : List RS := [.t 2]
theorem c26 : chkF Tryz.prog drawB Tryz.f26 i26 r26 = true := by kernel_rfl
def l27_0 : IC := .keep [3, 11, 12, 13]
 (.seq
 (.reg [
 iP 14 (.bin .lss (.i .i64) (.t 13) (.t 12))])
 (.seq
 (.cond (.t 14)
 .skip
 (.exit 0))
 (.seq
 (.blk 1
 (.seq
 (.reg [
 iP 15 (.ia 3 (.t 11) (.t 13)),
 iP 16 (.ldn 3 (.t 15)),
 iE 5 (.alc 77 [st ⟨#[]⟩, i64 0, i64 0]),
 ⟨none, none, .e (.st 3 (.t 5) (.t 16))⟩])
 (.seq
 (.seq
 (.reg [
 iF 17 1 5,
 iL 18 17,
 iP 19 (.bin .lss (.i .i64) (.t 18) (.c (i64 (-1000000000)))),
 iM 20 19,
 iG 21 20 false (.fa 1 (.t 5)),
 iG 22 20 false (.ld1 (.t 21)),
 iG 23 20 false (.bin .gtr (.i .i64) (.t 22) (.c (i64 1000000000))),
 iP 24 (.pick (.t 20) (.c (bl true)) (.t 23))])
 (.cond (.t 24)
 (.seq
 (.reg [
 iF 25 2 5,
 iL 26 25,
 iC 27 53 [(.c (i64 2)), .t 26],
 iM 2 27])
 .ret)
 .skip))
 (.seq
 (.seq
 (.reg [
 iM 28 3,
 iF 29 0 5,
 iL 30 29,
 iP 31 (.lkp .s false (bl false) (.t 28) (.t 30))])
 (.cond (.t 31)
 (.seq
 (.reg [
 iF 32 2 5,
 iL 33 32,
 iC 34 53 [(.c (i64 8)), .t 33],
 iM 2 34])
 .ret)
 .skip))
 (.reg [
 iM 35 3,
 iF 36 0 5,
 iL 37 36,
 ⟨none, none, .e (.mup .s (.t 35) (.t 37) (.c (bl true)))⟩])))))
 (.reg [
 iP 38 (.bin .add (.i .i64) (.t 13) (.c (i64 1))),
 iM 13 38]))))
def i27 : IC :=
 (.seq
 (.reg [
 iP 2 (.mov (.c (.val .nilIface)))])
 (.seq
 (.reg [
 iE 6 (.mkm 62),
 iM 3 6])
 (.seq
 (.seq
 (.reg [
 iM 7 0,
 iP 8 (.nck (.t 7)),
 iF 9 2 8,
 iF 10 2 9,
 iL 11 10,
 iP 12 (.len (.t 11)),
 iP 13 (.mov (.c (i64 0)))])
 (.blk 0
 (.loop l27_0)))
 (.seq
 (.reg [
 iP 2 (.mov (.c (.val .nilIface)))])
 .ret))))
def r27 : List RS := [.t 2]
theorem c27 : chkF Tryz.prog drawB Tryz.f27 i27 r27 = true := by kernel_rfl
def l28_0 : IC := .keep [3, 11, 12, 13]
 (.seq
 (.reg [
 iP 14 (.bin .lss (.i .i64) (.t 13) (.t 12))])
 (.seq
 (.cond (.t 14)
 .skip
 (.exit 0))
 (.seq
 (.blk 1
 (.seq
 (.reg [
 iP 15 (.ia 12 (.t 11) (.t 13)),
 iP 16 (.ldn 12 (.t 15)),
 iE 5 (.alc 45 [i64 0, st ⟨#[]⟩, st ⟨#[]⟩, i64 0, i64 0, .val (.slice none 0 0), bl false, .val (.slice none 0 0), .val (.slice none 0 0), .val (.slice none 0 0), .val (.slice none 0 0), i64 0]),
 ⟨none, none, .e (.st 12 (.t 5) (.t 16))⟩])
 (.seq
 (.seq
 (.reg [
 iF 17 1 5,
 iL 18 17,
 iP 19 (.bin .eql .s (.t 18) (.c (st ⟨#[]⟩)))])
 (.cond (.t 19)
 (.exit 1)
 .skip))
 (.seq
 (.seq
 (.reg [
 iM 20 3,
 iF 21 1 5,
 iL 22 21,
 iP 23 (.lkp .s false (bl false) (.t 20) (.t 22))])
 (.cond (.t 23)
 (.seq
 (.reg [
 iF 24 11 5,
 iL 25 24,
 iC 26 53 [(.c (i64 8)), .t 25],
 iM 2 26])
 .ret)
 .skip))
 (.reg [
 iM 27 3,
 iF 28 1 5,
 iL 29 28,
 ⟨none, none, .e (.mup .s (.t 27) (.t 29) (.c (bl true)))⟩])))))
 (.reg [
 iP 30 (.bin .add (.i .i64) (.t 13) (.c (i64 1))),
 iM 13 30]))))
def i28 : IC :=
 (.seq
 (.reg [
 iP 2 (.mov (.c (.val .nilIface)))])
 (.seq
 (.reg [
 iE 6 (.mkm 62),
 iM 3 6])
 (.seq
 (.seq
 (.reg [
 iM 7 0,
 iP 8 (.nck (.t 7)),
 iF 9 2 8,
 iF 10 3 9,
 iL 11 10,
 iP 12 (.len (.t 11)),
 iP 13 (.mov (.c (i64 0)))])
 (.blk 0
 (.loop l28_0)))
 (.seq
 (.reg [
 iP 2 (.mov (.c (.val .nilIface)))])
 .ret))))
def r28 : List RS := [.t 2]
theorem c28 : chkF Tryz.prog drawB Tryz.f28 i28 r28 = true := by kernel_rfl
def i29 : IC :=
 (.seq
 (.reg [
 iP 2 (.mov (.c (.val .nilIface)))])
 (.seq
 (.seq
 (.reg [
 iM 4 0,
 iP 5 (.nck (.t 4)),
 iF 6 2 5,
 iF 7 3 6,
 iL 8 7,
 iP 9 (.len (.t 8)),
 iP 10 (.bin .eql (.i .i64) (.t 9) (.c (i64 0)))])
 (.cond (.t 10)
 (.seq
 (.reg [
 iC 11 53 [(.c (i64 3)), (.c (i64 0))],
 iM 2 11])
 .ret)
 .skip))
 (.seq
 (.seq
 (.drw [0, 1, 2, 3, 4, 5, 6, 7, 8, 9, 10, 11, 12, 13, 14, 15] [
 iM 12 0,
 iP 13 (.nck (.t 12)),
 iF 14 2 13,
 iF 15 3 14,
 iL 16 15,
 iM 17 0,
 iP 18 (.nck (.t 17)),
 iF 19 2 18,
 iF 20 3 19,
 iL 21 20,
 iP 22 (.len (.t 21)),
 iP 23 (.bin .sub (.i .i64) (.t 22) (.c (i64 1))),
 iP 24 (.ia 12 (.t 16) (.t 23)),
 iP 25 (.ldn 12 (.t 24)),
 iE 3 (.alc 45 [i64 0, st ⟨#[]⟩, st ⟨#[]⟩, i64 0, i64 0, .val (.slice none 0 0), bl false, .val (.slice none 0 0), .val (.slice none 0 0), .val (.slice none 0 0), .val (.slice none 0 0), i64 0]),
 ⟨none, none, .e (.st 12 (.t 3) (.t 25))⟩])
 (.seq
 (.reg [
 iF 26 0 3,
 iL 27 26,
 iP 28 (.bin .neq (.i .i64) (.t 27) (.c (i64 3)))])
 (.cond (.t 28)
 (.seq
 (.reg [
 iF 29 11 3,
 iL 30 29,
 iC 31 53 [(.c (i64 3)), .t 30],
 iM 2 31])
 .ret)
 .skip)))
 (.seq
 (.reg [
 iP 2 (.mov (.c (.val .nilIface)))])
 .ret))))
def r29 : List RS := [.t 2]
theorem c29 : chkF Tryz.prog drawB Tryz.f29 i29 r29 = true := by kernel_rfl
def l30_0 : IC := .keep [0, 10, 11, 12]
 (.seq
 (.reg [
 iP 13 (.bin .lss (.i .i64) (.t 12) (.t 11))])
 (.seq
 (.cond (.t 13)
 .skip
 (.exit 0))
 (.seq
 (.blk 1
 (.seq
 (.reg [
 iM 14 12,
 iP 15 (.ia 12 (.t 10) (.t 12)),
 iP 16 (.ldn 12 (.t 15)),
 iE 4 (.alc 45 [i64 0, st ⟨#[]⟩, st ⟨#[]⟩, i64 0, i64 0, .val (.slice none 0 0), bl false, .val (.slice none 0 0), .val (.slice none 0 0), .val (.slice none 0 0), .val (.slice none 0 0), i64 0]),
 iM 3 14,
 ⟨none, none, .e (.st 12 (.t 4) (.t 16))⟩])
 (.seq
 (.reg [
 iP 5 (.mov (.c (.val .nilIface)))])
 (.seq
 (.blk 2
 (.seq
 (.seq
 (.reg [
 iF 21 5 4,
 iL 22 21,
 iP 23 (.len (.t 22)),
 iP 24 (.bin .gtr (.i .i64) (.t 23) (.c (i64 1))),
 iM 20 24])
 (.cond (.t 20)
 .skip
 (.reg [
 iF 25 0 4,
 iL 26 25,
 iP 27 (.bin .eql (.i .i64) (.t 26) (.c (i64 2))),
 iM 28 27,
 iG 29 28 true (.fa 8 (.t 4)),
 iG 30 28 true (.ld1 (.t 29)),
 iG 31 28 true (.len (.t 30)),
 iG 32 28 true (.bin .neq (.i .i64) (.t 31) (.c (i64 1))),
 iP 33 (.pick (.t 28) (.t 32) (.c (bl false))),
 iM 20 33])))
 (.cond (.t 20)
 (.reg [
 iF 34 11 4,
 iL 35 34,
 iC 36 53 [(.c (i64 3)), .t 35],
 iM 5 36])
 (.seq
 (.reg [
 iF 38 0 4,
 iL 39 38,
 iP 40 (.bin .eql (.i .i64) (.t 39) (.c (i64 1))),
 iM 37 40])
 (.cond (.t 37)
 (.reg [
 iM 41 0,
 iP 42 (.ldn 12 (.t 4)),
 iC 43 54 [.t 41, .t 42],
 iM 5 43])
 (.seq
 (.reg [
 iF 45 0 4,
 iL 46 45,
 iP 47 (.bin .eql (.i .i64) (.t 46) (.c (i64 2))),
 iM 44 47])
 (.cond (.t 44)
 (.reg [
 iM 48 0,
 iM 49 3,
 iP 50 (.ldn 12 (.t 4)),
 iC 51 55 [.t 48, .t 49, .t 50],
 iM 5 51])
 (.seq
 (.reg [
 iF 53 0 4,
 iL 54 53,
 iP 55 (.bin .eql (.i .i64) (.t 54) (.c (i64 3))),
 iM 52 55])
 (.cond (.t 52)
 (.reg [
 iM 56 0,
 iP 57 (.ldn 12 (.t 4)),
 iC 58 56 [.t 56, .t 57],
 iM 5 58])
 (.reg [
 iF 17 11 4,
 iL 18 17,
 iC 19 53 [(.c (i64 3)), .t 18],
 iM 5 19]))))))))))
 (.seq
 (.reg [
 iM 59 5,
 iP 60 (.ifn true true (.t 59))])
 (.cond (.t 60)
 (.seq
 (.reg [
 iM 61 5,
 iM 2 61])
 .ret)
 .skip))))))
 (.reg [
 iP 62 (.bin .add (.i .i64) (.t 12) (.c (i64 1))),
 iM 12 62]))))
def i30 : IC :=
 (.seq
 (.reg [
 iP 2 (.mov (.c (.val .nilIface)))])
 (.seq
 (.seq
 (.reg [
 iM 6 0,
 iP 7 (.nck (.t 6)),
 iF 8 2 7,
 iF 9 3 8,
 iL 10 9,
 iP 11 (.len (.t 10)),
 iP 12 (.mov (.c (i64 0)))])
 (.blk 0
 (.loop l30_0)))
 (.seq
 (.reg [
 iP 2 (.mov (.c (.val .nilIface)))])
 .ret)))
def r30 : List RS := [.t 2]
theorem c30 : chkF Tryz.prog drawB Tryz.f30 i30 r30 = true := by kernel_rfl
def i31 : IC :=
 (.seq
 (.reg [
 iE 2 (.alc 32 [i64 0, i64 0])])
 (.seq
 (.reg [
 iE 3 (.alc 107 [i64 0, i64 0])])
 (.seq
 (.seq
 (.reg [
 iM 4 0,
 iP 5 (.mki 109 (.t 3)),
 iC 6 57 [.t 4, .t 5]])
 (.cond (.t 6)
 (.seq
 (.reg [
 iF 7 0 3,
 iP 8 (.ldn 2 (.t 7)),
 ⟨none, none, .e (.st 2 (.t 2) (.t 8))⟩])
 .ret)
 .skip))
 (.seq
 (.reg [
 iP 9 (.bld [i64 0, i64 0] []),
 ⟨none, none, .e (.st 2 (.t 2) (.t 9))⟩])
 .ret))))
def r31 : List RS := [.cn 2 2]
theorem c31 : chkF Tryz.prog drawB Tryz.f31 i31 r31 = true := by kernel_rfl
def l36_0 : IC := .keep [2, 3, 6, 7]
 (.seq
 (.seq
 (.reg [
 iM 39 6,
 iC 40 65 [.t 39, (.c (st ⟨#[118, 97, 114]⟩))]])
 (.cond (.t 40)
 .skip
 (.exit 0)))
 (.blk 1
 (.seq
 (.reg [
 iM 41 6,
 iC 42 62 [.t 41, (.c (st ⟨#[118, 97, 114]⟩))]])
 (.seq
 (.seq
 (.reg [
 iF 43 2 7,
 iL 44 43,
 iP 45 (.len (.t 44)),
 iP 46 (.bin .eql (.i .i64) (.t 45) (.c (i64 40))),
 iM 47 46,
 iG 48 47 true (.mov (.t 6)),
 ⟨(some 49), (some (47, true)), .q (.c (.fn (.func 66) [] [])) [(.t 48)]⟩,
 iP 50 (.pick (.t 47) (.t 49) (.c (bl false)))])
 (.cond (.t 50)
 (.reg [
 iM 51 6,
 iC 52 67 [.t 51, (.c (i64 12))]])
 .skip))
 (.seq
 (.reg [
 iM 53 6,
 iC 54 68 [.t 53],
 iP 55 (.bld [st ⟨#[]⟩, i64 0, i64 0] [(2, 1, (.t 54))]),
 iE 8 (.alc 77 [st ⟨#[]⟩, i64 0, i64 0]),
 ⟨none, none, .e (.st 3 (.t 8) (.t 55))⟩])
 (.seq
 (.reg [
 iM 56 6,
 iC 57 63 [.t 56],
 iF 58 0 8,
 ⟨none, none, .e (.st 1 (.t 58) (.t 57))⟩])
 (.seq
 (.reg [
 iM 59 6,
 iC 60 62 [.t 59, (.c (st ⟨#[61]⟩))]])
 (.seq
 (.reg [
 iP 9 (.mov (.c (i64 1)))])
 (.seq
 (.seq
 (.reg [
 iM 61 6,
 iC 62 65 [.t 61, (.c (st ⟨#[45]⟩))]])
 (.cond (.t 62)
 (.seq
 (.reg [
 iM 63 6,
 iC 64 62 [.t 63, (.c (st ⟨#[45]⟩))]])
 (.reg [
 iP 9 (.mov (.c (i64 (-1))))]))
 .skip))
 (.seq
 (.reg [
 iM 65 9,
 iM 66 6,
 iC 67 64 [.t 66],
 iP 68 (.bin .mul (.i .i64) (.t 65) (.t 67)),
 iF 69 1 8,
 ⟨none, none, .e (.st 1 (.t 69) (.t 68))⟩])
 (.seq
 (.reg [
 iM 70 6,
 iC 71 62 [.t 70, (.c (st ⟨#[59]⟩))]])
 (.reg [
 iF 72 2 7,
 iL 73 72,
 iP 74 (.ldn 3 (.t 8)),
 iE 75 (.bsl 77 3 1 [st ⟨#[]⟩, i64 0, i64 0] [(0, (.t 74))]),
 iE 76 (.app 77 3 32 (.t 73) (.t 75)),
 iF 77 2 7,
 ⟨none, none, .e (.st 1 (.t 77) (.t 76))⟩]))))))))))))
def l36_1 : IC := .keep [2, 3, 6, 7]
 (.seq
 (.seq
 (.drw [0, 1, 2, 3, 4, 5, 6, 7, 8, 9, 10, 11, 12, 13, 14, 15, 16, 17, 18, 19, 20] [
 iM 78 6,
 ⟨(some 79), none, .q (.c (.fn (.func 69) [] [])) [(.t 78)]⟩,
 iP 80 (.not (.t 79)),
 iM 81 80,
 iG 82 81 true (.fa 3 (.t 7)),
 iG 83 81 true (.ld1 (.t 82)),
 iG 84 81 true (.len (.t 83)),
 iG 85 81 true (.bin .eql (.i .i64) (.t 84) (.c (i64 0))),
 iG 86 81 true (.mov (.t 85)),
 iG 87 86 false (.mov (.t 6)),
 iG 88 86 false (.nck (.t 87)),
 iG 89 86 false (.fa 2 (.t 88)),
 iG 90 86 false (.ld1 (.t 89)),
 iG 91 86 false (.mov (.t 6)),
 iG 92 86 false (.nck (.t 91)),
 iG 93 86 false (.fa 0 (.t 92)),
 iG 94 86 false (.ld1 (.t 93)),
 iG 95 86 false (.len (.t 94)),
 iG 96 86 false (.bin .lss (.i .i64) (.t 90) (.t 95)),
 iG 97 81 true (.pick (.t 86) (.c (bl true)) (.t 96)),
 iP 98 (.pick (.t 81) (.t 97) (.c (bl false)))])
 (.cond (.t 98)
 .skip
 (.exit 2)))
 (.blk 3
 (.seq
 (.seq
 (.reg [
 iF 99 3 7,
 iL 100 99,
 iP 101 (.len (.t 100)),
 iP 102 (.bin .eql (.i .i64) (.t 101) (.c (i64 100))),
 iM 103 102,
 iG 104 103 true (.mov (.t 6)),
 ⟨(some 105), (some (103, true)), .q (.c (.fn (.func 66) [] [])) [(.t 104)]⟩,
 iG 106 103 true (.mov (.t 105)),
 iG 107 106 false (.mov (.t 6)),
 ⟨(some 108), (some (106, false)), .q (.c (.fn (.func 65) [] [])) [(.t 107), (.c (st ⟨#[100, 101, 97, 108]⟩))]⟩,
 iG 109 103 true (.pick (.t 106) (.c (bl true)) (.t 108)),
 iG 110 103 true (.mov (.t 109)),
 iG 111 110 false (.mov (.t 6)),
 ⟨(some 112), (some (110, false)), .q (.c (.fn (.func 65) [] [])) [(.t 111), (.c (st ⟨#[116, 117, 114, 110]⟩))]⟩,
 iG 113 103 true (.pick (.t 110) (.c (bl true)) (.t 112)),
 iG 114 103 true (.mov (.t 113)),
 iG 115 114 false (.mov (.t 6)),
 ⟨(some 116), (some (114, false)), .q (.c (.fn (.func 65) [] [])) [(.t 115), (.c (st ⟨#[101, 110, 100]⟩))]⟩,
 iG 117 103 true (.pick (.t 114) (.c (bl true)) (.t 116)),
 iP 118 (.pick (.t 103) (.t 117) (.c (bl false)))])
 (.cond (.t 118)
 (.reg [
 iM 119 6,
 iC 120 67 [.t 119, (.c (i64 12))]])
 .skip))
 (.drw [0, 1, 2, 3, 4, 5, 6, 7] [
 iF 121 3 7,
 iL 122 121,
 iM 123 6,
 iC 124 70 [.t 123],
 iE 125 (.bsl 45 12 1 [i64 0, st ⟨#[]⟩, st ⟨#[]⟩, i64 0, i64 0, .val (.slice none 0 0), bl false, .val (.slice none 0 0), .val (.slice none 0 0), .val (.slice none 0 0), .val (.slice none 0 0), i64 0] [(0, (.t 124))]),
 iE 126 (.app 45 12 192 (.t 122) (.t 125)),
 iF 127 3 7,
 ⟨none, none, .e (.stw [122] 1 (.t 127) (.t 126))⟩]))))
def i36 : IC :=
 (.seq
 (.reg [
 iE 2 (.alc 25 [st ⟨#[]⟩, i64 0, .val (.slice none 0 0), .val (.slice none 0 0)]),
 iE 3 (.alc 32 [i64 0, i64 0])])
 (.seq
 (.reg [
 iM 11 0,
 iC 12 61 [.t 11],
 iM 10 12,
 iP 13 (.ext (.t 10) 0),
 iP 14 (.ext (.t 10) 1),
 iE 5 (.alc 32 [i64 0, i64 0]),
 iM 4 13,
 ⟨none, none, .e (.st 2 (.t 5) (.t 14))⟩])
 (.seq
 (.seq
 (.reg [
 iF 15 0 5,
 iL 16 15,
 iP 17 (.bin .neq (.i .i64) (.t 16) (.c (i64 0)))])
 (.cond (.t 17)
 (.seq
 (.drw [0, 1, 2, 3] [
 iP 18 (.bld [st ⟨#[]⟩, i64 0, .val (.slice none 0 0), .val (.slice none 0 0)] []),
 iP 19 (.ldn 2 (.t 5)),
 ⟨none, none, .e (.st 4 (.t 2) (.t 18))⟩,
 ⟨none, none, .e (.st 2 (.t 3) (.t 19))⟩])
 .ret)
 .skip))
 (.seq
 (.reg [
 iM 20 4,
 iM 21 0,
 iP 22 (.lens (.t 21)),
 iP 23 (.bld [.val (.slice none 0 0), i64 0, i64 0, i64 0, i64 0, i64 0] [(0, 1, (.t 20)), (1, 1, (.t 22))]),
 iE 24 (.box 118 (.t 23)),
 iM 6 24])
 (.seq
 (.reg [
 iE 7 (.alc 25 [st ⟨#[]⟩, i64 0, .val (.slice none 0 0), .val (.slice none 0 0)])])
 (.seq
 (.reg [
 iM 25 6,
 iC 26 62 [.t 25, (.c (st ⟨#[103, 97, 109, 101]⟩))]])
 (.seq
 (.reg [
 iM 27 6,
 iC 28 63 [.t 27],
 iF 29 0 7,
 ⟨none, none, .e (.st 1 (.t 29) (.t 28))⟩])
 (.seq
 (.reg [
 iM 30 6,
 iC 31 62 [.t 30, (.c (st ⟨#[59]⟩))]])
 (.seq
 (.reg [
 iM 32 6,
 iC 33 62 [.t 32, (.c (st ⟨#[112, 108, 97, 121, 101, 114, 115]⟩))]])
 (.seq
 (.reg [
 iM 34 6,
 iC 35 64 [.t 34],
 iF 36 1 7,
 ⟨none, none, .e (.st 1 (.t 36) (.t 35))⟩])
 (.seq
 (.reg [
 iM 37 6,
 iC 38 62 [.t 37, (.c (st ⟨#[59]⟩))]])
 (.seq
 (.blk 0
 (.loop l36_0))
 (.seq
 (.blk 2
 (.loop l36_1))
 (.seq
 (.seq
 (.reg [
 iM 128 6,
 iC 129 69 [.t 128]])
 (.cond (.t 129)
 (.seq
 (.drw [0, 1, 2, 3, 4, 5, 6] [
 iP 130 (.bld [st ⟨#[]⟩, i64 0, .val (.slice none 0 0), .val (.slice none 0 0)] []),
 iM 131 6,
 iP 132 (.nck (.t 131)),
 iF 133 4 132,
 iP 134 (.ldn 2 (.t 133)),
 ⟨none, none, .e (.st 4 (.t 2) (.t 130))⟩,
 ⟨none, none, .e (.st 2 (.t 3) (.t 134))⟩])
 .ret)
 .skip))
 (.seq
 (.reg [
 iP 135 (.ldn 4 (.t 7)),
 iP 136 (.bld [i64 0, i64 0] []),
 ⟨none, none, .e (.st 4 (.t 2) (.t 135))⟩,
 ⟨none, none, .e (.st 2 (.t 3) (.t 136))⟩])
 .ret)))))))))))))))
def r36 : List RS := [.cn 2 4, .cn 3 2]
theorem c36 : chkF Tryz.prog drawB Tryz.f36 i36 r36 = true := by kernel_rfl
def i37 : IC :=
 (.seq
 (.reg [
 iP 4 (.mov (.c (i64 0)))])
 (.seq
 (.seq
 (.drw [0, 1, 2, 3, 4, 5, 6, 7, 8, 9, 10, 11, 12, 13] [
 iM 5 0,
 iP 6 (.nck (.t 5)),
 iF 7 1 6,
 iL 8 7,
 iM 9 0,
 iP 10 (.nck (.t 9)),
 iF 11 0 10,
 iL 12 11,
 iP 13 (.len (.t 12)),
 iP 14 (.bin .geq (.i .i64) (.t 8) (.t 13)),
 iM 15 14,
 iG 16 15 false (.mov (.t 1)),
 iG 17 15 false (.bin .lss (.i .i64) (.t 16) (.c (i64 1))),
 iP 18 (.pick (.t 15) (.c (bl true)) (.t 17))])
 (.cond (.t 18)
 (.seq
 (.reg [
 iP 4 (.mov (.c (i64 0)))])
 .ret)
 .skip))
 (.seq
 (.reg [
 iM 19 0,
 iP 20 (.nck (.t 19)),
 iF 21 1 20,
 iL 22 21,
 iP 23 (.bin .add (.i .i64) (.t 22) (.c (i64 1))),
 iP 24 (.nck (.t 19)),
 iF 25 1 24,
 ⟨none, none, .e (.st 1 (.t 25) (.t 23))⟩])
 (.seq
 (.drw [0, 1, 2, 3, 4, 5, 6, 7, 8, 9, 10, 11, 12, 13] [
 iM 26 0,
 iP 27 (.nck (.t 26)),
 iF 28 0 27,
 iL 29 28,
 iM 30 0,
 iP 31 (.nck (.t 30)),
 iF 32 1 31,
 iL 33 32,
 iP 34 (.bin .sub (.i .i64) (.t 33) (.c (i64 1))),
 iP 35 (.ia 1 (.t 29) (.t 34)),
 iL 36 35,
 iM 37 1,
 ⟨(some 38), none, .q (.c (.fn (.func 18) [] [])) [(.t 36), (.t 37)]⟩,
 iM 4 38])
 .ret))))
def r37 : List RS := [.t 4]
theorem c37 : chkF Tryz.prog drawB Tryz.f37 i37 r37 = true := by kernel_rfl
def l38_0 : IC := .keep [0, 3, 4]
 (.seq
 (.seq
 (.reg [
 iM 6 4,
 iP 7 (.bin .neq (.i .i64) (.t 6) (.c (i64 0)))])
 (.cond (.t 7)
 .skip
 (.exit 0)))
 (.seq
 (.blk 1
 (.reg [
 iM 10 4,
 iP 11 (.bin .rem (.i .i64) (.t 10) (.c (i64 10))),
 iM 12 4,
 iP 13 (.bin .rem (.i .i64) (.t 12) (.c (i64 10))),
 iP 14 (.neg .i64 (.t 13)),
 iP 15 (.mm true .i64 (.t 11) (.t 14)),
 iP 16 (.bin .add (.i .i64) (.c (i64 48)) (.t 15)),
 iP 17 (.cvi .i32 (.t 16)),
 iP 18 (.rst (.t 17)),
 iM 19 3,
 iP 20 (.bin .add .s (.t 18) (.t 19)),
 iM 3 20]))
 (.reg [
 iM 8 4,
 iP 9 (.bin .quo (.i .i64) (.t 8) (.c (i64 10))),
 iM 4 9])))
def i38 : IC :=
 (.seq
 (.reg [
 iP 2 (.mov (.c (st ⟨#[]⟩)))])
 (.seq
 (.reg [
 iP 3 (.mov (.c (st ⟨#[]⟩)))])
 (.seq
 (.seq
 (.reg [
 iM 5 0,
 iM 4 5])
 (.blk 0
 (.loop l38_0)))
 (.seq
 (.seq
 (.reg [
 iM 21 0,
 iP 22 (.bin .lss (.i .i64) (.t 21) (.c (i64 0)))])
 (.cond (.t 22)
 (.seq
 (.reg [
 iM 23 3,
 iP 24 (.bin .add .s (.c (st ⟨#[45]⟩)) (.t 23)),
 iM 2 24])
 .ret)
 .skip))
 (.seq
 (.seq
 (.reg [
 iM 25 0,
 iP 26 (.bin .eql (.i .i64) (.t 25) (.c (i64 0)))])
 (.cond (.t 26)
 (.seq
 (.reg [
 iP 2 (.mov (.c (st ⟨#[48]⟩)))])
 .ret)
 .skip))
 (.seq
 (.reg [
 iM 27 3,
 iM 2 27])
 .ret))))))
def r38 : List RS := [.t 2]
theorem c38 : chkF Tryz.prog drawB Tryz.f38 i38 r38 = true := by kernel_rfl
def i39 : IC :=
 (.seq
 (.reg [
 iP 4 (.mov (.c (st ⟨#[]⟩)))])
 (.seq
 (.reg [
 iM 5 1,
 iM 6 0,
 iM 7 1,
 iP 8 (.len (.t 7)),
 iC 9 37 [.t 6, .t 8],
 iP 10 (.ia 1 (.t 5) (.t 9)),
 iL 11 10,
 iM 4 11])
 .ret))
def r39 : List RS := [.t 4]
theorem c39 : chkF Tryz.prog drawB Tryz.f39 i39 r39 = true := by kernel_rfl
def i40 : IC :=
 (.seq
 (.reg [
 iP 6 (.mov (.c (st ⟨#[]⟩)))])
 (.seq
 (.reg [
 iM 9 0,
 iM 10 2,
 iC 11 71 [.t 9, .t 10],
 iM 7 11])
 (.seq
 (.reg [
 iM 12 7,
 iP 13 (.bin .add .s (.c (st ⟨#[100, 101, 97, 108, 32]⟩)) (.t 12)),
 iP 14 (.bin .add .s (.t 13) (.c (st ⟨#[32, 105, 110, 32]⟩))),
 iM 15 0,
 iE 16 (.bsl 9 1 4 [st ⟨#[]⟩] [(0, (.c (st ⟨#[48, 32, 46, 46, 32, 49]⟩))), (1, (.c (st ⟨#[49, 32, 46, 46, 32, 50]⟩))), (2, (.c (st ⟨#[48, 32, 46, 46, 32, 50]⟩))), (3, (.c (st ⟨#[51, 32, 46, 46, 32, 51]⟩)))]),
 iC 17 39 [.t 15, .t 16],
 iP 18 (.bin .add .s (.t 14) (.t 17)),
 iM 8 18])
 (.seq
 (.seq
 (.reg [
 iM 19 0,
 iC 20 37 [.t 19, (.c (i64 4))]])
 (.blk 0
 (.seq
 (.reg [
 iP 22 (.bin .eql (.i .i64) (.t 20) (.c (i64 0))),
 iM 21 22])
 (.cond (.t 21)
 (.reg [
 iM 23 8,
 iP 24 (.bin .add .s (.t 23) (.c (st ⟨#[32, 119, 101, 105, 103, 104, 116, 32, 49, 32, 43, 32]⟩))),
 iM 25 7,
 iP 26 (.bin .add .s (.t 24) (.t 25)),
 iM 8 26])
 (.seq
 (.reg [
 iP 28 (.bin .eql (.i .i64) (.t 20) (.c (i64 1))),
 iM 27 28])
 (.cond (.t 27)
 (.reg [
 iM 29 8,
 iP 30 (.bin .add .s (.t 29) (.c (st ⟨#[32, 119, 101, 105, 103, 104, 116, 32, 105, 102, 40]⟩))),
 iM 31 7,
 iP 32 (.bin .add .s (.t 30) (.t 31)),
 iP 33 (.bin .add .s (.t 32) (.c (st ⟨#[32, 61, 61, 32, 49, 44, 32, 50, 44, 32, 49, 41]⟩))),
 iM 8 33])
 (.seq
 (.reg [
 iP 35 (.bin .eql (.i .i64) (.t 20) (.c (i64 2))),
 iM 34 35])
 (.cond (.t 34)
 (.reg [
 iM 36 8,
 iP 37 (.bin .add .s (.t 36) (.c (st ⟨#[32, 119, 101, 105, 103, 104, 116, 32, 109, 97, 120, 40]⟩))),
 iM 38 7,
 iP 39 (.bin .add .s (.t 37) (.t 38)),
 iP 40 (.bin .add .s (.t 39) (.c (st ⟨#[44, 32, 48, 41, 32, 43, 32, 105, 102, 40]⟩))),
 iM 41 7,
 iP 42 (.bin .add .s (.t 40) (.t 41)),
 iP 43 (.bin .add .s (.t 42) (.c (st ⟨#[32, 61, 61, 32, 50, 44, 32, 48, 44, 32, 49, 41]⟩))),
 iM 8 43])
 .skip))))))))
 (.seq
 (.seq
 (.reg [
 iM 44 0,
 iC 45 37 [.t 44, (.c (i64 3))]])
 (.blk 1
 (.seq
 (.reg [
 iP 47 (.bin .eql (.i .i64) (.t 45) (.c (i64 0))),
 iM 46 47])
 (.cond (.t 46)
 (.reg [
 iM 48 8,
 iP 49 (.bin .add .s (.t 48) (.c (st ⟨#[32, 115, 101, 101, 110, 32, 98, 121, 32, 97, 108, 108]⟩))),
 iM 8 49])
 (.seq
 (.reg [
 iP 51 (.bin .eql (.i .i64) (.t 45) (.c (i64 1))),
 iM 50 51])
 (.cond (.t 50)
 (.reg [
 iM 52 8,
 iP 53 (.bin .add .s (.t 52) (.c (st ⟨#[32, 115, 101, 101, 110, 32, 98, 121, 32]⟩))),
 iM 54 0,
 iM 55 1,
 iC 56 37 [.t 54, .t 55],
 iC 57 38 [.t 56],
 iP 58 (.bin .add .s (.t 53) (.t 57)),
 iM 8 58])
 .skip))))))
 (.seq
 (.reg [
 iM 59 8,
 iP 60 (.bin .add .s (.t 59) (.c (st ⟨#[59, 10]⟩))),
 iM 6 60])
 .ret))))))
def r40 : List RS := [.t 6]
theorem c40 : chkF Tryz.prog drawB Tryz.f40 i40 r40 = true := by kernel_rfl
def l41_1 : IC := .keep [0, 2, 3, 4, 11, 12, 13, 14]
 (.seq
 (.seq
 (.reg [
 iM 75 14,
 iP 76 (.bin .gtr (.i .i64) (.t 75) (.c (i64 0)))])
 (.cond (.t 76)
 .skip
 (.exit 2)))
 (.seq
 (.blk 3
 (.reg [
 iM 79 11,
 iP 80 (.bin .add .s (.t 79) (.c (st ⟨#[32]⟩))),
 iM 81 0,
 iM 82 2,
 iC 83 71 [.t 81, .t 82],
 iP 84 (.bin .add .s (.t 80) (.t 83)),
 iP 85 (.bin .add .s (.t 84) (.c (st ⟨#[32, 61, 32]⟩))),
 iM 86 0,
 iM 87 2,
 iC 88 42 [.t 86, .t 87],
 iP 89 (.bin .add .s (.t 85) (.t 88)),
 iP 90 (.bin .add .s (.t 89) (.c (st ⟨#[59]⟩))),
 iM 11 90]))
 (.reg [
 iM 77 14,
 iP 78 (.bin .sub (.i .i64) (.t 77) (.c (i64 1))),
 iM 14 78])))
def l41_0 : IC := .keep [0, 2, 3, 4, 11, 12, 13]
 (.seq
 (.seq
 (.reg [
 iM 41 13,
 iM 42 12,
 iP 43 (.bin .lss (.i .i64) (.t 41) (.t 42))])
 (.cond (.t 43)
 .skip
 (.exit 0)))
 (.seq
 (.blk 1
 (.seq
 (.reg [
 iM 46 11,
 iP 47 (.bin .add .s (.t 46) (.c (st ⟨#[32, 32, 97, 99, 116, 105, 111, 110, 32]⟩))),
 iE 48 (.bsl 9 1 3 [st ⟨#[]⟩] [(0, (.c (st ⟨#[97]⟩))), (1, (.c (st ⟨#[98]⟩))), (2, (.c (st ⟨#[99]⟩)))]),
 iM 49 13,
 iP 50 (.ia 1 (.t 48) (.t 49)),
 iL 51 50,
 iP 52 (.bin .add .s (.t 47) (.t 51)),
 iM 11 52])
 (.seq
 (.seq
 (.reg [
 iM 53 13,
 iP 54 (.bin .gtr (.i .i64) (.t 53) (.c (i64 0))),
 iM 55 54,
 iG 56 55 true (.mov (.t 0)),
 ⟨(some 57), (some (55, true)), .e (.call (.c (.fn (.func 37) [] [])) [(.t 56), (.c (i64 3))])⟩,
 iG 58 55 true (.bin .eql (.i .i64) (.t 57) (.c (i64 0))),
 iP 59 (.pick (.t 55) (.t 58) (.c (bl false)))])
 (.cond (.t 59)
 (.reg [
 iM 60 11,
 iP 61 (.bin .add .s (.t 60) (.c (st ⟨#[32, 119, 104, 101, 110, 32]⟩))),
 iM 62 0,
 iM 63 2,
 iC 64 72 [.t 62, .t 63],
 iP 65 (.bin .add .s (.t 61) (.t 64)),
 iM 11 65])
 .skip))
 (.seq
 (.seq
 (.reg [
 iM 66 0,
 iC 67 37 [.t 66, (.c (i64 3))],
 iP 68 (.bin .eql (.i .i64) (.t 67) (.c (i64 0)))])
 (.cond (.t 68)
 (.reg [
 iM 69 11,
 iP 70 (.bin .add .s (.t 69) (.c (st ⟨#[32, 104, 105, 100, 100, 101, 110]⟩))),
 iM 11 70])
 .skip))
 (.seq
 (.reg [
 iM 71 11,
 iP 72 (.bin .add .s (.t 71) (.c (st ⟨#[32, 123]⟩))),
 iM 11 72])
 (.seq
 (.seq
 (.reg [
 iM 73 0,
 iC 74 37 [.t 73, (.c (i64 3))],
 iM 14 74])
 (.blk 2
 (.loop l41_1)))
 (.seq
 (.reg [
 iM 91 11,
 iP 92 (.bin .add .s (.t 91) (.c (st ⟨#[32, 125]⟩))),
 iM 11 92])
 (.seq
 (.seq
 (.reg [
 iM 93 0,
 iC 94 37 [.t 93, (.c (i64 3))],
 iP 95 (.bin .eql (.i .i64) (.t 94) (.c (i64 0)))])
 (.cond (.t 95)
 (.reg [
 iM 96 11,
 iP 97 (.bin .add .s (.t 96) (.c (st ⟨#[32, 103, 111, 116, 111, 32, 115]⟩))),
 iM 98 3,
 iP 99 (.bin .add (.i .i64) (.t 98) (.c (i64 1))),
 iM 100 0,
 iM 101 4,
 iM 102 3,
 iP 103 (.bin .sub (.i .i64) (.t 101) (.t 102)),
 iC 104 37 [.t 100, .t 103],
 iP 105 (.bin .add (.i .i64) (.t 99) (.t 104)),
 iC 106 38 [.t 105],
 iP 107 (.bin .add .s (.t 97) (.t 106)),
 iP 108 (.bin .add .s (.t 107) (.c (st ⟨#[59]⟩))),
 iM 11 108])
 .skip))
 (.reg [
 iM 109 11,
 iP 110 (.bin .add .s (.t 109) (.c (st ⟨#[10]⟩))),
 iM 11 110])))))))))
 (.reg [
 iM 44 13,
 iP 45 (.bin .add (.i .i64) (.t 44) (.c (i64 1))),
 iM 13 45])))
def i41 : IC :=
 (.seq
 (.reg [
 iP 10 (.mov (.c (st ⟨#[]⟩)))])
 (.seq
 (.reg [
 iP 11 (.mov (.c (st ⟨#[116, 117, 114, 110, 32]⟩)))])
 (.seq
 (.seq
 (.reg [
 iM 15 0,
 iC 16 37 [.t 15, (.c (i64 4))],
 iP 17 (.bin .eql (.i .i64) (.t 16) (.c (i64 0)))])
 (.cond (.t 17)
 (.reg [
 iM 18 11,
 iP 19 (.bin .add .s (.t 18) (.c (st ⟨#[105, 102, 40]⟩))),
 iM 20 0,
 iM 21 2,
 iC 22 72 [.t 20, .t 21],
 iP 23 (.bin .add .s (.t 19) (.t 22)),
 iP 24 (.bin .add .s (.t 23) (.c (st ⟨#[44, 32, 48, 44, 32]⟩))),
 iM 25 1,
 iP 26 (.bin .sub (.i .i64) (.t 25) (.c (i64 1))),
 iC 27 38 [.t 26],
 iP 28 (.bin .add .s (.t 24) (.t 27)),
 iP 29 (.bin .add .s (.t 28) (.c (st ⟨#[41]⟩))),
 iM 11 29])
 (.reg [
 iM 30 11,
 iM 31 0,
 iM 32 1,
 iC 33 37 [.t 31, .t 32],
 iC 34 38 [.t 33],
 iP 35 (.bin .add .s (.t 30) (.t 34)),
 iM 11 35])))
 (.seq
 (.reg [
 iM 36 11,
 iP 37 (.bin .add .s (.t 36) (.c (st ⟨#[32, 123, 10]⟩))),
 iM 11 37])
 (.seq
 (.reg [
 iM 38 0,
 iC 39 37 [.t 38, (.c (i64 3))],
 iP 40 (.bin .add (.i .i64) (.c (i64 1)) (.t 39)),
 iM 12 40])
 (.seq
 (.seq
 (.reg [
 iP 13 (.mov (.c (i64 0)))])
 (.blk 0
 (.loop l41_0)))
 (.seq
 (.reg [
 iM 111 11,
 iP 112 (.bin .add .s (.t 111) (.c (st ⟨#[125, 10]⟩))),
 iM 10 112])
 .ret)))))))
def r41 : List RS := [.t 10]
theorem c41 : chkF Tryz.prog drawB Tryz.f41 i41 r41 = true := by kernel_rfl
def i42 : IC :=
 (.seq
 (.reg [
 iP 4 (.mov (.c (st ⟨#[]⟩)))])
 (.seq
 (.reg [
 iM 7 0,
 iM 8 1,
 iC 9 71 [.t 7, .t 8],
 iM 10 0,
 iM 11 1,
 iC 12 71 [.t 10, .t 11],
 iM 5 9,
 iM 6 12])
 (.seq
 (.seq
 (.reg [
 iM 13 0,
 iC 14 37 [.t 13, (.c (i64 8))]])
 (.blk 0
 (.seq
 (.reg [
 iP 16 (.bin .eql (.i .i64) (.t 14) (.c (i64 0))),
 iM 15 16])
 (.cond (.t 15)
 (.seq
 (.reg [
 iM 17 5,
 iP 18 (.bin .add .s (.t 17) (.c (st ⟨#[32, 43, 32]⟩))),
 iM 19 6,
 iP 20 (.bin .add .s (.t 18) (.t 19)),
 iM 4 20])
 .ret)
 (.seq
 (.reg [
 iP 22 (.bin .eql (.i .i64) (.t 14) (.c (i64 1))),
 iM 21 22])
 (.cond (.t 21)
 (.seq
 (.reg [
 iM 23 5,
 iP 24 (.bin .add .s (.t 23) (.c (st ⟨#[32, 45, 32, 50, 32, 42, 32]⟩))),
 iM 25 6,
 iP 26 (.bin .add .s (.t 24) (.t 25)),
 iM 4 26])
 .ret)
 (.seq
 (.reg [
 iP 28 (.bin .eql (.i .i64) (.t 14) (.c (i64 2))),
 iM 27 28])
 (.cond (.t 27)
 (.seq
 (.reg [
 iM 29 5,
 iP 30 (.bin .add .s (.c (st ⟨#[109, 97, 120, 40]⟩)) (.t 29)),
 iP 31 (.bin .add .s (.t 30) (.c (st ⟨#[44, 32]⟩))),
 iM 32 6,
 iP 33 (.bin .add .s (.t 31) (.t 32)),
 iP 34 (.bin .add .s (.t 33) (.c (st ⟨#[41]⟩))),
 iM 4 34])
 .ret)
 (.seq
 (.reg [
 iP 36 (.bin .eql (.i .i64) (.t 14) (.c (i64 3))),
 iM 35 36])
 (.cond (.t 35)
 (.seq
 (.reg [
 iM 37 5,
 iP 38 (.bin .add .s (.c (st ⟨#[105, 102, 40]⟩)) (.t 37)),
 iP 39 (.bin .add .s (.t 38) (.c (st ⟨#[32, 60, 32]⟩))),
 iM 40 6,
 iP 41 (.bin .add .s (.t 39) (.t 40)),
 iP 42 (.bin .add .s (.t 41) (.c (st ⟨#[44, 32, 49, 44, 32, 45, 49, 41]⟩))),
 iM 4 42])
 .ret)
 (.seq
 (.reg [
 iP 44 (.bin .eql (.i .i64) (.t 14) (.c (i64 4))),
 iM 43 44])
 (.cond (.t 43)
 (.seq
 (.reg [
 iM 45 5,
 iP 46 (.bin .add .s (.c (st ⟨#[109, 105, 110, 40]⟩)) (.t 45)),
 iP 47 (.bin .add .s (.t 46) (.c (st ⟨#[44, 32, 51, 41, 32, 43, 32, 49]⟩))),
 iM 4 47])
 .ret)
 (.seq
 (.reg [
 iP 49 (.bin .eql (.i .i64) (.t 14) (.c (i64 5))),
 iM 48 49])
 (.cond (.t 48)
 (.seq
 (.reg [
 iM 50 5,
 iP 51 (.bin .add .s (.c (st ⟨#[45]⟩)) (.t 50)),
 iM 4 51])
 .ret)
 (.seq
 (.reg [
 iP 53 (.bin .eql (.i .i64) (.t 14) (.c (i64 6))),
 iM 52 53])
 (.cond (.t 52)
 (.seq
 (.reg [
 iM 54 5,
 iP 55 (.bin .add .s (.c (st ⟨#[40]⟩)) (.t 54)),
 iP 56 (.bin .add .s (.t 55) (.c (st ⟨#[32, 43, 32, 55, 41, 32, 37, 32, 51]⟩))),
 iM 4 56])
 .ret)
 .skip))))))))))))))))
 (.seq
 (.reg [
 iM 57 5,
 iM 4 57])
 .ret))))
def r42 : List RS := [.t 4]
theorem c42 : chkF Tryz.prog drawB Tryz.f42 i42 r42 = true := by kernel_rfl
def i49 : IC :=
 (.seq
 (.reg [
 iE 3 (.box 53 (.t 1)),
 iP 4 (.mov (.c (i64 0))),
 iE 5 (.alc 32 [i64 0, i64 0])])
 (.seq
 (.reg [
 iM 8 0,
 iC 9 24 [.t 8],
 iE 6 (.alc 65 [.val (.map none), .val (.map none)]),
 ⟨none, none, .e (.st 2 (.t 6) (.t 9))⟩])
 (.seq
 (.reg [
 iP 11 (.ldn 5 (.t 3)),
 iC 12 80 [.t 6, .t 11, (.c (i64 0))],
 iM 10 12,
 iP 13 (.ext (.t 10) 0),
 iP 14 (.ext (.t 10) 1),
 iM 4 13,
 iM 7 14])
 (.seq
 (.seq
 (.reg [
 iM 15 7,
 iP 16 (.ifn true true (.t 15))])
 (.cond (.t 16)
 (.seq
 (.reg [
 iM 17 7,
 iC 18 31 [.t 17],
 iP 4 (.mov (.c (i64 0))),
 ⟨none, none, .e (.st 2 (.t 5) (.t 18))⟩])
 .ret)
 .skip))
 (.seq
 (.reg [
 iM 19 4,
 iP 20 (.bld [i64 0, i64 0] []),
 iM 4 19,
 ⟨none, none, .e (.st 2 (.t 5) (.t 20))⟩])
 .ret)))))
def r49 : List RS := [.t 4, .cn 5 2]
theorem c49 : chkF Tryz.prog drawB Tryz.f49 i49 r49 = true := by kernel_rfl
def i50 : IC :=
 (.seq
 (.reg [
 iE 2 (.alc 53 [i64 0, i64 0, st ⟨#[]⟩, .val (.slice none 0 0), i64 0])])
 (.seq
 (.reg [
 iM 6 0,
 iC 7 81 [.t 6],
 iM 5 7,
 iP 8 (.ext (.t 5) 0),
 iP 9 (.ext (.t 5) 1),
 iE 3 (.alc 53 [i64 0, i64 0, st ⟨#[]⟩, .val (.slice none 0 0), i64 0]),
 iE 4 (.alc 32 [i64 0, i64 0]),
 ⟨none, none, .e (.st 5 (.t 3) (.t 8))⟩,
 ⟨none, none, .e (.st 2 (.t 4) (.t 9))⟩])
 (.seq
 (.reg [
 iP 10 (.ldn 5 (.t 3)),
 ⟨none, none, .e (.st 5 (.t 2) (.t 10))⟩])
 .ret)))
def r50 : List RS := [.cn 2 5]
theorem c50 : chkF Tryz.prog drawB Tryz.f50 i50 r50 = true := by kernel_rfl
def l51_0 : IC := .keep [2, 3, 7, 8, 9]
 (.seq
 (.reg [
 iP 10 (.bin .lss (.i .i64) (.t 9) (.t 8))])
 (.seq
 (.cond (.t 10)
 .skip
 (.exit 0))
 (.seq
 (.blk 1
 (.seq
 (.reg [
 iP 11 (.ia 1 (.t 7) (.t 9)),
 iL 12 11,
 iM 6 12])
 (.reg [
 iF 13 1 2,
 iL 14 13,
 iM 15 6,
 iP 16 (.ldn 3 (.t 3)),
 ⟨none, none, .e (.mup (.i .i64) (.t 14) (.t 15) (.t 16))⟩])))
 (.reg [
 iP 17 (.bin .add (.i .i64) (.t 9) (.c (i64 1))),
 iM 9 17]))))
def i51 : IC :=
 (.seq
 (.reg [
 iE 3 (.box 100 (.t 0))])
 (.seq
 (.reg [
 iM 7 1,
 iP 8 (.len (.t 7)),
 iP 9 (.mov (.c (i64 0)))])
 (.blk 0
 (.loop l51_0))))
def r51 : List RS := []
theorem c51 : chkF Tryz.prog drawB Tryz.f51 i51 r51 = true := by kernel_rfl
def i52 : IC :=
 (.seq
 (.reg [
 iP 2 (.mov (.c (.val (.slice none 0 0)))),
 iP 3 (.mov (.c (i64 0)))])
 (.seq
 (.drw [0, 1, 2, 3, 4, 5, 7, 8, 9, 6, 10, 11] [
 iM 4 0,
 iP 5 (.ia 1 (.t 4) (.c (i64 1))),
 iL 6 5,
 iM 7 0,
 iP 8 (.ia 1 (.t 7) (.c (i64 1))),
 iL 9 8,
 iM 11 0,
 iP 12 (.ia 1 (.t 11) (.c (i64 1))),
 iL 13 12,
 iE 10 (.bsl 3 1 3 [i64 0] [(0, (.c (i64 2))), (1, (.t 6)), (2, (.t 9))]),
 iM 2 10,
 iM 3 13])
 .ret))
def r52 : List RS := [.t 2, .t 3]
theorem c52 : chkF Tryz.prog drawB Tryz.f52 i52 r52 = true := by kernel_rfl
def i53 : IC :=
 (.seq
 (.reg [
 iP 4 (.mov (.c (.val .nilIface)))])
 (.seq
 (.reg [
 iM 5 0,
 iM 6 1,
 iP 7 (.bld [i64 0, i64 0] [(0, 1, (.t 5)), (1, 1, (.t 6))]),
 iP 8 (.bld [i64 0, i64 0] [(0, 2, (.t 7))]),
 iP 9 (.mki 107 (.t 8)),
 iM 4 9])
 .ret))
def r53 : List RS := [.t 4]
theorem c53 : chkF Tryz.prog drawB Tryz.f53 i53 r53 = true := by kernel_rfl
def l54_0 : IC := .keep [0, 3, 47, 48, 49]
 (.seq
 (.reg [
 iP 50 (.bin .lss (.i .i64) (.t 49) (.t 48))])
 (.seq
 (.cond (.t 50)
 .skip
 (.exit 0))
 (.seq
 (.blk 1
 (.seq
 (.reg [
 iP 51 (.ia 5 (.t 47) (.t 49)),
 iP 52 (.ldn 5 (.t 51)),
 iE 6 (.alc 53 [i64 0, i64 0, st ⟨#[]⟩, .val (.slice none 0 0), i64 0]),
 ⟨none, none, .e (.st 5 (.t 6) (.t 52))⟩])
 (.seq
 (.drw [0, 1, 2, 3, 4, 5] [
 iM 53 0,
 iP 54 (.nck (.t 53)),
 iF 55 0 54,
 iP 56 (.ldn 5 (.t 6)),
 ⟨(some 57), none, .q (.c (.fn (.func 83) [] [])) [(.t 55), (.t 56), (.c (i64 1))]⟩,
 iM 7 57])
 (.seq
 (.reg [
 iM 58 7,
 iP 59 (.ifn true true (.t 58))])
 (.cond (.t 59)
 (.seq
 (.reg [
 iM 60 7,
 iM 4 60])
 .ret)
 .skip)))))
 (.reg [
 iP 61 (.bin .add (.i .i64) (.t 49) (.c (i64 1))),
 iM 49 61]))))
def l54_1 : IC := .keep [0, 3, 63, 64, 65]
 (.seq
 (.reg [
 iP 66 (.bin .lss (.i .i64) (.t 65) (.t 64))])
 (.seq
 (.cond (.t 66)
 .skip
 (.exit 2))
 (.seq
 (.blk 3
 (.seq
 (.reg [
 iM 67 65,
 iP 68 (.ia 1 (.t 63) (.t 65)),
 iL 69 68,
 iM 8 67,
 iM 9 69])
 (.seq
 (.seq
 (.reg [
 iM 70 9,
 iP 71 (.bin .lss (.i .i64) (.t 70) (.c (i64 0))),
 iM 72 71,
 iG 73 72 false (.mov (.t 9)),
 iG 74 72 false (.mov (.t 0)),
 iG 75 72 false (.nck (.t 74)),
 iG 76 72 false (.fa 2 (.t 75)),
 iG 77 72 false (.fa 1 (.t 76)),
 iG 78 72 false (.ld1 (.t 77)),
 iG 79 72 false (.bin .geq (.i .i64) (.t 73) (.t 78)),
 iP 80 (.pick (.t 72) (.c (bl true)) (.t 79))])
 (.cond (.t 80)
 (.seq
 (.reg [
 iF 81 11 3,
 iL 82 81,
 iC 83 53 [(.c (i64 2)), .t 82],
 iM 4 83])
 .ret)
 .skip))
 (.seq
 (.reg [
 iM 84 8,
 iP 85 (.bin .gtr (.i .i64) (.t 84) (.c (i64 0))),
 iM 86 85,
 iG 87 86 true (.mov (.t 9)),
 iG 88 86 true (.fa 7 (.t 3)),
 iG 89 86 true (.ld1 (.t 88)),
 iG 90 86 true (.mov (.t 8)),
 iG 91 86 true (.bin .sub (.i .i64) (.t 90) (.c (i64 1))),
 iG 92 86 true (.ia 1 (.t 89) (.t 91)),
 iG 93 86 true (.ld1 (.t 92)),
 iG 94 86 true (.bin .leq (.i .i64) (.t 87) (.t 93)),
 iP 95 (.pick (.t 86) (.t 94) (.c (bl false)))])
 (.cond (.t 95)
 (.seq
 (.reg [
 iF 96 11 3,
 iL 97 96,
 iC 98 53 [(.c (i64 9)), .t 97],
 iM 4 98])
 .ret)
 .skip)))))
 (.reg [
 iP 99 (.bin .add (.i .i64) (.t 65) (.c (i64 1))),
 iM 65 99]))))
def i54 : IC :=
 (.seq
 (.reg [
 iE 3 (.box 45 (.t 1)),
 iP 4 (.mov (.c (.val .nilIface)))])
 (.seq
 (.seq
 (.drw [0, 1, 2, 3, 4, 5, 6] [
 iM 10 0,
 iP 11 (.nck (.t 10)),
 iF 12 0 11,
 iF 13 2 3,
 iL 14 13,
 ⟨(some 15), none, .q (.c (.fn (.func 82) [] [])) [(.t 12), (.t 14)]⟩,
 iP 16 (.not (.t 15))])
 (.cond (.t 16)
 (.seq
 (.reg [
 iF 17 11 3,
 iL 18 17,
 iC 19 53 [(.c (i64 7)), .t 18],
 iM 4 19])
 .ret)
 .skip))
 (.seq
 (.seq
 (.reg [
 iF 20 3 3,
 iL 21 20,
 iP 22 (.bin .lss (.i .i64) (.t 21) (.c (i64 (-1000000000)))),
 iM 23 22,
 iG 24 23 false (.fa 3 (.t 3)),
 iG 25 23 false (.ld1 (.t 24)),
 iG 26 23 false (.bin .gtr (.i .i64) (.t 25) (.c (i64 1000000000))),
 iP 27 (.pick (.t 23) (.c (bl true)) (.t 26)),
 iM 28 27,
 iG 29 28 false (.fa 4 (.t 3)),
 iG 30 28 false (.ld1 (.t 29)),
 iG 31 28 false (.fa 3 (.t 3)),
 iG 32 28 false (.ld1 (.t 31)),
 iG 33 28 false (.bin .lss (.i .i64) (.t 30) (.t 32)),
 iP 34 (.pick (.t 28) (.c (bl true)) (.t 33)),
 iM 35 34,
 iG 36 35 false (.fa 4 (.t 3)),
 iG 37 35 false (.ld1 (.t 36)),
 iG 38 35 false (.fa 3 (.t 3)),
 iG 39 35 false (.ld1 (.t 38)),
 iG 40 35 false (.bin .add (.i .i64) (.t 39) (.c (i64 60))),
 iG 41 35 false (.bin .geq (.i .i64) (.t 37) (.t 40)),
 iP 42 (.pick (.t 35) (.c (bl true)) (.t 41))])
 (.cond (.t 42)
 (.seq
 (.reg [
 iF 43 11 3,
 iL 44 43,
 iC 45 53 [(.c (i64 2)), .t 44],
 iM 4 45])
 .ret)
 .skip))
 (.seq
 (.seq
 (.reg [
 iF 46 5 3,
 iL 47 46,
 iP 48 (.len (.t 47)),
 iP 49 (.mov (.c (i64 0)))])
 (.blk 0
 (.loop l54_0)))
 (.seq
 (.seq
 (.reg [
 iF 62 7 3,
 iL 63 62,
 iP 64 (.len (.t 63)),
 iP 65 (.mov (.c (i64 0)))])
 (.blk 2
 (.loop l54_1)))
 (.seq
 (.reg [
 iP 4 (.mov (.c (.val .nilIface)))])
 .ret))))))
def r54 : List RS := [.t 4]
theorem c54 : chkF Tryz.prog drawB Tryz.f54 i54 r54 = true := by kernel_rfl
def l55_0 : IC := .keep [0, 1, 8, 38, 39, 40]
 (.seq
 (.reg [
 iP 41 (.bin .lss (.i .i64) (.t 40) (.t 39))])
 (.seq
 (.cond (.t 41)
 .skip
 (.exit 0))
 (.seq
 (.blk 1
 (.seq
 (.reg [
 iP 42 (.ia 6 (.t 38) (.t 40)),
 iP 43 (.ldn 6 (.t 42)),
 iE 10 (.alc 51 [st ⟨#[]⟩, .val (.slice none 0 0), bl false, .val (.slice none 0 0), st ⟨#[]⟩, i64 0]),
 ⟨none, none, .e (.st 6 (.t 10) (.t 43))⟩])
 (.seq
 (.seq
 (.reg [
 iM 44 8,
 iF 45 0 10,
 iL 46 45,
 iP 47 (.lkp .s false (bl false) (.t 44) (.t 46))])
 (.cond (.t 47)
 (.seq
 (.reg [
 iF 48 5 10,
 iL 49 48,
 iC 50 53 [(.c (i64 8)), .t 49],
 iM 6 50])
 .ret)
 .skip))
 (.seq
 (.reg [
 iM 51 8,
 iF 52 0 10,
 iL 53 52,
 ⟨none, none, .e (.mup .s (.t 51) (.t 53) (.c (bl true)))⟩])
 (.seq
 (.reg [
 iM 54 0,
 iM 55 1,
 iP 56 (.ldn 6 (.t 10)),
 iC 57 84 [.t 54, .t 55, .t 56],
 iM 11 57])
 (.seq
 (.reg [
 iM 58 11,
 iP 59 (.ifn true true (.t 58))])
 (.cond (.t 59)
 (.seq
 (.reg [
 iM 60 11,
 iM 6 60])
 .ret)
 .skip)))))))
 (.reg [
 iP 61 (.bin .add (.i .i64) (.t 40) (.c (i64 1))),
 iM 40 61]))))
def i55 : IC :=
 (.seq
 (.reg [
 iE 5 (.box 45 (.t 2)),
 iP 6 (.mov (.c (.val .nilIface)))])
 (.seq
 (.seq
 (.drw [0, 1, 2, 3, 4, 5, 6, 7, 8] [
 iM 12 0,
 iP 13 (.nck (.t 12)),
 iF 14 0 13,
 iF 15 8 5,
 iL 16 15,
 iP 17 (.ia 5 (.t 16) (.c (i64 0))),
 iP 18 (.ldn 5 (.t 17)),
 ⟨(some 19), none, .q (.c (.fn (.func 83) [] [])) [(.t 14), (.t 18), (.c (i64 1))]⟩,
 iM 7 19])
 (.seq
 (.reg [
 iM 20 7,
 iP 21 (.ifn true true (.t 20))])
 (.cond (.t 21)
 (.seq
 (.reg [
 iM 22 7,
 iM 6 22])
 .ret)
 .skip)))
 (.seq
 (.seq
 (.reg [
 iF 23 9 5,
 iL 24 23,
 iP 25 (.len (.t 24)),
 iP 26 (.bin .lss (.i .i64) (.t 25) (.c (i64 1))),
 iM 27 26,
 iG 28 27 false (.fa 9 (.t 5)),
 iG 29 27 false (.ld1 (.t 28)),
 iG 30 27 false (.len (.t 29)),
 iG 31 27 false (.bin .gtr (.i .i64) (.t 30) (.c (i64 10))),
 iP 32 (.pick (.t 27) (.c (bl true)) (.t 31))])
 (.cond (.t 32)
 (.seq
 (.reg [
 iF 33 11 5,
 iL 34 33,
 iC 35 53 [(.c (i64 3)), .t 34],
 iM 6 35])
 .ret)
 .skip))
 (.seq
 (.reg [
 iE 36 (.mkm 62),
 iM 8 36])
 (.seq
 (.seq
 (.reg [
 iF 37 9 5,
 iL 38 37,
 iP 39 (.len (.t 38)),
 iP 40 (.mov (.c (i64 0)))])
 (.blk 0
 (.loop l55_0)))
 (.seq
 (.reg [
 iP 6 (.mov (.c (.val .nilIface)))])
 .ret))))))
def r55 : List RS := [.t 6]
theorem c55 : chkF Tryz.prog drawB Tryz.f55 i55 r55 = true := by kernel_rfl
def l56_0 : IC := .keep [0, 21, 22, 23]
 (.seq
 (.reg [
 iP 24 (.bin .lss (.i .i64) (.t 23) (.t 22))])
 (.seq
 (.cond (.t 24)
 .skip
 (.exit 0))
 (.seq
 (.blk 1
 (.seq
 (.reg [
 iP 25 (.ia 5 (.t 21) (.t 23)),
 iP 26 (.ldn 5 (.t 25)),
 iE 6 (.alc 53 [i64 0, i64 0, st ⟨#[]⟩, .val (.slice none 0 0), i64 0]),
 ⟨none, none, .e (.st 5 (.t 6) (.t 26))⟩])
 (.seq
 (.drw [0, 1, 2, 3, 4, 5] [
 iM 27 0,
 iP 28 (.nck (.t 27)),
 iF 29 0 28,
 iP 30 (.ldn 5 (.t 6)),
 ⟨(some 31), none, .q (.c (.fn (.func 83) [] [])) [(.t 29), (.t 30), (.c (i64 1))]⟩,
 iM 7 31])
 (.seq
 (.reg [
 iM 32 7,
 iP 33 (.ifn true true (.t 32))])
 (.cond (.t 33)
 (.seq
 (.reg [
 iM 34 7,
 iM 4 34])
 .ret)
 .skip)))))
 (.reg [
 iP 35 (.bin .add (.i .i64) (.t 23) (.c (i64 1))),
 iM 23 35]))))
def i56 : IC :=
 (.seq
 (.reg [
 iE 3 (.box 45 (.t 1)),
 iP 4 (.mov (.c (.val .nilIface)))])
 (.seq
 (.seq
 (.drw [0, 1, 2, 3, 4, 5, 6, 7, 8] [
 iF 8 10 3,
 iL 9 8,
 iP 10 (.len (.t 9)),
 iM 11 0,
 iP 12 (.nck (.t 11)),
 iF 13 2 12,
 iF 14 1 13,
 iL 15 14,
 iP 16 (.bin .neq (.i .i64) (.t 10) (.t 15))])
 (.cond (.t 16)
 (.seq
 (.reg [
 iF 17 11 3,
 iL 18 17,
 iC 19 53 [(.c (i64 3)), .t 18],
 iM 4 19])
 .ret)
 .skip))
 (.seq
 (.seq
 (.reg [
 iF 20 10 3,
 iL 21 20,
 iP 22 (.len (.t 21)),
 iP 23 (.mov (.c (i64 0)))])
 (.blk 0
 (.loop l56_0)))
 (.seq
 (.reg [
 iP 4 (.mov (.c (.val .nilIface)))])
 .ret))))
def r56 : List RS := [.t 4]
theorem c56 : chkF Tryz.prog drawB Tryz.f56 i56 r56 = true := by kernel_rfl
def l61_1 : IC := .keep [0, 3, 4, 5]
 (.seq
 (.seq
 (.reg [
 iM 27 5,
 iM 28 0,
 iP 29 (.lens (.t 28)),
 iP 30 (.bin .lss (.i .i64) (.t 27) (.t 29)),
 iM 31 30,
 iG 32 31 true (.mov (.t 0)),
 iG 33 31 true (.mov (.t 5)),
 iG 34 31 true (.ixs (.t 32) (.t 33)),
 iG 35 31 true (.bin .neq (.i .u8) (.t 34) (.c (.val (.int .u8 10)))),
 iP 36 (.pick (.t 31) (.t 35) (.c (bl false)))])
 (.cond (.t 36)
 .skip
 (.exit 2)))
 (.blk 3
 (.reg [
 iM 37 5,
 iP 38 (.bin .add (.i .i64) (.t 37) (.c (i64 1))),
 iM 5 38])))
def l61_0 : IC := .keep [0, 3, 4, 5]
 (.seq
 (.seq
 (.reg [
 iM 13 5,
 iM 14 0,
 iP 15 (.lens (.t 14)),
 iP 16 (.bin .lss (.i .i64) (.t 13) (.t 15))])
 (.cond (.t 16)
 .skip
 (.exit 0)))
 (.blk 1
 (.seq
 (.seq
 (.reg [
 iM 17 0,
 iM 18 5,
 iP 19 (.ixs (.t 17) (.t 18)),
 iC 20 90 [.t 19]])
 (.cond (.t 20)
 (.seq
 (.reg [
 iM 21 5,
 iP 22 (.bin .add (.i .i64) (.t 21) (.c (i64 1))),
 iM 5 22])
 (.exit 1))
 .skip))
 (.seq
 (.seq
 (.reg [
 iM 23 0,
 iM 24 5,
 iP 25 (.ixs (.t 23) (.t 24)),
 iP 26 (.bin .eql (.i .u8) (.t 25) (.c (.val (.int .u8 35))))])
 (.cond (.t 26)
 (.seq
 (.blk 2
 (.loop l61_1))
 (.exit 1))
 .skip))
 (.seq
 (.reg [
 iM 40 0,
 iM 41 5,
 iC 42 91 [.t 40, .t 41],
 iM 39 42,
 iP 43 (.ext (.t 39) 0),
 iP 44 (.ext (.t 39) 1),
 iP 45 (.ext (.t 39) 2),
 iE 6 (.alc 125 [i64 0, st ⟨#[]⟩, i64 0, i64 0]),
 iE 8 (.alc 32 [i64 0, i64 0]),
 ⟨none, none, .e (.st 4 (.t 6) (.t 43))⟩,
 iM 7 44,
 ⟨none, none, .e (.st 2 (.t 8) (.t 45))⟩])
 (.seq
 (.seq
 (.reg [
 iF 46 0 8,
 iL 47 46,
 iP 48 (.bin .neq (.i .i64) (.t 47) (.c (i64 0)))])
 (.cond (.t 48)
 (.seq
 (.drw [0, 1, 2] [
 iP 49 (.ldn 2 (.t 8)),
 iP 2 (.mov (.c (.val (.slice none 0 0)))),
 ⟨none, none, .e (.st 2 (.t 3) (.t 49))⟩])
 .ret)
 .skip))
 (.seq
 (.seq
 (.reg [
 iM 50 4,
 iP 51 (.len (.t 50)),
 iP 52 (.bin .eql (.i .i64) (.t 51) (.c (i64 5000)))])
 (.cond (.t 52)
 (.seq
 (.reg [
 iM 53 5,
 iP 54 (.bld [i64 0, i64 0] [(0, 1, (.c (i64 12))), (1, 1, (.t 53))]),
 iP 2 (.mov (.c (.val (.slice none 0 0)))),
 ⟨none, none, .e (.st 2 (.t 3) (.t 54))⟩])
 .ret)
 .skip))
 (.seq
 (.seq
 (.reg [
 iF 55 0 6,
 iL 56 55,
 iP 57 (.bin .eql (.i .i64) (.t 56) (.c (i64 2))),
 iM 58 57,
 iG 59 58 true (.mov (.t 7)),
 iG 60 58 true (.mov (.t 0)),
 iG 61 58 true (.lens (.t 60)),
 iG 62 58 true (.bin .lss (.i .i64) (.t 59) (.t 61)),
 iP 63 (.pick (.t 58) (.t 62) (.c (bl false))),
 iM 64 63,
 iG 65 64 true (.mov (.t 0)),
 iG 66 64 true (.mov (.t 7)),
 iG 67 64 true (.ixs (.t 65) (.t 66)),
 ⟨(some 68), (some (64, true)), .q (.c (.fn (.func 92) [] [])) [(.t 67)]⟩,
 iP 69 (.pick (.t 64) (.t 68) (.c (bl false)))])
 (.cond (.t 69)
 (.seq
 (.reg [
 iM 70 7,
 iP 71 (.bld [i64 0, i64 0] [(0, 1, (.c (i64 11))), (1, 1, (.t 70))]),
 iP 2 (.mov (.c (.val (.slice none 0 0)))),
 ⟨none, none, .e (.st 2 (.t 3) (.t 71))⟩])
 .ret)
 .skip))
 (.seq
 (.reg [
 iM 72 4,
 iP 73 (.ldn 4 (.t 6)),
 iE 74 (.bsl 125 4 1 [i64 0, st ⟨#[]⟩, i64 0, i64 0] [(0, (.t 73))]),
 iE 75 (.app 125 4 40 (.t 72) (.t 74)),
 iM 4 75])
 (.reg [
 iM 76 7,
 iM 5 76]))))))))))
def i61 : IC :=
 (.seq
 (.reg [
 iP 2 (.mov (.c (.val (.slice none 0 0)))),
 iE 3 (.alc 32 [i64 0, i64 0])])
 (.seq
 (.seq
 (.reg [
 iM 9 0,
 iP 10 (.lens (.t 9)),
 iP 11 (.bin .gtr (.i .i64) (.t 10) (.c (i64 20000)))])
 (.cond (.t 11)
 (.seq
 (.reg [
 iP 12 (.bld [i64 0, i64 0] [(0, 1, (.c (i64 4))), (1, 1, (.c (i64 20000)))]),
 iP 2 (.mov (.c (.val (.slice none 0 0)))),
 ⟨none, none, .e (.st 2 (.t 3) (.t 12))⟩])
 .ret)
 .skip))
 (.seq
 (.reg [
 iE 4 (.nil 125 4 (.c (.val (.slice none 0 0))))])
 (.seq
 (.reg [
 iP 5 (.mov (.c (i64 0)))])
 (.seq
 (.blk 0
 (.loop l61_0))
 (.seq
 (.reg [
 iM 77 4,
 iP 78 (.bld [i64 0, i64 0] []),
 iM 2 77,
 ⟨none, none, .e (.st 2 (.t 3) (.t 78))⟩])
 .ret))))))
def r61 : List RS := [.t 2, .cn 3 2]
theorem c61 : chkF Tryz.prog drawB Tryz.f61 i61 r61 = true := by kernel_rfl
def i62 : IC :=
 (.seq
 (.reg [
 iP 4 (.mov (.c (i64 0)))])
 (.seq
 (.reg [
 iM 6 0,
 iC 7 68 [.t 6],
 iM 5 7])
 (.seq
 (.seq
 (.reg [
 iM 8 0,
 iM 9 1,
 iC 10 65 [.t 8, .t 9],
 iP 11 (.not (.t 10))])
 (.cond (.t 11)
 (.seq
 (.reg [
 iM 12 0,
 iC 13 67 [.t 12, (.c (i64 11))]])
 (.seq
 (.reg [
 iM 14 5,
 iM 4 14])
 .ret))
 .skip))
 (.seq
 (.reg [
 iM 15 0,
 iP 16 (.nck (.t 15)),
 iF 17 2 16,
 iL 18 17,
 iP 19 (.bin .add (.i .i64) (.t 18) (.c (i64 1))),
 iP 20 (.nck (.t 15)),
 iF 21 2 20,
 ⟨none, none, .e (.st 1 (.t 21) (.t 19))⟩])
 (.seq
 (.reg [
 iM 22 5,
 iM 4 22])
 .ret)))))
def r62 : List RS := [.t 4]
theorem c62 : chkF Tryz.prog drawB Tryz.f62 i62 r62 = true := by kernel_rfl
def i63 : IC :=
 (.seq
 (.reg [
 iP 2 (.mov (.c (st ⟨#[]⟩)))])
 (.seq
 (.seq
 (.reg [
 iM 3 0,
 iC 4 66 [.t 3],
 iP 5 (.not (.t 4))])
 (.cond (.t 5)
 (.seq
 (.reg [
 iM 6 0,
 iC 7 67 [.t 6, (.c (i64 11))]])
 (.seq
 (.reg [
 iP 2 (.mov (.c (st ⟨#[]⟩)))])
 .ret))
 .skip))
 (.seq
 (.reg [
 iM 8 0,
 iP 9 (.nck (.t 8)),
 iF 10 2 9,
 iL 11 10,
 iP 12 (.bin .add (.i .i64) (.t 11) (.c (i64 1))),
 iP 13 (.nck (.t 8)),
 iF 14 2 13,
 ⟨none, none, .e (.st 1 (.t 14) (.t 12))⟩])
 (.seq
 (.drw [0, 1, 2, 3, 4, 5, 6, 7, 8, 9, 10, 11, 12] [
 iM 15 0,
 iP 16 (.nck (.t 15)),
 iF 17 0 16,
 iL 18 17,
 iM 19 0,
 iP 20 (.nck (.t 19)),
 iF 21 2 20,
 iL 22 21,
 iP 23 (.bin .sub (.i .i64) (.t 22) (.c (i64 1))),
 iP 24 (.ia 4 (.t 18) (.t 23)),
 iF 25 1 24,
 iL 26 25,
 iM 2 26])
 .ret))))
def r63 : List RS := [.t 2]
theorem c63 : chkF Tryz.prog drawB Tryz.f63 i63 r63 = true := by kernel_rfl
def i64x : IC :=
 (.seq
 (.reg [
 iP 2 (.mov (.c (i64 0)))])
 (.seq
 (.seq
 (.drw [0, 1, 2, 3, 4, 5, 6, 7, 8, 9, 10, 11, 12, 13, 14, 15, 16, 17, 18, 19, 20, 21, 22, 23, 24, 25, 26, 27] [
 iM 3 0,
 ⟨(some 4), none, .q (.c (.fn (.func 69) [] [])) [(.t 3)]⟩,
 iM 5 4,
 iG 6 5 false (.mov (.t 0)),
 iG 7 5 false (.nck (.t 6)),
 iG 8 5 false (.fa 2 (.t 7)),
 iG 9 5 false (.ld1 (.t 8)),
 iG 10 5 false (.mov (.t 0)),
 iG 11 5 false (.nck (.t 10)),
 iG 12 5 false (.fa 0 (.t 11)),
 iG 13 5 false (.ld1 (.t 12)),
 iG 14 5 false (.len (.t 13)),
 iG 15 5 false (.bin .geq (.i .i64) (.t 9) (.t 14)),
 iP 16 (.pick (.t 5) (.c (bl true)) (.t 15)),
 iM 17 16,
 iG 18 17 false (.mov (.t 0)),
 iG 19 17 false (.nck (.t 18)),
 iG 20 17 false (.fa 0 (.t 19)),
 iG 21 17 false (.ld1 (.t 20)),
 iG 22 17 false (.mov (.t 0)),
 iG 23 17 false (.nck (.t 22)),
 iG 24 17 false (.fa 2 (.t 23)),
 iG 25 17 false (.ld1 (.t 24)),
 iG 26 17 false (.ia 4 (.t 21) (.t 25)),
 iG 27 17 false (.fa 0 (.t 26)),
 iG 28 17 false (.ld1 (.t 27)),
 iG 29 17 false (.bin .neq (.i .i64) (.t 28) (.c (i64 2))),
 iP 30 (.pick (.t 17) (.c (bl true)) (.t 29))])
 (.cond (.t 30)
 (.seq
 (.reg [
 iM 31 0,
 iC 32 67 [.t 31, (.c (i64 11))]])
 (.seq
 (.reg [
 iP 2 (.mov (.c (i64 0)))])
 .ret))
 .skip))
 (.seq
 (.reg [
 iM 33 0,
 iP 34 (.nck (.t 33)),
 iF 35 2 34,
 iL 36 35,
 iP 37 (.bin .add (.i .i64) (.t 36) (.c (i64 1))),
 iP 38 (.nck (.t 33)),
 iF 39 2 38,
 ⟨none, none, .e (.st 1 (.t 39) (.t 37))⟩])
 (.seq
 (.drw [0, 1, 2, 3, 4, 5, 6, 7, 8, 9, 10, 11, 12] [
 iM 40 0,
 iP 41 (.nck (.t 40)),
 iF 42 0 41,
 iL 43 42,
 iM 44 0,
 iP 45 (.nck (.t 44)),
 iF 46 2 45,
 iL 47 46,
 iP 48 (.bin .sub (.i .i64) (.t 47) (.c (i64 1))),
 iP 49 (.ia 4 (.t 43) (.t 48)),
 iF 50 2 49,
 iL 51 50,
 iM 2 51])
 .ret))))
def r64 : List RS := [.t 2]
theorem c64 : chkF Tryz.prog drawB Tryz.f64 i64x r64 = true := by kernel_rfl
def i65 : IC :=
 (.seq
 (.reg [
 iP 4 (.mov (.c (bl false)))])
 (.seq
 (.drw [0, 1, 2, 3, 4, 5, 6, 7, 8, 9, 10, 11, 12, 13, 14, 15, 16, 17, 18, 19, 20, 21, 22, 23, 24, 25, 26, 27, 28, 29, 30, 31, 32, 33, 34, 35, 36, 37, 38, 39, 40, 41, 42, 43, 44] [
 iM 5 0,
 ⟨(some 6), none, .q (.c (.fn (.func 69) [] [])) [(.t 5)]⟩,
 iP 7 (.not (.t 6)),
 iM 8 7,
 iG 9 8 true (.mov (.t 0)),
 iG 10 8 true (.nck (.t 9)),
 iG 11 8 true (.fa 2 (.t 10)),
 iG 12 8 true (.ld1 (.t 11)),
 iG 13 8 true (.mov (.t 0)),
 iG 14 8 true (.nck (.t 13)),
 iG 15 8 true (.fa 0 (.t 14)),
 iG 16 8 true (.ld1 (.t 15)),
 iG 17 8 true (.len (.t 16)),
 iG 18 8 true (.bin .lss (.i .i64) (.t 12) (.t 17)),
 iP 19 (.pick (.t 8) (.t 18) (.c (bl false))),
 iM 20 19,
 iG 21 20 true (.mov (.t 0)),
 iG 22 20 true (.nck (.t 21)),
 iG 23 20 true (.fa 0 (.t 22)),
 iG 24 20 true (.ld1 (.t 23)),
 iG 25 20 true (.mov (.t 0)),
 iG 26 20 true (.nck (.t 25)),
 iG 27 20 true (.fa 2 (.t 26)),
 iG 28 20 true (.ld1 (.t 27)),
 iG 29 20 true (.ia 4 (.t 24) (.t 28)),
 iG 30 20 true (.fa 0 (.t 29)),
 iG 31 20 true (.ld1 (.t 30)),
 iG 32 20 true (.bin .neq (.i .i64) (.t 31) (.c (i64 2))),
 iP 33 (.pick (.t 20) (.t 32) (.c (bl false))),
 iM 34 33,
 iG 35 34 true (.mov (.t 0)),
 iG 36 34 true (.nck (.t 35)),
 iG 37 34 true (.fa 0 (.t 36)),
 iG 38 34 true (.ld1 (.t 37)),
 iG 39 34 true (.mov (.t 0)),
 iG 40 34 true (.nck (.t 39)),
 iG 41 34 true (.fa 2 (.t 40)),
 iG 42 34 true (.ld1 (.t 41)),
 iG 43 34 true (.ia 4 (.t 38) (.t 42)),
 iG 44 34 true (.fa 1 (.t 43)),
 iG 45 34 true (.ld1 (.t 44)),
 iG 46 34 true (.mov (.t 1)),
 iG 47 34 true (.bin .eql .s (.t 45) (.t 46)),
 iP 48 (.pick (.t 34) (.t 47) (.c (bl false))),
 iM 4 48])
 .ret))
def r65 : List RS := [.t 4]
theorem c65 : chkF Tryz.prog drawB Tryz.f65 i65 r65 = true := by kernel_rfl
def i66 : IC :=
 (.seq
 (.reg [
 iP 2 (.mov (.c (bl false)))])
 (.seq
 (.drw [0, 1, 2, 3, 4, 5, 6, 7, 8, 9, 10, 11, 12, 13, 14, 15, 16, 17, 18, 19, 20, 21, 22, 23, 24, 25, 26, 27, 28, 29, 30, 31, 32, 33, 34, 35, 36, 37, 38, 39, 40, 41, 42, 43, 44] [
 iM 3 0,
 ⟨(some 4), none, .q (.c (.fn (.func 69) [] [])) [(.t 3)]⟩,
 iP 5 (.not (.t 4)),
 iM 6 5,
 iG 7 6 true (.mov (.t 0)),
 iG 8 6 true (.nck (.t 7)),
 iG 9 6 true (.fa 2 (.t 8)),
 iG 10 6 true (.ld1 (.t 9)),
 iG 11 6 true (.mov (.t 0)),
 iG 12 6 true (.nck (.t 11)),
 iG 13 6 true (.fa 0 (.t 12)),
 iG 14 6 true (.ld1 (.t 13)),
 iG 15 6 true (.len (.t 14)),
 iG 16 6 true (.bin .lss (.i .i64) (.t 10) (.t 15)),
 iP 17 (.pick (.t 6) (.t 16) (.c (bl false))),
 iM 18 17,
 iG 19 18 true (.mov (.t 0)),
 iG 20 18 true (.nck (.t 19)),
 iG 21 18 true (.fa 0 (.t 20)),
 iG 22 18 true (.ld1 (.t 21)),
 iG 23 18 true (.mov (.t 0)),
 iG 24 18 true (.nck (.t 23)),
 iG 25 18 true (.fa 2 (.t 24)),
 iG 26 18 true (.ld1 (.t 25)),
 iG 27 18 true (.ia 4 (.t 22) (.t 26)),
 iG 28 18 true (.fa 0 (.t 27)),
 iG 29 18 true (.ld1 (.t 28)),
 iG 30 18 true (.bin .eql (.i .i64) (.t 29) (.c (i64 1))),
 iP 31 (.pick (.t 18) (.t 30) (.c (bl false))),
 iM 32 31,
 iG 33 32 true (.mov (.t 0)),
 iG 34 32 true (.nck (.t 33)),
 iG 35 32 true (.fa 0 (.t 34)),
 iG 36 32 true (.ld1 (.t 35)),
 iG 37 32 true (.mov (.t 0)),
 iG 38 32 true (.nck (.t 37)),
 iG 39 32 true (.fa 2 (.t 38)),
 iG 40 32 true (.ld1 (.t 39)),
 iG 41 32 true (.ia 4 (.t 36) (.t 40)),
 iG 42 32 true (.fa 1 (.t 41)),
 iG 43 32 true (.ld1 (.t 42)),
 ⟨(some 44), (some (32, true)), .q (.c (.fn (.func 74) [] [])) [(.t 43)]⟩,
 iG 45 32 true (.not (.t 44)),
 iP 46 (.pick (.t 32) (.t 45) (.c (bl false))),
 iM 2 46])
 .ret))
def r66 : List RS := [.t 2]
theorem c66 : chkF Tryz.prog drawB Tryz.f66 i66 r66 = true := by kernel_rfl
def i67 : IC :=
 (.seq
 (.reg [
 iM 4 0,
 iC 5 69 [.t 4],
 iP 6 (.not (.t 5))])
 (.cond (.t 6)
 (.reg [
 iM 7 0,
 iM 8 1,
 iM 9 0,
 iC 10 68 [.t 9],
 iP 11 (.bld [i64 0, i64 0] [(0, 1, (.t 8)), (1, 1, (.t 10))]),
 iP 12 (.nck (.t 7)),
 iF 13 4 12,
 ⟨none, none, .e (.st 2 (.t 13) (.t 11))⟩])
 .skip))
def r67 : List RS := []
theorem c67 : chkF Tryz.prog drawB Tryz.f67 i67 r67 = true := by kernel_rfl
def i68 : IC :=
 (.seq
 (.reg [
 iP 2 (.mov (.c (i64 0)))])
 (.seq
 (.seq
 (.drw [0, 1, 2, 3, 4, 5, 6, 7, 8, 9] [
 iM 3 0,
 iP 4 (.nck (.t 3)),
 iF 5 2 4,
 iL 6 5,
 iM 7 0,
 iP 8 (.nck (.t 7)),
 iF 9 0 8,
 iL 10 9,
 iP 11 (.len (.t 10)),
 iP 12 (.bin .lss (.i .i64) (.t 6) (.t 11))])
 (.cond (.t 12)
 (.seq
 (.drw [0, 1, 2, 3, 4, 5, 6, 7, 8, 9, 10, 11] [
 iM 13 0,
 iP 14 (.nck (.t 13)),
 iF 15 0 14,
 iL 16 15,
 iM 17 0,
 iP 18 (.nck (.t 17)),
 iF 19 2 18,
 iL 20 19,
 iP 21 (.ia 4 (.t 16) (.t 20)),
 iF 22 3 21,
 iL 23 22,
 iM 2 23])
 .ret)
 .skip))
 (.seq
 (.reg [
 iM 24 0,
 iP 25 (.nck (.t 24)),
 iF 26 1 25,
 iL 27 26,
 iM 2 27])
 .ret)))
def r68 : List RS := [.t 2]
theorem c68 : chkF Tryz.prog drawB Tryz.f68 i68 r68 = true := by kernel_rfl
def i69 : IC :=
 (.seq
 (.reg [
 iP 2 (.mov (.c (bl false)))])
 (.seq
 (.reg [
 iM 3 0,
 iP 4 (.nck (.t 3)),
 iF 5 4 4,
 iF 6 0 5,
 iL 7 6,
 iP 8 (.bin .neq (.i .i64) (.t 7) (.c (i64 0))),
 iM 2 8])
 .ret))
def r69 : List RS := [.t 2]
theorem c69 : chkF Tryz.prog drawB Tryz.f69 i69 r69 = true := by kernel_rfl
def i70 : IC :=
 (.seq
 (.reg [
 iE 2 (.alc 45 [i64 0, st ⟨#[]⟩, st ⟨#[]⟩, i64 0, i64 0, .val (.slice none 0 0), bl false, .val (.slice none 0 0), .val (.slice none 0 0), .val (.slice none 0 0), .val (.slice none 0 0), i64 0])])
 (.seq
 (.reg [
 iE 3 (.alc 45 [i64 0, st ⟨#[]⟩, st ⟨#[]⟩, i64 0, i64 0, .val (.slice none 0 0), bl false, .val (.slice none 0 0), .val (.slice none 0 0), .val (.slice none 0 0), .val (.slice none 0 0), i64 0])])
 (.seq
 (.seq
 (.reg [
 iM 4 0,
 iC 5 66 [.t 4]])
 (.cond (.t 5)
 (.seq
 (.reg [
 iM 6 0,
 iC 7 63 [.t 6],
 iF 8 1 3,
 ⟨none, none, .e (.st 1 (.t 8) (.t 7))⟩])
 (.reg [
 iM 9 0,
 iC 10 62 [.t 9, (.c (st ⟨#[58]⟩))]]))
 .skip))
 (.seq
 (.seq
 (.reg [
 iM 11 0,
 iC 12 65 [.t 11, (.c (st ⟨#[100, 101, 97, 108]⟩))]])
 (.cond (.t 12)
 (.seq
 (.reg [
 iM 13 0,
 iP 14 (.ldn 12 (.t 3)),
 iC 15 93 [.t 13, .t 14],
 ⟨none, none, .e (.st 12 (.t 2) (.t 15))⟩])
 .ret)
 .skip))
 (.seq
 (.seq
 (.reg [
 iM 16 0,
 iC 17 65 [.t 16, (.c (st ⟨#[116, 117, 114, 110]⟩))]])
 (.cond (.t 17)
 (.seq
 (.reg [
 iM 18 0,
 iP 19 (.ldn 12 (.t 3)),
 iC 20 94 [.t 18, .t 19],
 ⟨none, none, .e (.st 12 (.t 2) (.t 20))⟩])
 .ret)
 .skip))
 (.seq
 (.reg [
 iF 21 0 3,
 ⟨none, none, .e (.st 1 (.t 21) (.c (i64 3)))⟩])
 (.seq
 (.reg [
 iM 22 0,
 iC 23 62 [.t 22, (.c (st ⟨#[101, 110, 100]⟩))],
 iF 24 11 3,
 ⟨none, none, .e (.st 1 (.t 24) (.t 23))⟩])
 (.seq
 (.reg [
 iM 25 0,
 iC 26 62 [.t 25, (.c (st ⟨#[123]⟩))]])
 (.seq
 (.reg [
 iM 27 0,
 iC 28 62 [.t 27, (.c (st ⟨#[112, 97, 121]⟩))]])
 (.seq
 (.reg [
 iM 29 0,
 iC 30 95 [.t 29],
 iF 31 10 3,
 ⟨none, none, .e (.st 1 (.t 31) (.t 30))⟩])
 (.seq
 (.reg [
 iM 32 0,
 iC 33 62 [.t 32, (.c (st ⟨#[59]⟩))]])
 (.seq
 (.reg [
 iM 34 0,
 iC 35 62 [.t 34, (.c (st ⟨#[125]⟩))]])
 (.seq
 (.reg [
 iP 36 (.ldn 12 (.t 3)),
 ⟨none, none, .e (.st 12 (.t 2) (.t 36))⟩])
 .ret)))))))))))))
def r70 : List RS := [.cn 2 12]
theorem c70 : chkF Tryz.prog drawB Tryz.f70 i70 r70 = true := by kernel_rfl
def i71 : IC :=
 (.seq
 (.reg [
 iP 4 (.mov (.c (st ⟨#[]⟩)))])
 (.seq
 (.reg [
 iM 5 0,
 iM 6 1,
 iC 7 37 [.t 5, .t 6],
 iC 8 38 [.t 7],
 iP 9 (.bin .add .s (.c (st ⟨#[118]⟩)) (.t 8)),
 iM 4 9])
 .ret))
def r71 : List RS := [.t 4]
theorem c71 : chkF Tryz.prog drawB Tryz.f71 i71 r71 = true := by kernel_rfl
def i72 : IC :=
 (.seq
 (.reg [
 iP 4 (.mov (.c (st ⟨#[]⟩)))])
 (.seq
 (.reg [
 iM 7 0,
 iM 8 1,
 iC 9 71 [.t 7, .t 8],
 iM 10 0,
 iM 11 1,
 iC 12 71 [.t 10, .t 11],
 iM 5 9,
 iM 6 12])
 (.seq
 (.seq
 (.reg [
 iM 13 0,
 iC 14 37 [.t 13, (.c (i64 4))]])
 (.blk 0
 (.seq
 (.reg [
 iP 16 (.bin .eql (.i .i64) (.t 14) (.c (i64 0))),
 iM 15 16])
 (.cond (.t 15)
 (.seq
 (.reg [
 iM 17 5,
 iP 18 (.bin .add .s (.t 17) (.c (st ⟨#[32, 60, 32, 49]⟩))),
 iM 4 18])
 .ret)
 (.seq
 (.reg [
 iP 20 (.bin .eql (.i .i64) (.t 14) (.c (i64 1))),
 iM 19 20])
 (.cond (.t 19)
 (.seq
 (.reg [
 iM 21 5,
 iP 22 (.bin .add .s (.t 21) (.c (st ⟨#[32, 62, 61, 32]⟩))),
 iM 23 6,
 iP 24 (.bin .add .s (.t 22) (.t 23)),
 iP 25 (.bin .add .s (.t 24) (.c (st ⟨#[32, 97, 110, 100, 32, 110, 111, 116, 32]⟩))),
 iM 26 6,
 iP 27 (.bin .add .s (.t 25) (.t 26)),
 iP 28 (.bin .add .s (.t 27) (.c (st ⟨#[32, 61, 61, 32, 50]⟩))),
 iM 4 28])
 .ret)
 (.seq
 (.reg [
 iP 30 (.bin .eql (.i .i64) (.t 14) (.c (i64 2))),
 iM 29 30])
 (.cond (.t 29)
 (.seq
 (.reg [
 iM 31 5,
 iP 32 (.bin .add .s (.t 31) (.c (st ⟨#[32, 33, 61, 32, 48, 32, 111, 114, 32]⟩))),
 iM 33 6,
 iP 34 (.bin .add .s (.t 32) (.t 33)),
 iP 35 (.bin .add .s (.t 34) (.c (st ⟨#[32, 62, 32, 49]⟩))),
 iM 4 35])
 .ret)
 .skip))))))))
 (.seq
 (.reg [
 iM 36 5,
 iP 37 (.bin .add .s (.c (st ⟨#[110, 111, 116, 32]⟩)) (.t 36)),
 iP 38 (.bin .add .s (.t 37) (.c (st ⟨#[32, 60, 61, 32, 48]⟩))),
 iM 4 38])
 .ret))))
def r72 : List RS := [.t 4]
theorem c72 : chkF Tryz.prog drawB Tryz.f72 i72 r72 = true := by kernel_rfl
def l74_0 : IC := .keep [0, 3, 4]
 (.seq
 (.seq
 (.reg [
 iM 6 4,
 iM 7 3,
 iP 8 (.len (.t 7)),
 iP 9 (.bin .lss (.i .i64) (.t 6) (.t 8))])
 (.cond (.t 9)
 .skip
 (.exit 0)))
 (.seq
 (.blk 1
 (.seq
 (.reg [
 iM 12 3,
 iM 13 4,
 iP 14 (.ia 1 (.t 12) (.t 13)),
 iL 15 14,
 iM 16 0,
 iP 17 (.bin .eql .s (.t 15) (.t 16))])
 (.cond (.t 17)
 (.seq
 (.reg [
 iP 2 (.mov (.c (bl true)))])
 .ret)
 .skip)))
 (.reg [
 iM 10 4,
 iP 11 (.bin .add (.i .i64) (.t 10) (.c (i64 1))),
 iM 4 11])))
def i74 : IC :=
 (.seq
 (.reg [
 iP 2 (.mov (.c (bl false)))])
 (.seq
 (.reg [
 iE 5 (.bsl 9 1 22 [st ⟨#[]⟩] [(0, (.c (st ⟨#[103, 97, 109, 101]⟩))), (1, (.c (st ⟨#[112, 108, 97, 121, 101, 114, 115]⟩))), (2, (.c (st ⟨#[118, 97, 114]⟩))), (3, (.c (st ⟨#[100, 101, 97, 108]⟩))), (4, (.c (st ⟨#[105, 110]⟩))), (5, (.c (st ⟨#[119, 101, 105, 103, 104, 116]⟩))), (6, (.c (st ⟨#[115, 101, 101, 110]⟩))), (7, (.c (st ⟨#[98, 121]⟩))), (8, (.c (st ⟨#[97, 108, 108]⟩))), (9, (.c (st ⟨#[116, 117, 114, 110]⟩))), (10, (.c (st ⟨#[97, 99, 116, 105, 111, 110]⟩))), (11, (.c (st ⟨#[119, 104, 101, 110]⟩))), (12, (.c (st ⟨#[104, 105, 100, 100, 101, 110]⟩))), (13, (.c (st ⟨#[103, 111, 116, 111]⟩))), (14, (.c (st ⟨#[101, 110, 100]⟩))), (15, (.c (st ⟨#[112, 97, 121]⟩))), (16, (.c (st ⟨#[111, 114]⟩))), (17, (.c (st ⟨#[97, 110, 100]⟩))), (18, (.c (st ⟨#[110, 111, 116]⟩))), (19, (.c (st ⟨#[109, 105, 110]⟩))), (20, (.c (st ⟨#[109, 97, 120]⟩))), (21, (.c (st ⟨#[105, 102]⟩)))]),
 iM 3 5])
 (.seq
 (.seq
 (.reg [
 iP 4 (.mov (.c (i64 0)))])
 (.blk 0
 (.loop l74_0)))
 (.seq
 (.reg [
 iP 2 (.mov (.c (bl false)))])
 .ret))))
def r74 : List RS := [.t 2]
theorem c74 : chkF Tryz.prog drawB Tryz.f74 i74 r74 = true := by kernel_rfl
def l80_0 : IC := .keep [0, 2, 4, 8, 11, 82, 83, 84]
 (.seq
 (.reg [
 iP 85 (.bin .lss (.i .i64) (.t 84) (.t 83))])
 (.seq
 (.cond (.t 85)
 .skip
 (.exit 0))
 (.seq
 (.blk 1
 (.seq
 (.reg [
 iP 86 (.ia 5 (.t 82) (.t 84)),
 iP 87 (.ldn 5 (.t 86)),
 iE 13 (.alc 53 [i64 0, i64 0, st ⟨#[]⟩, .val (.slice none 0 0), i64 0]),
 ⟨none, none, .e (.st 5 (.t 13) (.t 87))⟩])
 (.seq
 (.reg [
 iM 89 0,
 iP 90 (.ldn 5 (.t 13)),
 iM 91 2,
 iP 92 (.bin .add (.i .i64) (.t 91) (.c (i64 1))),
 iC 93 80 [.t 89, .t 90, .t 92],
 iM 88 93,
 iP 94 (.ext (.t 88) 0),
 iP 95 (.ext (.t 88) 1),
 iM 14 94,
 iM 15 95])
 (.seq
 (.seq
 (.reg [
 iM 96 15,
 iP 97 (.ifn true true (.t 96))])
 (.cond (.t 97)
 (.seq
 (.reg [
 iM 98 15,
 iP 6 (.mov (.c (i64 0))),
 iM 7 98])
 .ret)
 .skip))
 (.reg [
 iM 99 11,
 iM 100 14,
 iE 101 (.bsl 3 1 1 [i64 0] [(0, (.t 100))]),
 iE 102 (.app 3 1 8 (.t 99) (.t 101)),
 iM 11 102])))))
 (.reg [
 iP 103 (.bin .add (.i .i64) (.t 84) (.c (i64 1))),
 iM 84 103]))))
def l80_1 : IC := .keep [4, 16, 17, 118, 119, 120]
 (.seq
 (.reg [
 iP 121 (.bin .lss (.i .i64) (.t 120) (.t 119))])
 (.seq
 (.cond (.t 121)
 .skip
 (.exit 2))
 (.seq
 (.blk 3
 (.seq
 (.reg [
 iM 122 120,
 iP 123 (.ia 1 (.t 118) (.t 120)),
 iL 124 123,
 iM 18 122,
 iM 19 124])
 (.seq
 (.reg [
 iM 125 19,
 iM 126 16,
 iM 127 18,
 iP 128 (.ia 1 (.t 126) (.t 127)),
 iL 129 128,
 iP 130 (.bin .neq (.i .i64) (.t 125) (.t 129))])
 (.cond (.t 130)
 (.seq
 (.reg [
 iF 131 3 4,
 iL 132 131,
 iM 133 18,
 iP 134 (.ia 5 (.t 132) (.t 133)),
 iF 135 4 134,
 iL 136 135,
 iC 137 53 [(.c (i64 10)), .t 136],
 iP 6 (.mov (.c (i64 0))),
 iM 7 137])
 .ret)
 .skip))))
 (.reg [
 iP 138 (.bin .add (.i .i64) (.t 120) (.c (i64 1))),
 iM 120 138]))))
def i80 : IC :=
 (.seq
 (.reg [
 iE 4 (.box 53 (.t 1)),
 iP 6 (.mov (.c (i64 0))),
 iP 7 (.mov (.c (.val .nilIface)))])
 (.seq
 (.seq
 (.reg [
 iM 20 2,
 iP 21 (.bin .eql (.i .i64) (.t 20) (.c (i64 100000)))])
 (.cond (.t 21)
 (.seq
 (.reg [
 iM 22 0,
 iP 23 (.ldn 5 (.t 4)),
 iC 24 98 [.t 22, .t 23],
 iP 25 (.ext (.t 24) 0),
 iP 26 (.ext (.t 24) 1),
 iM 6 25,
 iM 7 26])
 .ret)
 .skip))
 (.seq
 (.drw [0, 1, 2, 3, 4, 5, 6, 7, 8, 9, 10, 11, 12] [
 iM 28 0,
 iP 29 (.nck (.t 28)),
 iF 30 1 29,
 iL 31 30,
 iF 32 0 4,
 iL 33 32,
 iP 34 (.lkp (.i .i64) true (.agg [.val (.slice none 0 0), i64 0, .val .nilFunc]) (.t 31) (.t 33)),
 iM 27 34,
 iP 35 (.ext (.t 27) 0),
 iP 36 (.ext (.t 27) 1),
 iE 8 (.alc 100 [.val (.slice none 0 0), i64 0, .val .nilFunc]),
 ⟨none, none, .e (.st 3 (.t 8) (.t 35))⟩,
 iM 9 36])
 (.seq
 (.reg [
 iF 37 0 4,
 iL 38 37,
 iP 39 (.bin .eql (.i .i64) (.t 38) (.c (i64 1))),
 iM 40 39,
 iG 41 40 false (.fa 0 (.t 4)),
 iG 42 40 false (.ld1 (.t 41)),
 iG 43 40 false (.bin .eql (.i .i64) (.t 42) (.c (i64 2))),
 iP 44 (.pick (.t 40) (.c (bl true)) (.t 43)),
 iM 10 44])
 (.seq
 (.seq
 (.reg [
 iM 45 9,
 iP 46 (.not (.t 45)),
 iM 47 46,
 iG 48 47 true (.mov (.t 10)),
 iG 49 47 true (.not (.t 48)),
 iP 50 (.pick (.t 47) (.t 49) (.c (bl false))),
 iM 51 50,
 iG 52 51 false (.fa 3 (.t 4)),
 iG 53 51 false (.ld1 (.t 52)),
 iG 54 51 false (.len (.t 53)),
 iG 55 51 false (.fa 0 (.t 8)),
 iG 56 51 false (.ld1 (.t 55)),
 iG 57 51 false (.len (.t 56)),
 iG 58 51 false (.bin .neq (.i .i64) (.t 54) (.t 57)),
 iP 59 (.pick (.t 51) (.c (bl true)) (.t 58))])
 (.cond (.t 59)
 (.seq
 (.reg [
 iF 60 4 4,
 iL 61 60,
 iC 62 53 [(.c (i64 3)), .t 61],
 iP 6 (.mov (.c (i64 0))),
 iM 7 62])
 .ret)
 .skip))
 (.seq
 (.seq
 (.reg [
 iM 63 10])
 (.cond (.t 63)
 (.seq
 (.seq
 (.reg [
 iF 64 0 4,
 iL 65 64,
 iP 66 (.bin .eql (.i .i64) (.t 65) (.c (i64 2))),
 iM 67 66,
 iG 68 67 true (.mov (.t 0)),
 iG 69 67 true (.fa 2 (.t 4)),
 iG 70 67 true (.ld1 (.t 69)),
 ⟨(some 71), (some (67, true)), .q (.c (.fn (.func 82) [] [])) [(.t 68), (.t 70)]⟩,
 iG 72 67 true (.not (.t 71)),
 iP 73 (.pick (.t 67) (.t 72) (.c (bl false)))])
 (.cond (.t 73)
 (.seq
 (.reg [
 iF 74 4 4,
 iL 75 74,
 iC 76 53 [(.c (i64 7)), .t 75],
 iP 6 (.mov (.c (i64 0))),
 iM 7 76])
 .ret)
 .skip))
 (.seq
 (.reg [
 iP 6 (.mov (.c (i64 1))),
 iP 7 (.mov (.c (.val .nilIface)))])
 .ret))
 .skip))
 (.seq
 (.reg [
 iF 77 3 4,
 iL 78 77,
 iP 79 (.len (.t 78)),
 iE 80 (.mks 3 1 8 [i64 0] (.c (i64 0)) (.t 79)),
 iM 11 80])
 (.seq
 (.seq
 (.reg [
 iF 81 3 4,
 iL 82 81,
 iP 83 (.len (.t 82)),
 iP 84 (.mov (.c (i64 0)))])
 (.blk 0
 (.loop l80_0)))
 (.seq
 (.drw [0, 1, 2, 3, 4, 5] [
 iF 104 0 8,
 iL 105 104,
 iF 106 1 8,
 iL 107 106,
 iM 16 105,
 iM 17 107])
 (.seq
 (.seq
 (.reg [
 iF 108 2 8,
 iL 109 108,
 iP 110 (.fnn true true (.t 109))])
 (.cond (.t 110)
 (.reg [
 iF 112 2 8,
 iL 113 112,
 iM 114 11,
 iE 115 (.call (.t 113) [(.t 114)]),
 iM 111 115,
 iP 116 (.ext (.t 111) 0),
 iP 117 (.ext (.t 111) 1),
 iM 16 116,
 iM 17 117])
 .skip))
 (.seq
 (.seq
 (.reg [
 iM 118 11,
 iP 119 (.len (.t 118)),
 iP 120 (.mov (.c (i64 0)))])
 (.blk 2
 (.loop l80_1)))
 (.seq
 (.reg [
 iM 139 17,
 iM 6 139,
 iP 7 (.mov (.c (.val .nilIface)))])
 .ret))))))))))))
def r80 : List RS := [.t 6, .t 7]
theorem c80 : chkF Tryz.prog drawB Tryz.f80 i80 r80 = true := by kernel_rfl
def i81 : IC :=
 (.seq
 (.reg [
 iE 2 (.alc 53 [i64 0, i64 0, st ⟨#[]⟩, .val (.slice none 0 0), i64 0]),
 iE 3 (.alc 32 [i64 0, i64 0])])
 (.seq
 (.reg [
 iM 9 0,
 iC 10 61 [.t 9],
 iM 8 10,
 iP 11 (.ext (.t 8) 0),
 iP 12 (.ext (.t 8) 1),
 iE 5 (.alc 32 [i64 0, i64 0]),
 iM 4 11,
 ⟨none, none, .e (.st 2 (.t 5) (.t 12))⟩])
 (.seq
 (.seq
 (.reg [
 iF 13 0 5,
 iL 14 13,
 iP 15 (.bin .neq (.i .i64) (.t 14) (.c (i64 0)))])
 (.cond (.t 15)
 (.seq
 (.drw [0, 1, 2, 3] [
 iP 16 (.bld [i64 0, i64 0, st ⟨#[]⟩, .val (.slice none 0 0), i64 0] []),
 iP 17 (.ldn 2 (.t 5)),
 ⟨none, none, .e (.st 5 (.t 2) (.t 16))⟩,
 ⟨none, none, .e (.st 2 (.t 3) (.t 17))⟩])
 .ret)
 .skip))
 (.seq
 (.reg [
 iM 18 4,
 iM 19 0,
 iP 20 (.lens (.t 19)),
 iP 21 (.bld [.val (.slice none 0 0), i64 0, i64 0, i64 0, i64 0, i64 0] [(0, 1, (.t 18)), (1, 1, (.t 20))]),
 iE 22 (.box 118 (.t 21)),
 iM 6 22])
 (.seq
 (.reg [
 iM 23 6,
 iC 24 99 [.t 23],
 iE 7 (.alc 53 [i64 0, i64 0, st ⟨#[]⟩, .val (.slice none 0 0), i64 0]),
 ⟨none, none, .e (.st 5 (.t 7) (.t 24))⟩])
 (.seq
 (.seq
 (.drw [0, 1, 2, 3, 4, 5, 6, 7, 8, 9] [
 iM 25 6,
 iP 26 (.nck (.t 25)),
 iF 27 2 26,
 iL 28 27,
 iM 29 6,
 iP 30 (.nck (.t 29)),
 iF 31 0 30,
 iL 32 31,
 iP 33 (.len (.t 32)),
 iP 34 (.bin .lss (.i .i64) (.t 28) (.t 33))])
 (.cond (.t 34)
 (.reg [
 iM 35 6,
 iC 36 67 [.t 35, (.c (i64 11))]])
 .skip))
 (.seq
 (.seq
 (.reg [
 iM 37 6,
 iC 38 69 [.t 37]])
 (.cond (.t 38)
 (.seq
 (.drw [0, 1, 2, 3, 4, 5, 6] [
 iP 39 (.bld [i64 0, i64 0, st ⟨#[]⟩, .val (.slice none 0 0), i64 0] []),
 iM 40 6,
 iP 41 (.nck (.t 40)),
 iF 42 4 41,
 iP 43 (.ldn 2 (.t 42)),
 ⟨none, none, .e (.st 5 (.t 2) (.t 39))⟩,
 ⟨none, none, .e (.st 2 (.t 3) (.t 43))⟩])
 .ret)
 .skip))
 (.seq
 (.reg [
 iP 44 (.ldn 5 (.t 7)),
 iP 45 (.bld [i64 0, i64 0] []),
 ⟨none, none, .e (.st 5 (.t 2) (.t 44))⟩,
 ⟨none, none, .e (.st 2 (.t 3) (.t 45))⟩])
 .ret))))))))
def r81 : List RS := [.cn 2 5, .cn 3 2]
theorem c81 : chkF Tryz.prog drawB Tryz.f81 i81 r81 = true := by kernel_rfl
def i82 : IC :=
 (.seq
 (.reg [
 iP 4 (.mov (.c (bl false)))])
 (.seq
 (.reg [
 iM 5 0,
 iP 6 (.nck (.t 5)),
 iF 7 0 6,
 iL 8 7,
 iM 9 1,
 iP 10 (.lkp .s false (bl false) (.t 8) (.t 9)),
 iM 4 10])
 .ret))
def r82 : List RS := [.t 4]
theorem c82 : chkF Tryz.prog drawB Tryz.f82 i82 r82 = true := by kernel_rfl
def i83 : IC :=
 (.seq
 (.reg [
 iE 4 (.box 53 (.t 1)),
 iP 6 (.mov (.c (.val .nilIface)))])
 (.seq
 (.reg [
 iM 10 0,
 iP 11 (.ldn 5 (.t 4)),
 iC 12 80 [.t 10, .t 11, (.c (i64 0))],
 iM 9 12,
 iP 13 (.ext (.t 9) 0),
 iP 14 (.ext (.t 9) 1),
 iM 7 13,
 iM 8 14])
 (.seq
 (.seq
 (.reg [
 iM 15 8,
 iP 16 (.ifn false true (.t 15)),
 iM 17 16,
 iG 18 17 true (.mov (.t 7)),
 iG 19 17 true (.mov (.t 2)),
 iG 20 17 true (.bin .neq (.i .i64) (.t 18) (.t 19)),
 iP 21 (.pick (.t 17) (.t 20) (.c (bl false)))])
 (.cond (.t 21)
 (.reg [
 iF 22 4 4,
 iL 23 22,
 iC 24 53 [(.c (i64 10)), .t 23],
 iM 8 24])
 .skip))
 (.seq
 (.reg [
 iM 25 8,
 iM 6 25])
 .ret))))
def r83 : List RS := [.t 6]
theorem c83 : chkF Tryz.prog drawB Tryz.f83 i83 r83 = true := by kernel_rfl
def l84_0 : IC := .keep [0, 1, 5, 22, 23, 24]
 (.seq
 (.reg [
 iP 25 (.bin .lss (.i .i64) (.t 24) (.t 23))])
 (.seq
 (.cond (.t 25)
 .skip
 (.exit 0))
 (.seq
 (.blk 1
 (.seq
 (.reg [
 iP 26 (.ia 5 (.t 22) (.t 24)),
 iP 27 (.ldn 5 (.t 26)),
 iE 8 (.alc 53 [i64 0, i64 0, st ⟨#[]⟩, .val (.slice none 0 0), i64 0]),
 ⟨none, none, .e (.st 5 (.t 8) (.t 27))⟩])
 (.seq
 (.drw [0, 1, 2, 3, 4, 5] [
 iM 28 0,
 iP 29 (.nck (.t 28)),
 iF 30 0 29,
 iP 31 (.ldn 5 (.t 8)),
 ⟨(some 32), none, .q (.c (.fn (.func 83) [] [])) [(.t 30), (.t 31), (.c (i64 2))]⟩,
 iM 9 32])
 (.seq
 (.reg [
 iM 33 9,
 iP 34 (.ifn true true (.t 33))])
 (.cond (.t 34)
 (.seq
 (.reg [
 iM 35 9,
 iM 6 35])
 .ret)
 .skip)))))
 (.reg [
 iP 36 (.bin .add (.i .i64) (.t 24) (.c (i64 1))),
 iM 24 36]))))
def l84_1 : IC := .keep [0, 1, 5, 38, 39, 40]
 (.seq
 (.reg [
 iP 41 (.bin .lss (.i .i64) (.t 40) (.t 39))])
 (.seq
 (.cond (.t 41)
 .skip
 (.exit 2))
 (.seq
 (.blk 3
 (.seq
 (.reg [
 iP 42 (.ia 7 (.t 38) (.t 40)),
 iP 43 (.ldn 7 (.t 42)),
 iE 11 (.alc 55 [st ⟨#[]⟩, i64 0, i64 0, st ⟨#[]⟩, .val (.slice none 0 0), i64 0, i64 0]),
 ⟨none, none, .e (.st 7 (.t 11) (.t 43))⟩])
 (.seq
 (.seq
 (.drw [0, 1, 2, 3, 4, 5, 6] [
 iM 44 0,
 iP 45 (.nck (.t 44)),
 iF 46 0 45,
 iF 47 0 11,
 iL 48 47,
 ⟨(some 49), none, .q (.c (.fn (.func 82) [] [])) [(.t 46), (.t 48)]⟩,
 iP 50 (.not (.t 49))])
 (.cond (.t 50)
 (.seq
 (.reg [
 iF 51 6 11,
 iL 52 51,
 iC 53 53 [(.c (i64 7)), .t 52],
 iM 6 53])
 .ret)
 .skip))
 (.seq
 (.drw [0, 1, 2, 3, 4, 5, 6] [
 iM 54 0,
 iP 55 (.nck (.t 54)),
 iF 56 0 55,
 iF 57 1 11,
 iP 58 (.ldn 5 (.t 57)),
 ⟨(some 59), none, .q (.c (.fn (.func 83) [] [])) [(.t 56), (.t 58), (.c (i64 1))]⟩,
 iM 12 59])
 (.seq
 (.reg [
 iM 60 12,
 iP 61 (.ifn true true (.t 60))])
 (.cond (.t 61)
 (.seq
 (.reg [
 iM 62 12,
 iM 6 62])
 .ret)
 .skip))))))
 (.reg [
 iP 63 (.bin .add (.i .i64) (.t 40) (.c (i64 1))),
 iM 40 63]))))
def i84 : IC :=
 (.seq
 (.reg [
 iE 5 (.box 51 (.t 2)),
 iP 6 (.mov (.c (.val .nilIface)))])
 (.seq
 (.seq
 (.reg [
 iF 14 1 5,
 iL 15 14,
 iP 16 (.len (.t 15)),
 iP 17 (.bin .gtr (.i .i64) (.t 16) (.c (i64 1)))])
 (.cond (.t 17)
 (.seq
 (.reg [
 iF 18 5 5,
 iL 19 18,
 iC 20 53 [(.c (i64 3)), .t 19],
 iM 6 20])
 .ret)
 .skip))
 (.seq
 (.seq
 (.reg [
 iF 21 1 5,
 iL 22 21,
 iP 23 (.len (.t 22)),
 iP 24 (.mov (.c (i64 0)))])
 (.blk 0
 (.loop l84_0)))
 (.seq
 (.seq
 (.reg [
 iF 37 3 5,
 iL 38 37,
 iP 39 (.len (.t 38)),
 iP 40 (.mov (.c (i64 0)))])
 (.blk 2
 (.loop l84_1)))
 (.seq
 (.seq
 (.reg [
 iF 64 4 5,
 iL 65 64,
 iP 66 (.bin .eql .s (.t 65) (.c (st ⟨#[]⟩)))])
 (.cond (.t 66)
 (.seq
 (.reg [
 iP 6 (.mov (.c (.val .nilIface)))])
 .ret)
 .skip))
 (.seq
 (.drw [0, 1, 2, 3, 4, 5, 6, 7] [
 iM 67 0,
 iP 68 (.nck (.t 67)),
 iF 69 6 68,
 iL 70 69,
 iF 71 4 5,
 iL 72 71,
 iE 73 (.call (.t 70) [(.t 72)]),
 iM 13 73])
 (.seq
 (.seq
 (.reg [
 iM 74 13,
 iP 75 (.bin .lss (.i .i64) (.t 74) (.c (i64 0)))])
 (.cond (.t 75)
 (.seq
 (.reg [
 iF 76 5 5,
 iL 77 76,
 iC 78 53 [(.c (i64 7)), .t 77],
 iM 6 78])
 .ret)
 .skip))
 (.seq
 (.seq
 (.reg [
 iM 79 13,
 iM 80 1,
 iP 81 (.bin .leq (.i .i64) (.t 79) (.t 80))])
 (.cond (.t 81)
 (.seq
 (.reg [
 iF 82 5 5,
 iL 83 82,
 iC 84 53 [(.c (i64 9)), .t 83],
 iM 6 84])
 .ret)
 .skip))
 (.seq
 (.reg [
 iP 6 (.mov (.c (.val .nilIface)))])
 .ret)))))))))
def r84 : List RS := [.t 6]
theorem c84 : chkF Tryz.prog drawB Tryz.f84 i84 r84 = true := by kernel_rfl
def i90 : IC :=
 (.seq
 (.reg [
 iP 2 (.mov (.c (bl false)))])
 (.seq
 (.reg [
 iM 3 0,
 iP 4 (.bin .eql (.i .u8) (.t 3) (.c (.val (.int .u8 32)))),
 iM 5 4,
 iG 6 5 false (.mov (.t 0)),
 iG 7 5 false (.bin .eql (.i .u8) (.t 6) (.c (.val (.int .u8 9)))),
 iP 8 (.pick (.t 5) (.c (bl true)) (.t 7)),
 iM 9 8,
 iG 10 9 false (.mov (.t 0)),
 iG 11 9 false (.bin .eql (.i .u8) (.t 10) (.c (.val (.int .u8 10)))),
 iP 12 (.pick (.t 9) (.c (bl true)) (.t 11)),
 iM 2 12])
 .ret))
def r90 : List RS := [.t 2]
theorem c90 : chkF Tryz.prog drawB Tryz.f90 i90 r90 = true := by kernel_rfl
def l91_0 : IC := .keep [0, 1, 4, 6, 7]
 (.seq
 (.seq
 (.reg [
 iM 17 7,
 iM 18 0,
 iP 19 (.lens (.t 18)),
 iP 20 (.bin .lss (.i .i64) (.t 17) (.t 19)),
 iM 21 20,
 iG 22 21 true (.mov (.t 0)),
 iG 23 21 true (.mov (.t 7)),
 iG 24 21 true (.ixs (.t 22) (.t 23)),
 ⟨(some 25), (some (21, true)), .q (.c (.fn (.func 92) [] [])) [(.t 24)]⟩,
 iG 26 21 true (.mov (.t 25)),
 iG 27 26 false (.mov (.t 0)),
 iG 28 26 false (.mov (.t 7)),
 iG 29 26 false (.ixs (.t 27) (.t 28)),
 ⟨(some 30), (some (26, false)), .q (.c (.fn (.func 105) [] [])) [(.t 29)]⟩,
 iG 31 21 true (.pick (.t 26) (.c (bl true)) (.t 30)),
 iP 32 (.pick (.t 21) (.t 31) (.c (bl false)))])
 (.cond (.t 32)
 .skip
 (.exit 0)))
 (.blk 1
 (.reg [
 iM 33 7,
 iP 34 (.bin .add (.i .i64) (.t 33) (.c (i64 1))),
 iM 7 34])))
def l91_1 : IC := .keep [0, 1, 4, 6, 7]
 (.seq
 (.seq
 (.reg [
 iM 53 7,
 iM 54 0,
 iP 55 (.lens (.t 54)),
 iP 56 (.bin .lss (.i .i64) (.t 53) (.t 55)),
 iM 57 56,
 iG 58 57 true (.mov (.t 0)),
 iG 59 57 true (.mov (.t 7)),
 iG 60 57 true (.ixs (.t 58) (.t 59)),
 ⟨(some 61), (some (57, true)), .q (.c (.fn (.func 105) [] [])) [(.t 60)]⟩,
 iP 62 (.pick (.t 57) (.t 61) (.c (bl false)))])
 (.cond (.t 62)
 .skip
 (.exit 2)))
 (.blk 3
 (.reg [
 iM 63 7,
 iP 64 (.bin .add (.i .i64) (.t 63) (.c (i64 1))),
 iM 7 64])))
def i91 : IC :=
 (.seq
 (.reg [
 iE 4 (.alc 125 [i64 0, st ⟨#[]⟩, i64 0, i64 0]),
 iP 5 (.mov (.c (i64 0))),
 iE 6 (.alc 32 [i64 0, i64 0])])
 (.seq
 (.reg [
 iM 11 1,
 iM 7 11])
 (.seq
 (.reg [
 iM 12 0,
 iM 13 1,
 iP 14 (.ixs (.t 12) (.t 13)),
 iM 8 14])
 (.seq
 (.seq
 (.reg [
 iM 15 8,
 iC 16 92 [.t 15]])
 (.cond (.t 16)
 (.seq
 (.blk 0
 (.loop l91_0))
 (.seq
 (.seq
 (.reg [
 iM 35 7,
 iM 36 1,
 iP 37 (.bin .sub (.i .i64) (.t 35) (.t 36)),
 iP 38 (.bin .gtr (.i .i64) (.t 37) (.c (i64 40)))])
 (.cond (.t 38)
 (.seq
 (.reg [
 iP 39 (.bld [i64 0, st ⟨#[]⟩, i64 0, i64 0] []),
 iM 40 1,
 iM 41 1,
 iP 42 (.bld [i64 0, i64 0] [(0, 1, (.c (i64 4))), (1, 1, (.t 41))]),
 ⟨none, none, .e (.st 4 (.t 4) (.t 39))⟩,
 iM 5 40,
 ⟨none, none, .e (.st 2 (.t 6) (.t 42))⟩])
 .ret)
 .skip))
 (.seq
 (.reg [
 iM 43 0,
 iM 44 1,
 iM 45 7,
 iP 46 (.sls (.t 43) (some (.t 44)) (some (.t 45))),
 iM 47 1,
 iP 48 (.bld [i64 0, st ⟨#[]⟩, i64 0, i64 0] [(0, 1, (.c (i64 1))), (1, 1, (.t 46)), (3, 1, (.t 47))]),
 iM 49 7,
 iP 50 (.bld [i64 0, i64 0] []),
 ⟨none, none, .e (.st 4 (.t 4) (.t 48))⟩,
 iM 5 49,
 ⟨none, none, .e (.st 2 (.t 6) (.t 50))⟩])
 .ret)))
 .skip))
 (.seq
 (.seq
 (.reg [
 iM 51 8,
 iC 52 105 [.t 51]])
 (.cond (.t 52)
 (.seq
 (.blk 2
 (.loop l91_1))
 (.seq
 (.reg [
 iM 66 0,
 iM 67 1,
 iM 68 7,
 iP 69 (.sls (.t 66) (some (.t 67)) (some (.t 68))),
 iC 70 106 [.t 69],
 iM 65 70,
 iP 71 (.ext (.t 65) 0),
 iP 72 (.ext (.t 65) 1),
 iM 9 71,
 iM 10 72])
 (.seq
 (.seq
 (.reg [
 iM 73 10,
 iP 74 (.bin .neq (.i .i64) (.t 73) (.c (i64 0)))])
 (.cond (.t 74)
 (.seq
 (.reg [
 iP 75 (.bld [i64 0, st ⟨#[]⟩, i64 0, i64 0] []),
 iM 76 1,
 iM 77 10,
 iM 78 1,
 iP 79 (.bld [i64 0, i64 0] [(0, 1, (.t 77)), (1, 1, (.t 78))]),
 ⟨none, none, .e (.st 4 (.t 4) (.t 75))⟩,
 iM 5 76,
 ⟨none, none, .e (.st 2 (.t 6) (.t 79))⟩])
 .ret)
 .skip))
 (.seq
 (.reg [
 iM 80 0,
 iM 81 1,
 iM 82 7,
 iP 83 (.sls (.t 80) (some (.t 81)) (some (.t 82))),
 iM 84 9,
 iM 85 1,
 iP 86 (.bld [i64 0, st ⟨#[]⟩, i64 0, i64 0] [(0, 1, (.c (i64 2))), (1, 1, (.t 83)), (2, 1, (.t 84)), (3, 1, (.t 85))]),
 iM 87 7,
 iP 88 (.bld [i64 0, i64 0] []),
 ⟨none, none, .e (.st 4 (.t 4) (.t 86))⟩,
 iM 5 87,
 ⟨none, none, .e (.st 2 (.t 6) (.t 88))⟩])
 .ret))))
 .skip))
 (.seq
 (.seq
 (.reg [
 iM 89 1,
 iP 90 (.bin .add (.i .i64) (.t 89) (.c (i64 2))),
 iM 91 0,
 iP 92 (.lens (.t 91)),
 iP 93 (.bin .leq (.i .i64) (.t 90) (.t 92)),
 iM 94 93,
 iG 95 94 true (.mov (.t 0)),
 iG 96 94 true (.mov (.t 1)),
 iG 97 94 true (.mov (.t 1)),
 iG 98 94 true (.bin .add (.i .i64) (.t 97) (.c (i64 2))),
 iG 99 94 true (.sls (.t 95) (some (.t 96)) (some (.t 98))),
 ⟨(some 100), (some (94, true)), .q (.c (.fn (.func 107) [] [])) [(.t 99)]⟩,
 iP 101 (.pick (.t 94) (.t 100) (.c (bl false)))])
 (.cond (.t 101)
 (.seq
 (.reg [
 iM 102 0,
 iM 103 1,
 iM 104 1,
 iP 105 (.bin .add (.i .i64) (.t 104) (.c (i64 2))),
 iP 106 (.sls (.t 102) (some (.t 103)) (some (.t 105))),
 iM 107 1,
 iP 108 (.bld [i64 0, st ⟨#[]⟩, i64 0, i64 0] [(0, 1, (.c (i64 3))), (1, 1, (.t 106)), (3, 1, (.t 107))]),
 iM 109 1,
 iP 110 (.bin .add (.i .i64) (.t 109) (.c (i64 2))),
 iP 111 (.bld [i64 0, i64 0] []),
 ⟨none, none, .e (.st 4 (.t 4) (.t 108))⟩,
 iM 5 110,
 ⟨none, none, .e (.st 2 (.t 6) (.t 111))⟩])
 .ret)
 .skip))
 (.seq
 (.seq
 (.reg [
 iM 112 8,
 iC 113 108 [.t 112]])
 (.cond (.t 113)
 (.seq
 (.reg [
 iM 114 0,
 iM 115 1,
 iM 116 1,
 iP 117 (.bin .add (.i .i64) (.t 116) (.c (i64 1))),
 iP 118 (.sls (.t 114) (some (.t 115)) (some (.t 117))),
 iM 119 1,
 iP 120 (.bld [i64 0, st ⟨#[]⟩, i64 0, i64 0] [(0, 1, (.c (i64 3))), (1, 1, (.t 118)), (3, 1, (.t 119))]),
 iM 121 1,
 iP 122 (.bin .add (.i .i64) (.t 121) (.c (i64 1))),
 iP 123 (.bld [i64 0, i64 0] []),
 ⟨none, none, .e (.st 4 (.t 4) (.t 120))⟩,
 iM 5 122,
 ⟨none, none, .e (.st 2 (.t 6) (.t 123))⟩])
 .ret)
 .skip))
 (.seq
 (.reg [
 iP 124 (.bld [i64 0, st ⟨#[]⟩, i64 0, i64 0] []),
 iM 125 1,
 iM 126 1,
 iP 127 (.bld [i64 0, i64 0] [(0, 1, (.c (i64 11))), (1, 1, (.t 126))]),
 ⟨none, none, .e (.st 4 (.t 4) (.t 124))⟩,
 iM 5 125,
 ⟨none, none, .e (.st 2 (.t 6) (.t 127))⟩])
 .ret))))))))
def r91 : List RS := [.cn 4 4, .t 5, .cn 6 2]
theorem c91 : chkF Tryz.prog drawB Tryz.f91 i91 r91 = true := by kernel_rfl
def i92 : IC :=
 (.seq
 (.reg [
 iP 2 (.mov (.c (bl false)))])
 (.seq
 (.reg [
 iM 3 0,
 iP 4 (.bin .geq (.i .u8) (.t 3) (.c (.val (.int .u8 65)))),
 iM 5 4,
 iG 6 5 true (.mov (.t 0)),
 iG 7 5 true (.bin .leq (.i .u8) (.t 6) (.c (.val (.int .u8 90)))),
 iP 8 (.pick (.t 5) (.t 7) (.c (bl false))),
 iM 9 8,
 iG 10 9 false (.mov (.t 0)),
 iG 11 9 false (.bin .geq (.i .u8) (.t 10) (.c (.val (.int .u8 97)))),
 iG 12 9 false (.mov (.t 11)),
 iG 13 12 true (.mov (.t 0)),
 iG 14 12 true (.bin .leq (.i .u8) (.t 13) (.c (.val (.int .u8 122)))),
 iG 15 9 false (.pick (.t 12) (.t 14) (.c (bl false))),
 iP 16 (.pick (.t 9) (.c (bl true)) (.t 15)),
 iM 17 16,
 iG 18 17 false (.mov (.t 0)),
 iG 19 17 false (.bin .eql (.i .u8) (.t 18) (.c (.val (.int .u8 95)))),
 iP 20 (.pick (.t 17) (.c (bl true)) (.t 19)),
 iM 2 20])
 .ret))
def r92 : List RS := [.t 2]
theorem c92 : chkF Tryz.prog drawB Tryz.f92 i92 r92 = true := by kernel_rfl
def l93_0 : IC := .keep [0, 3, 4]
 (.seq
 (.seq
 (.reg [
 iM 45 0,
 iC 46 65 [.t 45, (.c (st ⟨#[44]⟩))]])
 (.cond (.t 46)
 .skip
 (.exit 0)))
 (.blk 1
 (.seq
 (.reg [
 iM 47 0,
 iC 48 62 [.t 47, (.c (st ⟨#[44]⟩))]])
 (.seq
 (.seq
 (.drw [0, 1, 2, 3, 4, 5, 6, 7, 8, 9, 10, 11, 12, 13, 14, 15, 16, 17, 18, 19, 20, 21, 22, 23, 24, 25, 26, 27, 28, 29] [
 iF 49 7 3,
 iL 50 49,
 iP 51 (.len (.t 50)),
 iP 52 (.bin .eql (.i .i64) (.t 51) (.c (i64 32))),
 iM 53 52,
 iG 54 53 true (.mov (.t 0)),
 iG 55 53 true (.nck (.t 54)),
 iG 56 53 true (.fa 2 (.t 55)),
 iG 57 53 true (.ld1 (.t 56)),
 iG 58 53 true (.mov (.t 0)),
 iG 59 53 true (.nck (.t 58)),
 iG 60 53 true (.fa 0 (.t 59)),
 iG 61 53 true (.ld1 (.t 60)),
 iG 62 53 true (.len (.t 61)),
 iG 63 53 true (.bin .lss (.i .i64) (.t 57) (.t 62)),
 iP 64 (.pick (.t 53) (.t 63) (.c (bl false))),
 iM 65 64,
 iG 66 65 true (.mov (.t 0)),
 iG 67 65 true (.nck (.t 66)),
 iG 68 65 true (.fa 0 (.t 67)),
 iG 69 65 true (.ld1 (.t 68)),
 iG 70 65 true (.mov (.t 0)),
 iG 71 65 true (.nck (.t 70)),
 iG 72 65 true (.fa 2 (.t 71)),
 iG 73 65 true (.ld1 (.t 72)),
 iG 74 65 true (.ia 4 (.t 69) (.t 73)),
 iG 75 65 true (.fa 0 (.t 74)),
 iG 76 65 true (.ld1 (.t 75)),
 iG 77 65 true (.bin .eql (.i .i64) (.t 76) (.c (i64 2))),
 iP 78 (.pick (.t 65) (.t 77) (.c (bl false)))])
 (.cond (.t 78)
 (.reg [
 iM 79 0,
 iC 80 67 [.t 79, (.c (i64 12))]])
 .skip))
 (.drw [0, 1, 2, 3, 4, 5, 6, 7] [
 iF 81 7 3,
 iL 82 81,
 iM 83 0,
 iC 84 64 [.t 83],
 iE 85 (.bsl 3 1 1 [i64 0] [(0, (.t 84))]),
 iE 86 (.app 3 1 8 (.t 82) (.t 85)),
 iF 87 7 3,
 ⟨none, none, .e (.stw [82] 1 (.t 87) (.t 86))⟩])))))
def i93 : IC :=
 (.seq
 (.reg [
 iE 3 (.box 45 (.t 1)),
 iE 4 (.alc 45 [i64 0, st ⟨#[]⟩, st ⟨#[]⟩, i64 0, i64 0, .val (.slice none 0 0), bl false, .val (.slice none 0 0), .val (.slice none 0 0), .val (.slice none 0 0), .val (.slice none 0 0), i64 0])])
 (.seq
 (.reg [
 iF 5 0 3,
 ⟨none, none, .e (.st 1 (.t 5) (.c (i64 1)))⟩])
 (.seq
 (.reg [
 iM 6 0,
 iC 7 62 [.t 6, (.c (st ⟨#[100, 101, 97, 108]⟩))],
 iF 8 11 3,
 ⟨none, none, .e (.st 1 (.t 8) (.t 7))⟩])
 (.seq
 (.reg [
 iM 9 0,
 iC 10 63 [.t 9],
 iF 11 2 3,
 ⟨none, none, .e (.st 1 (.t 11) (.t 10))⟩])
 (.seq
 (.reg [
 iM 12 0,
 iC 13 62 [.t 12, (.c (st ⟨#[105, 110]⟩))]])
 (.seq
 (.reg [
 iM 14 0,
 iC 15 64 [.t 14],
 iF 16 3 3,
 ⟨none, none, .e (.st 1 (.t 16) (.t 15))⟩])
 (.seq
 (.reg [
 iM 17 0,
 iC 18 62 [.t 17, (.c (st ⟨#[46, 46]⟩))]])
 (.seq
 (.reg [
 iM 19 0,
 iC 20 64 [.t 19],
 iF 21 4 3,
 ⟨none, none, .e (.st 1 (.t 21) (.t 20))⟩])
 (.seq
 (.seq
 (.reg [
 iM 22 0,
 iC 23 65 [.t 22, (.c (st ⟨#[119, 101, 105, 103, 104, 116]⟩))]])
 (.cond (.t 23)
 (.seq
 (.reg [
 iM 24 0,
 iC 25 62 [.t 24, (.c (st ⟨#[119, 101, 105, 103, 104, 116]⟩))]])
 (.reg [
 iM 26 0,
 iC 27 99 [.t 26],
 iE 28 (.bsl 53 5 1 [i64 0, i64 0, st ⟨#[]⟩, .val (.slice none 0 0), i64 0] [(0, (.t 27))]),
 iF 29 5 3,
 ⟨none, none, .e (.st 1 (.t 29) (.t 28))⟩]))
 .skip))
 (.seq
 (.seq
 (.reg [
 iM 30 0,
 iC 31 65 [.t 30, (.c (st ⟨#[115, 101, 101, 110]⟩))]])
 (.cond (.t 31)
 (.seq
 (.reg [
 iM 32 0,
 iC 33 62 [.t 32, (.c (st ⟨#[115, 101, 101, 110]⟩))]])
 (.seq
 (.reg [
 iM 34 0,
 iC 35 62 [.t 34, (.c (st ⟨#[98, 121]⟩))]])
 (.seq
 (.reg [
 iM 36 0,
 iC 37 65 [.t 36, (.c (st ⟨#[97, 108, 108]⟩))]])
 (.cond (.t 37)
 (.seq
 (.reg [
 iM 38 0,
 iC 39 62 [.t 38, (.c (st ⟨#[97, 108, 108]⟩))]])
 (.reg [
 iF 40 6 3,
 ⟨none, none, .e (.st 1 (.t 40) (.c (bl true)))⟩]))
 (.seq
 (.reg [
 iM 41 0,
 iC 42 64 [.t 41],
 iE 43 (.bsl 3 1 1 [i64 0] [(0, (.t 42))]),
 iF 44 7 3,
 ⟨none, none, .e (.st 1 (.t 44) (.t 43))⟩])
 (.blk 0
 (.loop l93_0)))))))
 .skip))
 (.seq
 (.reg [
 iM 88 0,
 iC 89 62 [.t 88, (.c (st ⟨#[59]⟩))]])
 (.seq
 (.reg [
 iP 90 (.ldn 12 (.t 3)),
 ⟨none, none, .e (.st 12 (.t 4) (.t 90))⟩])
 .ret))))))))))))
def r93 : List RS := [.cn 4 12]
theorem c93 : chkF Tryz.prog drawB Tryz.f93 i93 r93 = true := by kernel_rfl
def l94_0 : IC := .keep [0, 3, 4]
 (.seq
 (.seq
 (.reg [
 iM 19 0,
 iC 20 65 [.t 19, (.c (st ⟨#[97, 99, 116, 105, 111, 110]⟩))]])
 (.cond (.t 20)
 .skip
 (.exit 0)))
 (.blk 1
 (.seq
 (.seq
 (.reg [
 iF 21 9 3,
 iL 22 21,
 iP 23 (.len (.t 22)),
 iP 24 (.bin .eql (.i .i64) (.t 23) (.c (i64 10)))])
 (.cond (.t 24)
 (.reg [
 iM 25 0,
 iC 26 67 [.t 25, (.c (i64 12))]])
 .skip))
 (.drw [0, 1, 2, 3, 4, 5, 6, 7] [
 iF 27 9 3,
 iL 28 27,
 iM 29 0,
 iC 30 109 [.t 29],
 iE 31 (.bsl 51 6 1 [st ⟨#[]⟩, .val (.slice none 0 0), bl false, .val (.slice none 0 0), st ⟨#[]⟩, i64 0] [(0, (.t 30))]),
 iE 32 (.app 51 6 96 (.t 28) (.t 31)),
 iF 33 9 3,
 ⟨none, none, .e (.stw [28] 1 (.t 33) (.t 32))⟩]))))
def i94 : IC :=
 (.seq
 (.reg [
 iE 3 (.box 45 (.t 1)),
 iE 4 (.alc 45 [i64 0, st ⟨#[]⟩, st ⟨#[]⟩, i64 0, i64 0, .val (.slice none 0 0), bl false, .val (.slice none 0 0), .val (.slice none 0 0), .val (.slice none 0 0), .val (.slice none 0 0), i64 0])])
 (.seq
 (.reg [
 iF 5 0 3,
 ⟨none, none, .e (.st 1 (.t 5) (.c (i64 2)))⟩])
 (.seq
 (.reg [
 iM 6 0,
 iC 7 62 [.t 6, (.c (st ⟨#[116, 117, 114, 110]⟩))],
 iF 8 11 3,
 ⟨none, none, .e (.st 1 (.t 8) (.t 7))⟩])
 (.seq
 (.reg [
 iM 9 0,
 iC 10 99 [.t 9],
 iE 11 (.bsl 53 5 1 [i64 0, i64 0, st ⟨#[]⟩, .val (.slice none 0 0), i64 0] [(0, (.t 10))]),
 iF 12 8 3,
 ⟨none, none, .e (.st 1 (.t 12) (.t 11))⟩])
 (.seq
 (.reg [
 iM 13 0,
 iC 14 62 [.t 13, (.c (st ⟨#[123]⟩))]])
 (.seq
 (.reg [
 iM 15 0,
 iC 16 109 [.t 15],
 iE 17 (.bsl 51 6 1 [st ⟨#[]⟩, .val (.slice none 0 0), bl false, .val (.slice none 0 0), st ⟨#[]⟩, i64 0] [(0, (.t 16))]),
 iF 18 9 3,
 ⟨none, none, .e (.st 1 (.t 18) (.t 17))⟩])
 (.seq
 (.blk 0
 (.loop l94_0))
 (.seq
 (.reg [
 iM 34 0,
 iC 35 62 [.t 34, (.c (st ⟨#[125]⟩))]])
 (.seq
 (.reg [
 iP 36 (.ldn 12 (.t 3)),
 ⟨none, none, .e (.st 12 (.t 4) (.t 36))⟩])
 .ret)))))))))
def r94 : List RS := [.cn 4 12]
theorem c94 : chkF Tryz.prog drawB Tryz.f94 i94 r94 = true := by kernel_rfl
def l95_0 : IC := .keep [0, 3]
 (.seq
 (.seq
 (.reg [
 iM 7 0,
 iC 8 65 [.t 7, (.c (st ⟨#[44]⟩))]])
 (.cond (.t 8)
 .skip
 (.exit 0)))
 (.blk 1
 (.seq
 (.reg [
 iM 9 0,
 iC 10 62 [.t 9, (.c (st ⟨#[44]⟩))]])
 (.seq
 (.seq
 (.reg [
 iM 11 3,
 iP 12 (.len (.t 11)),
 iP 13 (.bin .eql (.i .i64) (.t 12) (.c (i64 32))),
 iM 14 13,
 iG 15 14 true (.mov (.t 0)),
 ⟨(some 16), (some (14, true)), .q (.c (.fn (.func 110) [] [])) [(.t 15)]⟩,
 iP 17 (.pick (.t 14) (.t 16) (.c (bl false)))])
 (.cond (.t 17)
 (.reg [
 iM 18 0,
 iC 19 67 [.t 18, (.c (i64 12))]])
 .skip))
 (.reg [
 iM 20 3,
 iM 21 0,
 iC 22 99 [.t 21],
 iE 23 (.bsl 53 5 1 [i64 0, i64 0, st ⟨#[]⟩, .val (.slice none 0 0), i64 0] [(0, (.t 22))]),
 iE 24 (.app 53 5 64 (.t 20) (.t 23)),
 iM 3 24])))))
def i95 : IC :=
 (.seq
 (.reg [
 iP 2 (.mov (.c (.val (.slice none 0 0))))])
 (.seq
 (.reg [
 iM 4 0,
 iC 5 99 [.t 4],
 iE 6 (.bsl 53 5 1 [i64 0, i64 0, st ⟨#[]⟩, .val (.slice none 0 0), i64 0] [(0, (.t 5))]),
 iM 3 6])
 (.seq
 (.blk 0
 (.loop l95_0))
 (.seq
 (.reg [
 iM 25 3,
 iM 2 25])
 .ret))))
def r95 : List RS := [.t 2]
theorem c95 : chkF Tryz.prog drawB Tryz.f95 i95 r95 = true := by kernel_rfl
def l99_0 : IC := .keep [0, 2, 3]
 (.seq
 (.seq
 (.reg [
 iM 7 0,
 iC 8 65 [.t 7, (.c (st ⟨#[111, 114]⟩))]])
 (.cond (.t 8)
 .skip
 (.exit 0)))
 (.blk 1
 (.seq
 (.reg [
 iM 9 0,
 iC 10 62 [.t 9, (.c (st ⟨#[111, 114]⟩))],
 iM 4 10])
 (.drw [0, 1, 2, 3, 4, 5] [
 iM 11 4,
 iP 12 (.ldn 5 (.t 3)),
 iM 13 0,
 iC 14 113 [.t 13],
 ⟨(some 15), none, .q (.c (.fn (.func 114) [] [])) [(.c (i64 17)), (.t 11), (.t 12), (.t 14)]⟩,
 ⟨none, none, .e (.st 5 (.t 3) (.t 15))⟩]))))
def i99 : IC :=
 (.seq
 (.reg [
 iE 2 (.alc 53 [i64 0, i64 0, st ⟨#[]⟩, .val (.slice none 0 0), i64 0])])
 (.seq
 (.reg [
 iM 5 0,
 iC 6 113 [.t 5],
 iE 3 (.alc 53 [i64 0, i64 0, st ⟨#[]⟩, .val (.slice none 0 0), i64 0]),
 ⟨none, none, .e (.st 5 (.t 3) (.t 6))⟩])
 (.seq
 (.blk 0
 (.loop l99_0))
 (.seq
 (.reg [
 iP 16 (.ldn 5 (.t 3)),
 ⟨none, none, .e (.st 5 (.t 2) (.t 16))⟩])
 .ret))))
def r99 : List RS := [.cn 2 5]
theorem c99 : chkF Tryz.prog drawB Tryz.f99 i99 r99 = true := by kernel_rfl
def i105 : IC :=
 (.seq
 (.reg [
 iP 2 (.mov (.c (bl false)))])
 (.seq
 (.reg [
 iM 3 0,
 iP 4 (.bin .geq (.i .u8) (.t 3) (.c (.val (.int .u8 48)))),
 iM 5 4,
 iG 6 5 true (.mov (.t 0)),
 iG 7 5 true (.bin .leq (.i .u8) (.t 6) (.c (.val (.int .u8 57)))),
 iP 8 (.pick (.t 5) (.t 7) (.c (bl false))),
 iM 2 8])
 .ret))
def r105 : List RS := [.t 2]
theorem c105 : chkF Tryz.prog drawB Tryz.f105 i105 r105 = true := by kernel_rfl
def l106_0 : IC := .keep [0, 4, 5]
 (.seq
 (.seq
 (.reg [
 iM 17 5,
 iM 18 0,
 iP 19 (.lens (.t 18)),
 iP 20 (.bin .lss (.i .i64) (.t 17) (.t 19))])
 (.cond (.t 20)
 .skip
 (.exit 0)))
 (.seq
 (.blk 1
 (.reg [
 iM 23 4,
 iP 24 (.bin .mul (.i .i64) (.c (i64 10)) (.t 23)),
 iM 25 0,
 iM 26 5,
 iP 27 (.ixs (.t 25) (.t 26)),
 iP 28 (.bin .sub (.i .u8) (.t 27) (.c (.val (.int .u8 48)))),
 iP 29 (.cvi .i64 (.t 28)),
 iP 30 (.bin .add (.i .i64) (.t 24) (.t 29)),
 iM 4 30]))
 (.reg [
 iM 21 5,
 iP 22 (.bin .add (.i .i64) (.t 21) (.c (i64 1))),
 iM 5 22])))
def i106 : IC :=
 (.seq
 (.reg [
 iP 2 (.mov (.c (i64 0))),
 iP 3 (.mov (.c (i64 0)))])
 (.seq
 (.seq
 (.reg [
 iM 6 0,
 iP 7 (.lens (.t 6)),
 iP 8 (.bin .gtr (.i .i64) (.t 7) (.c (i64 1))),
 iM 9 8,
 iG 10 9 true (.mov (.t 0)),
 iG 11 9 true (.ixs (.t 10) (.c (i64 0))),
 iG 12 9 true (.bin .eql (.i .u8) (.t 11) (.c (.val (.int .u8 48)))),
 iP 13 (.pick (.t 9) (.t 12) (.c (bl false)))])
 (.cond (.t 13)
 (.seq
 (.reg [
 iP 2 (.mov (.c (i64 0))),
 iP 3 (.mov (.c (i64 3)))])
 .ret)
 .skip))
 (.seq
 (.seq
 (.reg [
 iM 14 0,
 iP 15 (.lens (.t 14)),
 iP 16 (.bin .gtr (.i .i64) (.t 15) (.c (i64 10)))])
 (.cond (.t 16)
 (.seq
 (.reg [
 iP 2 (.mov (.c (i64 0))),
 iP 3 (.mov (.c (i64 2)))])
 .ret)
 .skip))
 (.seq
 (.reg [
 iP 4 (.mov (.c (i64 0)))])
 (.seq
 (.seq
 (.reg [
 iP 5 (.mov (.c (i64 0)))])
 (.blk 0
 (.loop l106_0)))
 (.seq
 (.seq
 (.reg [
 iM 31 4,
 iP 32 (.bin .gtr (.i .i64) (.t 31) (.c (i64 1000000000)))])
 (.cond (.t 32)
 (.seq
 (.reg [
 iP 2 (.mov (.c (i64 0))),
 iP 3 (.mov (.c (i64 2)))])
 .ret)
 .skip))
 (.seq
 (.reg [
 iM 33 4,
 iM 2 33,
 iP 3 (.mov (.c (i64 0)))])
 .ret)))))))
def r106 : List RS := [.t 2, .t 3]
theorem c106 : chkF Tryz.prog drawB Tryz.f106 i106 r106 = true := by kernel_rfl
def i107 : IC :=
 (.seq
 (.reg [
 iP 2 (.mov (.c (bl false)))])
 (.seq
 (.reg [
 iM 3 0,
 iP 4 (.bin .eql .s (.t 3) (.c (st ⟨#[61, 61]⟩))),
 iM 5 4,
 iG 6 5 false (.mov (.t 0)),
 iG 7 5 false (.bin .eql .s (.t 6) (.c (st ⟨#[33, 61]⟩))),
 iP 8 (.pick (.t 5) (.c (bl true)) (.t 7)),
 iM 9 8,
 iG 10 9 false (.mov (.t 0)),
 iG 11 9 false (.bin .eql .s (.t 10) (.c (st ⟨#[60, 61]⟩))),
 iP 12 (.pick (.t 9) (.c (bl true)) (.t 11)),
 iM 13 12,
 iG 14 13 false (.mov (.t 0)),
 iG 15 13 false (.bin .eql .s (.t 14) (.c (st ⟨#[62, 61]⟩))),
 iP 16 (.pick (.t 13) (.c (bl true)) (.t 15)),
 iM 17 16,
 iG 18 17 false (.mov (.t 0)),
 iG 19 17 false (.bin .eql .s (.t 18) (.c (st ⟨#[46, 46]⟩))),
 iP 20 (.pick (.t 17) (.c (bl true)) (.t 19)),
 iM 2 20])
 .ret))
def r107 : List RS := [.t 2]
theorem c107 : chkF Tryz.prog drawB Tryz.f107 i107 r107 = true := by kernel_rfl
def l108_0 : IC := .keep [0, 3, 4]
 (.seq
 (.seq
 (.reg [
 iM 5 4,
 iM 6 3,
 iP 7 (.lens (.t 6)),
 iP 8 (.bin .lss (.i .i64) (.t 5) (.t 7))])
 (.cond (.t 8)
 .skip
 (.exit 0)))
 (.seq
 (.blk 1
 (.seq
 (.reg [
 iM 11 3,
 iM 12 4,
 iP 13 (.ixs (.t 11) (.t 12)),
 iM 14 0,
 iP 15 (.bin .eql (.i .u8) (.t 13) (.t 14))])
 (.cond (.t 15)
 (.seq
 (.reg [
 iP 2 (.mov (.c (bl true)))])
 .ret)
 .skip)))
 (.reg [
 iM 9 4,
 iP 10 (.bin .add (.i .i64) (.t 9) (.c (i64 1))),
 iM 4 10])))
def i108 : IC :=
 (.seq
 (.reg [
 iP 2 (.mov (.c (bl false)))])
 (.seq
 (.reg [
 iP 3 (.mov (.c (st ⟨#[123, 125, 40, 41, 58, 59, 44, 43, 45, 42, 47, 37, 60, 62, 61]⟩)))])
 (.seq
 (.seq
 (.reg [
 iP 4 (.mov (.c (i64 0)))])
 (.blk 0
 (.loop l108_0)))
 (.seq
 (.reg [
 iP 2 (.mov (.c (bl false)))])
 .ret))))
def r108 : List RS := [.t 2]
theorem c108 : chkF Tryz.prog drawB Tryz.f108 i108 r108 = true := by kernel_rfl
def l109_0 : IC := .keep [0, 2, 3]
 (.seq
 (.seq
 (.reg [
 iM 26 0,
 iC 27 69 [.t 26],
 iP 28 (.not (.t 27)),
 iM 29 28,
 iG 30 29 true (.mov (.t 0)),
 ⟨(some 31), (some (29, true)), .q (.c (.fn (.func 65) [] [])) [(.t 30), (.c (st ⟨#[125]⟩))]⟩,
 iG 32 29 true (.not (.t 31)),
 iP 33 (.pick (.t 29) (.t 32) (.c (bl false)))])
 (.cond (.t 33)
 .skip
 (.exit 0)))
 (.blk 1
 (.seq
 (.seq
 (.reg [
 iF 34 3 3,
 iL 35 34,
 iP 36 (.len (.t 35)),
 iP 37 (.bin .eql (.i .i64) (.t 36) (.c (i64 32))),
 iM 38 37,
 iG 39 38 true (.mov (.t 0)),
 ⟨(some 40), (some (38, true)), .q (.c (.fn (.func 66) [] [])) [(.t 39)]⟩,
 iP 41 (.pick (.t 38) (.t 40) (.c (bl false)))])
 (.cond (.t 41)
 (.reg [
 iM 42 0,
 iC 43 67 [.t 42, (.c (i64 12))]])
 .skip))
 (.seq
 (.reg [
 iM 44 0,
 iC 45 68 [.t 44],
 iP 46 (.bld [st ⟨#[]⟩, i64 0, i64 0, st ⟨#[]⟩, .val (.slice none 0 0), i64 0, i64 0] [(6, 1, (.t 45))]),
 iE 4 (.alc 55 [st ⟨#[]⟩, i64 0, i64 0, st ⟨#[]⟩, .val (.slice none 0 0), i64 0, i64 0]),
 ⟨none, none, .e (.st 7 (.t 4) (.t 46))⟩])
 (.seq
 (.reg [
 iM 47 0,
 iC 48 63 [.t 47],
 iF 49 0 4,
 ⟨none, none, .e (.st 1 (.t 49) (.t 48))⟩])
 (.seq
 (.reg [
 iM 50 0,
 iC 51 62 [.t 50, (.c (st ⟨#[61]⟩))]])
 (.seq
 (.reg [
 iM 52 0,
 iC 53 99 [.t 52],
 iF 54 1 4,
 ⟨none, none, .e (.st 5 (.t 54) (.t 53))⟩])
 (.seq
 (.reg [
 iM 55 0,
 iC 56 62 [.t 55, (.c (st ⟨#[59]⟩))]])
 (.reg [
 iF 57 3 3,
 iL 58 57,
 iP 59 (.ldn 7 (.t 4)),
 iE 60 (.bsl 55 7 1 [st ⟨#[]⟩, i64 0, i64 0, st ⟨#[]⟩, .val (.slice none 0 0), i64 0, i64 0] [(0, (.t 59))]),
 iE 61 (.app 55 7 88 (.t 58) (.t 60)),
 iF 62 3 3,
 ⟨none, none, .e (.st 1 (.t 62) (.t 61))⟩])))))))))
def i109 : IC :=
 (.seq
 (.reg [
 iE 2 (.alc 51 [st ⟨#[]⟩, .val (.slice none 0 0), bl false, .val (.slice none 0 0), st ⟨#[]⟩, i64 0])])
 (.seq
 (.reg [
 iM 5 0,
 iC 6 62 [.t 5, (.c (st ⟨#[97, 99, 116, 105, 111, 110]⟩))],
 iP 7 (.bld [st ⟨#[]⟩, .val (.slice none 0 0), bl false, .val (.slice none 0 0), st ⟨#[]⟩, i64 0] [(5, 1, (.t 6))]),
 iE 3 (.alc 51 [st ⟨#[]⟩, .val (.slice none 0 0), bl false, .val (.slice none 0 0), st ⟨#[]⟩, i64 0]),
 ⟨none, none, .e (.st 6 (.t 3) (.t 7))⟩])
 (.seq
 (.reg [
 iM 8 0,
 iC 9 63 [.t 8],
 iF 10 0 3,
 ⟨none, none, .e (.st 1 (.t 10) (.t 9))⟩])
 (.seq
 (.seq
 (.reg [
 iM 11 0,
 iC 12 65 [.t 11, (.c (st ⟨#[119, 104, 101, 110]⟩))]])
 (.cond (.t 12)
 (.seq
 (.reg [
 iM 13 0,
 iC 14 62 [.t 13, (.c (st ⟨#[119, 104, 101, 110]⟩))]])
 (.reg [
 iM 15 0,
 iC 16 99 [.t 15],
 iE 17 (.bsl 53 5 1 [i64 0, i64 0, st ⟨#[]⟩, .val (.slice none 0 0), i64 0] [(0, (.t 16))]),
 iF 18 1 3,
 ⟨none, none, .e (.st 1 (.t 18) (.t 17))⟩]))
 .skip))
 (.seq
 (.seq
 (.reg [
 iM 19 0,
 iC 20 65 [.t 19, (.c (st ⟨#[104, 105, 100, 100, 101, 110]⟩))]])
 (.cond (.t 20)
 (.seq
 (.reg [
 iM 21 0,
 iC 22 62 [.t 21, (.c (st ⟨#[104, 105, 100, 100, 101, 110]⟩))]])
 (.reg [
 iF 23 2 3,
 ⟨none, none, .e (.st 1 (.t 23) (.c (bl true)))⟩]))
 .skip))
 (.seq
 (.reg [
 iM 24 0,
 iC 25 62 [.t 24, (.c (st ⟨#[123]⟩))]])
 (.seq
 (.blk 0
 (.loop l109_0))
 (.seq
 (.reg [
 iM 63 0,
 iC 64 62 [.t 63, (.c (st ⟨#[125]⟩))]])
 (.seq
 (.seq
 (.reg [
 iM 65 0,
 iC 66 65 [.t 65, (.c (st ⟨#[103, 111, 116, 111]⟩))]])
 (.cond (.t 66)
 (.seq
 (.reg [
 iM 67 0,
 iC 68 62 [.t 67, (.c (st ⟨#[103, 111, 116, 111]⟩))]])
 (.seq
 (.reg [
 iM 69 0,
 iC 70 63 [.t 69],
 iF 71 4 3,
 ⟨none, none, .e (.st 1 (.t 71) (.t 70))⟩])
 (.reg [
 iM 72 0,
 iC 73 62 [.t 72, (.c (st ⟨#[59]⟩))]])))
 .skip))
 (.seq
 (.reg [
 iP 74 (.ldn 6 (.t 3)),
 ⟨none, none, .e (.st 6 (.t 2) (.t 74))⟩])
 .ret))))))))))
def r109 : List RS := [.cn 2 6]
theorem c109 : chkF Tryz.prog drawB Tryz.f109 i109 r109 = true := by kernel_rfl
def i110 : IC :=
 (.seq
 (.reg [
 iP 2 (.mov (.c (bl false)))])
 (.seq
 (.seq
 (.drw [0, 1, 2, 3, 4, 5, 6, 7, 8, 9, 10, 11, 12, 13] [
 iM 3 0,
 ⟨(some 4), none, .q (.c (.fn (.func 69) [] [])) [(.t 3)]⟩,
 iM 5 4,
 iG 6 5 false (.mov (.t 0)),
 iG 7 5 false (.nck (.t 6)),
 iG 8 5 false (.fa 2 (.t 7)),
 iG 9 5 false (.ld1 (.t 8)),
 iG 10 5 false (.mov (.t 0)),
 iG 11 5 false (.nck (.t 10)),
 iG 12 5 false (.fa 0 (.t 11)),
 iG 13 5 false (.ld1 (.t 12)),
 iG 14 5 false (.len (.t 13)),
 iG 15 5 false (.bin .geq (.i .i64) (.t 9) (.t 14)),
 iP 16 (.pick (.t 5) (.c (bl true)) (.t 15))])
 (.cond (.t 16)
 (.seq
 (.reg [
 iP 2 (.mov (.c (bl false)))])
 .ret)
 .skip))
 (.seq
 (.drw [0, 1, 2, 3, 4, 5, 6, 7, 8, 9, 10, 11, 12, 13, 14, 15, 16, 17, 18, 19, 20, 21, 22, 23, 24, 25, 26, 27, 28, 29, 30, 31, 32, 33, 34, 35, 36, 37, 38, 39, 40] [
 iM 17 0,
 iP 18 (.nck (.t 17)),
 iF 19 0 18,
 iL 20 19,
 iM 21 0,
 iP 22 (.nck (.t 21)),
 iF 23 2 22,
 iL 24 23,
 iP 25 (.ia 4 (.t 20) (.t 24)),
 iF 26 0 25,
 iL 27 26,
 iP 28 (.bin .eql (.i .i64) (.t 27) (.c (i64 2))),
 iM 29 28,
 iG 30 29 false (.mov (.t 0)),
 ⟨(some 31), (some (29, false)), .q (.c (.fn (.func 66) [] [])) [(.t 30)]⟩,
 iP 32 (.pick (.t 29) (.c (bl true)) (.t 31)),
 iM 33 32,
 iG 34 33 false (.mov (.t 0)),
 ⟨(some 35), (some (33, false)), .q (.c (.fn (.func 65) [] [])) [(.t 34), (.c (st ⟨#[110, 111, 116]⟩))]⟩,
 iP 36 (.pick (.t 33) (.c (bl true)) (.t 35)),
 iM 37 36,
 iG 38 37 false (.mov (.t 0)),
 ⟨(some 39), (some (37, false)), .q (.c (.fn (.func 65) [] [])) [(.t 38), (.c (st ⟨#[45]⟩))]⟩,
 iP 40 (.pick (.t 37) (.c (bl true)) (.t 39)),
 iM 41 40,
 iG 42 41 false (.mov (.t 0)),
 ⟨(some 43), (some (41, false)), .q (.c (.fn (.func 65) [] [])) [(.t 42), (.c (st ⟨#[40]⟩))]⟩,
 iP 44 (.pick (.t 41) (.c (bl true)) (.t 43)),
 iM 45 44,
 iG 46 45 false (.mov (.t 0)),
 ⟨(some 47), (some (45, false)), .q (.c (.fn (.func 65) [] [])) [(.t 46), (.c (st ⟨#[109, 105, 110]⟩))]⟩,
 iP 48 (.pick (.t 45) (.c (bl true)) (.t 47)),
 iM 49 48,
 iG 50 49 false (.mov (.t 0)),
 ⟨(some 51), (some (49, false)), .q (.c (.fn (.func 65) [] [])) [(.t 50), (.c (st ⟨#[109, 97, 120]⟩))]⟩,
 iP 52 (.pick (.t 49) (.c (bl true)) (.t 51)),
 iM 53 52,
 iG 54 53 false (.mov (.t 0)),
 ⟨(some 55), (some (53, false)), .q (.c (.fn (.func 65) [] [])) [(.t 54), (.c (st ⟨#[105, 102]⟩))]⟩,
 iP 56 (.pick (.t 53) (.c (bl true)) (.t 55)),
 iM 2 56])
 .ret)))
def r110 : List RS := [.t 2]
theorem c110 : chkF Tryz.prog drawB Tryz.f110 i110 r110 = true := by kernel_rfl
def l113_0 : IC := .keep [0, 2, 3]
 (.seq
 (.seq
 (.reg [
 iM 7 0,
 iC 8 65 [.t 7, (.c (st ⟨#[97, 110, 100]⟩))]])
 (.cond (.t 8)
 .skip
 (.exit 0)))
 (.blk 1
 (.seq
 (.reg [
 iM 9 0,
 iC 10 62 [.t 9, (.c (st ⟨#[97, 110, 100]⟩))],
 iM 4 10])
 (.drw [0, 1, 2, 3, 4, 5] [
 iM 11 4,
 iP 12 (.ldn 5 (.t 3)),
 iM 13 0,
 iC 14 115 [.t 13],
 ⟨(some 15), none, .q (.c (.fn (.func 114) [] [])) [(.c (i64 16)), (.t 11), (.t 12), (.t 14)]⟩,
 ⟨none, none, .e (.st 5 (.t 3) (.t 15))⟩]))))
def i113 : IC :=
 (.seq
 (.reg [
 iE 2 (.alc 53 [i64 0, i64 0, st ⟨#[]⟩, .val (.slice none 0 0), i64 0])])
 (.seq
 (.reg [
 iM 5 0,
 iC 6 115 [.t 5],
 iE 3 (.alc 53 [i64 0, i64 0, st ⟨#[]⟩, .val (.slice none 0 0), i64 0]),
 ⟨none, none, .e (.st 5 (.t 3) (.t 6))⟩])
 (.seq
 (.blk 0
 (.loop l113_0))
 (.seq
 (.reg [
 iP 16 (.ldn 5 (.t 3)),
 ⟨none, none, .e (.st 5 (.t 2) (.t 16))⟩])
 .ret))))
def r113 : List RS := [.cn 2 5]
theorem c113 : chkF Tryz.prog drawB Tryz.f113 i113 r113 = true := by kernel_rfl
def i114 : IC :=
 (.seq
 (.reg [
 iE 6 (.box 53 (.t 2)),
 iE 7 (.box 53 (.t 3)),
 iE 8 (.alc 53 [i64 0, i64 0, st ⟨#[]⟩, .val (.slice none 0 0), i64 0])])
 (.seq
 (.reg [
 iM 9 0,
 iP 10 (.ldn 5 (.t 6)),
 iP 11 (.ldn 5 (.t 7)),
 iE 12 (.bsl 53 5 2 [i64 0, i64 0, st ⟨#[]⟩, .val (.slice none 0 0), i64 0] [(0, (.t 10)), (1, (.t 11))]),
 iM 13 1,
 iP 14 (.bld [i64 0, i64 0, st ⟨#[]⟩, .val (.slice none 0 0), i64 0] [(0, 1, (.t 9)), (3, 1, (.t 12)), (4, 1, (.t 13))]),
 ⟨none, none, .e (.st 5 (.t 8) (.t 14))⟩])
 .ret))
def r114 : List RS := [.cn 8 5]
theorem c114 : chkF Tryz.prog drawB Tryz.f114 i114 r114 = true := by kernel_rfl
def i115 : IC :=
 (.seq
 (.reg [
 iE 2 (.alc 53 [i64 0, i64 0, st ⟨#[]⟩, .val (.slice none 0 0), i64 0])])
 (.seq
 (.seq
 (.reg [
 iM 5 0,
 iC 6 65 [.t 5, (.c (st ⟨#[110, 111, 116]⟩))],
 iP 7 (.not (.t 6))])
 (.cond (.t 7)
 (.seq
 (.reg [
 iM 8 0,
 iC 9 116 [.t 8],
 ⟨none, none, .e (.st 5 (.t 2) (.t 9))⟩])
 .ret)
 .skip))
 (.seq
 (.reg [
 iM 10 0,
 iC 11 117 [.t 10, (.c (st ⟨#[110, 111, 116]⟩))],
 iM 3 11])
 (.seq
 (.seq
 (.reg [
 iM 12 0,
 iC 13 69 [.t 12]])
 (.cond (.t 13)
 (.seq
 (.reg [
 iP 14 (.bld [i64 0, i64 0, st ⟨#[]⟩, .val (.slice none 0 0), i64 0] []),
 ⟨none, none, .e (.st 5 (.t 2) (.t 14))⟩])
 .ret)
 .skip))
 (.seq
 (.reg [
 iM 15 0,
 iC 16 115 [.t 15],
 iE 4 (.alc 53 [i64 0, i64 0, st ⟨#[]⟩, .val (.slice none 0 0), i64 0]),
 ⟨none, none, .e (.st 5 (.t 4) (.t 16))⟩])
 (.seq
 (.reg [
 iM 17 0,
 iP 18 (.nck (.t 17)),
 iF 19 3 18,
 iL 20 19,
 iP 21 (.bin .sub (.i .i64) (.t 20) (.c (i64 1))),
 iP 22 (.nck (.t 17)),
 iF 23 3 22,
 ⟨none, none, .e (.st 1 (.t 23) (.t 21))⟩])
 (.seq
 (.reg [
 iP 24 (.ldn 5 (.t 4)),
 iE 25 (.bsl 53 5 1 [i64 0, i64 0, st ⟨#[]⟩, .val (.slice none 0 0), i64 0] [(0, (.t 24))]),
 iM 26 3,
 iP 27 (.bld [i64 0, i64 0, st ⟨#[]⟩, .val (.slice none 0 0), i64 0] [(0, 1, (.c (i64 4))), (3, 1, (.t 25)), (4, 1, (.t 26))]),
 ⟨none, none, .e (.st 5 (.t 2) (.t 27))⟩])
 .ret)))))))
def r115 : List RS := [.cn 2 5]
theorem c115 : chkF Tryz.prog drawB Tryz.f115 i115 r115 = true := by kernel_rfl
def l116_0 : IC := .keep [0, 2, 3, 4, 5]
 (.seq
 (.seq
 (.reg [
 iM 10 5,
 iP 11 (.bin .lss (.i .i64) (.t 10) (.c (i64 6)))])
 (.cond (.t 11)
 .skip
 (.exit 0)))
 (.seq
 (.blk 1
 (.seq
 (.reg [
 iM 14 0,
 iM 15 4,
 iM 16 5,
 iP 17 (.ia 1 (.t 15) (.t 16)),
 iL 18 17,
 iC 19 65 [.t 14, .t 18]])
 (.cond (.t 19)
 (.seq
 (.reg [
 iM 20 0,
 iM 21 4,
 iM 22 5,
 iP 23 (.ia 1 (.t 21) (.t 22)),
 iL 24 23,
 iC 25 62 [.t 20, .t 24],
 iM 6 25])
 (.seq
 (.drw [0, 1, 2, 3, 4, 5, 6, 7] [
 iM 26 5,
 iP 27 (.bin .add (.i .i64) (.c (i64 10)) (.t 26)),
 iM 28 6,
 iP 29 (.ldn 5 (.t 3)),
 iM 30 0,
 iC 31 118 [.t 30],
 ⟨(some 32), none, .q (.c (.fn (.func 114) [] [])) [(.t 27), (.t 28), (.t 29), (.t 31)]⟩,
 ⟨none, none, .e (.st 5 (.t 2) (.t 32))⟩])
 .ret))
 .skip)))
 (.reg [
 iM 12 5,
 iP 13 (.bin .add (.i .i64) (.t 12) (.c (i64 1))),
 iM 5 13])))
def i116 : IC :=
 (.seq
 (.reg [
 iE 2 (.alc 53 [i64 0, i64 0, st ⟨#[]⟩, .val (.slice none 0 0), i64 0])])
 (.seq
 (.reg [
 iM 7 0,
 iC 8 118 [.t 7],
 iE 3 (.alc 53 [i64 0, i64 0, st ⟨#[]⟩, .val (.slice none 0 0), i64 0]),
 ⟨none, none, .e (.st 5 (.t 3) (.t 8))⟩])
 (.seq
 (.reg [
 iE 9 (.bsl 9 1 6 [st ⟨#[]⟩] [(0, (.c (st ⟨#[61, 61]⟩))), (1, (.c (st ⟨#[33, 61]⟩))), (2, (.c (st ⟨#[60]⟩))), (3, (.c (st ⟨#[60, 61]⟩))), (4, (.c (st ⟨#[62]⟩))), (5, (.c (st ⟨#[62, 61]⟩)))]),
 iM 4 9])
 (.seq
 (.seq
 (.reg [
 iP 5 (.mov (.c (i64 0)))])
 (.blk 0
 (.loop l116_0)))
 (.seq
 (.reg [
 iP 33 (.ldn 5 (.t 3)),
 ⟨none, none, .e (.st 5 (.t 2) (.t 33))⟩])
 .ret)))))
def r116 : List RS := [.cn 2 5]
theorem c116 : chkF Tryz.prog drawB Tryz.f116 i116 r116 = true := by kernel_rfl
def i117 : IC :=
 (.seq
 (.reg [
 iP 4 (.mov (.c (i64 0)))])
 (.seq
 (.seq
 (.reg [
 iM 5 0,
 iM 6 1,
 iC 7 65 [.t 5, .t 6],
 iM 8 7,
 iG 9 8 true (.mov (.t 0)),
 iG 10 8 true (.nck (.t 9)),
 iG 11 8 true (.fa 3 (.t 10)),
 iG 12 8 true (.ld1 (.t 11)),
 iG 13 8 true (.bin .eql (.i .i64) (.t 12) (.c (i64 40))),
 iP 14 (.pick (.t 8) (.t 13) (.c (bl false)))])
 (.cond (.t 14)
 (.reg [
 iM 15 0,
 iC 16 67 [.t 15, (.c (i64 5))]])
 .skip))
 (.seq
 (.reg [
 iM 17 0,
 iP 18 (.nck (.t 17)),
 iF 19 3 18,
 iL 20 19,
 iP 21 (.bin .add (.i .i64) (.t 20) (.c (i64 1))),
 iP 22 (.nck (.t 17)),
 iF 23 3 22,
 ⟨none, none, .e (.st 1 (.t 23) (.t 21))⟩])
 (.seq
 (.reg [
 iM 24 0,
 iM 25 1,
 iC 26 62 [.t 24, .t 25],
 iM 4 26])
 .ret))))
def r117 : List RS := [.t 4]
theorem c117 : chkF Tryz.prog drawB Tryz.f117 i117 r117 = true := by kernel_rfl
def l118_0 : IC := .keep [0, 2, 3]
 (.seq
 (.seq
 (.reg [
 iM 8 0,
 iC 9 65 [.t 8, (.c (st ⟨#[43]⟩))],
 iM 10 9,
 iG 11 10 false (.mov (.t 0)),
 ⟨(some 12), (some (10, false)), .q (.c (.fn (.func 65) [] [])) [(.t 11), (.c (st ⟨#[45]⟩))]⟩,
 iP 13 (.pick (.t 10) (.c (bl true)) (.t 12))])
 (.cond (.t 13)
 .skip
 (.exit 0)))
 (.blk 1
 (.seq
 (.reg [
 iP 4 (.mov (.c (i64 8)))])
 (.seq
 (.seq
 (.reg [
 iM 14 0,
 iC 15 65 [.t 14, (.c (st ⟨#[45]⟩))]])
 (.cond (.t 15)
 (.reg [
 iP 4 (.mov (.c (i64 9)))])
 .skip))
 (.seq
 (.reg [
 iM 16 0,
 iC 17 68 [.t 16],
 iM 5 17])
 (.seq
 (.reg [
 iM 18 0,
 iP 19 (.nck (.t 18)),
 iF 20 2 19,
 iL 21 20,
 iP 22 (.bin .add (.i .i64) (.t 21) (.c (i64 1))),
 iP 23 (.nck (.t 18)),
 iF 24 2 23,
 ⟨none, none, .e (.st 1 (.t 24) (.t 22))⟩])
 (.drw [0, 1, 2, 3, 4, 5, 6] [
 iM 25 4,
 iM 26 5,
 iP 27 (.ldn 5 (.t 3)),
 iM 28 0,
 iC 29 119 [.t 28],
 ⟨(some 30), none, .q (.c (.fn (.func 114) [] [])) [(.t 25), (.t 26), (.t 27), (.t 29)]⟩,
 ⟨none, none, .e (.st 5 (.t 3) (.t 30))⟩])))))))
def i118 : IC :=
 (.seq
 (.reg [
 iE 2 (.alc 53 [i64 0, i64 0, st ⟨#[]⟩, .val (.slice none 0 0), i64 0])])
 (.seq
 (.reg [
 iM 6 0,
 iC 7 119 [.t 6],
 iE 3 (.alc 53 [i64 0, i64 0, st ⟨#[]⟩, .val (.slice none 0 0), i64 0]),
 ⟨none, none, .e (.st 5 (.t 3) (.t 7))⟩])
 (.seq
 (.blk 0
 (.loop l118_0))
 (.seq
 (.reg [
 iP 31 (.ldn 5 (.t 3)),
 ⟨none, none, .e (.st 5 (.t 2) (.t 31))⟩])
 .ret))))
def r118 : List RS := [.cn 2 5]
theorem c118 : chkF Tryz.prog drawB Tryz.f118 i118 r118 = true := by kernel_rfl
def l119_0 : IC := .keep [0, 2, 3]
 (.seq
 (.seq
 (.reg [
 iM 8 0,
 iC 9 65 [.t 8, (.c (st ⟨#[42]⟩))],
 iM 10 9,
 iG 11 10 false (.mov (.t 0)),
 ⟨(some 12), (some (10, false)), .q (.c (.fn (.func 65) [] [])) [(.t 11), (.c (st ⟨#[47]⟩))]⟩,
 iP 13 (.pick (.t 10) (.c (bl true)) (.t 12)),
 iM 14 13,
 iG 15 14 false (.mov (.t 0)),
 ⟨(some 16), (some (14, false)), .q (.c (.fn (.func 65) [] [])) [(.t 15), (.c (st ⟨#[37]⟩))]⟩,
 iP 17 (.pick (.t 14) (.c (bl true)) (.t 16))])
 (.cond (.t 17)
 .skip
 (.exit 0)))
 (.blk 1
 (.seq
 (.reg [
 iP 4 (.mov (.c (i64 5)))])
 (.seq
 (.seq
 (.reg [
 iM 18 0,
 iC 19 65 [.t 18, (.c (st ⟨#[47]⟩))]])
 (.cond (.t 19)
 (.reg [
 iP 4 (.mov (.c (i64 6)))])
 .skip))
 (.seq
 (.seq
 (.reg [
 iM 20 0,
 iC 21 65 [.t 20, (.c (st ⟨#[37]⟩))]])
 (.cond (.t 21)
 (.reg [
 iP 4 (.mov (.c (i64 7)))])
 .skip))
 (.seq
 (.reg [
 iM 22 0,
 iC 23 68 [.t 22],
 iM 5 23])
 (.seq
 (.reg [
 iM 24 0,
 iP 25 (.nck (.t 24)),
 iF 26 2 25,
 iL 27 26,
 iP 28 (.bin .add (.i .i64) (.t 27) (.c (i64 1))),
 iP 29 (.nck (.t 24)),
 iF 30 2 29,
 ⟨none, none, .e (.st 1 (.t 30) (.t 28))⟩])
 (.drw [0, 1, 2, 3, 4, 5, 6] [
 iM 31 4,
 iM 32 5,
 iP 33 (.ldn 5 (.t 3)),
 iM 34 0,
 iC 35 120 [.t 34],
 ⟨(some 36), none, .q (.c (.fn (.func 114) [] [])) [(.t 31), (.t 32), (.t 33), (.t 35)]⟩,
 ⟨none, none, .e (.st 5 (.t 3) (.t 36))⟩]))))))))
def i119 : IC :=
 (.seq
 (.reg [
 iE 2 (.alc 53 [i64 0, i64 0, st ⟨#[]⟩, .val (.slice none 0 0), i64 0])])
 (.seq
 (.reg [
 iM 6 0,
 iC 7 120 [.t 6],
 iE 3 (.alc 53 [i64 0, i64 0, st ⟨#[]⟩, .val (.slice none 0 0), i64 0]),
 ⟨none, none, .e (.st 5 (.t 3) (.t 7))⟩])
 (.seq
 (.blk 0
 (.loop l119_0))
 (.seq
 (.reg [
 iP 37 (.ldn 5 (.t 3)),
 ⟨none, none, .e (.st 5 (.t 2) (.t 37))⟩])
 .ret))))
def r119 : List RS := [.cn 2 5]
theorem c119 : chkF Tryz.prog drawB Tryz.f119 i119 r119 = true := by kernel_rfl
def l120_1 : IC := .keep [0, 2, 8, 9, 10]
 (.seq
 (.seq
 (.reg [
 iM 97 10,
 iM 98 8,
 iP 99 (.bin .quo (.i .i64) (.t 98) (.c (i64 2))),
 iP 100 (.bin .leq (.i .i64) (.t 97) (.t 99))])
 (.cond (.t 100)
 .skip
 (.exit 2)))
 (.seq
 (.blk 3
 (.seq
 (.reg [
 iM 103 0,
 iC 104 62 [.t 103, (.c (st ⟨#[44]⟩))]])
 (.seq
 (.seq
 (.reg [
 iM 105 0,
 iC 106 69 [.t 105]])
 (.cond (.t 106)
 (.seq
 (.reg [
 iP 107 (.bld [i64 0, i64 0, st ⟨#[]⟩, .val (.slice none 0 0), i64 0] []),
 ⟨none, none, .e (.st 5 (.t 2) (.t 107))⟩])
 .ret)
 .skip))
 (.drw [0, 1, 2, 3, 4, 5, 6, 7] [
 iF 108 3 9,
 iL 109 108,
 iM 110 0,
 iC 111 99 [.t 110],
 iE 112 (.bsl 53 5 1 [i64 0, i64 0, st ⟨#[]⟩, .val (.slice none 0 0), i64 0] [(0, (.t 111))]),
 iE 113 (.app 53 5 64 (.t 109) (.t 112)),
 iF 114 3 9,
 ⟨none, none, .e (.stw [109] 1 (.t 114) (.t 113))⟩]))))
 (.reg [
 iM 101 10,
 iP 102 (.bin .add (.i .i64) (.t 101) (.c (i64 1))),
 iM 10 102])))
def l120_0 : IC := .keep [0, 2, 3, 6, 7, 8]
 (.seq
 (.seq
 (.reg [
 iM 63 8,
 iP 64 (.bin .lss (.i .i64) (.t 63) (.c (i64 3)))])
 (.cond (.t 64)
 .skip
 (.exit 0)))
 (.seq
 (.blk 1
 (.seq
 (.reg [
 iM 67 0,
 iM 68 7,
 iM 69 8,
 iP 70 (.ia 1 (.t 68) (.t 69)),
 iL 71 70,
 iC 72 65 [.t 67, .t 71]])
 (.cond (.t 72)
 (.seq
 (.reg [
 iM 73 0,
 iM 74 7,
 iM 75 8,
 iP 76 (.ia 1 (.t 74) (.t 75)),
 iL 77 76,
 iC 78 62 [.t 73, .t 77]])
 (.seq
 (.reg [
 iM 79 0,
 iC 80 117 [.t 79, (.c (st ⟨#[40]⟩))]])
 (.seq
 (.seq
 (.reg [
 iM 81 0,
 iC 82 69 [.t 81]])
 (.cond (.t 82)
 (.seq
 (.reg [
 iP 83 (.bld [i64 0, i64 0, st ⟨#[]⟩, .val (.slice none 0 0), i64 0] []),
 ⟨none, none, .e (.st 5 (.t 2) (.t 83))⟩])
 .ret)
 .skip))
 (.seq
 (.reg [
 iM 84 6,
 iM 85 8,
 iP 86 (.ia 1 (.t 84) (.t 85)),
 iL 87 86,
 iM 88 3,
 iP 89 (.bld [i64 0, i64 0, st ⟨#[]⟩, .val (.slice none 0 0), i64 0] [(0, 1, (.t 87)), (4, 1, (.t 88))]),
 iE 9 (.alc 53 [i64 0, i64 0, st ⟨#[]⟩, .val (.slice none 0 0), i64 0]),
 ⟨none, none, .e (.st 5 (.t 9) (.t 89))⟩])
 (.seq
 (.drw [0, 1, 2, 3, 4, 5, 6, 7] [
 iF 90 3 9,
 iL 91 90,
 iM 92 0,
 iC 93 99 [.t 92],
 iE 94 (.bsl 53 5 1 [i64 0, i64 0, st ⟨#[]⟩, .val (.slice none 0 0), i64 0] [(0, (.t 93))]),
 iE 95 (.app 53 5 64 (.t 91) (.t 94)),
 iF 96 3 9,
 ⟨none, none, .e (.stw [91] 1 (.t 96) (.t 95))⟩])
 (.seq
 (.seq
 (.reg [
 iP 10 (.mov (.c (i64 0)))])
 (.blk 2
 (.loop l120_1)))
 (.seq
 (.reg [
 iM 115 0,
 iC 116 62 [.t 115, (.c (st ⟨#[41]⟩))]])
 (.seq
 (.reg [
 iM 117 0,
 iP 118 (.nck (.t 117)),
 iF 119 3 118,
 iL 120 119,
 iP 121 (.bin .sub (.i .i64) (.t 120) (.c (i64 1))),
 iP 122 (.nck (.t 117)),
 iF 123 3 122,
 ⟨none, none, .e (.st 1 (.t 123) (.t 121))⟩])
 (.seq
 (.reg [
 iP 124 (.ldn 5 (.t 9)),
 ⟨none, none, .e (.st 5 (.t 2) (.t 124))⟩])
 .ret)))))))))
 .skip)))
 (.reg [
 iM 65 8,
 iP 66 (.bin .add (.i .i64) (.t 65) (.c (i64 1))),
 iM 8 66])))
def i120 : IC :=
 (.seq
 (.reg [
 iE 2 (.alc 53 [i64 0, i64 0, st ⟨#[]⟩, .val (.slice none 0 0), i64 0])])
 (.seq
 (.seq
 (.reg [
 iM 11 0,
 iC 12 69 [.t 11]])
 (.cond (.t 12)
 (.seq
 (.reg [
 iP 13 (.bld [i64 0, i64 0, st ⟨#[]⟩, .val (.slice none 0 0), i64 0] []),
 ⟨none, none, .e (.st 5 (.t 2) (.t 13))⟩])
 .ret)
 .skip))
 (.seq
 (.reg [
 iM 14 0,
 iC 15 68 [.t 14],
 iM 3 15])
 (.seq
 (.seq
 (.reg [
 iM 16 0,
 iC 17 66 [.t 16]])
 (.cond (.t 17)
 (.seq
 (.reg [
 iM 18 0,
 iC 19 63 [.t 18],
 iM 20 3,
 iP 21 (.bld [i64 0, i64 0, st ⟨#[]⟩, .val (.slice none 0 0), i64 0] [(0, 1, (.c (i64 2))), (2, 1, (.t 19)), (4, 1, (.t 20))]),
 ⟨none, none, .e (.st 5 (.t 2) (.t 21))⟩])
 .ret)
 .skip))
 (.seq
 (.seq
 (.reg [
 iM 22 0,
 iC 23 65 [.t 22, (.c (st ⟨#[45]⟩))]])
 (.cond (.t 23)
 (.seq
 (.reg [
 iM 24 0,
 iC 25 117 [.t 24, (.c (st ⟨#[45]⟩))]])
 (.seq
 (.seq
 (.reg [
 iM 26 0,
 iC 27 69 [.t 26]])
 (.cond (.t 27)
 (.seq
 (.reg [
 iP 28 (.bld [i64 0, i64 0, st ⟨#[]⟩, .val (.slice none 0 0), i64 0] []),
 ⟨none, none, .e (.st 5 (.t 2) (.t 28))⟩])
 .ret)
 .skip))
 (.seq
 (.reg [
 iM 29 0,
 iC 30 120 [.t 29],
 iE 4 (.alc 53 [i64 0, i64 0, st ⟨#[]⟩, .val (.slice none 0 0), i64 0]),
 ⟨none, none, .e (.st 5 (.t 4) (.t 30))⟩])
 (.seq
 (.reg [
 iM 31 0,
 iP 32 (.nck (.t 31)),
 iF 33 3 32,
 iL 34 33,
 iP 35 (.bin .sub (.i .i64) (.t 34) (.c (i64 1))),
 iP 36 (.nck (.t 31)),
 iF 37 3 36,
 ⟨none, none, .e (.st 1 (.t 37) (.t 35))⟩])
 (.seq
 (.reg [
 iP 38 (.ldn 5 (.t 4)),
 iE 39 (.bsl 53 5 1 [i64 0, i64 0, st ⟨#[]⟩, .val (.slice none 0 0), i64 0] [(0, (.t 38))]),
 iM 40 3,
 iP 41 (.bld [i64 0, i64 0, st ⟨#[]⟩, .val (.slice none 0 0), i64 0] [(0, 1, (.c (i64 3))), (3, 1, (.t 39)), (4, 1, (.t 40))]),
 ⟨none, none, .e (.st 5 (.t 2) (.t 41))⟩])
 .ret)))))
 .skip))
 (.seq
 (.seq
 (.reg [
 iM 42 0,
 iC 43 65 [.t 42, (.c (st ⟨#[40]⟩))]])
 (.cond (.t 43)
 (.seq
 (.reg [
 iM 44 0,
 iC 45 117 [.t 44, (.c (st ⟨#[40]⟩))]])
 (.seq
 (.seq
 (.reg [
 iM 46 0,
 iC 47 69 [.t 46]])
 (.cond (.t 47)
 (.seq
 (.reg [
 iP 48 (.bld [i64 0, i64 0, st ⟨#[]⟩, .val (.slice none 0 0), i64 0] []),
 ⟨none, none, .e (.st 5 (.t 2) (.t 48))⟩])
 .ret)
 .skip))
 (.seq
 (.reg [
 iM 49 0,
 iC 50 99 [.t 49],
 iE 5 (.alc 53 [i64 0, i64 0, st ⟨#[]⟩, .val (.slice none 0 0), i64 0]),
 ⟨none, none, .e (.st 5 (.t 5) (.t 50))⟩])
 (.seq
 (.reg [
 iM 51 0,
 iC 52 62 [.t 51, (.c (st ⟨#[41]⟩))]])
 (.seq
 (.reg [
 iM 53 0,
 iP 54 (.nck (.t 53)),
 iF 55 3 54,
 iL 56 55,
 iP 57 (.bin .sub (.i .i64) (.t 56) (.c (i64 1))),
 iP 58 (.nck (.t 53)),
 iF 59 3 58,
 ⟨none, none, .e (.st 1 (.t 59) (.t 57))⟩])
 (.seq
 (.reg [
 iP 60 (.ldn 5 (.t 5)),
 ⟨none, none, .e (.st 5 (.t 2) (.t 60))⟩])
 .ret))))))
 .skip))
 (.seq
 (.reg [
 iE 61 (.bsl 3 1 3 [i64 0] [(0, (.c (i64 18))), (1, (.c (i64 19))), (2, (.c (i64 20)))]),
 iM 6 61])
 (.seq
 (.reg [
 iE 62 (.bsl 9 1 3 [st ⟨#[]⟩] [(0, (.c (st ⟨#[109, 105, 110]⟩))), (1, (.c (st ⟨#[109, 97, 120]⟩))), (2, (.c (st ⟨#[105, 102]⟩)))]),
 iM 7 62])
 (.seq
 (.seq
 (.reg [
 iP 8 (.mov (.c (i64 0)))])
 (.blk 0
 (.loop l120_0)))
 (.seq
 (.reg [
 iM 125 0,
 iC 126 64 [.t 125],
 iM 127 3,
 iP 128 (.bld [i64 0, i64 0, st ⟨#[]⟩, .val (.slice none 0 0), i64 0] [(0, 1, (.c (i64 1))), (1, 1, (.t 126)), (4, 1, (.t 127))]),
 ⟨none, none, .e (.st 5 (.t 2) (.t 128))⟩])
 .ret))))))))))
def r120 : List RS := [.cn 2 5]
theorem c120 : chkF Tryz.prog drawB Tryz.f120 i120 r120 = true := by kernel_rfl
end Go.Proofs.YthmdmnfojbnobaaGreatDoor
