/- Steps of the proof. -/
import Derived.Test.YtogjmpkehjfecaaGreatDoorPart1
set_option linter.all false
namespace Go.Proofs.YtogjmpkehjfecaaGreatDoor
open Go.Ab
abbrev iP (n:Nat) (i:I):Ins:=⟨some n,none,.p i⟩
abbrev iM (n m:Nat):Ins:=⟨some n,none,.p (.mov (.t m))⟩
abbrev iF (n k m:Nat):Ins:=⟨some n,none,.p (.fa k (.t m))⟩
abbrev iL (n m:Nat):Ins:=⟨some n,none,.p (.ld1 (.t m))⟩
abbrev iC (n f:Nat) (l:List Od):Ins:=⟨some n,none,.e (.call (.c (.fn (.func f) [] [])) l)⟩
abbrev iE (n:Nat) (e:E):Ins:=⟨some n,none,.e e⟩
abbrev iG (n g:Nat) (b:Bool) (i:I):Ins:=⟨some n,some (g,b),.p i⟩
def i5:IC :=
 (.seq
 (.reg [
 iP 8 (.mov (.c (bl false)))])
 (.seq
 (.seq
 (.reg [
 iC 20 6 [],
 iP 21 (.not (.t 20))])
 (.cond (.t 21)
 (.seq
 (.reg [
 iP 8 (.mov (.c (bl false)))])
 .ret)
 .skip))
 (.seq
 (.seq
 (.reg [
 iM 22 0,
 iP 23 (.len (.t 22)),
 iP 24 (.bin .gtr (.i .i64) (.t 23) (.c (i64 80)))])
 (.cond (.t 24)
 (.seq
 (.reg [
 iP 8 (.mov (.c (bl true)))])
 .ret)
 .skip))
 (.seq
 (.reg [
 iM 25 0,
 iM 26 1,
 iC 27 25 [.t 26,(.c (i64 3))],
 iP 28 (.bin .add (.i .i64) (.c (i64 1)) (.t 27)),
 iC 29 24 [.t 25,.t 28,(.c (i64 25)),(.c (bl false))],
 iE 9 (.alc 26 [i64 0,.val (.slice none 0 0),.val (.slice none 0 0)]),
 ⟨none,none,.e (.st 3 (.t 9) (.t 29))⟩])
 (.seq
 (.reg [
 iM 30 2,
 iC 31 25 [.t 30,(.c (i64 61))],
 iM 32 3,
 iC 33 25 [.t 32,(.c (i64 61))],
 iM 2 31,
 iM 3 33])
 (.seq
 (.reg [
 iP 35 (.ldn 3 (.t 9)),
 iC 36 8 [.t 35],
 iM 34 36,
 iP 37 (.ext (.t 34) 0),
 iP 38 (.ext (.t 34) 1),
 iE 10 (.alc 30 [i64 0,i64 0,.val (.slice none 0 0),.val (.slice none 0 0)]),
 ⟨none,none,.e (.st 4 (.t 10) (.t 37))⟩,
 iM 11 38])
 (.seq
 (.reg [
 iP 40 (.ldn 3 (.t 9)),
 iP 41 (.ldn 4 (.t 10)),
 iM 42 2,
 iC 43 11 [.t 40,.t 41,.t 42],
 iM 39 43,
 iP 44 (.ext (.t 39) 0),
 iP 45 (.ext (.t 39) 1),
 iE 12 (.alc 30 [i64 0,i64 0,.val (.slice none 0 0),.val (.slice none 0 0)]),
 ⟨none,none,.e (.st 4 (.t 12) (.t 44))⟩,
 iM 13 45])
 (.seq
 (.reg [
 iP 47 (.ldn 3 (.t 9)),
 iP 48 (.ldn 4 (.t 12)),
 iM 49 3,
 iC 50 11 [.t 47,.t 48,.t 49],
 iM 46 50,
 iP 51 (.ext (.t 46) 0),
 iP 52 (.ext (.t 46) 1),
 iE 14 (.alc 30 [i64 0,i64 0,.val (.slice none 0 0),.val (.slice none 0 0)]),
 ⟨none,none,.e (.st 4 (.t 14) (.t 51))⟩,
 iM 15 52])
 (.seq
 (.reg [
 iP 54 (.ldn 3 (.t 9)),
 iP 55 (.ldn 4 (.t 10)),
 iM 56 2,
 iM 57 3,
 iP 58 (.bin .add (.i .i64) (.t 56) (.t 57)),
 iC 59 11 [.t 54,.t 55,.t 58],
 iM 53 59,
 iP 60 (.ext (.t 53) 0),
 iP 61 (.ext (.t 53) 1),
 iE 16 (.alc 30 [i64 0,i64 0,.val (.slice none 0 0),.val (.slice none 0 0)]),
 ⟨none,none,.e (.st 4 (.t 16) (.t 60))⟩,
 iM 17 61])
 (.seq
 (.reg [
 iP 63 (.ldn 3 (.t 9)),
 iP 64 (.ldn 4 (.t 16)),
 iC 65 12 [.t 63,.t 64],
 iM 62 65,
 iP 66 (.ext (.t 62) 0),
 iP 67 (.ext (.t 62) 1),
 iM 18 66,
 iM 19 67])
 (.seq
 (.reg [
 iM 68 11,
 iP 69 (.bin .eql (.i .i64) (.t 68) (.c (i64 0))),
 iM 70 69,
 iG 71 70 true (.mov (.t 13)),
 iG 72 70 true (.bin .eql (.i .i64) (.t 71) (.c (i64 0))),
 iP 73 (.pick (.t 70) (.t 72) (.c (bl false))),
 iM 74 73,
 iG 75 74 true (.mov (.t 15)),
 iG 76 74 true (.bin .eql (.i .i64) (.t 75) (.c (i64 0))),
 iP 77 (.pick (.t 74) (.t 76) (.c (bl false))),
 iM 78 77,
 iG 79 78 true (.mov (.t 17)),
 iG 80 78 true (.bin .eql (.i .i64) (.t 79) (.c (i64 0))),
 iP 81 (.pick (.t 78) (.t 80) (.c (bl false))),
 iM 82 81,
 iG 83 82 true (.mov (.t 19)),
 iG 84 82 true (.bin .eql (.i .i64) (.t 83) (.c (i64 0))),
 iP 85 (.pick (.t 82) (.t 84) (.c (bl false))),
 iM 86 85,
 iG 87 86 true (.ldn 4 (.t 14)),
 iG 88 86 true (.ldn 4 (.t 16)),
 ⟨(some 89),(some (86,true)),.q (.c (.fn (.func 16) [] [])) [(.t 87),(.t 88)]⟩,
 iP 90 (.pick (.t 86) (.t 89) (.c (bl false))),
 iM 91 90,
 iG 92 91 true (.fa 0 (.t 16)),
 iG 93 91 true (.ld1 (.t 92)),
 iG 94 91 true (.mov (.t 2)),
 iG 95 91 true (.mov (.t 3)),
 iG 96 91 true (.bin .add (.i .i64) (.t 94) (.t 95)),
 iG 97 91 true (.bin .eql (.i .i64) (.t 93) (.t 96)),
 iP 98 (.pick (.t 91) (.t 97) (.c (bl false))),
 iM 99 98,
 iG 100 99 true (.ldn 3 (.t 9)),
 iG 101 99 true (.mov (.t 18)),
 ⟨(some 102),(some (99,true)),.q (.c (.fn (.func 26) [] [])) [(.t 100),(.t 101)]⟩,
 iG 103 99 true (.bin .eql (.i .i64) (.t 102) (.c (i64 0))),
 iP 104 (.pick (.t 99) (.t 103) (.c (bl false))),
 iM 8 104])
 .ret)))))))))))
def r5:List RS:=[.t 8]
theorem c5:Qi Tryz.prog Qb Tryz.f5 i5 r5=true:=by kernel_rfl
def i6:IC :=
 (.seq
 (.reg [
 iP 0 (.mov (.c (bl false)))])
 (.seq
 (.reg [
 iC 7 7 [],
 iC 8 8 [.t 7],
 iM 6 8,
 iP 9 (.ext (.t 6) 0),
 iP 10 (.ext (.t 6) 1),
 iE 1 (.alc 30 [i64 0,i64 0,.val (.slice none 0 0),.val (.slice none 0 0)]),
 ⟨none,none,.e (.st 4 (.t 1) (.t 9))⟩,
 iM 2 10])
 (.seq
 (.drw [0,1,2,3,4,5,6,7] [
 ⟨(some 12),none,.q (.c (.fn (.func 7) [] [])) []⟩,
 iP 13 (.ldn 4 (.t 1)),
 ⟨(some 14),none,.q (.c (.fn (.func 10) [] [])) [(.t 12),(.t 13)]⟩,
 iM 11 14,
 iP 15 (.ext (.t 11) 0),
 iP 16 (.ext (.t 11) 1),
 ⟨none,none,.e (.st 4 (.t 1) (.t 15))⟩,
 iM 3 16])
 (.seq
 (.drw [0,1,2,3,4,5,6,7] [
 ⟨(some 18),none,.q (.c (.fn (.func 7) [] [])) []⟩,
 iP 19 (.ldn 4 (.t 1)),
 ⟨(some 20),none,.q (.c (.fn (.func 9) [] [])) [(.t 18),(.t 19)]⟩,
 iM 17 20,
 iP 21 (.ext (.t 17) 0),
 iP 22 (.ext (.t 17) 1),
 iM 4 21,
 iM 5 22])
 (.seq
 (.reg [
 iM 23 2,
 iP 24 (.bin .eql (.i .i64) (.t 23) (.c (i64 0))),
 iM 25 24,
 iG 26 25 true (.mov (.t 3)),
 iG 27 25 true (.bin .eql (.i .i64) (.t 26) (.c (i64 0))),
 iP 28 (.pick (.t 25) (.t 27) (.c (bl false))),
 iM 29 28,
 iG 30 29 true (.mov (.t 5)),
 iG 31 29 true (.bin .eql (.i .i64) (.t 30) (.c (i64 0))),
 iP 32 (.pick (.t 29) (.t 31) (.c (bl false))),
 iM 33 32,
 iG 34 33 true (.fa 2 (.t 1)),
 iG 35 33 true (.ld1 (.t 34)),
 ⟨(some 36),(some (33,true)),.e (.bsl 3 1 2 [i64 0] [(0,(.c (i64 171))),(1,(.c (i64 (-171))))])⟩,
 ⟨(some 37),(some (33,true)),.e (.bsl 3 1 2 [i64 0] [(0,(.c (i64 341))),(1,(.c (i64 (-341))))])⟩,
 ⟨(some 38),(some (33,true)),.e (.bsl 3 1 3 [i64 0] [(0,(.c (i64 341))),(1,(.c (i64 (-1194)))),(2,(.c (i64 853)))])⟩,
 ⟨(some 39),(some (33,true)),.e (.bsl 45 1 3 [.val (.slice none 0 0)] [(0,(.t 36)),(1,(.t 37)),(2,(.t 38))])⟩,
 ⟨(some 40),(some (33,true)),.q (.c (.fn (.func 15) [] [])) [(.t 35),(.t 39)]⟩,
 iP 41 (.pick (.t 33) (.t 40) (.c (bl false))),
 iM 42 41,
 iG 43 42 true (.mov (.t 4)),
 ⟨(some 44),(some (42,true)),.e (.bsl 3 1 2 [i64 0] [(0,(.c (i64 65536))),(1,(.c (i64 0)))])⟩,
 ⟨(some 45),(some (42,true)),.e (.bsl 3 1 2 [i64 0] [(0,(.c (i64 65536))),(1,(.c (i64 0)))])⟩,
 ⟨(some 46),(some (42,true)),.e (.bsl 3 1 3 [i64 0] [(0,(.c (i64 18717))),(1,(.c (i64 0))),(2,(.c (i64 46819)))])⟩,
 ⟨(some 47),(some (42,true)),.e (.bsl 45 1 3 [.val (.slice none 0 0)] [(0,(.t 44)),(1,(.t 45)),(2,(.t 46))])⟩,
 ⟨(some 48),(some (42,true)),.q (.c (.fn (.func 15) [] [])) [(.t 43),(.t 47)]⟩,
 iP 49 (.pick (.t 42) (.t 48) (.c (bl false))),
 iM 0 49])
 .ret)))))
def r6:List RS:=[.t 0]
theorem c6:Qi Tryz.prog Qb Tryz.f6 i6 r6=true:=by kernel_rfl
def i7:IC :=
 (.seq
 (.reg [
 iE 0 (.alc 26 [i64 0,.val (.slice none 0 0),.val (.slice none 0 0)])])
 (.seq
 (.reg [
 iP 1 (.bld [i64 0,i64 0] [(0,1,(.c (i64 0))),(1,1,(.c (i64 2)))]),
 iP 2 (.bld [i64 0,i64 0] [(0,1,(.c (i64 1))),(1,1,(.c (i64 2)))]),
 iP 3 (.bld [i64 0,i64 0] [(0,1,(.c (i64 0))),(1,1,(.c (i64 3)))]),
 iE 4 (.bsl 55 2 3 [i64 0,i64 0] [(0,(.t 1)),(1,(.t 2)),(2,(.t 3))]),
 iE 5 (.bsl 3 1 2 [i64 0] [(0,(.c (i64 1))),(1,(.c (i64 2)))]),
 iC 6 27 [(.c (i64 0)),(.c (i64 0)),.t 5],
 iC 7 28 [(.c (i64 1))],
 iE 8 (.bsl 3 1 2 [i64 0] [(0,(.c (i64 3))),(1,(.c (i64 4)))]),
 iC 9 27 [(.c (i64 1)),(.c (i64 1)),.t 8],
 iC 10 28 [(.c (i64 0))],
 iE 11 (.bsl 3 1 3 [i64 0] [(0,(.c (i64 5))),(1,(.c (i64 6))),(2,(.c (i64 7)))]),
 iC 12 27 [(.c (i64 0)),(.c (i64 2)),.t 11],
 iC 13 28 [(.c (i64 2))],
 iC 14 28 [(.c (i64 (-1)))],
 iC 15 28 [(.c (i64 3))],
 iE 16 (.bsl 57 6 8 [i64 0,i64 0,i64 0,.val (.slice none 0 0),.val (.slice none 0 0),.val (.slice none 0 0)] [(0,(.t 6)),(1,(.t 7)),(2,(.t 9)),(3,(.t 10)),(4,(.t 12)),(5,(.t 13)),(6,(.t 14)),(7,(.t 15))]),
 iP 17 (.bld [i64 0,.val (.slice none 0 0),.val (.slice none 0 0)] [(0,1,(.c (i64 2))),(2,1,(.t 4)),(1,1,(.t 16))]),
 ⟨none,none,.e (.st 3 (.t 0) (.t 17))⟩])
 .ret))
def r7:List RS:=[.cn 0 3]
theorem c7:Qi Tryz.prog Qb Tryz.f7 i7 r7=true:=by kernel_rfl
def i8:IC :=
 (.seq
 (.reg [
 iE 1 (.box 26 (.t 0)),
 iE 2 (.alc 30 [i64 0,i64 0,.val (.slice none 0 0),.val (.slice none 0 0)]),
 iP 3 (.mov (.c (i64 0)))])
 (.seq
 (.seq
 (.reg [
 iP 5 (.ldn 3 (.t 1)),
 iC 6 29 [.t 5],
 iM 4 6])
 (.seq
 (.reg [
 iM 7 4,
 iP 8 (.bin .neq (.i .i64) (.t 7) (.c (i64 0)))])
 (.cond (.t 8)
 (.seq
 (.reg [
 iP 9 (.bld [i64 0,i64 0,.val (.slice none 0 0),.val (.slice none 0 0)] []),
 iM 10 4,
 ⟨none,none,.e (.st 4 (.t 2) (.t 9))⟩,
 iM 3 10])
 .ret)
 .skip)))
 (.seq
 (.drw [0,2,1,3,4,5,6] [
 iP 11 (.ldn 3 (.t 1)),
 iP 13 (.ldn 3 (.t 1)),
 iC 12 30 [.t 11],
 iC 14 30 [.t 13],
 iP 15 (.bld [i64 0,i64 0,.val (.slice none 0 0),.val (.slice none 0 0)] [(2,1,(.t 12)),(3,1,(.t 14))]),
 ⟨none,none,.e (.stw [13,11] 4 (.t 2) (.t 15))⟩,
 iP 3 (.mov (.c (i64 0)))])
 .ret)))
def r8:List RS:=[.cn 2 4,.t 3]
theorem c8:Qi Tryz.prog Qb Tryz.f8 i8 r8=true:=by kernel_rfl
def QhC:IC:=.keep [3,7,8,19,20,21]
 (.seq
 (.reg [
 iP 22 (.bin .lss (.i .i64) (.t 21) (.t 20))])
 (.seq
 (.cond (.t 22)
 .skip
 (.exit 0))
 (.seq
 (.blk 1
 (.seq
 (.reg [
 iM 23 21,
 iP 24 (.ia 1 (.t 19) (.t 21)),
 iL 25 24,
 iM 9 23,
 iM 10 25])
 (.drw [0,1,2,3,4,5,6,7,8,9] [
 iF 26 2 3,
 iL 27 26,
 iM 28 9,
 iP 29 (.ia 1 (.t 27) (.t 28)),
 iL 30 29,
 iM 31 10,
 iM 32 10,
 iP 33 (.len (.t 32)),
 iP 34 (.sla 10 1 (.t 8) none (some (.t 33))),
 iC 35 31 [.t 30,.t 31,.t 34]])))
 (.reg [
 iP 36 (.bin .add (.i .i64) (.t 21) (.c (i64 1))),
 iM 21 36]))))
def i9:IC :=
 (.seq
 (.reg [
 iE 2 (.box 26 (.t 0)),
 iE 3 (.box 30 (.t 1)),
 iP 4 (.mov (.c (.val (.slice none 0 0)))),
 iP 5 (.mov (.c (i64 0)))])
 (.seq
 (.seq
 (.reg [
 iP 11 (.ldn 3 (.t 2)),
 iP 12 (.ldn 4 (.t 3)),
 iC 13 14 [.t 11,.t 12],
 iM 6 13])
 (.seq
 (.reg [
 iM 14 6,
 iP 15 (.bin .neq (.i .i64) (.t 14) (.c (i64 0)))])
 (.cond (.t 15)
 (.seq
 (.reg [
 iM 16 6,
 iP 4 (.mov (.c (.val (.slice none 0 0)))),
 iM 5 16])
 .ret)
 .skip)))
 (.seq
 (.reg [
 iP 17 (.ldn 3 (.t 2)),
 iC 18 30 [.t 17],
 iM 7 18])
 (.seq
 (.reg [
 iE 8 (.alc 62 [i64 0,i64 0,i64 0,i64 0,i64 0,i64 0,i64 0,i64 0,i64 0,i64 0])])
 (.seq
 (.seq
 (.reg [
 iM 19 7,
 iP 20 (.len (.t 19)),
 iP 21 (.mov (.c (i64 0)))])
 (.blk 0
 (.loop QhC)))
 (.seq
 (.reg [
 iM 37 7,
 iM 4 37,
 iP 5 (.mov (.c (i64 0)))])
 .ret))))))
def r9:List RS:=[.t 4,.t 5]
theorem c9:Qi Tryz.prog Qb Tryz.f9 i9 r9=true:=by kernel_rfl
def i10:IC :=
 (.seq
 (.reg [
 iE 2 (.box 26 (.t 0)),
 iE 3 (.box 30 (.t 1)),
 iE 4 (.alc 30 [i64 0,i64 0,.val (.slice none 0 0),.val (.slice none 0 0)]),
 iP 5 (.mov (.c (i64 0)))])
 (.seq
 (.reg [
 iP 6 (.ldn 3 (.t 2)),
 iP 7 (.ldn 4 (.t 3)),
 iC 8 11 [.t 6,.t 7,(.c (i64 1))],
 iP 9 (.ext (.t 8) 0),
 iP 10 (.ext (.t 8) 1),
 ⟨none,none,.e (.st 4 (.t 4) (.t 9))⟩,
 iM 5 10])
 .ret))
def r10:List RS:=[.cn 4 4,.t 5]
theorem c10:Qi Tryz.prog Qb Tryz.f10 i10 r10=true:=by kernel_rfl
def Qha:IC:=.keep [6,7,9,45,46]
 (.seq
 (.reg [
 iP 47 (.bin .lss (.i .i64) (.t 46) (.t 45))])
 (.seq
 (.cond (.t 47)
 .skip
 (.exit 0))
 (.seq
 (.blk 1
 (.reg [
 iM 48 9,
 iC 49 35 [.t 48]]))
 (.reg [
 iP 50 (.bin .add (.i .i64) (.t 46) (.c (i64 1))),
 iM 46 50]))))
def Qmf:IC :=
 (.reg [
 iE 3 (.box 26 (.t 0)),
 iE 4 (.box 30 (.t 1)),
 iE 6 (.alc 30 [i64 0,i64 0,.val (.slice none 0 0),.val (.slice none 0 0)]),
 iE 7 (.alc 31 [i64 0])])
def Qng:IC :=
 (.seq
 (.reg [
 iP 10 (.ldn 3 (.t 3)),
 iP 11 (.ldn 4 (.t 4)),
 iC 12 14 [.t 10,.t 11],
 iM 8 12])
 (.seq
 (.reg [
 iM 13 8,
 iP 14 (.bin .neq (.i .i64) (.t 13) (.c (i64 0)))])
 (.cond (.t 14)
 (.seq
 (.reg [
 iP 15 (.bld [i64 0,i64 0,.val (.slice none 0 0),.val (.slice none 0 0)] []),
 iM 16 8,
 ⟨none,none,.e (.st 4 (.t 6) (.t 15))⟩,
 ⟨none,none,.e (.st 1 (.t 7) (.t 16))⟩])
 .ret)
 .skip)))
def Qo5:IC :=
 (.seq
 (.reg [
 iM 17 2,
 iP 18 (.bin .lss (.i .i64) (.t 17) (.c (i64 0))),
 iM 19 18,
 iG 20 19 false (.mov (.t 2)),
 iG 21 19 false (.bin .gtr (.i .i64) (.t 20) (.c (i64 20000))),
 iP 22 (.pick (.t 19) (.c (bl true)) (.t 21)),
 iM 23 22,
 iG 24 23 false (.fa 0 (.t 4)),
 iG 25 23 false (.ld1 (.t 24)),
 iG 26 23 false (.mov (.t 2)),
 iG 27 23 false (.bin .add (.i .i64) (.t 25) (.t 26)),
 iG 28 23 false (.bin .gtr (.i .i64) (.t 27) (.c (i64 1000000))),
 iP 29 (.pick (.t 23) (.c (bl true)) (.t 28))])
 (.cond (.t 29)
 (.seq
 (.reg [
 iP 30 (.bld [i64 0,i64 0,.val (.slice none 0 0),.val (.slice none 0 0)] []),
 ⟨none,none,.e (.st 4 (.t 6) (.t 30))⟩,
 ⟨none,none,.e (.st 1 (.t 7) (.c (i64 2)))⟩])
 .ret)
 .skip))
def i11p:List IC:=[Qmf,Qng,Qo5]
def i11s:Ins:=⟨(some 31),none,.p (.mkf (.func 32) [] [(.t 6),(.t 7)])⟩
def i11f:Od:=.t 31
def i11:IC :=
 (.seq
 (.drw [0,1,2,3,4,5,6,8,9,7,10,11,12,13] [
 iP 32 (.ldn 3 (.t 3)),
 iF 33 0 4,
 iL 34 33,
 iF 35 1 4,
 iL 36 35,
 iF 37 2 4,
 iL 38 37,
 iF 40 3 4,
 iL 41 40,
 iC 39 34 [.t 38],
 iC 42 34 [.t 41],
 iP 43 (.bld [i64 0,i64 0,.val (.slice none 0 0),.val (.slice none 0 0)] [(0,1,(.t 34)),(1,1,(.t 36)),(2,1,(.t 39)),(3,1,(.t 42))]),
 iC 44 33 [.t 32,.t 43],
 iM 9 44])
 (.seq
 (.seq
 (.reg [
 iM 45 2,
 iP 46 (.mov (.c (i64 0)))])
 (.blk 0
 (.loop Qha)))
 (.seq
 (.reg [
 iM 51 9,
 iP 52 (.nck (.t 51)),
 iF 53 5 52,
 iP 54 (.ldn 4 (.t 53)),
 ⟨none,none,.e (.st 4 (.t 6) (.t 54))⟩,
 ⟨none,none,.e (.st 1 (.t 7) (.c (i64 0)))⟩])
 .ret)))
def r11:List RS:=[.cn 6 4,.c1 7]
theorem c11:Qk6 Tryz.prog Qb Tryz.f11 i11p i11s i11f i11 r11=true:=by kernel_rfl
def QhU:IC:=.keep [7,8,9,10,30,31,32,37,38,39]
 (.seq
 (.reg [
 iP 40 (.bin .lss (.i .i64) (.t 39) (.t 38))])
 (.seq
 (.cond (.t 40)
 .skip
 (.exit 2))
 (.seq
 (.blk 3
 (.seq
 (.reg [
 iP 41 (.ia 1 (.t 37) (.t 39)),
 iL 42 41,
 iM 12 42])
 (.reg [
 iM 43 10,
 iM 44 12,
 iP 45 (.bin .add (.i .i64) (.t 43) (.t 44)),
 iM 10 45])))
 (.reg [
 iP 46 (.bin .add (.i .i64) (.t 39) (.c (i64 1))),
 iM 39 46]))))
def Qg1:IC:=.keep [7,8,9,10,30,31,32,53,54,55]
 (.seq
 (.reg [
 iP 56 (.bin .lss (.i .i64) (.t 55) (.t 54))])
 (.seq
 (.cond (.t 56)
 .skip
 (.exit 4))
 (.seq
 (.blk 5
 (.seq
 (.reg [
 iM 57 55,
 iP 58 (.ia 1 (.t 53) (.t 55)),
 iL 59 58,
 iM 13 57,
 iM 14 59])
 (.seq
 (.reg [
 iM 60 14,
 iM 61 10,
 iM 15 60,
 iM 16 61])
 (.seq
 (.seq
 (.reg [
 iM 62 10,
 iP 63 (.bin .eql (.i .i64) (.t 62) (.c (i64 0)))])
 (.cond (.t 63)
 (.reg [
 iM 64 9,
 iP 65 (.len (.t 64)),
 iP 15 (.mov (.c (i64 1))),
 iM 16 65])
 .skip))
 (.seq
 (.reg [
 iM 67 15,
 iM 68 16,
 iC 69 36 [.t 67,.t 68],
 iM 66 69,
 iP 70 (.ext (.t 66) 0),
 iP 71 (.ext (.t 66) 1),
 iE 17 (.alc 78 [bl false,.val (.slice none 0 0),.val (.slice none 0 0)]),
 ⟨none,none,.e (.st 3 (.t 17) (.t 70))⟩,
 iM 18 71])
 (.seq
 (.seq
 (.reg [
 iM 72 18,
 iP 73 (.bin .neq (.i .i64) (.t 72) (.c (i64 0)))])
 (.cond (.t 73)
 (.seq
 (.reg [
 iM 74 18,
 iP 4 (.mov (.c (.val (.slice none 0 0)))),
 iM 5 74])
 .ret)
 .skip))
 (.drw [0,1,2,3,4,5,6,7] [
 iM 75 7,
 iM 76 8,
 iP 77 (.ia 1 (.t 75) (.t 76)),
 iL 78 77,
 iM 79 13,
 iP 80 (.ldn 3 (.t 17)),
 iP 81 (.ia 3 (.t 78) (.t 79)),
 ⟨none,none,.e (.st 3 (.t 81) (.t 80))⟩])))))))
 (.reg [
 iP 82 (.bin .add (.i .i64) (.t 55) (.c (i64 1))),
 iM 55 82]))))
def QiR:IC:=.keep [7,30,31,32]
 (.seq
 (.reg [
 iP 33 (.bin .lss (.i .i64) (.t 32) (.t 31))])
 (.seq
 (.cond (.t 33)
 .skip
 (.exit 0))
 (.seq
 (.blk 1
 (.seq
 (.reg [
 iM 34 32,
 iP 35 (.ia 1 (.t 30) (.t 32)),
 iL 36 35,
 iM 8 34,
 iM 9 36])
 (.seq
 (.reg [
 iP 10 (.mov (.c (i64 0)))])
 (.seq
 (.seq
 (.reg [
 iM 37 9,
 iP 38 (.len (.t 37)),
 iP 39 (.mov (.c (i64 0)))])
 (.blk 2
 (.loop QhU)))
 (.seq
 (.reg [
 iM 47 7,
 iM 48 8,
 iM 49 9,
 iP 50 (.len (.t 49)),
 iE 51 (.mks 78 3 56 [bl false,.val (.slice none 0 0),.val (.slice none 0 0)] (.t 50) (.t 50)),
 iP 52 (.ia 1 (.t 47) (.t 48)),
 ⟨none,none,.e (.st 1 (.t 52) (.t 51))⟩])
 (.seq
 (.reg [
 iM 53 9,
 iP 54 (.len (.t 53)),
 iP 55 (.mov (.c (i64 0)))])
 (.blk 4
 (.loop Qg1))))))))
 (.reg [
 iP 83 (.bin .add (.i .i64) (.t 32) (.c (i64 1))),
 iM 32 83]))))
def i12:IC :=
 (.seq
 (.reg [
 iE 2 (.box 26 (.t 0)),
 iE 3 (.box 30 (.t 1)),
 iP 4 (.mov (.c (.val (.slice none 0 0)))),
 iP 5 (.mov (.c (i64 0)))])
 (.seq
 (.seq
 (.reg [
 iP 19 (.ldn 3 (.t 2)),
 iP 20 (.ldn 4 (.t 3)),
 iC 21 14 [.t 19,.t 20],
 iM 6 21])
 (.seq
 (.reg [
 iM 22 6,
 iP 23 (.bin .neq (.i .i64) (.t 22) (.c (i64 0)))])
 (.cond (.t 23)
 (.seq
 (.reg [
 iM 24 6,
 iP 4 (.mov (.c (.val (.slice none 0 0)))),
 iM 5 24])
 .ret)
 .skip)))
 (.seq
 (.reg [
 iF 25 3 3,
 iL 26 25,
 iP 27 (.len (.t 26)),
 iE 28 (.mks 74 1 24 [.val (.slice none 0 0)] (.t 27) (.t 27)),
 iM 7 28])
 (.seq
 (.seq
 (.reg [
 iF 29 3 3,
 iL 30 29,
 iP 31 (.len (.t 30)),
 iP 32 (.mov (.c (i64 0)))])
 (.blk 0
 (.loop QiR)))
 (.seq
 (.reg [
 iM 84 7,
 iM 4 84,
 iP 5 (.mov (.c (i64 0)))])
 .ret)))))
def r12:List RS:=[.t 4,.t 5]
theorem c12:Qi Tryz.prog Qb Tryz.f12 i12 r12=true:=by kernel_rfl
def i14:IC :=
 (.seq
 (.reg [
 iE 2 (.box 26 (.t 0)),
 iE 3 (.box 30 (.t 1)),
 iP 4 (.mov (.c (i64 0)))])
 (.seq
 (.seq
 (.reg [
 iP 7 (.ldn 3 (.t 2)),
 iC 8 29 [.t 7],
 iM 5 8])
 (.seq
 (.reg [
 iM 9 5,
 iP 10 (.bin .neq (.i .i64) (.t 9) (.c (i64 0)))])
 (.cond (.t 10)
 (.seq
 (.reg [
 iM 11 5,
 iM 4 11])
 .ret)
 .skip)))
 (.seq
 (.seq
 (.reg [
 iF 12 0 3,
 iL 13 12,
 iP 14 (.bin .lss (.i .i64) (.t 13) (.c (i64 0))),
 iM 15 14,
 iG 16 15 false (.fa 0 (.t 3)),
 iG 17 15 false (.ld1 (.t 16)),
 iG 18 15 false (.bin .gtr (.i .i64) (.t 17) (.c (i64 1000000))),
 iP 19 (.pick (.t 15) (.c (bl true)) (.t 18))])
 (.cond (.t 19)
 (.seq
 (.reg [
 iP 4 (.mov (.c (i64 2)))])
 .ret)
 .skip))
 (.seq
 (.seq
 (.reg [
 iF 20 1 3,
 iL 21 20,
 iP 22 (.bin .lss (.i .i64) (.t 21) (.c (i64 0))),
 iM 23 22,
 iG 24 23 false (.fa 1 (.t 3)),
 iG 25 23 false (.ld1 (.t 24)),
 iG 26 23 false (.bin .gtr (.i .i64) (.t 25) (.c (i64 2147483646))),
 iP 27 (.pick (.t 23) (.c (bl true)) (.t 26))])
 (.cond (.t 27)
 (.seq
 (.reg [
 iP 4 (.mov (.c (i64 2)))])
 .ret)
 .skip))
 (.seq
 (.seq
 (.reg [
 iP 28 (.ldn 3 (.t 2)),
 iF 29 2 3,
 iL 30 29,
 iC 31 39 [.t 28,.t 30,(.c (i64 (-70368744177664)))],
 iM 6 31])
 (.seq
 (.reg [
 iM 32 6,
 iP 33 (.bin .neq (.i .i64) (.t 32) (.c (i64 0)))])
 (.cond (.t 33)
 (.seq
 (.reg [
 iM 34 6,
 iM 4 34])
 .ret)
 .skip)))
 (.seq
 (.reg [
 iP 35 (.ldn 3 (.t 2)),
 iF 36 3 3,
 iL 37 36,
 iC 38 39 [.t 35,.t 37,(.c (i64 0))],
 iM 4 38])
 .ret))))))
def r14:List RS:=[.t 4]
theorem c14:Qi Tryz.prog Qb Tryz.f14 i14 r14=true:=by kernel_rfl
def Qhd:IC:=.keep [0,1,5]
 (.seq
 (.seq
 (.reg [
 iM 11 5,
 iM 12 0,
 iP 13 (.len (.t 12)),
 iP 14 (.bin .lss (.i .i64) (.t 11) (.t 13))])
 (.cond (.t 14)
 .skip
 (.exit 0)))
 (.seq
 (.blk 1
 (.seq
 (.drw [0,1,2,3,4,5,6,7,8,9] [
 iM 17 0,
 iM 18 5,
 iP 19 (.ia 1 (.t 17) (.t 18)),
 iL 20 19,
 iM 21 1,
 iM 22 5,
 iP 23 (.ia 1 (.t 21) (.t 22)),
 iL 24 23,
 ⟨(some 25),none,.q (.c (.fn (.func 40) [] [])) [(.t 20),(.t 24)]⟩,
 iP 26 (.not (.t 25))])
 (.cond (.t 26)
 (.seq
 (.reg [
 iP 4 (.mov (.c (bl false)))])
 .ret)
 .skip)))
 (.reg [
 iM 15 5,
 iP 16 (.bin .add (.i .i64) (.t 15) (.c (i64 1))),
 iM 5 16])))
def i15:IC :=
 (.seq
 (.reg [
 iP 4 (.mov (.c (bl false)))])
 (.seq
 (.seq
 (.reg [
 iM 6 0,
 iP 7 (.len (.t 6)),
 iM 8 1,
 iP 9 (.len (.t 8)),
 iP 10 (.bin .neq (.i .i64) (.t 7) (.t 9))])
 (.cond (.t 10)
 (.seq
 (.reg [
 iP 4 (.mov (.c (bl false)))])
 .ret)
 .skip))
 (.seq
 (.seq
 (.reg [
 iP 5 (.mov (.c (i64 0)))])
 (.blk 0
 (.loop Qhd)))
 (.seq
 (.reg [
 iP 4 (.mov (.c (bl true)))])
 .ret))))
def r15:List RS:=[.t 4]
theorem c15:Qi Tryz.prog Qb Tryz.f15 i15 r15=true:=by kernel_rfl
def i16:IC :=
 (.seq
 (.reg [
 iE 2 (.box 30 (.t 0)),
 iE 3 (.box 30 (.t 1)),
 iP 4 (.mov (.c (bl false)))])
 (.seq
 (.reg [
 iF 5 0 2,
 iL 6 5,
 iF 7 0 3,
 iL 8 7,
 iP 9 (.bin .eql (.i .i64) (.t 6) (.t 8)),
 iM 10 9,
 iG 11 10 true (.fa 1 (.t 2)),
 iG 12 10 true (.ld1 (.t 11)),
 iG 13 10 true (.fa 1 (.t 3)),
 iG 14 10 true (.ld1 (.t 13)),
 iG 15 10 true (.bin .eql (.i .i64) (.t 12) (.t 14)),
 iP 16 (.pick (.t 10) (.t 15) (.c (bl false))),
 iM 17 16,
 iG 18 17 true (.fa 2 (.t 2)),
 iG 19 17 true (.ld1 (.t 18)),
 iG 20 17 true (.fa 2 (.t 3)),
 iG 21 17 true (.ld1 (.t 20)),
 ⟨(some 22),(some (17,true)),.q (.c (.fn (.func 15) [] [])) [(.t 19),(.t 21)]⟩,
 iP 23 (.pick (.t 17) (.t 22) (.c (bl false))),
 iM 24 23,
 iG 25 24 true (.fa 3 (.t 2)),
 iG 26 24 true (.ld1 (.t 25)),
 iG 27 24 true (.fa 3 (.t 3)),
 iG 28 24 true (.ld1 (.t 27)),
 ⟨(some 29),(some (24,true)),.q (.c (.fn (.func 15) [] [])) [(.t 26),(.t 28)]⟩,
 iP 30 (.pick (.t 24) (.t 29) (.c (bl false))),
 iM 4 30])
 .ret))
def r16:List RS:=[.t 4]
theorem c16:Qi Tryz.prog Qb Tryz.f16 i16 r16=true:=by kernel_rfl
def Qhy:IC:=.keep [1,8,9,10]
 (.seq
 (.seq
 (.reg [
 iM 29 10,
 iP 30 (.bin .gtr (.i .i64) (.t 29) (.c (i64 0)))])
 (.cond (.t 30)
 .skip
 (.exit 0)))
 (.seq
 (.blk 1
 (.drw [0,1,2,3,4,5,6,7,8,9,10,13,14,15,16,19,20,21,22,11,12,17,18,23,24,25,26,27,28,29] [
 iM 33 9,
 iM 34 9,
 iP 35 (.nck (.t 34)),
 iF 36 1 35,
 iL 37 36,
 iM 38 9,
 iP 39 (.nck (.t 38)),
 iF 40 0 39,
 iL 41 40,
 iM 42 1,
 iP 43 (.bin .add (.i .i64) (.t 42) (.c (i64 1))),
 iM 46 9,
 iP 47 (.nck (.t 46)),
 iF 48 0 47,
 iL 49 48,
 iM 52 9,
 iP 53 (.nck (.t 52)),
 iF 54 0 53,
 iL 55 54,
 iC 44 48 [.t 41,.t 43],
 iP 45 (.bin .sub (.i .i64) (.t 44) (.c (i64 1))),
 iC 50 48 [.t 49,(.c (i64 2))],
 iP 51 (.bin .add (.i .i64) (.c (i64 2)) (.t 50)),
 iC 56 48 [.t 55,(.c (i64 16))],
 iP 57 (.bld [i64 0,i64 0,i64 0] [(0,1,(.t 45)),(1,1,(.t 51)),(2,1,(.t 56))]),
 iE 58 (.bsl 97 3 1 [i64 0,i64 0,i64 0] [(0,(.t 57))]),
 iE 59 (.app 97 3 24 (.t 37) (.t 58)),
 iP 60 (.nck (.t 33)),
 iF 61 1 60,
 ⟨none,none,.e (.stw [55,49,41,37] 1 (.t 61) (.t 59))⟩]))
 (.reg [
 iM 31 10,
 iP 32 (.bin .sub (.i .i64) (.t 31) (.c (i64 1))),
 iM 10 32])))
def i24:IC :=
 (.seq
 (.reg [
 iE 8 (.alc 26 [i64 0,.val (.slice none 0 0),.val (.slice none 0 0)])])
 (.seq
 (.reg [
 iM 11 0,
 iP 12 (.bld [.val (.slice none 0 0),i64 0] [(0,1,(.t 11))]),
 iE 13 (.box 90 (.t 12)),
 iM 14 2,
 iM 15 3,
 iP 16 (.bld [.val (.pointer none),.val (.slice none 0 0),.val (.slice none 0 0),i64 0,i64 0,bl false,bl false,i64 0,.val (.slice none 0 0),.val (.slice none 0 0)] [(0,1,(.t 13)),(3,1,(.t 14)),(4,1,(.c (i64 1))),(5,1,(.t 15))]),
 iE 17 (.box 94 (.t 16)),
 iM 9 17])
 (.seq
 (.reg [
 iM 18 9,
 iM 19 1,
 iP 20 (.nck (.t 18)),
 iF 21 7 20,
 iF 22 0 21,
 ⟨none,none,.e (.st 1 (.t 22) (.t 19))⟩])
 (.seq
 (.seq
 (.reg [
 iM 23 9,
 iP 24 (.nck (.t 23)),
 iF 25 0 24,
 iL 26 25,
 iC 27 48 [.t 26,(.c (i64 5))],
 iP 28 (.bin .add (.i .i64) (.c (i64 1)) (.t 27)),
 iM 10 28])
 (.blk 0
 (.loop Qhy)))
 (.seq
 (.reg [
 iM 62 9,
 iM 63 1,
 iE 64 (.mks 45 1 24 [.val (.slice none 0 0)] (.t 63) (.t 63)),
 iC 65 49 [.t 62,(.c (i64 0)),.t 64]])
 (.seq
 (.reg [
 iM 66 9,
 iP 67 (.nck (.t 66)),
 iF 68 7 67,
 iP 69 (.ldn 3 (.t 68)),
 ⟨none,none,.e (.st 3 (.t 8) (.t 69))⟩])
 .ret))))))
def r24:List RS:=[.cn 8 3]
theorem c24:Qi Tryz.prog Qb Tryz.f24 i24 r24=true:=by kernel_rfl
def i25:IC :=
 (.seq
 (.reg [
 iP 4 (.mov (.c (i64 0)))])
 (.seq
 (.reg [
 iM 5 0,
 iM 6 1,
 iP 7 (.bin .rem (.i .i64) (.t 5) (.t 6)),
 iM 0 7])
 (.seq
 (.seq
 (.reg [
 iM 8 0,
 iP 9 (.bin .lss (.i .i64) (.t 8) (.c (i64 0)))])
 (.cond (.t 9)
 (.reg [
 iM 10 0,
 iM 11 1,
 iP 12 (.bin .add (.i .i64) (.t 10) (.t 11)),
 iM 0 12])
 .skip))
 (.seq
 (.reg [
 iM 13 0,
 iM 4 13])
 .ret))))
def r25:List RS:=[.t 4]
theorem c25:Qi Tryz.prog Qb Tryz.f25 i25 r25=true:=by kernel_rfl
def i26:IC :=
 (.seq
 (.reg [
 iE 2 (.box 26 (.t 0)),
 iP 4 (.mov (.c (i64 0)))])
 (.seq
 (.seq
 (.reg [
 iP 6 (.ldn 3 (.t 2)),
 iC 7 37 [.t 6],
 iM 5 7])
 (.seq
 (.reg [
 iM 8 5,
 iP 9 (.bin .neq (.i .i64) (.t 8) (.c (i64 0)))])
 (.cond (.t 9)
 (.seq
 (.reg [
 iM 10 5,
 iM 4 10])
 .ret)
 .skip)))
 (.seq
 (.reg [
 iP 11 (.ldn 3 (.t 2)),
 iM 12 1,
 iC 13 50 [.t 11,.t 12],
 iM 4 13])
 .ret)))
def r26:List RS:=[.t 4]
theorem c26:Qi Tryz.prog Qb Tryz.f26 i26 r26=true:=by kernel_rfl
def i27:IC :=
 (.seq
 (.reg [
 iE 6 (.alc 57 [i64 0,i64 0,i64 0,.val (.slice none 0 0),.val (.slice none 0 0),.val (.slice none 0 0)])])
 (.seq
 (.reg [
 iM 7 0,
 iM 8 1,
 iM 9 2,
 iP 10 (.bld [i64 0,i64 0,i64 0,.val (.slice none 0 0),.val (.slice none 0 0),.val (.slice none 0 0)] [(0,1,(.c (i64 2))),(1,1,(.t 7)),(2,1,(.t 8)),(3,1,(.t 9))]),
 ⟨none,none,.e (.st 6 (.t 6) (.t 10))⟩])
 .ret))
def r27:List RS:=[.cn 6 6]
theorem c27:Qi Tryz.prog Qb Tryz.f27 i27 r27=true:=by kernel_rfl
def i28:IC :=
 (.seq
 (.reg [
 iE 2 (.alc 57 [i64 0,i64 0,i64 0,.val (.slice none 0 0),.val (.slice none 0 0),.val (.slice none 0 0)])])
 (.seq
 (.reg [
 iM 3 0,
 iM 4 0,
 iP 5 (.neg .i64 (.t 4)),
 iE 6 (.bsl 3 1 2 [i64 0] [(0,(.t 3)),(1,(.t 5))]),
 iP 7 (.bld [i64 0,i64 0,i64 0,.val (.slice none 0 0),.val (.slice none 0 0),.val (.slice none 0 0)] [(0,1,(.c (i64 3))),(5,1,(.t 6))]),
 ⟨none,none,.e (.st 6 (.t 2) (.t 7))⟩])
 .ret))
def r28:List RS:=[.cn 2 6]
theorem c28:Qi Tryz.prog Qb Tryz.f28 i28 r28=true:=by kernel_rfl
def Qg5:IC:=.keep [1,13,14]
 (.seq
 (.reg [
 iP 15 (.bin .lss (.i .i64) (.t 14) (.t 13))])
 (.seq
 (.cond (.t 15)
 .skip
 (.exit 0))
 (.seq
 (.blk 1
 (.seq
 (.reg [
 iM 16 14,
 iM 4 16])
 (.seq
 (.reg [
 iP 18 (.ldn 3 (.t 1)),
 iM 19 4,
 iC 20 52 [.t 18,.t 19],
 iM 17 20,
 iP 21 (.ext (.t 17) 0),
 iP 22 (.ext (.t 17) 1),
 iM 5 21,
 iM 6 22])
 (.seq
 (.seq
 (.reg [
 iM 23 6,
 iP 24 (.bin .neq (.i .i64) (.t 23) (.c (i64 0)))])
 (.cond (.t 24)
 (.seq
 (.reg [
 iM 25 6,
 iM 2 25])
 .ret)
 .skip))
 (.seq
 (.reg [
 iM 26 5,
 iP 27 (.not (.t 26))])
 (.cond (.t 27)
 (.seq
 (.reg [
 iP 2 (.mov (.c (i64 13)))])
 .ret)
 .skip))))))
 (.reg [
 iP 28 (.bin .add (.i .i64) (.t 14) (.c (i64 1))),
 iM 14 28]))))
def i29:IC :=
 (.seq
 (.reg [
 iE 1 (.box 26 (.t 0)),
 iP 2 (.mov (.c (i64 0)))])
 (.seq
 (.seq
 (.reg [
 iP 7 (.ldn 3 (.t 1)),
 iC 8 51 [.t 7],
 iM 3 8])
 (.seq
 (.reg [
 iM 9 3,
 iP 10 (.bin .neq (.i .i64) (.t 9) (.c (i64 0)))])
 (.cond (.t 10)
 (.seq
 (.reg [
 iM 11 3,
 iM 2 11])
 .ret)
 .skip)))
 (.seq
 (.seq
 (.reg [
 iF 12 0 1,
 iL 13 12,
 iP 14 (.mov (.c (i64 0)))])
 (.blk 0
 (.loop Qg5)))
 (.seq
 (.reg [
 iP 2 (.mov (.c (i64 0)))])
 .ret))))
def r29:List RS:=[.t 2]
theorem c29:Qi Tryz.prog Qb Tryz.f29 i29 r29=true:=by kernel_rfl
def Qi0:IC:=.keep [3,11,12,13]
 (.seq
 (.reg [
 iP 14 (.bin .lss (.i .i64) (.t 13) (.t 12))])
 (.seq
 (.cond (.t 14)
 .skip
 (.exit 0))
 (.seq
 (.blk 1
 (.seq
 (.reg [
 iM 15 13,
 iP 16 (.ia 2 (.t 11) (.t 13)),
 iP 17 (.ldn 2 (.t 16)),
 iE 5 (.alc 55 [i64 0,i64 0]),
 iM 4 15,
 ⟨none,none,.e (.st 2 (.t 5) (.t 17))⟩])
 (.reg [
 iM 18 3,
 iM 19 4,
 iF 20 1 5,
 iL 21 20,
 iE 22 (.mks 3 1 8 [i64 0] (.t 21) (.t 21)),
 iP 23 (.ia 1 (.t 18) (.t 19)),
 ⟨none,none,.e (.st 1 (.t 23) (.t 22))⟩])))
 (.reg [
 iP 24 (.bin .add (.i .i64) (.t 13) (.c (i64 1))),
 iM 13 24]))))
def i30:IC :=
 (.seq
 (.reg [
 iE 1 (.box 26 (.t 0)),
 iP 2 (.mov (.c (.val (.slice none 0 0))))])
 (.seq
 (.reg [
 iF 6 2 1,
 iL 7 6,
 iP 8 (.len (.t 7)),
 iE 9 (.mks 45 1 24 [.val (.slice none 0 0)] (.t 8) (.t 8)),
 iM 3 9])
 (.seq
 (.seq
 (.reg [
 iF 10 2 1,
 iL 11 10,
 iP 12 (.len (.t 11)),
 iP 13 (.mov (.c (i64 0)))])
 (.blk 0
 (.loop Qi0)))
 (.seq
 (.reg [
 iM 25 3,
 iM 2 25])
 .ret))))
def r30:List RS:=[.t 2]
theorem c30:Qi Tryz.prog Qb Tryz.f30 i30 r30=true:=by kernel_rfl
def Qgs:IC:=.keep [1,2,3,6,15,16,17]
 (.seq
 (.reg [
 iP 18 (.bin .lss (.i .i64) (.t 17) (.t 16))])
 (.seq
 (.cond (.t 18)
 .skip
 (.exit 0))
 (.seq
 (.blk 1
 (.seq
 (.reg [
 iP 19 (.ia 1 (.t 15) (.t 17)),
 iL 20 19,
 iM 8 20])
 (.reg [
 iL 21 6,
 iM 22 8,
 iP 23 (.mm true .i64 (.t 22) (.c (i64 0))),
 iP 24 (.bin .add (.i .i64) (.t 21) (.t 23)),
 ⟨none,none,.e (.st 1 (.t 6) (.t 24))⟩])))
 (.reg [
 iP 25 (.bin .add (.i .i64) (.t 17) (.c (i64 1))),
 iM 17 25]))))
def Qin:IC:=.keep [1,2,3,6,9,26,27,28]
 (.seq
 (.reg [
 iP 29 (.bin .lss (.i .i64) (.t 28) (.t 27))])
 (.seq
 (.cond (.t 29)
 .skip
 (.exit 2))
 (.seq
 (.blk 3
 (.seq
 (.reg [
 iM 30 28,
 iP 31 (.ia 1 (.t 26) (.t 28)),
 iL 32 31,
 iM 10 30,
 iM 11 32])
 (.seq
 (.blk 4
 (.seq
 (.reg [
 iL 37 6,
 iP 38 (.bin .eql (.i .i64) (.t 37) (.c (i64 0))),
 iM 36 38])
 (.cond (.t 36)
 (.reg [
 iM 39 1,
 iM 40 10,
 iL 41 3,
 iP 42 (.len (.t 41)),
 iP 43 (.bin .quo (.i .i64) (.c (i64 65536)) (.t 42)),
 iP 44 (.ia 1 (.t 39) (.t 40)),
 ⟨none,none,.e (.st 1 (.t 44) (.t 43))⟩])
 (.seq
 (.reg [
 iM 46 11,
 iP 47 (.bin .gtr (.i .i64) (.t 46) (.c (i64 0))),
 iM 45 47])
 (.cond (.t 45)
 (.reg [
 iM 48 1,
 iM 49 10,
 iM 50 11,
 iP 51 (.bin .mul (.i .i64) (.c (i64 65536)) (.t 50)),
 iL 52 6,
 iP 53 (.bin .quo (.i .i64) (.t 51) (.t 52)),
 iP 54 (.ia 1 (.t 48) (.t 49)),
 ⟨none,none,.e (.st 1 (.t 54) (.t 53))⟩])
 (.reg [
 iM 33 1,
 iM 34 10,
 iP 35 (.ia 1 (.t 33) (.t 34)),
 ⟨none,none,.e (.st 1 (.t 35) (.c (i64 0)))⟩]))))))
 (.seq
 (.reg [
 iM 55 9,
 iM 56 1,
 iM 57 10,
 iP 58 (.ia 1 (.t 56) (.t 57)),
 iL 59 58,
 iP 60 (.bin .sub (.i .i64) (.t 55) (.t 59)),
 iM 9 60])
 (.reg [
 iM 61 2,
 iM 62 10,
 iM 63 10,
 iP 64 (.ia 1 (.t 61) (.t 62)),
 ⟨none,none,.e (.st 1 (.t 64) (.t 63))⟩])))))
 (.reg [
 iP 65 (.bin .add (.i .i64) (.t 28) (.c (i64 1))),
 iM 28 65]))))
def QiZ:IC:=.keep [1,78,79,80]
 (.seq
 (.reg [
 iP 81 (.bin .lss (.i .i64) (.t 80) (.t 79))])
 (.seq
 (.cond (.t 81)
 .skip
 (.exit 5))
 (.seq
 (.blk 6
 (.seq
 (.reg [
 iP 82 (.ia 1 (.t 78) (.t 80)),
 iL 83 82,
 iM 14 83])
 (.reg [
 iM 84 1,
 iM 85 14,
 iP 86 (.ia 1 (.t 84) (.t 85)),
 iL 87 86,
 iP 88 (.bin .add (.i .i64) (.t 87) (.c (i64 1))),
 iP 89 (.ia 1 (.t 84) (.t 85)),
 ⟨none,none,.e (.st 1 (.t 89) (.t 88))⟩])))
 (.reg [
 iP 90 (.bin .add (.i .i64) (.t 80) (.c (i64 1))),
 iM 80 90]))))
def i31:IC :=
 (.seq
 (.reg [
 iE 3 (.box 45 (.t 0))])
 (.seq
 (.reg [
 iE 6 (.alc 3 [i64 0]),
 ⟨none,none,.e (.st 1 (.t 6) (.c (i64 0)))⟩])
 (.seq
 (.seq
 (.reg [
 iL 15 3,
 iP 16 (.len (.t 15)),
 iP 17 (.mov (.c (i64 0)))])
 (.blk 0
 (.loop Qgs)))
 (.seq
 (.reg [
 iP 9 (.mov (.c (i64 65536)))])
 (.seq
 (.seq
 (.reg [
 iL 26 3,
 iP 27 (.len (.t 26)),
 iP 28 (.mov (.c (i64 0)))])
 (.blk 2
 (.loop Qin)))
 (.seq
 (.seq
 (.reg [
 iL 66 6,
 iP 67 (.bin .gtr (.i .i64) (.t 66) (.c (i64 0))),
 iM 68 67,
 iG 69 68 true (.mov (.t 9)),
 iG 70 68 true (.bin .gtr (.i .i64) (.t 69) (.c (i64 0))),
 iP 71 (.pick (.t 68) (.t 70) (.c (bl false)))])
 (.cond (.t 71)
 (.seq
 (.reg [
 iP 72 (.mkf (.func 53) [] [(.t 3),(.t 6)]),
 iE 12 (.alc 95 [.val .nilFunc]),
 ⟨none,none,.e (.st 1 (.t 12) (.t 72))⟩])
 (.reg [
 iM 73 2,
 iP 74 (.mkf (.func 55) [] [(.t 12)]),
 iC 75 54 [.t 73,.t 74]]))
 .skip))
 (.seq
 (.reg [
 iM 76 2,
 iM 77 9,
 iP 78 (.sl 1 (.t 76) none (some (.t 77))),
 iP 79 (.len (.t 78)),
 iP 80 (.mov (.c (i64 0)))])
 (.blk 5
 (.loop QiZ)))))))))
def r31:List RS:=[]
theorem c31:Qi Tryz.prog Qb Tryz.f31 i31 r31=true:=by kernel_rfl
def QjX:List Ins:=[iM 2 5]
def i32:IC :=
 (.seq
 (.seq
 (.reg [
 iM 6 2,
 iP 7 (.ifn false true (.t 6))])
 (.cond (.t 7)
 .ret
 .skip))
 (.seq
 (.reg [
 iP 8 (.bld [i64 0,i64 0,.val (.slice none 0 0),.val (.slice none 0 0)] []),
 ⟨none,none,.e (.st 4 (.t 0) (.t 8))⟩,
 ⟨none,none,.e (.st 1 (.t 1) (.c (i64 13)))⟩])
 (.seq
 (.reg [
 iM 10 2,
 iP 11 (.tas 65 true (.agg [i64 0]) (.t 10)),
 iM 9 11,
 iP 12 (.ext (.t 9) 0),
 iP 13 (.ext (.t 9) 1),
 iE 3 (.alc 65 [i64 0]),
 ⟨none,none,.e (.st 1 (.t 3) (.t 12))⟩,
 iM 4 13])
 (.seq
 (.reg [
 iM 14 4])
 (.cond (.t 14)
 (.reg [
 iF 15 0 3,
 iL 16 15,
 ⟨none,none,.e (.st 1 (.t 1) (.t 16))⟩])
 .skip)))))
theorem c32:Qla Tryz.prog Qb Tryz.f32 5 QjX i32=true:=by kernel_rfl
def QiF:IC:=.keep [2,6,7,51,52,53]
 (.seq
 (.reg [
 iP 54 (.bin .lss (.i .i64) (.t 53) (.t 52))])
 (.seq
 (.cond (.t 54)
 .skip
 (.exit 2))
 (.seq
 (.blk 3
 (.seq
 (.reg [
 iP 55 (.ia 1 (.t 51) (.t 53)),
 iL 56 55,
 iM 9 56])
 (.reg [
 iM 57 6,
 iP 58 (.nck (.t 57)),
 iF 59 3 58,
 iL 60 59,
 iM 61 7,
 iP 62 (.ia 1 (.t 60) (.t 61)),
 iL 63 62,
 iM 64 9,
 iP 65 (.bin .add (.i .i64) (.t 63) (.t 64)),
 iP 66 (.ia 1 (.t 60) (.t 61)),
 ⟨none,none,.e (.st 1 (.t 66) (.t 65))⟩])))
 (.reg [
 iP 67 (.bin .add (.i .i64) (.t 53) (.c (i64 1))),
 iM 53 67]))))
def Qg3:IC:=.keep [2,6,7]
 (.seq
 (.seq
 (.reg [
 iM 42 7,
 iP 43 (.bin .geq (.i .i64) (.t 42) (.c (i64 0)))])
 (.cond (.t 43)
 .skip
 (.exit 0)))
 (.seq
 (.blk 1
 (.seq
 (.seq
 (.reg [
 iF 46 1 2,
 iL 47 46,
 iM 48 7,
 iP 49 (.ia 6 (.t 47) (.t 48)),
 iF 50 4 49,
 iL 51 50,
 iP 52 (.len (.t 51)),
 iP 53 (.mov (.c (i64 0)))])
 (.blk 2
 (.loop QiF)))
 (.seq
 (.reg [
 iF 68 1 2,
 iL 69 68,
 iM 70 7,
 iP 71 (.ia 6 (.t 69) (.t 70)),
 iF 72 0 71,
 iL 73 72,
 iP 74 (.bin .eql (.i .i64) (.t 73) (.c (i64 2)))])
 (.cond (.t 74)
 (.drw [0,1,2,3,4,5,6,7,8,9,10,11,12] [
 iM 75 6,
 iP 76 (.nck (.t 75)),
 iF 77 4 76,
 iL 78 77,
 iF 79 1 2,
 iL 80 79,
 iM 81 7,
 iP 82 (.ia 6 (.t 80) (.t 81)),
 iF 83 2 82,
 iL 84 83,
 iM 85 7,
 iP 86 (.ia 1 (.t 78) (.t 84)),
 ⟨none,none,.e (.st 1 (.t 86) (.t 85))⟩])
 .skip))))
 (.reg [
 iM 44 7,
 iP 45 (.bin .sub (.i .i64) (.t 44) (.c (i64 1))),
 iM 7 45])))
def i33:IC :=
 (.seq
 (.reg [
 iE 2 (.box 26 (.t 0)),
 iE 3 (.box 30 (.t 1)),
 iP 4 (.mov (.c (.val (.pointer none))))])
 (.seq
 (.reg [
 iF 10 1 2,
 iL 11 10,
 iP 12 (.len (.t 11)),
 iM 5 12])
 (.seq
 (.drf [3,3] [1,2,3,4,5,6,0,7,8,9,10,11,12] [
 iM 14 5,
 iE 15 (.flo 0 3 1 8 [i64 0] (.t 14) (.t 14)),
 iF 16 2 2,
 iL 17 16,
 iP 18 (.len (.t 17)),
 iE 19 (.flo 1 3 1 8 [i64 0] (.t 18) (.t 18)),
 iP 13 (.ldn 3 (.t 2)),
 iP 20 (.ldn 4 (.t 3)),
 iP 21 (.ldn 3 (.t 2)),
 iE 22 (.calln (.c (.fn (.func 30) [] [])) [(.t 21)]),
 iP 23 (.bld [i64 0,.val (.slice none 0 0),.val (.slice none 0 0),.val (.slice none 0 0),.val (.slice none 0 0),i64 0,i64 0,.val (.slice none 0 0),.val (.slice none 0 0),.val (.slice none 0 0),.val (.slice none 0 0),.val (.slice none 0 0),.val (.slice none 0 0),i64 0,i64 0,i64 0,i64 0,i64 0,i64 0,i64 0,i64 0,i64 0,i64 0] [(0,3,(.t 13)),(3,1,(.t 15)),(4,1,(.t 19)),(5,4,(.t 20)),(9,1,(.t 22))]),
 iE 24 (.box 73 (.t 23)),
 iM 6 24])
 (.seq
 (.drf [105,105,105] [3,4,5,6,7,8,0,1,2,9,10,11,12,13,14,15,16,17] [
 iM 28 5,
 iE 29 (.flo 0 105 4 32 [i64 0,i64 0,i64 0,i64 0] (.t 28) (.t 28)),
 iM 30 5,
 iE 31 (.flo 1 105 4 32 [i64 0,i64 0,i64 0,i64 0] (.t 30) (.t 30)),
 iM 32 5,
 iE 33 (.flo 2 105 4 32 [i64 0,i64 0,i64 0,i64 0] (.t 32) (.t 32)),
 iM 25 6,
 iM 26 6,
 iM 27 6,
 iP 34 (.nck (.t 25)),
 iF 35 10 34,
 ⟨none,none,.e (.st 1 (.t 35) (.t 29))⟩,
 iP 36 (.nck (.t 26)),
 iF 37 11 36,
 ⟨none,none,.e (.st 1 (.t 37) (.t 31))⟩,
 iP 38 (.nck (.t 27)),
 iF 39 12 38,
 ⟨none,none,.e (.st 1 (.t 39) (.t 33))⟩])
 (.seq
 (.seq
 (.reg [
 iM 40 5,
 iP 41 (.bin .sub (.i .i64) (.t 40) (.c (i64 1))),
 iM 7 41])
 (.blk 0
 (.loop Qg3)))
 (.seq
 (.reg [
 iM 87 6,
 iM 4 87])
 .ret))))))
def r33:List RS:=[.t 4]
theorem c33:Qi Tryz.prog Qb Tryz.f33 i33 r33=true:=by kernel_rfl
def Qjh:IC:=.keep [3,9,10,11]
 (.seq
 (.reg [
 iP 12 (.bin .lss (.i .i64) (.t 11) (.t 10))])
 (.seq
 (.cond (.t 12)
 .skip
 (.exit 0))
 (.seq
 (.blk 1
 (.seq
 (.reg [
 iM 13 11,
 iP 14 (.ia 1 (.t 9) (.t 11)),
 iL 15 14,
 iM 4 13,
 iM 5 15])
 (.reg [
 iM 16 3,
 iM 17 4,
 iM 18 5,
 iC 19 56 [.t 18],
 iP 20 (.ia 1 (.t 16) (.t 17)),
 ⟨none,none,.e (.st 1 (.t 20) (.t 19))⟩])))
 (.reg [
 iP 21 (.bin .add (.i .i64) (.t 11) (.c (i64 1))),
 iM 11 21]))))
def i34:IC :=
 (.seq
 (.reg [
 iP 2 (.mov (.c (.val (.slice none 0 0))))])
 (.seq
 (.reg [
 iM 6 0,
 iP 7 (.len (.t 6)),
 iE 8 (.mks 45 1 24 [.val (.slice none 0 0)] (.t 7) (.t 7)),
 iM 3 8])
 (.seq
 (.seq
 (.reg [
 iM 9 0,
 iP 10 (.len (.t 9)),
 iP 11 (.mov (.c (i64 0)))])
 (.blk 0
 (.loop Qjh)))
 (.seq
 (.reg [
 iM 22 3,
 iM 2 22])
 .ret))))
def r34:List RS:=[.t 2]
theorem c34:Qi Tryz.prog Qb Tryz.f34 i34 r34=true:=by kernel_rfl
def Qgr:IC:=.keep [0,16,17,18]
 (.seq
 (.reg [
 iP 19 (.bin .lss (.i .i64) (.t 18) (.t 17))])
 (.seq
 (.cond (.t 19)
 .skip
 (.exit 0))
 (.seq
 (.blk 1
 (.seq
 (.reg [
 iM 20 18,
 iP 21 (.ia 1 (.t 16) (.t 18)),
 iL 22 21,
 iM 2 20,
 iM 3 22])
 (.drw [0,1,2,3,4,5,6,7,8,9,10,11,12,13,14,15] [
 iM 23 0,
 iP 24 (.nck (.t 23)),
 iF 25 5 24,
 iF 26 2 25,
 iL 27 26,
 iM 28 2,
 iP 29 (.ia 1 (.t 27) (.t 28)),
 iL 30 29,
 iM 31 3,
 iM 32 0,
 iP 33 (.nck (.t 32)),
 iF 34 13 33,
 iM 35 3,
 iP 36 (.len (.t 35)),
 iP 37 (.sla 10 1 (.t 34) none (some (.t 36))),
 iC 38 31 [.t 30,.t 31,.t 37]])))
 (.reg [
 iP 39 (.bin .add (.i .i64) (.t 18) (.c (i64 1))),
 iM 18 39]))))
def QiP:IC:=.keep [0,4]
 (.seq
 (.seq
 (.reg [
 iM 47 4,
 iP 48 (.bin .geq (.i .i64) (.t 47) (.c (i64 0)))])
 (.cond (.t 48)
 .skip
 (.exit 2)))
 (.seq
 (.blk 3
 (.reg [
 iM 51 0,
 iM 52 4,
 iC 53 57 [.t 51,.t 52]]))
 (.reg [
 iM 49 4,
 iP 50 (.bin .sub (.i .i64) (.t 49) (.c (i64 1))),
 iM 4 50])))
def QiJ:IC:=.keep [0,58,59]
 (.seq
 (.reg [
 iP 60 (.bin .lss (.i .i64) (.t 59) (.t 58))])
 (.seq
 (.cond (.t 60)
 .skip
 (.exit 4))
 (.seq
 (.blk 5
 (.seq
 (.reg [
 iM 61 59,
 iM 5 61])
 (.drw [0,1,2,3,4,5,6,7,8,9,10,11,13,12,14,15] [
 iM 62 0,
 iP 63 (.nck (.t 62)),
 iF 64 11 63,
 iL 65 64,
 iM 66 5,
 iM 67 0,
 iP 68 (.nck (.t 67)),
 iF 69 12 68,
 iL 70 69,
 iM 71 5,
 iP 72 (.ia 4 (.t 65) (.c (i64 0))),
 iP 73 (.iap 4 1 (.t 72) (.t 66)),
 iP 74 (.ia 4 (.t 70) (.c (i64 0))),
 ⟨none,none,.e (.stw [70] 1 (.t 73) (.c (i64 1073741824)))⟩,
 iP 75 (.iap 4 1 (.t 74) (.t 71)),
 ⟨none,none,.e (.stw [65] 1 (.t 75) (.c (i64 1073741824)))⟩])))
 (.reg [
 iP 76 (.bin .add (.i .i64) (.t 59) (.c (i64 1))),
 iM 59 76]))))
def Qhi:IC:=.keep [0,82,83]
 (.seq
 (.reg [
 iP 84 (.bin .lss (.i .i64) (.t 83) (.t 82))])
 (.seq
 (.cond (.t 84)
 .skip
 (.exit 6))
 (.seq
 (.blk 7
 (.seq
 (.reg [
 iM 85 83,
 iM 6 85])
 (.reg [
 iM 86 0,
 iM 87 6,
 iC 88 58 [.t 86,.t 87]])))
 (.reg [
 iP 89 (.bin .add (.i .i64) (.t 83) (.c (i64 1))),
 iM 83 89]))))
def QhV:IC:=.keep [0,95,96]
 (.seq
 (.reg [
 iP 97 (.bin .lss (.i .i64) (.t 96) (.t 95))])
 (.seq
 (.cond (.t 97)
 .skip
 (.exit 8))
 (.seq
 (.blk 9
 (.seq
 (.reg [
 iM 98 96,
 iM 7 98])
 (.reg [
 iM 99 0,
 iM 100 7,
 iC 101 59 [.t 99,.t 100]])))
 (.reg [
 iP 102 (.bin .add (.i .i64) (.t 96) (.c (i64 1))),
 iM 96 102]))))
def QhZ:IC:=.keep [0,8,10,106,107,108,136,137,138]
 (.seq
 (.reg [
 iP 139 (.bin .lss (.i .i64) (.t 138) (.t 137))])
 (.seq
 (.cond (.t 139)
 .skip
 (.exit 12))
 (.seq
 (.blk 13
 (.seq
 (.reg [
 iM 140 138,
 iP 141 (.ia 1 (.t 136) (.t 138)),
 iL 142 141,
 iM 11 140,
 iM 12 142])
 (.reg [
 iM 143 0,
 iP 144 (.nck (.t 143)),
 iF 145 5 144,
 iF 146 3 145,
 iL 147 146,
 iM 148 8,
 iP 149 (.ia 1 (.t 147) (.t 148)),
 iL 150 149,
 iM 151 11,
 iP 152 (.ia 1 (.t 150) (.t 151)),
 iL 153 152,
 iM 154 10,
 iM 155 12,
 iP 156 (.bin .mul (.i .i64) (.t 154) (.t 155)),
 iP 157 (.bin .quo (.i .i64) (.t 156) (.c (i64 65536))),
 iP 158 (.bin .add (.i .i64) (.t 153) (.t 157)),
 iP 159 (.ia 1 (.t 150) (.t 151)),
 ⟨none,none,.e (.st 1 (.t 159) (.t 158))⟩])))
 (.reg [
 iP 160 (.bin .add (.i .i64) (.t 138) (.c (i64 1))),
 iM 138 160]))))
def Qi7:IC:=.keep [0,106,107,108]
 (.seq
 (.reg [
 iP 109 (.bin .lss (.i .i64) (.t 108) (.t 107))])
 (.seq
 (.cond (.t 109)
 .skip
 (.exit 10))
 (.seq
 (.blk 11
 (.seq
 (.reg [
 iM 110 108,
 iP 111 (.ia 1 (.t 106) (.t 108)),
 iL 112 111,
 iM 8 110,
 iM 9 112])
 (.seq
 (.drw [0,1,2,3,4,5,6,7,8,9,10,11,12,13,14,15,16,17,18,19,20,21,22,23] [
 iM 113 0,
 iP 114 (.nck (.t 113)),
 iF 115 12 114,
 iL 116 115,
 iM 117 0,
 iP 118 (.nck (.t 117)),
 iF 119 4 118,
 iL 120 119,
 iM 121 8,
 iP 122 (.ia 1 (.t 120) (.t 121)),
 iL 123 122,
 iM 124 0,
 iP 125 (.nck (.t 124)),
 iF 126 0 125,
 iF 127 2 126,
 iL 128 127,
 iM 129 8,
 iP 130 (.ia 2 (.t 128) (.t 129)),
 iF 131 0 130,
 iL 132 131,
 iP 133 (.ia 4 (.t 116) (.t 123)),
 iP 134 (.iap 4 1 (.t 133) (.t 132)),
 iL 135 134,
 iM 10 135])
 (.seq
 (.reg [
 iM 136 9,
 iP 137 (.len (.t 136)),
 iP 138 (.mov (.c (i64 0)))])
 (.blk 12
 (.loop QhZ))))))
 (.reg [
 iP 161 (.bin .add (.i .i64) (.t 108) (.c (i64 1))),
 iM 108 161]))))
def i35:IC :=
 (.seq
 (.seq
 (.reg [
 iM 13 0,
 iP 14 (.nck (.t 13)),
 iF 15 9 14,
 iL 16 15,
 iP 17 (.len (.t 16)),
 iP 18 (.mov (.c (i64 0)))])
 (.blk 0
 (.loop Qgr)))
 (.seq
 (.seq
 (.reg [
 iM 40 0,
 iP 41 (.nck (.t 40)),
 iF 42 0 41,
 iF 43 1 42,
 iL 44 43,
 iP 45 (.len (.t 44)),
 iP 46 (.bin .sub (.i .i64) (.t 45) (.c (i64 1))),
 iM 4 46])
 (.blk 2
 (.loop QiP)))
 (.seq
 (.seq
 (.reg [
 iM 54 0,
 iP 55 (.nck (.t 54)),
 iF 56 0 55,
 iF 57 0 56,
 iL 58 57,
 iP 59 (.mov (.c (i64 0)))])
 (.blk 4
 (.loop QiJ)))
 (.seq
 (.seq
 (.reg [
 iM 77 0,
 iP 78 (.nck (.t 77)),
 iF 79 0 78,
 iF 80 1 79,
 iL 81 80,
 iP 82 (.len (.t 81)),
 iP 83 (.mov (.c (i64 0)))])
 (.blk 6
 (.loop Qhi)))
 (.seq
 (.seq
 (.reg [
 iM 90 0,
 iP 91 (.nck (.t 90)),
 iF 92 0 91,
 iF 93 1 92,
 iL 94 93,
 iP 95 (.len (.t 94)),
 iP 96 (.mov (.c (i64 0)))])
 (.blk 8
 (.loop QhV)))
 (.seq
 (.seq
 (.reg [
 iM 103 0,
 iP 104 (.nck (.t 103)),
 iF 105 9 104,
 iL 106 105,
 iP 107 (.len (.t 106)),
 iP 108 (.mov (.c (i64 0)))])
 (.blk 10
 (.loop Qi7)))
 (.seq
 (.reg [
 iM 162 0,
 iP 163 (.nck (.t 162)),
 iF 164 5 163,
 iF 165 0 164,
 iL 166 165,
 iP 167 (.bin .add (.i .i64) (.t 166) (.c (i64 1))),
 iP 168 (.nck (.t 162)),
 iF 169 5 168,
 iF 170 0 169,
 ⟨none,none,.e (.st 1 (.t 170) (.t 167))⟩])
 (.reg [
 iM 171 0,
 iC 172 60 [.t 171]]))))))))
def r35:List RS:=[]
theorem c35:Qi Tryz.prog Qb Tryz.f35 i35 r35=true:=by kernel_rfl
def i36:IC :=
 (.seq
 (.reg [
 iE 4 (.alc 78 [bl false,.val (.slice none 0 0),.val (.slice none 0 0)]),
 iP 5 (.mov (.c (i64 0)))])
 (.seq
 (.seq
 (.reg [
 iM 6 1,
 iP 7 (.bin .eql (.i .i64) (.t 6) (.c (i64 0)))])
 (.cond (.t 7)
 (.seq
 (.reg [
 iP 8 (.bld [bl false,.val (.slice none 0 0),.val (.slice none 0 0)] []),
 ⟨none,none,.e (.st 3 (.t 4) (.t 8))⟩,
 iP 5 (.mov (.c (i64 6)))])
 .ret)
 .skip))
 (.seq
 (.reg [
 iM 9 0,
 iP 10 (.bin .lss (.i .i64) (.t 9) (.c (i64 0))),
 iM 11 1,
 iP 12 (.bin .lss (.i .i64) (.t 11) (.c (i64 0))),
 iP 13 (.bin .neq .b (.t 10) (.t 12)),
 iM 14 0,
 iC 15 63 [.t 14],
 iC 16 62 [.t 15],
 iM 17 1,
 iC 18 63 [.t 17],
 iC 19 62 [.t 18],
 iC 20 61 [.t 13,.t 16,.t 19],
 ⟨none,none,.e (.st 3 (.t 4) (.t 20))⟩,
 iP 5 (.mov (.c (i64 0)))])
 .ret)))
def r36:List RS:=[.cn 4 3,.t 5]
theorem c36:Qi Tryz.prog Qb Tryz.f36 i36 r36=true:=by kernel_rfl
def Qja:IC:=.keep [1,3]
 (.seq
 (.seq
 (.reg [
 iM 37 3,
 iF 38 1 1,
 iL 39 38,
 iP 40 (.len (.t 39)),
 iP 41 (.bin .lss (.i .i64) (.t 37) (.t 40))])
 (.cond (.t 41)
 .skip
 (.exit 0)))
 (.seq
 (.blk 1
 (.seq
 (.drw [0,1,2,3,4,5,6,7] [
 iP 44 (.ldn 3 (.t 1)),
 iF 45 1 1,
 iL 46 45,
 iM 47 3,
 iP 48 (.ia 6 (.t 46) (.t 47)),
 iP 49 (.ldn 6 (.t 48)),
 ⟨(some 50),none,.q (.c (.fn (.func 64) [] [])) [(.t 44),(.t 49)]⟩,
 iM 4 50])
 (.seq
 (.reg [
 iM 51 4,
 iP 52 (.bin .neq (.i .i64) (.t 51) (.c (i64 0)))])
 (.cond (.t 52)
 (.seq
 (.reg [
 iM 53 4,
 iM 2 53])
 .ret)
 .skip))))
 (.reg [
 iM 42 3,
 iP 43 (.bin .add (.i .i64) (.t 42) (.c (i64 1))),
 iM 3 43])))
def Qgq:IC:=.keep [1,6]
 (.seq
 (.seq
 (.reg [
 iM 62 6,
 iF 63 1 1,
 iL 64 63,
 iP 65 (.len (.t 64)),
 iP 66 (.bin .lss (.i .i64) (.t 62) (.t 65))])
 (.cond (.t 66)
 .skip
 (.exit 2)))
 (.seq
 (.blk 3
 (.seq
 (.reg [
 iF 69 1 1,
 iL 70 69,
 iM 71 6,
 iP 72 (.ia 6 (.t 70) (.t 71)),
 iP 73 (.ldn 6 (.t 72)),
 iE 7 (.alc 57 [i64 0,i64 0,i64 0,.val (.slice none 0 0),.val (.slice none 0 0),.val (.slice none 0 0)]),
 ⟨none,none,.e (.st 6 (.t 7) (.t 73))⟩])
 (.seq
 (.drw [0,1,2,3,4,5,6,7,8,9,10,11,12,13,14,15,16,17,18,19,20,21,22,23,24,25,26,27] [
 iF 74 0 7,
 iL 75 74,
 iP 76 (.bin .eql (.i .i64) (.t 75) (.c (i64 2))),
 iM 77 76,
 iG 78 77 true (.fa 2 (.t 1)),
 iG 79 77 true (.ld1 (.t 78)),
 iG 80 77 true (.fa 2 (.t 7)),
 iG 81 77 true (.ld1 (.t 80)),
 iG 82 77 true (.ia 2 (.t 79) (.t 81)),
 iG 83 77 true (.fa 0 (.t 82)),
 iG 84 77 true (.ld1 (.t 83)),
 iG 85 77 true (.fa 1 (.t 7)),
 iG 86 77 true (.ld1 (.t 85)),
 iG 87 77 true (.bin .neq (.i .i64) (.t 84) (.t 86)),
 iG 88 77 true (.mov (.t 87)),
 iG 89 88 false (.fa 2 (.t 1)),
 iG 90 88 false (.ld1 (.t 89)),
 iG 91 88 false (.fa 2 (.t 7)),
 iG 92 88 false (.ld1 (.t 91)),
 iG 93 88 false (.ia 2 (.t 90) (.t 92)),
 iG 94 88 false (.fa 1 (.t 93)),
 iG 95 88 false (.ld1 (.t 94)),
 iG 96 88 false (.fa 3 (.t 7)),
 iG 97 88 false (.ld1 (.t 96)),
 iG 98 88 false (.len (.t 97)),
 iG 99 88 false (.bin .neq (.i .i64) (.t 95) (.t 98)),
 iG 100 77 true (.pick (.t 88) (.c (bl true)) (.t 99)),
 iP 101 (.pick (.t 77) (.t 100) (.c (bl false)))])
 (.cond (.t 101)
 (.seq
 (.reg [
 iP 2 (.mov (.c (i64 10)))])
 .ret)
 .skip))))
 (.reg [
 iM 67 6,
 iP 68 (.bin .add (.i .i64) (.t 67) (.c (i64 1))),
 iM 6 68])))
def QiY:IC:=.keep [8,9]
 (.seq
 (.seq
 (.reg [
 iM 104 9,
 iM 105 8,
 iP 106 (.len (.t 105)),
 iP 107 (.bin .lss (.i .i64) (.t 104) (.t 106))])
 (.cond (.t 107)
 .skip
 (.exit 4)))
 (.seq
 (.blk 5
 (.seq
 (.reg [
 iM 110 8,
 iM 111 9,
 iP 112 (.ia 1 (.t 110) (.t 111)),
 iL 113 112,
 iP 114 (.len (.t 113)),
 iP 115 (.bin .eql (.i .i64) (.t 114) (.c (i64 0)))])
 (.cond (.t 115)
 (.seq
 (.reg [
 iP 2 (.mov (.c (i64 18)))])
 .ret)
 .skip)))
 (.reg [
 iM 108 9,
 iP 109 (.bin .add (.i .i64) (.t 108) (.c (i64 1))),
 iM 9 109])))
def QiX:IC:=.keep [8,10]
 (.seq
 (.seq
 (.reg [
 iM 116 10,
 iM 117 8,
 iP 118 (.len (.t 117)),
 iP 119 (.bin .lss (.i .i64) (.t 116) (.t 118))])
 (.cond (.t 119)
 .skip
 (.exit 6)))
 (.seq
 (.blk 7
 (.seq
 (.drw [0,1,2,3,4,5,6,7,8,9,10,11,12,13] [
 iM 122 8,
 iM 123 10,
 iP 124 (.ia 1 (.t 122) (.t 123)),
 iL 125 124,
 iP 126 (.ia 1 (.t 125) (.c (i64 0))),
 iL 127 126,
 iM 128 8,
 iM 129 10,
 iP 130 (.bin .sub (.i .i64) (.t 129) (.c (i64 1))),
 iP 131 (.ia 1 (.t 128) (.t 130)),
 iL 132 131,
 iP 133 (.ia 1 (.t 132) (.c (i64 0))),
 iL 134 133,
 iP 135 (.bin .lss (.i .i64) (.t 127) (.t 134))])
 (.cond (.t 135)
 (.seq
 (.reg [
 iP 2 (.mov (.c (i64 9)))])
 .ret)
 .skip)))
 (.reg [
 iM 120 10,
 iP 121 (.bin .add (.i .i64) (.t 120) (.c (i64 1))),
 iM 10 121])))
def i37:IC :=
 (.seq
 (.reg [
 iE 1 (.box 26 (.t 0)),
 iP 2 (.mov (.c (i64 0)))])
 (.seq
 (.seq
 (.reg [
 iF 11 0 1,
 iL 12 11,
 iP 13 (.bin .lss (.i .i64) (.t 12) (.c (i64 1))),
 iM 14 13,
 iG 15 14 false (.fa 0 (.t 1)),
 iG 16 14 false (.ld1 (.t 15)),
 iG 17 14 false (.bin .gtr (.i .i64) (.t 16) (.c (i64 4))),
 iP 18 (.pick (.t 14) (.c (bl true)) (.t 17)),
 iM 19 18,
 iG 20 19 false (.fa 1 (.t 1)),
 iG 21 19 false (.ld1 (.t 20)),
 iG 22 19 false (.len (.t 21)),
 iG 23 19 false (.bin .lss (.i .i64) (.t 22) (.c (i64 1))),
 iP 24 (.pick (.t 19) (.c (bl true)) (.t 23)),
 iM 25 24,
 iG 26 25 false (.fa 1 (.t 1)),
 iG 27 25 false (.ld1 (.t 26)),
 iG 28 25 false (.len (.t 27)),
 iG 29 25 false (.bin .gtr (.i .i64) (.t 28) (.c (i64 2000))),
 iP 30 (.pick (.t 25) (.c (bl true)) (.t 29)),
 iM 31 30,
 iG 32 31 false (.fa 2 (.t 1)),
 iG 33 31 false (.ld1 (.t 32)),
 iG 34 31 false (.len (.t 33)),
 iG 35 31 false (.bin .gtr (.i .i64) (.t 34) (.c (i64 200))),
 iP 36 (.pick (.t 31) (.c (bl true)) (.t 35))])
 (.cond (.t 36)
 (.seq
 (.reg [
 iP 2 (.mov (.c (i64 2)))])
 .ret)
 .skip))
 (.seq
 (.seq
 (.reg [
 iP 3 (.mov (.c (i64 0)))])
 (.blk 0
 (.loop Qja)))
 (.seq
 (.reg [
 iE 5 (.alc 3 [i64 0]),
 ⟨none,none,.e (.st 1 (.t 5) (.c (i64 0)))⟩])
 (.seq
 (.seq
 (.drw [0,2,3,4,1,5] [
 iP 54 (.ldn 3 (.t 1)),
 iF 56 1 1,
 iL 57 56,
 iP 58 (.len (.t 57)),
 iC 55 65 [.t 54,(.c (i64 0)),(.c (i64 0)),.t 5],
 iP 59 (.bin .neq (.i .i64) (.t 55) (.t 58))])
 (.cond (.t 59)
 (.seq
 (.reg [
 iP 2 (.mov (.c (i64 9)))])
 .ret)
 .skip))
 (.seq
 (.seq
 (.reg [
 iL 60 5,
 iP 61 (.bin .gtr (.i .i64) (.t 60) (.c (i64 40)))])
 (.cond (.t 61)
 (.seq
 (.reg [
 iP 2 (.mov (.c (i64 5)))])
 .ret)
 .skip))
 (.seq
 (.seq
 (.reg [
 iP 6 (.mov (.c (i64 0)))])
 (.blk 2
 (.loop Qgq)))
 (.seq
 (.reg [
 iP 102 (.ldn 3 (.t 1)),
 iC 103 66 [.t 102],
 iM 8 103])
 (.seq
 (.seq
 (.reg [
 iP 9 (.mov (.c (i64 0)))])
 (.blk 4
 (.loop QiY)))
 (.seq
 (.seq
 (.reg [
 iP 10 (.mov (.c (i64 1)))])
 (.blk 6
 (.loop QiX)))
 (.seq
 (.reg [
 iP 2 (.mov (.c (i64 0)))])
 .ret)))))))))))
def r37:List RS:=[.t 2]
theorem c37:Qi Tryz.prog Qb Tryz.f37 i37 r37=true:=by kernel_rfl
def QhI:IC:=.keep [2,3,17,18,19,33,34,35]
 (.seq
 (.reg [
 iP 36 (.bin .lss (.i .i64) (.t 35) (.t 34))])
 (.seq
 (.cond (.t 36)
 .skip
 (.exit 2))
 (.seq
 (.blk 3
 (.seq
 (.reg [
 iP 37 (.ia 1 (.t 33) (.t 35)),
 iL 38 37,
 iM 10 38])
 (.seq
 (.reg [
 iM 39 10,
 iM 40 2,
 iP 41 (.bin .lss (.i .i64) (.t 39) (.t 40)),
 iM 42 41,
 iG 43 42 false (.mov (.t 10)),
 iG 44 42 false (.bin .gtr (.i .i64) (.t 43) (.c (i64 70368744177664))),
 iP 45 (.pick (.t 42) (.c (bl true)) (.t 44))])
 (.cond (.t 45)
 (.seq
 (.reg [
 iP 6 (.mov (.c (i64 2)))])
 .ret)
 .skip))))
 (.reg [
 iP 46 (.bin .add (.i .i64) (.t 35) (.c (i64 1))),
 iM 35 46]))))
def Qh5:IC:=.keep [2,3,17,18,19]
 (.seq
 (.reg [
 iP 20 (.bin .lss (.i .i64) (.t 19) (.t 18))])
 (.seq
 (.cond (.t 20)
 .skip
 (.exit 0))
 (.seq
 (.blk 1
 (.seq
 (.reg [
 iM 21 19,
 iP 22 (.ia 1 (.t 17) (.t 19)),
 iL 23 22,
 iM 7 21,
 iM 8 23])
 (.seq
 (.seq
 (.reg [
 iM 24 8,
 iP 25 (.len (.t 24)),
 iF 26 2 3,
 iL 27 26,
 iM 28 7,
 iP 29 (.ia 2 (.t 27) (.t 28)),
 iF 30 1 29,
 iL 31 30,
 iP 32 (.bin .neq (.i .i64) (.t 25) (.t 31))])
 (.cond (.t 32)
 (.seq
 (.reg [
 iP 6 (.mov (.c (i64 3)))])
 .ret)
 .skip))
 (.seq
 (.reg [
 iM 33 8,
 iP 34 (.len (.t 33)),
 iP 35 (.mov (.c (i64 0)))])
 (.blk 2
 (.loop QhI))))))
 (.reg [
 iP 47 (.bin .add (.i .i64) (.t 19) (.c (i64 1))),
 iM 19 47]))))
def i39:IC :=
 (.seq
 (.reg [
 iE 3 (.box 26 (.t 0)),
 iP 6 (.mov (.c (i64 0)))])
 (.seq
 (.seq
 (.reg [
 iM 11 1,
 iP 12 (.len (.t 11)),
 iF 13 2 3,
 iL 14 13,
 iP 15 (.len (.t 14)),
 iP 16 (.bin .neq (.i .i64) (.t 12) (.t 15))])
 (.cond (.t 16)
 (.seq
 (.reg [
 iP 6 (.mov (.c (i64 3)))])
 .ret)
 .skip))
 (.seq
 (.seq
 (.reg [
 iM 17 1,
 iP 18 (.len (.t 17)),
 iP 19 (.mov (.c (i64 0)))])
 (.blk 0
 (.loop Qh5)))
 (.seq
 (.reg [
 iP 6 (.mov (.c (i64 0)))])
 .ret))))
def r39:List RS:=[.t 6]
theorem c39:Qi Tryz.prog Qb Tryz.f39 i39 r39=true:=by kernel_rfl
def QgT:IC:=.keep [0,1,5]
 (.seq
 (.seq
 (.reg [
 iM 11 5,
 iM 12 0,
 iP 13 (.len (.t 12)),
 iP 14 (.bin .lss (.i .i64) (.t 11) (.t 13))])
 (.cond (.t 14)
 .skip
 (.exit 0)))
 (.seq
 (.blk 1
 (.seq
 (.drw [0,1,2,3,4,5,6,7,8] [
 iM 17 0,
 iM 18 5,
 iP 19 (.ia 1 (.t 17) (.t 18)),
 iL 20 19,
 iM 21 1,
 iM 22 5,
 iP 23 (.ia 1 (.t 21) (.t 22)),
 iL 24 23,
 iP 25 (.bin .neq (.i .i64) (.t 20) (.t 24))])
 (.cond (.t 25)
 (.seq
 (.reg [
 iP 4 (.mov (.c (bl false)))])
 .ret)
 .skip)))
 (.reg [
 iM 15 5,
 iP 16 (.bin .add (.i .i64) (.t 15) (.c (i64 1))),
 iM 5 16])))
def i40:IC :=
 (.seq
 (.reg [
 iP 4 (.mov (.c (bl false)))])
 (.seq
 (.seq
 (.reg [
 iM 6 0,
 iP 7 (.len (.t 6)),
 iM 8 1,
 iP 9 (.len (.t 8)),
 iP 10 (.bin .neq (.i .i64) (.t 7) (.t 9))])
 (.cond (.t 10)
 (.seq
 (.reg [
 iP 4 (.mov (.c (bl false)))])
 .ret)
 .skip))
 (.seq
 (.seq
 (.reg [
 iP 5 (.mov (.c (i64 0)))])
 (.blk 0
 (.loop QgT)))
 (.seq
 (.reg [
 iP 4 (.mov (.c (bl true)))])
 .ret))))
def r40:List RS:=[.t 4]
theorem c40:Qi Tryz.prog Qb Tryz.f40 i40 r40=true:=by kernel_rfl
def i48:IC :=
 (.seq
 (.reg [
 iP 4 (.mov (.c (i64 0)))])
 (.seq
 (.seq
 (.drw [0,1,2,3,4,5,6,7,8,9,10,11,12,13] [
 iM 5 0,
 iP 6 (.nck (.t 5)),
 iF 7 1 6,
 iL 8 7,
 iM 9 0,
 iP 10 (.nck (.t 9)),
 iF 11 0 10,
 iL 12 11,
 iP 13 (.len (.t 12)),
 iP 14 (.bin .geq (.i .i64) (.t 8) (.t 13)),
 iM 15 14,
 iG 16 15 false (.mov (.t 1)),
 iG 17 15 false (.bin .lss (.i .i64) (.t 16) (.c (i64 1))),
 iP 18 (.pick (.t 15) (.c (bl true)) (.t 17))])
 (.cond (.t 18)
 (.seq
 (.reg [
 iP 4 (.mov (.c (i64 0)))])
 .ret)
 .skip))
 (.seq
 (.reg [
 iM 19 0,
 iP 20 (.nck (.t 19)),
 iF 21 1 20,
 iL 22 21,
 iP 23 (.bin .add (.i .i64) (.t 22) (.c (i64 1))),
 iP 24 (.nck (.t 19)),
 iF 25 1 24,
 ⟨none,none,.e (.st 1 (.t 25) (.t 23))⟩])
 (.seq
 (.drw [0,1,2,3,4,5,6,7,8,9,10,11,12,13] [
 iM 26 0,
 iP 27 (.nck (.t 26)),
 iF 28 0 27,
 iL 29 28,
 iM 30 0,
 iP 31 (.nck (.t 30)),
 iF 32 1 31,
 iL 33 32,
 iP 34 (.bin .sub (.i .i64) (.t 33) (.c (i64 1))),
 iP 35 (.ia 1 (.t 29) (.t 34)),
 iL 36 35,
 iM 37 1,
 ⟨(some 38),none,.q (.c (.fn (.func 25) [] [])) [(.t 36),(.t 37)]⟩,
 iM 4 38])
 .ret))))
def r48:List RS:=[.t 4]
theorem c48:Qi Tryz.prog Qb Tryz.f48 i48 r48=true:=by kernel_rfl
def QeZ:IC:=.keep [0,1,2,7,8,9,11,12,13,14]
 (.seq
 (.seq
 (.reg [
 iM 150 14,
 iM 151 2,
 iP 152 (.len (.t 151)),
 iP 153 (.bin .lss (.i .i64) (.t 150) (.t 152))])
 (.cond (.t 153)
 .skip
 (.exit 2)))
 (.seq
 (.blk 3
 (.seq
 (.reg [
 iE 156 (.bsl 3 1 0 [i64 0] []),
 iM 157 2,
 iM 158 14,
 iP 159 (.ia 1 (.t 157) (.t 158)),
 iL 160 159,
 iE 161 (.app 3 1 8 (.t 156) (.t 160)),
 iM 15 161])
 (.seq
 (.seq
 (.reg [
 iM 162 14,
 iF 163 0 8,
 iL 164 163,
 iP 165 (.bin .eql (.i .i64) (.t 162) (.t 164)),
 iM 166 165,
 iG 167 166 false (.fa 2 (.t 8)),
 iG 168 166 false (.ld1 (.t 167)),
 iG 169 166 false (.mov (.t 14)),
 iG 170 166 false (.bin .shr (.sh .i64 .i64) (.t 168) (.t 169)),
 iG 171 166 false (.bin .and (.i .i64) (.t 170) (.c (i64 1))),
 iG 172 166 false (.bin .eql (.i .i64) (.t 171) (.c (i64 1))),
 iP 173 (.pick (.t 166) (.c (bl true)) (.t 172))])
 (.cond (.t 173)
 (.reg [
 iM 174 15,
 iM 175 12,
 iE 176 (.bsl 3 1 1 [i64 0] [(0,(.t 175))]),
 iE 177 (.app 3 1 8 (.t 174) (.t 176)),
 iM 15 177])
 (.reg [
 iM 178 15,
 iE 179 (.bsl 3 1 1 [i64 0] [(0,(.c (i64 (-1))))]),
 iE 180 (.app 3 1 8 (.t 178) (.t 179)),
 iM 15 180])))
 (.reg [
 iM 181 13,
 iM 182 15,
 iE 183 (.bsl 45 1 1 [.val (.slice none 0 0)] [(0,(.t 182))]),
 iE 184 (.app 45 1 24 (.t 181) (.t 183)),
 iM 13 184]))))
 (.reg [
 iM 154 14,
 iP 155 (.bin .add (.i .i64) (.t 154) (.c (i64 1))),
 iM 14 155])))
def Qdu:IC:=.keep [0,1,2,7,8,9,11,12]
 (.seq
 (.seq
 (.reg [
 iM 131 12,
 iM 132 9,
 iP 133 (.bin .lss (.i .i64) (.t 131) (.t 132))])
 (.cond (.t 133)
 .skip
 (.exit 0)))
 (.seq
 (.blk 1
 (.seq
 (.seq
 (.reg [
 iF 136 0 8,
 iL 137 136,
 iP 138 (.bin .lss (.i .i64) (.t 137) (.c (i64 0)))])
 (.cond (.t 138)
 (.drw [0,1,2,3,4,5,6,7,8,9,10,11] [
 iF 139 4 11,
 iL 140 139,
 iM 141 0,
 iP 142 (.nck (.t 141)),
 iF 143 0 142,
 iL 144 143,
 iC 145 48 [.t 144,(.c (i64 3))],
 iP 146 (.bin .add (.i .i64) (.c (i64 1)) (.t 145)),
 iE 147 (.bsl 3 1 1 [i64 0] [(0,(.t 146))]),
 iE 148 (.app 3 1 8 (.t 140) (.t 147)),
 iF 149 4 11,
 ⟨none,none,.e (.stw [144,140] 1 (.t 149) (.t 148))⟩])
 .skip))
 (.seq
 (.reg [
 iE 13 (.nil 45 1 (.c (.val (.slice none 0 0))))])
 (.seq
 (.seq
 (.reg [
 iP 14 (.mov (.c (i64 0)))])
 (.blk 2
 (.loop QeZ)))
 (.drw [0,1,2,3,4,5,6,7,8,9,10] [
 iF 185 3 11,
 iL 186 185,
 iM 187 0,
 iM 188 1,
 iP 189 (.bin .add (.i .i64) (.t 188) (.c (i64 1))),
 iM 190 13,
 iC 191 49 [.t 187,.t 189,.t 190],
 iE 192 (.bsl 3 1 1 [i64 0] [(0,(.t 191))]),
 iE 193 (.app 3 1 8 (.t 186) (.t 192)),
 iF 194 3 11,
 ⟨none,none,.e (.stw [186] 1 (.t 194) (.t 193))⟩])))))
 (.reg [
 iM 134 12,
 iP 135 (.bin .add (.i .i64) (.t 134) (.c (i64 1))),
 iM 12 135])))
def i49:IC :=
 (.seq
 (.reg [
 iP 6 (.mov (.c (i64 0)))])
 (.seq
 (.reg [
 iM 16 0,
 iP 17 (.nck (.t 16)),
 iF 18 7 17,
 iF 19 1 18,
 iL 20 19,
 iP 21 (.len (.t 20)),
 iM 7 21])
 (.seq
 (.reg [
 iM 22 0,
 iP 23 (.nck (.t 22)),
 iF 24 4 23,
 iL 25 24,
 iP 26 (.bin .sub (.i .i64) (.t 25) (.c (i64 1))),
 iP 27 (.nck (.t 22)),
 iF 28 4 27,
 ⟨none,none,.e (.st 1 (.t 28) (.t 26))⟩])
 (.seq
 (.reg [
 iM 29 0,
 iM 30 0,
 iP 31 (.nck (.t 30)),
 iF 32 7 31,
 iF 33 1 32,
 iL 34 33,
 iP 35 (.bld [i64 0,i64 0,i64 0,.val (.slice none 0 0),.val (.slice none 0 0),.val (.slice none 0 0)] []),
 iE 36 (.bsl 57 6 1 [i64 0,i64 0,i64 0,.val (.slice none 0 0),.val (.slice none 0 0),.val (.slice none 0 0)] [(0,(.t 35))]),
 iE 37 (.app 57 6 96 (.t 34) (.t 36)),
 iP 38 (.nck (.t 29)),
 iF 39 7 38,
 iF 40 1 39,
 ⟨none,none,.e (.st 1 (.t 40) (.t 37))⟩])
 (.seq
 (.seq
 (.reg [
 iM 41 1,
 iM 42 0,
 iP 43 (.nck (.t 42)),
 iF 44 1 43,
 iL 45 44,
 iP 46 (.len (.t 45)),
 iP 47 (.bin .eql (.i .i64) (.t 41) (.t 46)),
 iM 48 47,
 iG 49 48 false (.mov (.t 0)),
 iG 50 48 false (.nck (.t 49)),
 iG 51 48 false (.fa 0 (.t 50)),
 iG 52 48 false (.ld1 (.t 51)),
 ⟨(some 53),(some (48,false)),.e (.call (.c (.fn (.func 48) [] [])) [(.t 52),(.c (i64 8))])⟩,
 iG 54 48 false (.bin .eql (.i .i64) (.t 53) (.c (i64 1))),
 iP 55 (.pick (.t 48) (.c (bl true)) (.t 54))])
 (.cond (.t 55)
 (.seq
 (.reg [
 iM 56 0,
 iM 57 7,
 iC 58 75 [.t 56,.t 57]])
 (.seq
 (.reg [
 iM 59 7,
 iM 6 59])
 .ret))
 .skip))
 (.seq
 (.reg [
 iM 60 0,
 iP 61 (.nck (.t 60)),
 iF 62 1 61,
 iL 63 62,
 iM 64 1,
 iP 65 (.ia 3 (.t 63) (.t 64)),
 iP 66 (.ldn 3 (.t 65)),
 iE 8 (.alc 97 [i64 0,i64 0,i64 0]),
 ⟨none,none,.e (.st 3 (.t 8) (.t 66))⟩])
 (.seq
 (.reg [
 iF 67 1 8,
 iL 68 67,
 iM 9 68,
 iP 10 (.mov (.c (i64 0)))])
 (.seq
 (.seq
 (.reg [
 iF 69 0 8,
 iL 70 69,
 iP 71 (.bin .geq (.i .i64) (.t 70) (.c (i64 0)))])
 (.cond (.t 71)
 (.seq
 (.drw [0,1,2,3,4,5,6,7,8,9,10] [
 iM 72 0,
 iF 73 0 8,
 iL 74 73,
 iM 75 1,
 iM 76 2,
 iF 77 0 8,
 iL 78 77,
 iP 79 (.ia 1 (.t 76) (.t 78)),
 iL 80 79,
 iC 81 76 [.t 72,.t 74,.t 75,.t 80],
 iM 10 81])
 (.reg [
 iM 82 0,
 iP 83 (.nck (.t 82)),
 iF 84 7 83,
 iF 85 2 84,
 iL 86 85,
 iM 87 10,
 iP 88 (.ia 2 (.t 86) (.t 87)),
 iF 89 1 88,
 iL 90 89,
 iM 9 90]))
 .skip))
 (.seq
 (.seq
 (.drw [0,1,2,3,4,5,6,7,8,9,10,11,12,13] [
 iM 91 7,
 iP 92 (.bin .add (.i .i64) (.t 91) (.c (i64 1))),
 iM 93 0,
 iP 94 (.nck (.t 93)),
 iF 95 4 94,
 iL 96 95,
 iP 97 (.bin .add (.i .i64) (.t 92) (.t 96)),
 iM 98 9,
 iP 99 (.bin .add (.i .i64) (.t 97) (.t 98)),
 iM 100 0,
 iP 101 (.nck (.t 100)),
 iF 102 3 101,
 iL 103 102,
 iP 104 (.bin .gtr (.i .i64) (.t 99) (.t 103))])
 (.cond (.t 104)
 (.seq
 (.reg [
 iM 105 0,
 iM 106 10,
 iF 107 0 8,
 iL 108 107,
 iC 109 77 [.t 105,.t 106,.t 108]])
 (.seq
 (.reg [
 iM 110 0,
 iM 111 7,
 iC 112 75 [.t 110,.t 111]])
 (.seq
 (.reg [
 iM 113 7,
 iM 6 113])
 .ret)))
 .skip))
 (.seq
 (.reg [
 iM 114 0,
 iM 115 0,
 iP 116 (.nck (.t 115)),
 iF 117 4 116,
 iL 118 117,
 iM 119 9,
 iP 120 (.bin .add (.i .i64) (.t 118) (.t 119)),
 iP 121 (.nck (.t 114)),
 iF 122 4 121,
 ⟨none,none,.e (.st 1 (.t 122) (.t 120))⟩])
 (.seq
 (.reg [
 iP 123 (.bld [i64 0,i64 0,i64 0,.val (.slice none 0 0),.val (.slice none 0 0),.val (.slice none 0 0)] [(0,1,(.c (i64 1)))]),
 iE 11 (.alc 57 [i64 0,i64 0,i64 0,.val (.slice none 0 0),.val (.slice none 0 0),.val (.slice none 0 0)]),
 ⟨none,none,.e (.st 6 (.t 11) (.t 123))⟩])
 (.seq
 (.seq
 (.reg [
 iF 124 0 8,
 iL 125 124,
 iP 126 (.bin .geq (.i .i64) (.t 125) (.c (i64 0)))])
 (.cond (.t 126)
 (.reg [
 iF 127 0 8,
 iL 128 127,
 iM 129 10,
 iP 130 (.bld [i64 0,i64 0,i64 0,.val (.slice none 0 0),.val (.slice none 0 0),.val (.slice none 0 0)] [(0,1,(.c (i64 2))),(1,1,(.t 128)),(2,1,(.t 129))]),
 ⟨none,none,.e (.st 6 (.t 11) (.t 130))⟩])
 .skip))
 (.seq
 (.seq
 (.reg [
 iP 12 (.mov (.c (i64 0)))])
 (.blk 0
 (.loop Qdu)))
 (.seq
 (.drw [0,1,2,3,4,5,6,7,8] [
 iM 195 0,
 iP 196 (.nck (.t 195)),
 iF 197 7 196,
 iF 198 1 197,
 iL 199 198,
 iM 200 7,
 iP 201 (.ldn 6 (.t 11)),
 iP 202 (.ia 6 (.t 199) (.t 200)),
 ⟨none,none,.e (.st 6 (.t 202) (.t 201))⟩])
 (.seq
 (.reg [
 iM 203 7,
 iM 6 203])
 .ret)))))))))))))))
def r49:List RS:=[.t 6]
theorem c49:Qi Tryz.prog Qb Tryz.f49 i49 r49=true:=by kernel_rfl
def QhH:IC:=.keep [1,2,6,7,8,9]
 (.seq
 (.seq
 (.reg [
 iM 37 9,
 iM 38 1,
 iM 39 7,
 iP 40 (.ia 1 (.t 38) (.t 39)),
 iL 41 40,
 iP 42 (.len (.t 41)),
 iP 43 (.bin .lss (.i .i64) (.t 37) (.t 42))])
 (.cond (.t 43)
 .skip
 (.exit 2)))
 (.seq
 (.blk 3
 (.seq
 (.seq
 (.reg [
 iM 46 1,
 iM 47 7,
 iP 48 (.ia 1 (.t 46) (.t 47)),
 iL 49 48,
 iM 50 9,
 iP 51 (.ia 3 (.t 49) (.t 50)),
 iP 52 (.ldn 3 (.t 51)),
 iC 53 80 [.t 52],
 iM 10 53])
 (.seq
 (.reg [
 iM 54 10,
 iP 55 (.bin .neq (.i .i64) (.t 54) (.c (i64 0)))])
 (.cond (.t 55)
 (.seq
 (.reg [
 iM 56 10,
 iM 4 56])
 .ret)
 .skip)))
 (.seq
 (.seq
 (.drw [0,1,2,3,4,5,6,7,8,9,10,11,12,13,14,15,16,17,18,19] [
 iM 57 1,
 iM 58 7,
 iP 59 (.ia 1 (.t 57) (.t 58)),
 iL 60 59,
 iM 61 9,
 iP 62 (.ia 3 (.t 60) (.t 61)),
 iF 63 0 62,
 iL 64 63,
 iM 65 64,
 iG 66 65 false (.mov (.t 1)),
 iG 67 65 false (.mov (.t 7)),
 iG 68 65 false (.ia 1 (.t 66) (.t 67)),
 iG 69 65 false (.ld1 (.t 68)),
 iG 70 65 false (.mov (.t 9)),
 iG 71 65 false (.ia 3 (.t 69) (.t 70)),
 iG 72 65 false (.ldn 3 (.t 71)),
 iG 73 65 false (.ldn 3 (.t 6)),
 ⟨(some 74),(some (65,false)),.q (.c (.fn (.func 81) [] [])) [(.t 72),(.t 73)]⟩,
 iG 75 65 false (.bin .gtr (.i .i64) (.t 74) (.c (i64 0))),
 iP 76 (.pick (.t 65) (.c (bl true)) (.t 75))])
 (.cond (.t 76)
 (.seq
 (.reg [
 iP 4 (.mov (.c (i64 2)))])
 .ret)
 .skip))
 (.drw [0,1,2,3,4,5,6,7,8,9] [
 iP 77 (.ldn 3 (.t 8)),
 iM 78 1,
 iM 79 7,
 iP 80 (.ia 1 (.t 78) (.t 79)),
 iL 81 80,
 iM 82 9,
 iP 83 (.ia 3 (.t 81) (.t 82)),
 iP 84 (.ldn 3 (.t 83)),
 ⟨(some 85),none,.q (.c (.fn (.func 82) [] [])) [(.t 77),(.t 84)]⟩,
 ⟨none,none,.e (.st 3 (.t 8) (.t 85))⟩]))))
 (.reg [
 iM 44 9,
 iP 45 (.bin .add (.i .i64) (.t 44) (.c (i64 1))),
 iM 9 45])))
def Qiz:IC:=.keep [1,2,6,7]
 (.seq
 (.seq
 (.reg [
 iM 18 7,
 iM 19 1,
 iP 20 (.len (.t 19)),
 iP 21 (.bin .lss (.i .i64) (.t 18) (.t 20))])
 (.cond (.t 21)
 .skip
 (.exit 0)))
 (.seq
 (.blk 1
 (.seq
 (.seq
 (.drw [0,1,2,3,4,5,6,7,8,9,10,11] [
 iM 24 1,
 iM 25 7,
 iP 26 (.ia 1 (.t 24) (.t 25)),
 iL 27 26,
 iP 28 (.len (.t 27)),
 iF 29 2 2,
 iL 30 29,
 iM 31 7,
 iP 32 (.ia 2 (.t 30) (.t 31)),
 iF 33 1 32,
 iL 34 33,
 iP 35 (.bin .neq (.i .i64) (.t 28) (.t 34))])
 (.cond (.t 35)
 (.seq
 (.reg [
 iP 4 (.mov (.c (i64 3)))])
 .ret)
 .skip))
 (.seq
 (.reg [
 iC 36 79 [(.c (i64 0))],
 iE 8 (.alc 78 [bl false,.val (.slice none 0 0),.val (.slice none 0 0)]),
 ⟨none,none,.e (.st 3 (.t 8) (.t 36))⟩])
 (.seq
 (.seq
 (.reg [
 iP 9 (.mov (.c (i64 0)))])
 (.blk 2
 (.loop QhH)))
 (.seq
 (.reg [
 iP 86 (.ldn 3 (.t 8)),
 iP 87 (.ldn 3 (.t 6)),
 iC 88 81 [.t 86,.t 87],
 iP 89 (.bin .neq (.i .i64) (.t 88) (.c (i64 0)))])
 (.cond (.t 89)
 (.seq
 (.reg [
 iP 4 (.mov (.c (i64 14)))])
 .ret)
 .skip))))))
 (.reg [
 iM 22 7,
 iP 23 (.bin .add (.i .i64) (.t 22) (.c (i64 1))),
 iM 7 23])))
def i50:IC :=
 (.seq
 (.reg [
 iE 2 (.box 26 (.t 0)),
 iP 4 (.mov (.c (i64 0)))])
 (.seq
 (.seq
 (.reg [
 iP 11 (.ldn 3 (.t 2)),
 iM 12 1,
 iC 13 78 [.t 11,.t 12],
 iM 5 13])
 (.seq
 (.reg [
 iM 14 5,
 iP 15 (.bin .neq (.i .i64) (.t 14) (.c (i64 0)))])
 (.cond (.t 15)
 (.seq
 (.reg [
 iM 16 5,
 iM 4 16])
 .ret)
 .skip)))
 (.seq
 (.reg [
 iC 17 79 [(.c (i64 1))],
 iE 6 (.alc 78 [bl false,.val (.slice none 0 0),.val (.slice none 0 0)]),
 ⟨none,none,.e (.st 3 (.t 6) (.t 17))⟩])
 (.seq
 (.seq
 (.reg [
 iP 7 (.mov (.c (i64 0)))])
 (.blk 0
 (.loop Qiz)))
 (.seq
 (.reg [
 iP 4 (.mov (.c (i64 0)))])
 .ret)))))
def r50:List RS:=[.t 4]
theorem c50:Qi Tryz.prog Qb Tryz.f50 i50 r50=true:=by kernel_rfl
def i51:IC :=
 (.seq
 (.reg [
 iE 1 (.box 26 (.t 0)),
 iP 2 (.mov (.c (i64 0)))])
 (.seq
 (.reg [
 iP 6 (.ldn 3 (.t 1)),
 iC 7 83 [.t 6],
 iM 5 7,
 iP 8 (.ext (.t 5) 0),
 iP 9 (.ext (.t 5) 1),
 iM 3 8,
 iM 4 9])
 (.seq
 (.reg [
 iM 10 4,
 iM 2 10])
 .ret)))
def r51:List RS:=[.t 2]
theorem c51:Qi Tryz.prog Qb Tryz.f51 i51 r51=true:=by kernel_rfl
def QhY:IC:=.keep [1,6,9,10,34,35,36]
 (.seq
 (.reg [
 iP 37 (.bin .lss (.i .i64) (.t 36) (.t 35))])
 (.seq
 (.cond (.t 37)
 .skip
 (.exit 0))
 (.seq
 (.blk 1
 (.seq
 (.reg [
 iM 38 36,
 iP 39 (.ia 1 (.t 34) (.t 36)),
 iL 40 39,
 iM 11 38,
 iM 12 40])
 (.seq
 (.reg [
 iM 41 6,
 iP 42 (.nck (.t 41)),
 iF 43 0 42,
 iF 44 2 43,
 iL 45 44,
 iM 46 11,
 iP 47 (.ia 2 (.t 45) (.t 46)),
 iF 48 0 47,
 iL 49 48,
 iM 50 1,
 iP 51 (.bin .eql (.i .i64) (.t 49) (.t 50)),
 iM 52 51,
 iG 53 52 true (.ldn 2 (.t 10)),
 iG 54 52 true (.mov (.t 11)),
 iG 55 52 true (.mov (.t 12)),
 ⟨(some 56),(some (52,true)),.e (.call (.c (.fn (.func 87) [] [])) [(.t 53),(.t 54),(.t 55)])⟩,
 iG 57 52 true (.not (.t 56)),
 iP 58 (.pick (.t 52) (.t 57) (.c (bl false)))])
 (.cond (.t 58)
 (.exit 0)
 .skip))))
 (.reg [
 iP 59 (.bin .add (.i .i64) (.t 36) (.c (i64 1))),
 iM 36 59]))))
def i52:IC :=
 (.seq
 (.reg [
 iE 2 (.box 26 (.t 0)),
 iP 4 (.mov (.c (bl false))),
 iP 5 (.mov (.c (i64 0)))])
 (.seq
 (.reg [
 iP 14 (.ldn 3 (.t 2)),
 iC 15 83 [.t 14],
 iM 13 15,
 iP 16 (.ext (.t 13) 0),
 iP 17 (.ext (.t 13) 1),
 iM 6 16,
 iM 7 17])
 (.seq
 (.seq
 (.reg [
 iM 18 7,
 iP 19 (.bin .neq (.i .i64) (.t 18) (.c (i64 0)))])
 (.cond (.t 19)
 (.seq
 (.reg [
 iM 20 7,
 iP 4 (.mov (.c (bl false))),
 iM 5 20])
 .ret)
 .skip))
 (.seq
 (.seq
 (.reg [
 iF 21 0 2,
 iL 22 21,
 iP 23 (.bin .sub (.i .i64) (.t 22) (.c (i64 1))),
 iM 24 1,
 iE 25 (.bsl 3 1 1 [i64 0] [(0,(.t 24))]),
 iC 26 84 [(.c (i64 0)),.t 23,.t 25],
 iM 8 26])
 (.seq
 (.reg [
 iM 27 8,
 iP 28 (.bin .neq (.i .i64) (.t 27) (.c (i64 0)))])
 (.cond (.t 28)
 (.seq
 (.reg [
 iM 29 8,
 iP 4 (.mov (.c (bl false))),
 iM 5 29])
 .ret)
 .skip)))
 (.seq
 (.reg [
 iE 9 (.alc 4 [bl false]),
 ⟨none,none,.e (.st 1 (.t 9) (.c (bl true)))⟩])
 (.seq
 (.reg [
 iM 30 6,
 iP 31 (.mkf (.func 85) [] [(.t 9)]),
 iP 32 (.bld [.val (.pointer none),.val .nilFunc] [(0,1,(.t 30)),(1,1,(.t 31))]),
 iE 10 (.alc 136 [.val (.pointer none),.val .nilFunc]),
 ⟨none,none,.e (.st 2 (.t 10) (.t 32))⟩])
 (.seq
 (.seq
 (.reg [
 iM 33 6,
 iC 34 86 [.t 33],
 iP 35 (.len (.t 34)),
 iP 36 (.mov (.c (i64 0)))])
 (.blk 0
 (.loop QhY)))
 (.seq
 (.reg [
 iL 60 9,
 iM 4 60,
 iP 5 (.mov (.c (i64 0)))])
 .ret))))))))
def r52:List RS:=[.t 4,.t 5]
theorem c52:Qi Tryz.prog Qb Tryz.f52 i52 r52=true:=by kernel_rfl
def i53:IC :=
 (.seq
 (.reg [
 iP 4 (.mov (.c (i64 0)))])
 (.seq
 (.drw [0,1,2,3,4,5,6,7,8] [
 iL 5 1,
 iM 6 0,
 iP 7 (.ia 1 (.t 5) (.t 6)),
 iL 8 7,
 iP 9 (.mm true .i64 (.t 8) (.c (i64 0))),
 iP 10 (.bin .mul (.i .i64) (.c (i64 65536)) (.t 9)),
 iL 11 2,
 iP 12 (.bin .rem (.i .i64) (.t 10) (.t 11)),
 iM 4 12])
 .ret))
def r53:List RS:=[.t 4]
theorem c53:Qi Tryz.prog Qb Tryz.f53 i53 r53=true:=by kernel_rfl
def i54:IC :=
 (.reg [
 iM 4 0,
 iM 5 0,
 iP 6 (.len (.t 5)),
 iM 7 1,
 iC 8 88 [.t 4,.t 6,.t 7]])
def r54:List RS:=[]
theorem c54:Qi Tryz.prog Qb Tryz.f54 i54 r54=true:=by kernel_rfl
def i55:IC :=
 (.seq
 (.reg [
 iP 5 (.mov (.c (i64 0)))])
 (.seq
 (.drw [0,1,3,4,2,5,6,7] [
 iL 6 2,
 iM 7 1,
 iL 9 2,
 iM 10 0,
 iE 8 (.call (.t 6) [(.t 7)]),
 iE 11 (.call (.t 9) [(.t 10)]),
 iP 12 (.bin .sub (.i .i64) (.t 8) (.t 11)),
 iM 5 12])
 .ret))
def r55:List RS:=[.t 5]
theorem c55:Qi Tryz.prog Qb Tryz.f55 i55 r55=true:=by kernel_rfl
def i56:IC :=
 (.seq
 (.reg [
 iP 2 (.mov (.c (.val (.slice none 0 0))))])
 (.seq
 (.seq
 (.reg [
 iM 3 0,
 iE 4 (.snil false true (.t 3))])
 (.cond (.t 4)
 (.seq
 (.reg [
 iP 2 (.mov (.c (.val (.slice none 0 0))))])
 .ret)
 .skip))
 (.seq
 (.reg [
 iE 5 (.bsl 3 1 0 [i64 0] []),
 iM 6 0,
 iE 7 (.app 3 1 8 (.t 5) (.t 6)),
 iM 2 7])
 .ret)))
def r56:List RS:=[.t 2]
theorem c56:Qi Tryz.prog Qb Tryz.f56 i56 r56=true:=by kernel_rfl
def Qiu:IC:=.keep [0,1,5,31,32,33]
 (.seq
 (.reg [
 iP 34 (.bin .lss (.i .i64) (.t 33) (.t 32))])
 (.seq
 (.cond (.t 34)
 .skip
 (.exit 0))
 (.seq
 (.blk 1
 (.seq
 (.reg [
 iM 35 33,
 iP 36 (.ia 1 (.t 31) (.t 33)),
 iL 37 36,
 iM 6 35,
 iM 7 37])
 (.reg [
 iM 38 6,
 iM 39 7,
 iP 40 (.bin .mul (.i .i64) (.t 39) (.c (i64 1024))),
 iP 41 (.iap 4 1 (.t 5) (.t 38)),
 ⟨none,none,.e (.st 1 (.t 41) (.t 40))⟩])))
 (.reg [
 iP 42 (.bin .add (.i .i64) (.t 33) (.c (i64 1))),
 iM 33 42]))))
def QgR:IC:=.keep [0,1,5,10,11,12,53,54,55,71,72]
 (.seq
 (.reg [
 iP 73 (.bin .lss (.i .i64) (.t 72) (.t 71))])
 (.seq
 (.cond (.t 73)
 .skip
 (.exit 4))
 (.seq
 (.blk 5
 (.seq
 (.reg [
 iM 74 72,
 iM 13 74])
 (.drw [0,1,2,3,4,5,6,7,8,9,10,11,12,13,14,15,16] [
 iM 75 13,
 iP 76 (.iap 4 1 (.t 5) (.t 75)),
 iL 77 76,
 iM 78 0,
 iP 79 (.nck (.t 78)),
 iF 80 10 79,
 iL 81 80,
 iM 82 10,
 iM 83 13,
 iP 84 (.ia 4 (.t 81) (.t 82)),
 iP 85 (.iap 4 1 (.t 84) (.t 83)),
 iL 86 85,
 iM 87 11,
 iP 88 (.bin .mul (.i .i64) (.t 86) (.t 87)),
 iP 89 (.bin .add (.i .i64) (.t 77) (.t 88)),
 iP 90 (.iap 4 1 (.t 5) (.t 75)),
 ⟨none,none,.e (.st 1 (.t 90) (.t 89))⟩])))
 (.reg [
 iP 91 (.bin .add (.i .i64) (.t 72) (.c (i64 1))),
 iM 72 91]))))
def QgA:IC:=.keep [0,1,5,8,53,54,55]
 (.seq
 (.reg [
 iP 56 (.bin .lss (.i .i64) (.t 55) (.t 54))])
 (.seq
 (.cond (.t 56)
 .skip
 (.exit 2))
 (.seq
 (.blk 3
 (.seq
 (.reg [
 iM 57 55,
 iP 58 (.ia 1 (.t 53) (.t 55)),
 iL 59 58,
 iM 9 57,
 iM 10 59])
 (.seq
 (.reg [
 iM 61 0,
 iM 62 1,
 iM 63 9,
 iC 64 89 [.t 61,.t 62,.t 63],
 iM 60 64,
 iP 65 (.ext (.t 60) 0),
 iP 66 (.ext (.t 60) 1),
 iM 11 65,
 iM 12 66])
 (.seq
 (.seq
 (.reg [
 iM 67 0,
 iP 68 (.nck (.t 67)),
 iF 69 0 68,
 iF 70 0 69,
 iL 71 70,
 iP 72 (.mov (.c (i64 0)))])
 (.blk 4
 (.loop QgR)))
 (.reg [
 iM 92 12,
 iM 8 92])))))
 (.reg [
 iP 93 (.bin .add (.i .i64) (.t 55) (.c (i64 1))),
 iM 55 93]))))
def QgM:IC:=.keep [0,1,5,8,98,99]
 (.seq
 (.reg [
 iP 100 (.bin .lss (.i .i64) (.t 99) (.t 98))])
 (.seq
 (.cond (.t 100)
 .skip
 (.exit 6))
 (.seq
 (.blk 7
 (.seq
 (.reg [
 iM 101 99,
 iM 14 101])
 (.reg [
 iM 102 14,
 iP 103 (.iap 4 1 (.t 5) (.t 102)),
 iL 104 103,
 iM 105 8,
 iP 106 (.bin .quo (.i .i64) (.t 104) (.t 105)),
 iP 107 (.iap 4 1 (.t 5) (.t 102)),
 ⟨none,none,.e (.st 1 (.t 107) (.t 106))⟩])))
 (.reg [
 iP 108 (.bin .add (.i .i64) (.t 99) (.c (i64 1))),
 iM 99 108]))))
def i57:IC :=
 (.seq
 (.reg [
 iM 15 0,
 iP 16 (.nck (.t 15)),
 iF 17 0 16,
 iF 18 1 17,
 iL 19 18,
 iM 20 1,
 iP 21 (.ia 6 (.t 19) (.t 20)),
 iM 4 21])
 (.seq
 (.reg [
 iP 22 (.bld [i64 0,i64 0,i64 0,i64 0] []),
 iE 5 (.alc 105 [i64 0,i64 0,i64 0,i64 0]),
 ⟨none,none,.e (.st 4 (.t 5) (.t 22))⟩])
 (.seq
 (.seq
 (.reg [
 iM 23 4,
 iP 24 (.nck (.t 23)),
 iF 25 0 24,
 iL 26 25,
 iP 27 (.bin .eql (.i .i64) (.t 26) (.c (i64 3)))])
 (.cond (.t 27)
 (.seq
 (.seq
 (.reg [
 iM 28 4,
 iP 29 (.nck (.t 28)),
 iF 30 5 29,
 iL 31 30,
 iP 32 (.len (.t 31)),
 iP 33 (.mov (.c (i64 0)))])
 (.blk 0
 (.loop Qiu)))
 (.seq
 (.drw [0,1,2,3,4,5,6,7] [
 iM 43 0,
 iP 44 (.nck (.t 43)),
 iF 45 10 44,
 iL 46 45,
 iM 47 1,
 iP 48 (.ldn 4 (.t 5)),
 iP 49 (.ia 4 (.t 46) (.t 47)),
 ⟨none,none,.e (.st 4 (.t 49) (.t 48))⟩])
 .ret))
 .skip))
 (.seq
 (.reg [
 iP 8 (.mov (.c (i64 1)))])
 (.seq
 (.seq
 (.reg [
 iM 50 4,
 iP 51 (.nck (.t 50)),
 iF 52 3 51,
 iL 53 52,
 iP 54 (.len (.t 53)),
 iP 55 (.mov (.c (i64 0)))])
 (.blk 2
 (.loop QgA)))
 (.seq
 (.seq
 (.reg [
 iM 94 0,
 iP 95 (.nck (.t 94)),
 iF 96 0 95,
 iF 97 0 96,
 iL 98 97,
 iP 99 (.mov (.c (i64 0)))])
 (.blk 6
 (.loop QgM)))
 (.drw [0,1,2,3,4,5,6,7] [
 iM 109 0,
 iP 110 (.nck (.t 109)),
 iF 111 10 110,
 iL 112 111,
 iM 113 1,
 iP 114 (.ldn 4 (.t 5)),
 iP 115 (.ia 4 (.t 112) (.t 113)),
 ⟨none,none,.e (.st 4 (.t 115) (.t 114))⟩])))))))
def r57:List RS:=[]
theorem c57:Qi Tryz.prog Qb Tryz.f57 i57 r57=true:=by kernel_rfl
def Qhu:IC:=.keep [0,1,4,6,7,8,20,21,22,64,65]
 (.seq
 (.reg [
 iP 66 (.bin .lss (.i .i64) (.t 65) (.t 64))])
 (.seq
 (.cond (.t 66)
 .skip
 (.exit 2))
 (.seq
 (.blk 3
 (.seq
 (.reg [
 iM 67 65,
 iM 9 67])
 (.seq
 (.reg [
 iM 68 4,
 iP 69 (.nck (.t 68)),
 iF 70 0 69,
 iL 71 70,
 iP 72 (.bin .eql (.i .i64) (.t 71) (.c (i64 2))),
 iM 73 72,
 iG 74 73 true (.mov (.t 4)),
 iG 75 73 true (.nck (.t 74)),
 iG 76 73 true (.fa 1 (.t 75)),
 iG 77 73 true (.ld1 (.t 76)),
 iG 78 73 true (.mov (.t 9)),
 iG 79 73 true (.bin .eql (.i .i64) (.t 77) (.t 78)),
 iP 80 (.pick (.t 73) (.t 79) (.c (bl false)))])
 (.cond (.t 80)
 (.drw [0,1,2,3,4,5,6,7,8,9,10,11,12,13,14,15,16,17,18,19,20,21] [
 iM 81 0,
 iP 82 (.nck (.t 81)),
 iF 83 12 82,
 iL 84 83,
 iM 85 6,
 iM 86 9,
 iM 87 0,
 iP 88 (.nck (.t 87)),
 iF 89 12 88,
 iL 90 89,
 iM 91 1,
 iM 92 9,
 iP 93 (.ia 4 (.t 90) (.t 91)),
 iP 94 (.iap 4 1 (.t 93) (.t 92)),
 iL 95 94,
 iM 96 7,
 iP 97 (.bin .mul (.i .i64) (.t 95) (.t 96)),
 iM 98 8,
 iP 99 (.bin .quo (.i .i64) (.t 97) (.t 98)),
 iP 100 (.ia 4 (.t 84) (.t 85)),
 iP 101 (.iap 4 1 (.t 100) (.t 86)),
 ⟨none,none,.e (.st 1 (.t 101) (.t 99))⟩])
 (.drw [0,1,2,3,4,5,6,7,8,9,10,11,12,13,14,15,16,17,18,19,20,21] [
 iM 102 0,
 iP 103 (.nck (.t 102)),
 iF 104 11 103,
 iL 105 104,
 iM 106 6,
 iM 107 9,
 iM 108 0,
 iP 109 (.nck (.t 108)),
 iF 110 11 109,
 iL 111 110,
 iM 112 1,
 iM 113 9,
 iP 114 (.ia 4 (.t 111) (.t 112)),
 iP 115 (.iap 4 1 (.t 114) (.t 113)),
 iL 116 115,
 iM 117 7,
 iP 118 (.bin .mul (.i .i64) (.t 116) (.t 117)),
 iM 119 8,
 iP 120 (.bin .quo (.i .i64) (.t 118) (.t 119)),
 iP 121 (.ia 4 (.t 105) (.t 106)),
 iP 122 (.iap 4 1 (.t 121) (.t 107)),
 ⟨none,none,.e (.st 1 (.t 122) (.t 120))⟩])))))
 (.reg [
 iP 123 (.bin .add (.i .i64) (.t 65) (.c (i64 1))),
 iM 65 123]))))
def Qhr:IC:=.keep [0,1,4,20,21,22]
 (.seq
 (.reg [
 iP 23 (.bin .lss (.i .i64) (.t 22) (.t 21))])
 (.seq
 (.cond (.t 23)
 .skip
 (.exit 0))
 (.seq
 (.blk 1
 (.seq
 (.reg [
 iM 24 22,
 iP 25 (.ia 1 (.t 20) (.t 22)),
 iL 26 25,
 iM 5 24,
 iM 6 26])
 (.seq
 (.reg [
 iM 28 0,
 iM 29 1,
 iM 30 5,
 iC 31 89 [.t 28,.t 29,.t 30],
 iM 27 31,
 iP 32 (.ext (.t 27) 0),
 iP 33 (.ext (.t 27) 1),
 iM 7 32,
 iM 8 33])
 (.seq
 (.drw [0,1,2,3,4,5,6,7,8,9,10,11,12,13,14,15,16,17,18,19,20,21,22,23,24,25,26,27] [
 iM 34 0,
 iP 35 (.nck (.t 34)),
 iF 36 11 35,
 iL 37 36,
 iM 38 6,
 iM 39 0,
 iP 40 (.nck (.t 39)),
 iF 41 12 40,
 iL 42 41,
 iM 43 6,
 iM 44 0,
 iP 45 (.nck (.t 44)),
 iF 46 11 45,
 iL 47 46,
 iM 48 1,
 iP 49 (.ia 4 (.t 47) (.t 48)),
 iP 50 (.ldn 4 (.t 49)),
 iM 51 0,
 iP 52 (.nck (.t 51)),
 iF 53 12 52,
 iL 54 53,
 iM 55 1,
 iP 56 (.ia 4 (.t 54) (.t 55)),
 iP 57 (.ldn 4 (.t 56)),
 iP 58 (.ia 4 (.t 37) (.t 38)),
 ⟨none,none,.e (.stw [57,54,42] 4 (.t 58) (.t 50))⟩,
 iP 59 (.ia 4 (.t 42) (.t 43)),
 ⟨none,none,.e (.stw [50,47,37] 4 (.t 59) (.t 57))⟩])
 (.seq
 (.reg [
 iM 60 0,
 iP 61 (.nck (.t 60)),
 iF 62 0 61,
 iF 63 0 62,
 iL 64 63,
 iP 65 (.mov (.c (i64 0)))])
 (.blk 2
 (.loop Qhu)))))))
 (.reg [
 iP 124 (.bin .add (.i .i64) (.t 22) (.c (i64 1))),
 iM 22 124]))))
def i58:IC :=
 (.seq
 (.reg [
 iM 10 0,
 iP 11 (.nck (.t 10)),
 iF 12 0 11,
 iF 13 1 12,
 iL 14 13,
 iM 15 1,
 iP 16 (.ia 6 (.t 14) (.t 15)),
 iM 4 16])
 (.seq
 (.reg [
 iM 17 4,
 iP 18 (.nck (.t 17)),
 iF 19 3 18,
 iL 20 19,
 iP 21 (.len (.t 20)),
 iP 22 (.mov (.c (i64 0)))])
 (.blk 0
 (.loop Qhr))))
def r58:List RS:=[]
theorem c58:Qi Tryz.prog Qb Tryz.f58 i58 r58=true:=by kernel_rfl
def QgL:IC:=.keep [0,1,5,6,39,40,41]
 (.seq
 (.reg [
 iP 42 (.bin .lss (.i .i64) (.t 41) (.t 40))])
 (.seq
 (.cond (.t 42)
 .skip
 (.exit 0))
 (.seq
 (.blk 1
 (.seq
 (.reg [
 iM 43 41,
 iP 44 (.ia 1 (.t 39) (.t 41)),
 iL 45 44,
 iM 7 43,
 iM 8 45])
 (.drw [0,1,2,3,4,5,6,7,8,9,10,11,12,13,14,15,16,17,18,19,20,21,22,23,24,25,26,27,28,29,30,31,32,33,34,35,36] [
 iM 46 5,
 iM 47 7,
 iP 48 (.ia 1 (.t 46) (.t 47)),
 iL 49 48,
 iM 50 0,
 iP 51 (.nck (.t 50)),
 iF 52 11 51,
 iL 53 52,
 iM 54 1,
 iM 55 6,
 iP 56 (.ia 4 (.t 53) (.t 54)),
 iP 57 (.iap 4 1 (.t 56) (.t 55)),
 iL 58 57,
 iM 59 0,
 iP 60 (.nck (.t 59)),
 iF 61 10 60,
 iL 62 61,
 iM 63 8,
 iM 64 6,
 iP 65 (.ia 4 (.t 62) (.t 63)),
 iP 66 (.iap 4 1 (.t 65) (.t 64)),
 iL 67 66,
 iM 68 0,
 iP 69 (.nck (.t 68)),
 iF 70 10 69,
 iL 71 70,
 iM 72 1,
 iM 73 6,
 iP 74 (.ia 4 (.t 71) (.t 72)),
 iP 75 (.iap 4 1 (.t 74) (.t 73)),
 iL 76 75,
 iP 77 (.bin .sub (.i .i64) (.t 67) (.t 76)),
 iP 78 (.bin .mul (.i .i64) (.t 58) (.t 77)),
 iP 79 (.bin .quo (.i .i64) (.t 78) (.c (i64 1073741824))),
 iP 80 (.bin .add (.i .i64) (.t 49) (.t 79)),
 iP 81 (.ia 1 (.t 46) (.t 47)),
 ⟨none,none,.e (.st 1 (.t 81) (.t 80))⟩])))
 (.reg [
 iP 82 (.bin .add (.i .i64) (.t 41) (.c (i64 1))),
 iM 41 82]))))
def i59:IC :=
 (.seq
 (.reg [
 iM 9 0,
 iP 10 (.nck (.t 9)),
 iF 11 0 10,
 iF 12 1 11,
 iL 13 12,
 iM 14 1,
 iP 15 (.ia 6 (.t 13) (.t 14)),
 iM 4 15])
 (.seq
 (.seq
 (.reg [
 iM 16 4,
 iP 17 (.nck (.t 16)),
 iF 18 0 17,
 iL 19 18,
 iP 20 (.bin .neq (.i .i64) (.t 19) (.c (i64 2)))])
 (.cond (.t 20)
 .ret
 .skip))
 (.seq
 (.drw [0,1,2,3,4,5,6,7,8,9,10,11,12,13,14,15,16] [
 iM 21 0,
 iP 22 (.nck (.t 21)),
 iF 23 5 22,
 iF 24 2 23,
 iL 25 24,
 iM 26 4,
 iP 27 (.nck (.t 26)),
 iF 28 2 27,
 iL 29 28,
 iP 30 (.ia 1 (.t 25) (.t 29)),
 iL 31 30,
 iM 32 4,
 iP 33 (.nck (.t 32)),
 iF 34 1 33,
 iL 35 34,
 iM 5 31,
 iM 6 35])
 (.seq
 (.reg [
 iM 36 4,
 iP 37 (.nck (.t 36)),
 iF 38 3 37,
 iL 39 38,
 iP 40 (.len (.t 39)),
 iP 41 (.mov (.c (i64 0)))])
 (.blk 0
 (.loop QgL))))))
def r59:List RS:=[]
theorem c59:Qi Tryz.prog Qb Tryz.f59 i59 r59=true:=by kernel_rfl
def Qi9:IC:=.keep [0,2,10,11,21,22,23]
 (.seq
 (.reg [
 iP 24 (.bin .lss (.i .i64) (.t 23) (.t 22))])
 (.seq
 (.cond (.t 24)
 .skip
 (.exit 2))
 (.seq
 (.blk 3
 (.seq
 (.reg [
 iM 25 23,
 iP 26 (.ia 1 (.t 21) (.t 23)),
 iL 27 26,
 iM 3 25,
 iM 4 27])
 (.seq
 (.reg [
 iM 28 4,
 iP 29 (.bin .lss (.i .i64) (.t 28) (.c (i64 (-70368744177664)))),
 iM 30 29,
 iG 31 30 false (.mov (.t 4)),
 iG 32 30 false (.bin .gtr (.i .i64) (.t 31) (.c (i64 70368744177664))),
 iP 33 (.pick (.t 30) (.c (bl true)) (.t 32)),
 iM 34 33,
 iG 35 34 false (.mov (.t 0)),
 iG 36 34 false (.nck (.t 35)),
 iG 37 34 false (.fa 5 (.t 36)),
 iG 38 34 false (.fa 3 (.t 37)),
 iG 39 34 false (.ld1 (.t 38)),
 iG 40 34 false (.mov (.t 2)),
 iG 41 34 false (.ia 1 (.t 39) (.t 40)),
 iG 42 34 false (.ld1 (.t 41)),
 iG 43 34 false (.mov (.t 3)),
 iG 44 34 false (.ia 1 (.t 42) (.t 43)),
 iG 45 34 false (.ld1 (.t 44)),
 iG 46 34 false (.bin .gtr (.i .i64) (.t 45) (.c (i64 70368744177664))),
 iP 47 (.pick (.t 34) (.c (bl true)) (.t 46))])
 (.cond (.t 47)
 (.reg [
 iP 48 (.bld [i64 0] [(0,1,(.c (i64 5)))]),
 iP 49 (.mki 65 (.t 48)),
 ⟨none,none,.e (.pan (.t 49))⟩])
 .skip))))
 (.reg [
 iP 50 (.bin .add (.i .i64) (.t 23) (.c (i64 1))),
 iM 23 50]))))
def QhJ:IC:=.keep [0,10,11]
 (.seq
 (.reg [
 iP 12 (.bin .lss (.i .i64) (.t 11) (.t 10))])
 (.seq
 (.cond (.t 12)
 .skip
 (.exit 0))
 (.seq
 (.blk 1
 (.seq
 (.reg [
 iM 13 11,
 iM 2 13])
 (.seq
 (.reg [
 iM 14 0,
 iP 15 (.nck (.t 14)),
 iF 16 5 15,
 iF 17 2 16,
 iL 18 17,
 iM 19 2,
 iP 20 (.ia 1 (.t 18) (.t 19)),
 iL 21 20,
 iP 22 (.len (.t 21)),
 iP 23 (.mov (.c (i64 0)))])
 (.blk 2
 (.loop Qi9)))))
 (.reg [
 iP 51 (.bin .add (.i .i64) (.t 11) (.c (i64 1))),
 iM 11 51]))))
def i60:IC :=
 (.seq
 (.reg [
 iM 5 0,
 iP 6 (.nck (.t 5)),
 iF 7 5 6,
 iF 8 2 7,
 iL 9 8,
 iP 10 (.len (.t 9)),
 iP 11 (.mov (.c (i64 0)))])
 (.blk 0
 (.loop QhJ)))
def r60:List RS:=[]
theorem c60:Qi Tryz.prog Qb Tryz.f60 i60 r60=true:=by kernel_rfl
def i61:IC :=
 (.seq
 (.reg [
 iE 6 (.alc 78 [bl false,.val (.slice none 0 0),.val (.slice none 0 0)])])
 (.seq
 (.seq
 (.reg [
 iM 8 1,
 iP 9 (.len (.t 8)),
 iP 10 (.bin .eql (.i .i64) (.t 9) (.c (i64 0)))])
 (.cond (.t 10)
 (.seq
 (.reg [
 iC 11 90 [],
 ⟨none,none,.e (.st 3 (.t 6) (.t 11))⟩])
 .ret)
 .skip))
 (.seq
 (.seq
 (.reg [
 iM 12 1,
 iP 13 (.len (.t 12)),
 iP 14 (.bin .leq (.i .i64) (.t 13) (.c (i64 2))),
 iM 15 14,
 iG 16 15 true (.mov (.t 2)),
 iG 17 15 true (.len (.t 16)),
 iG 18 15 true (.bin .leq (.i .i64) (.t 17) (.c (i64 2))),
 iP 19 (.pick (.t 15) (.t 18) (.c (bl false)))])
 (.cond (.t 19)
 (.seq
 (.reg [
 iM 20 0,
 iM 21 1,
 iC 22 92 [.t 21],
 iM 23 2,
 iC 24 92 [.t 23],
 iC 25 91 [.t 20,.t 22,.t 24],
 ⟨none,none,.e (.st 3 (.t 6) (.t 25))⟩])
 .ret)
 .skip))
 (.seq
 (.reg [
 iM 26 1,
 iM 27 2,
 iC 28 93 [.t 26,.t 27],
 iM 7 28])
 (.seq
 (.reg [
 iM 29 0,
 iM 30 1,
 iM 31 7,
 iC 32 95 [.t 30,.t 31],
 iC 33 94 [.t 32],
 iM 34 2,
 iM 35 7,
 iC 36 95 [.t 34,.t 35],
 iC 37 94 [.t 36],
 iP 38 (.bld [bl false,.val (.slice none 0 0),.val (.slice none 0 0)] [(0,1,(.t 29)),(1,1,(.t 33)),(2,1,(.t 37))]),
 ⟨none,none,.e (.st 3 (.t 6) (.t 38))⟩])
 .ret)))))
def r61:List RS:=[.cn 6 3]
theorem c61:Qi Tryz.prog Qb Tryz.f61 i61 r61=true:=by kernel_rfl
def Qg8:IC:=.keep [0,3]
 (.seq
 (.seq
 (.reg [
 iM 4 0,
 iP 5 (.bin .gtr (.i .u64) (.t 4) (.c (.val (.int .u64 0))))])
 (.cond (.t 5)
 .skip
 (.exit 0)))
 (.blk 1
 (.seq
 (.reg [
 iM 6 3,
 iM 7 0,
 iP 8 (.bin .rem (.i .u64) (.t 7) (.c (.val (.int .u64 1000000000)))),
 iP 9 (.cvi .u32 (.t 8)),
 iE 10 (.bsl 114 1 1 [.val (.int .u32 0)] [(0,(.t 9))]),
 iE 11 (.app 114 1 4 (.t 6) (.t 10)),
 iM 3 11])
 (.reg [
 iM 12 0,
 iP 13 (.bin .quo (.i .u64) (.t 12) (.c (.val (.int .u64 1000000000)))),
 iM 0 13]))))
def i62:IC :=
 (.seq
 (.reg [
 iP 2 (.mov (.c (.val (.slice none 0 0))))])
 (.seq
 (.reg [
 iE 3 (.nil 114 1 (.c (.val (.slice none 0 0))))])
 (.seq
 (.blk 0
 (.loop Qg8))
 (.seq
 (.reg [
 iM 14 3,
 iM 2 14])
 .ret))))
def r62:List RS:=[.t 2]
theorem c62:Qi Tryz.prog Qb Tryz.f62 i62 r62=true:=by kernel_rfl
def i63:IC :=
 (.seq
 (.reg [
 iP 2 (.mov (.c (.val (.int .u64 0))))])
 (.seq
 (.seq
 (.reg [
 iM 3 0,
 iP 4 (.bin .lss (.i .i64) (.t 3) (.c (i64 0)))])
 (.cond (.t 4)
 (.seq
 (.reg [
 iM 5 0,
 iP 6 (.cvi .u64 (.t 5)),
 iP 7 (.neg .u64 (.t 6)),
 iM 2 7])
 .ret)
 .skip))
 (.seq
 (.reg [
 iM 8 0,
 iP 9 (.cvi .u64 (.t 8)),
 iM 2 9])
 .ret)))
def r63:List RS:=[.t 2]
theorem c63:Qi Tryz.prog Qb Tryz.f63 i63 r63=true:=by kernel_rfl
def QiS:IC:=.keep [3,5]
 (.seq
 (.seq
 (.reg [
 iM 46 5,
 iF 47 4 3,
 iL 48 47,
 iP 49 (.len (.t 48)),
 iP 50 (.bin .lss (.i .i64) (.t 46) (.t 49))])
 (.cond (.t 50)
 .skip
 (.exit 1)))
 (.seq
 (.blk 2
 (.seq
 (.reg [
 iF 53 4 3,
 iL 54 53,
 iM 55 5,
 iP 56 (.ia 1 (.t 54) (.t 55)),
 iL 57 56,
 iP 58 (.bin .lss (.i .i64) (.t 57) (.c (i64 1))),
 iM 59 58,
 iG 60 59 false (.fa 4 (.t 3)),
 iG 61 59 false (.ld1 (.t 60)),
 iG 62 59 false (.mov (.t 5)),
 iG 63 59 false (.ia 1 (.t 61) (.t 62)),
 iG 64 59 false (.ld1 (.t 63)),
 iG 65 59 false (.bin .gtr (.i .i64) (.t 64) (.c (i64 1000))),
 iP 66 (.pick (.t 59) (.c (bl true)) (.t 65))])
 (.cond (.t 66)
 (.seq
 (.reg [
 iP 4 (.mov (.c (i64 2)))])
 .ret)
 .skip)))
 (.reg [
 iM 51 5,
 iP 52 (.bin .add (.i .i64) (.t 51) (.c (i64 1))),
 iM 5 52])))
def QiU:IC:=.keep [3,6]
 (.seq
 (.seq
 (.reg [
 iM 144 6,
 iF 145 5 3,
 iL 146 145,
 iP 147 (.len (.t 146)),
 iP 148 (.bin .lss (.i .i64) (.t 144) (.t 147))])
 (.cond (.t 148)
 .skip
 (.exit 3)))
 (.seq
 (.blk 4
 (.seq
 (.reg [
 iF 151 5 3,
 iL 152 151,
 iM 153 6,
 iP 154 (.ia 1 (.t 152) (.t 153)),
 iL 155 154,
 iP 156 (.bin .lss (.i .i64) (.t 155) (.c (i64 (-1000000)))),
 iM 157 156,
 iG 158 157 false (.fa 5 (.t 3)),
 iG 159 157 false (.ld1 (.t 158)),
 iG 160 157 false (.mov (.t 6)),
 iG 161 157 false (.ia 1 (.t 159) (.t 160)),
 iG 162 157 false (.ld1 (.t 161)),
 iG 163 157 false (.bin .gtr (.i .i64) (.t 162) (.c (i64 1000000))),
 iP 164 (.pick (.t 157) (.c (bl true)) (.t 163))])
 (.cond (.t 164)
 (.seq
 (.reg [
 iP 4 (.mov (.c (i64 2)))])
 .ret)
 .skip)))
 (.reg [
 iM 149 6,
 iP 150 (.bin .add (.i .i64) (.t 149) (.c (i64 1))),
 iM 6 150])))
def Qfm:IC :=
 (.seq
 (.reg [
 iE 2 (.box 26 (.t 0)),
 iE 3 (.box 57 (.t 1)),
 iP 4 (.mov (.c (i64 0)))])
 (.seq
 (.seq
 (.reg [
 iF 7 0 3,
 iL 8 7])
 (.blk 0
 (.seq
 (.reg [
 iP 10 (.bin .eql (.i .i64) (.t 8) (.c (i64 1))),
 iM 9 10])
 (.cond (.t 9)
 (.seq
 (.seq
 (.reg [
 iF 11 1 3,
 iL 12 11,
 iP 13 (.bin .neq (.i .i64) (.t 12) (.c (i64 0))),
 iM 14 13,
 iG 15 14 false (.fa 2 (.t 3)),
 iG 16 14 false (.ld1 (.t 15)),
 iG 17 14 false (.bin .neq (.i .i64) (.t 16) (.c (i64 0))),
 iP 18 (.pick (.t 14) (.c (bl true)) (.t 17)),
 iM 19 18,
 iG 20 19 false (.fa 5 (.t 3)),
 iG 21 19 false (.ld1 (.t 20)),
 iG 22 19 false (.len (.t 21)),
 iG 23 19 false (.bin .gtr (.i .i64) (.t 22) (.c (i64 0))),
 iP 24 (.pick (.t 19) (.c (bl true)) (.t 23)),
 iM 25 24,
 iG 26 25 false (.fa 3 (.t 3)),
 iG 27 25 false (.ld1 (.t 26)),
 iG 28 25 false (.len (.t 27)),
 iG 29 25 false (.bin .lss (.i .i64) (.t 28) (.c (i64 1))),
 iP 30 (.pick (.t 25) (.c (bl true)) (.t 29)),
 iM 31 30,
 iG 32 31 false (.fa 3 (.t 3)),
 iG 33 31 false (.ld1 (.t 32)),
 iG 34 31 false (.len (.t 33)),
 iG 35 31 false (.bin .gtr (.i .i64) (.t 34) (.c (i64 60))),
 iP 36 (.pick (.t 31) (.c (bl true)) (.t 35)),
 iM 37 36,
 iG 38 37 false (.fa 4 (.t 3)),
 iG 39 37 false (.ld1 (.t 38)),
 iG 40 37 false (.len (.t 39)),
 iG 41 37 false (.fa 3 (.t 3)),
 iG 42 37 false (.ld1 (.t 41)),
 iG 43 37 false (.len (.t 42)),
 iG 44 37 false (.bin .neq (.i .i64) (.t 40) (.t 43)),
 iP 45 (.pick (.t 37) (.c (bl true)) (.t 44))])
 (.cond (.t 45)
 (.seq
 (.reg [
 iP 4 (.mov (.c (i64 3)))])
 .ret)
 .skip))
 (.seq
 (.reg [
 iP 5 (.mov (.c (i64 0)))])
 (.blk 1
 (.loop QiS))))
 (.seq
 (.reg [
 iP 68 (.bin .eql (.i .i64) (.t 8) (.c (i64 2))),
 iM 67 68])
 (.cond (.t 67)
 (.seq
 (.seq
 (.reg [
 iF 69 5 3,
 iL 70 69,
 iP 71 (.len (.t 70)),
 iP 72 (.bin .gtr (.i .i64) (.t 71) (.c (i64 0))),
 iM 73 72,
 iG 74 73 false (.fa 4 (.t 3)),
 iG 75 73 false (.ld1 (.t 74)),
 iG 76 73 false (.len (.t 75)),
 iG 77 73 false (.bin .gtr (.i .i64) (.t 76) (.c (i64 0))),
 iP 78 (.pick (.t 73) (.c (bl true)) (.t 77)),
 iM 79 78,
 iG 80 79 false (.fa 3 (.t 3)),
 iG 81 79 false (.ld1 (.t 80)),
 iG 82 79 false (.len (.t 81)),
 iG 83 79 false (.bin .lss (.i .i64) (.t 82) (.c (i64 1))),
 iP 84 (.pick (.t 79) (.c (bl true)) (.t 83)),
 iM 85 84,
 iG 86 85 false (.fa 3 (.t 3)),
 iG 87 85 false (.ld1 (.t 86)),
 iG 88 85 false (.len (.t 87)),
 iG 89 85 false (.bin .gtr (.i .i64) (.t 88) (.c (i64 10))),
 iP 90 (.pick (.t 85) (.c (bl true)) (.t 89))])
 (.cond (.t 90)
 (.seq
 (.reg [
 iP 4 (.mov (.c (i64 3)))])
 .ret)
 .skip))
 (.seq
 (.reg [
 iF 91 1 3,
 iL 92 91,
 iP 93 (.bin .lss (.i .i64) (.t 92) (.c (i64 0))),
 iM 94 93,
 iG 95 94 false (.fa 1 (.t 3)),
 iG 96 94 false (.ld1 (.t 95)),
 iG 97 94 false (.fa 0 (.t 2)),
 iG 98 94 false (.ld1 (.t 97)),
 iG 99 94 false (.bin .geq (.i .i64) (.t 96) (.t 98)),
 iP 100 (.pick (.t 94) (.c (bl true)) (.t 99)),
 iM 101 100,
 iG 102 101 false (.fa 2 (.t 3)),
 iG 103 101 false (.ld1 (.t 102)),
 iG 104 101 false (.bin .lss (.i .i64) (.t 103) (.c (i64 0))),
 iP 105 (.pick (.t 101) (.c (bl true)) (.t 104)),
 iM 106 105,
 iG 107 106 false (.fa 2 (.t 3)),
 iG 108 106 false (.ld1 (.t 107)),
 iG 109 106 false (.fa 2 (.t 2)),
 iG 110 106 false (.ld1 (.t 109)),
 iG 111 106 false (.len (.t 110)),
 iG 112 106 false (.bin .geq (.i .i64) (.t 108) (.t 111)),
 iP 113 (.pick (.t 106) (.c (bl true)) (.t 112))])
 (.cond (.t 113)
 (.seq
 (.reg [
 iP 4 (.mov (.c (i64 2)))])
 .ret)
 .skip)))
 (.seq
 (.reg [
 iP 115 (.bin .eql (.i .i64) (.t 8) (.c (i64 3))),
 iM 114 115])
 (.cond (.t 114)
 (.seq
 (.seq
 (.reg [
 iF 116 1 3,
 iL 117 116,
 iP 118 (.bin .neq (.i .i64) (.t 117) (.c (i64 0))),
 iM 119 118,
 iG 120 119 false (.fa 2 (.t 3)),
 iG 121 119 false (.ld1 (.t 120)),
 iG 122 119 false (.bin .neq (.i .i64) (.t 121) (.c (i64 0))),
 iP 123 (.pick (.t 119) (.c (bl true)) (.t 122)),
 iM 124 123,
 iG 125 124 false (.fa 3 (.t 3)),
 iG 126 124 false (.ld1 (.t 125)),
 iG 127 124 false (.len (.t 126)),
 iG 128 124 false (.bin .gtr (.i .i64) (.t 127) (.c (i64 0))),
 iP 129 (.pick (.t 124) (.c (bl true)) (.t 128)),
 iM 130 129,
 iG 131 130 false (.fa 4 (.t 3)),
 iG 132 130 false (.ld1 (.t 131)),
 iG 133 130 false (.len (.t 132)),
 iG 134 130 false (.bin .gtr (.i .i64) (.t 133) (.c (i64 0))),
 iP 135 (.pick (.t 130) (.c (bl true)) (.t 134)),
 iM 136 135,
 iG 137 136 false (.fa 5 (.t 3)),
 iG 138 136 false (.ld1 (.t 137)),
 iG 139 136 false (.len (.t 138)),
 iG 140 136 false (.fa 0 (.t 2)),
 iG 141 136 false (.ld1 (.t 140)),
 iG 142 136 false (.bin .neq (.i .i64) (.t 139) (.t 141)),
 iP 143 (.pick (.t 136) (.c (bl true)) (.t 142))])
 (.cond (.t 143)
 (.seq
 (.reg [
 iP 4 (.mov (.c (i64 3)))])
 .ret)
 .skip))
 (.seq
 (.reg [
 iP 6 (.mov (.c (i64 0)))])
 (.blk 3
 (.loop QiU))))
 (.seq
 (.reg [
 iP 4 (.mov (.c (i64 3)))])
 .ret)))))))))
 (.seq
 (.reg [
 iP 4 (.mov (.c (i64 0)))])
 .ret)))
def r64:List RS:=[.t 4]
theorem c64:Qi Tryz.prog Qb Tryz.f64 Qfm r64=true:=by kernel_rfl
def Qhp:IC:=.keep [1,2,3,4,9,10]
 (.seq
 (.seq
 (.reg [
 iM 25 10,
 iF 26 1 4,
 iL 27 26,
 iM 28 1,
 iP 29 (.ia 6 (.t 27) (.t 28)),
 iF 30 3 29,
 iL 31 30,
 iP 32 (.len (.t 31)),
 iP 33 (.bin .lss (.i .i64) (.t 25) (.t 32))])
 (.cond (.t 33)
 .skip
 (.exit 0)))
 (.seq
 (.blk 1
 (.seq
 (.seq
 (.reg [
 iF 36 1 4,
 iL 37 36,
 iM 38 1,
 iP 39 (.ia 6 (.t 37) (.t 38)),
 iF 40 3 39,
 iL 41 40,
 iM 42 10,
 iP 43 (.ia 1 (.t 41) (.t 42)),
 iL 44 43,
 iM 45 9,
 iP 46 (.bin .neq (.i .i64) (.t 44) (.t 45))])
 (.cond (.t 46)
 (.seq
 (.reg [
 iP 8 (.mov (.c (i64 (-1))))])
 .ret)
 .skip))
 (.seq
 (.reg [
 iP 47 (.ldn 3 (.t 4)),
 iM 48 9,
 iM 49 2,
 iP 50 (.bin .add (.i .i64) (.t 49) (.c (i64 1))),
 iM 51 3,
 iC 52 65 [.t 47,.t 48,.t 50,.t 51],
 iM 9 52])
 (.seq
 (.reg [
 iM 53 9,
 iP 54 (.bin .lss (.i .i64) (.t 53) (.c (i64 0)))])
 (.cond (.t 54)
 (.seq
 (.reg [
 iP 8 (.mov (.c (i64 (-1))))])
 .ret)
 .skip)))))
 (.reg [
 iM 34 10,
 iP 35 (.bin .add (.i .i64) (.t 34) (.c (i64 1))),
 iM 10 35])))
def i65:IC :=
 (.seq
 (.reg [
 iE 4 (.box 26 (.t 0)),
 iP 8 (.mov (.c (i64 0)))])
 (.seq
 (.seq
 (.reg [
 iM 11 1,
 iF 12 1 4,
 iL 13 12,
 iP 14 (.len (.t 13)),
 iP 15 (.bin .geq (.i .i64) (.t 11) (.t 14))])
 (.cond (.t 15)
 (.seq
 (.reg [
 iP 8 (.mov (.c (i64 (-1))))])
 .ret)
 .skip))
 (.seq
 (.reg [
 iM 16 3,
 iM 17 3,
 iP 18 (.nck (.t 17)),
 iL 19 18,
 iM 20 2,
 iP 21 (.mm true .i64 (.t 19) (.t 20)),
 iP 22 (.nck (.t 16)),
 ⟨none,none,.e (.st 1 (.t 22) (.t 21))⟩])
 (.seq
 (.reg [
 iM 23 1,
 iP 24 (.bin .add (.i .i64) (.t 23) (.c (i64 1))),
 iM 9 24])
 (.seq
 (.seq
 (.reg [
 iP 10 (.mov (.c (i64 0)))])
 (.blk 0
 (.loop Qhp)))
 (.seq
 (.reg [
 iM 55 9,
 iM 8 55])
 .ret))))))
def r65:List RS:=[.t 8]
theorem c65:Qi Tryz.prog Qb Tryz.f65 i65 r65=true:=by kernel_rfl
def Qh4:IC:=.keep [1,3,4]
 (.seq
 (.seq
 (.reg [
 iM 10 4,
 iF 11 1 1,
 iL 12 11,
 iP 13 (.len (.t 12)),
 iP 14 (.bin .lss (.i .i64) (.t 10) (.t 13))])
 (.cond (.t 14)
 .skip
 (.exit 0)))
 (.seq
 (.blk 1
 (.seq
 (.reg [
 iF 17 1 1,
 iL 18 17,
 iM 19 4,
 iP 20 (.ia 6 (.t 18) (.t 19)),
 iP 21 (.ldn 6 (.t 20)),
 iE 5 (.alc 57 [i64 0,i64 0,i64 0,.val (.slice none 0 0),.val (.slice none 0 0),.val (.slice none 0 0)]),
 ⟨none,none,.e (.st 6 (.t 5) (.t 21))⟩])
 (.seq
 (.reg [
 iF 22 0 5,
 iL 23 22,
 iP 24 (.bin .eql (.i .i64) (.t 23) (.c (i64 2)))])
 (.cond (.t 24)
 (.drw [0,1,2,3,4,5,6,7,8,9,10,11,12] [
 iM 25 3,
 iF 26 2 5,
 iL 27 26,
 iM 28 3,
 iF 29 2 5,
 iL 30 29,
 iP 31 (.ia 1 (.t 28) (.t 30)),
 iL 32 31,
 iM 33 4,
 iE 34 (.bsl 3 1 1 [i64 0] [(0,(.t 33))]),
 iE 35 (.app 3 1 8 (.t 32) (.t 34)),
 iP 36 (.ia 1 (.t 25) (.t 27)),
 ⟨none,none,.e (.stw [32,30] 1 (.t 36) (.t 35))⟩])
 .skip))))
 (.reg [
 iM 15 4,
 iP 16 (.bin .add (.i .i64) (.t 15) (.c (i64 1))),
 iM 4 16])))
def i66:IC :=
 (.seq
 (.reg [
 iE 1 (.box 26 (.t 0)),
 iP 2 (.mov (.c (.val (.slice none 0 0))))])
 (.seq
 (.reg [
 iF 6 2 1,
 iL 7 6,
 iP 8 (.len (.t 7)),
 iE 9 (.mks 45 1 24 [.val (.slice none 0 0)] (.t 8) (.t 8)),
 iM 3 9])
 (.seq
 (.seq
 (.reg [
 iP 4 (.mov (.c (i64 0)))])
 (.blk 0
 (.loop Qh4)))
 (.seq
 (.reg [
 iM 37 3,
 iM 2 37])
 .ret))))
def r66:List RS:=[.t 2]
theorem c66:Qi Tryz.prog Qb Tryz.f66 i66 r66=true:=by kernel_rfl
def i70:IC :=
 (.seq
 (.reg [
 iE 6 (.alc 78 [bl false,.val (.slice none 0 0),.val (.slice none 0 0)])])
 (.seq
 (.seq
 (.reg [
 iM 8 1,
 iP 9 (.len (.t 8)),
 iP 10 (.bin .eql (.i .i64) (.t 9) (.c (i64 0)))])
 (.cond (.t 10)
 (.seq
 (.reg [
 iE 11 (.bsl 114 1 1 [.val (.int .u32 0)] [(0,(.c (.val (.int .u32 1))))]),
 iP 12 (.bld [bl false,.val (.slice none 0 0),.val (.slice none 0 0)] [(2,1,(.t 11))]),
 ⟨none,none,.e (.st 3 (.t 6) (.t 12))⟩])
 .ret)
 .skip))
 (.seq
 (.reg [
 iM 13 1,
 iM 14 2,
 iC 15 98 [.t 13,.t 14],
 iM 7 15])
 (.seq
 (.reg [
 iM 17 1,
 iM 18 7,
 iC 19 99 [.t 17,.t 18],
 iM 16 19,
 iP 20 (.ext (.t 16) 0),
 iP 21 (.ext (.t 16) 1),
 iM 1 20])
 (.seq
 (.reg [
 iM 23 2,
 iM 24 7,
 iC 25 99 [.t 23,.t 24],
 iM 22 25,
 iP 26 (.ext (.t 22) 0),
 iP 27 (.ext (.t 22) 1),
 iM 2 26])
 (.seq
 (.reg [
 iM 28 0,
 iM 29 1,
 iM 30 2,
 iP 31 (.bld [bl false,.val (.slice none 0 0),.val (.slice none 0 0)] [(0,1,(.t 28)),(1,1,(.t 29)),(2,1,(.t 30))]),
 ⟨none,none,.e (.st 3 (.t 6) (.t 31))⟩])
 .ret))))))
def r70:List RS:=[.cn 6 3]
theorem c70:Qi Tryz.prog Qb Tryz.f70 i70 r70=true:=by kernel_rfl
def Qho:IC:=.keep [0,3]
 (.seq
 (.seq
 (.reg [
 iM 5 0,
 iP 6 (.bin .neq (.i .i64) (.t 5) (.c (i64 0)))])
 (.cond (.t 6)
 .skip
 (.exit 0)))
 (.blk 1
 (.seq
 (.reg [
 iM 7 0,
 iP 8 (.bin .rem (.i .i64) (.t 7) (.c (i64 1000000000))),
 iM 4 8])
 (.seq
 (.reg [
 iM 9 3,
 iM 10 4,
 iM 11 4,
 iP 12 (.neg .i64 (.t 11)),
 iP 13 (.mm true .i64 (.t 10) (.t 12)),
 iP 14 (.cvi .u32 (.t 13)),
 iE 15 (.bsl 114 1 1 [.val (.int .u32 0)] [(0,(.t 14))]),
 iE 16 (.app 114 1 4 (.t 9) (.t 15)),
 iM 3 16])
 (.reg [
 iM 17 0,
 iP 18 (.bin .quo (.i .i64) (.t 17) (.c (i64 1000000000))),
 iM 0 18])))))
def i71:IC :=
 (.seq
 (.reg [
 iP 2 (.mov (.c (.val (.slice none 0 0))))])
 (.seq
 (.reg [
 iE 3 (.nil 114 1 (.c (.val (.slice none 0 0))))])
 (.seq
 (.blk 0
 (.loop Qho))
 (.seq
 (.reg [
 iM 19 3,
 iM 2 19])
 .ret))))
def r71:List RS:=[.t 2]
theorem c71:Qi Tryz.prog Qb Tryz.f71 i71 r71=true:=by kernel_rfl
def QgN:IC:=.keep [0,1,4,5]
 (.seq
 (.seq
 (.reg [
 iM 7 5,
 iM 8 0,
 iP 9 (.nck (.t 8)),
 iF 10 7 9,
 iF 11 0 10,
 iL 12 11,
 iP 13 (.bin .lss (.i .i64) (.t 7) (.t 12))])
 (.cond (.t 13)
 .skip
 (.exit 0)))
 (.seq
 (.blk 1
 (.drw [0,1,2,3,4,5,6,7,8,9,10,11] [
 iF 16 5 4,
 iL 17 16,
 iM 18 0,
 iP 19 (.nck (.t 18)),
 iF 20 0 19,
 iL 21 20,
 iC 22 48 [.t 21,(.c (i64 7))],
 iP 23 (.bin .sub (.i .i64) (.t 22) (.c (i64 3))),
 iE 24 (.bsl 3 1 1 [i64 0] [(0,(.t 23))]),
 iE 25 (.app 3 1 8 (.t 17) (.t 24)),
 iF 26 5 4,
 ⟨none,none,.e (.stw [21,17] 1 (.t 26) (.t 25))⟩]))
 (.reg [
 iM 14 5,
 iP 15 (.bin .add (.i .i64) (.t 14) (.c (i64 1))),
 iM 5 15])))
def i75:IC :=
 (.seq
 (.reg [
 iP 6 (.bld [i64 0,i64 0,i64 0,.val (.slice none 0 0),.val (.slice none 0 0),.val (.slice none 0 0)] [(0,1,(.c (i64 3)))]),
 iE 4 (.alc 57 [i64 0,i64 0,i64 0,.val (.slice none 0 0),.val (.slice none 0 0),.val (.slice none 0 0)]),
 ⟨none,none,.e (.st 6 (.t 4) (.t 6))⟩])
 (.seq
 (.seq
 (.reg [
 iP 5 (.mov (.c (i64 0)))])
 (.blk 0
 (.loop QgN)))
 (.seq
 (.seq
 (.reg [
 iM 27 0,
 iP 28 (.nck (.t 27)),
 iF 29 5 28,
 iL 30 29,
 iM 31 30,
 iG 32 31 true (.mov (.t 0)),
 iG 33 31 true (.nck (.t 32)),
 iG 34 31 true (.fa 7 (.t 33)),
 iG 35 31 true (.fa 0 (.t 34)),
 iG 36 31 true (.ld1 (.t 35)),
 iG 37 31 true (.bin .eql (.i .i64) (.t 36) (.c (i64 2))),
 iP 38 (.pick (.t 31) (.t 37) (.c (bl false)))])
 (.cond (.t 38)
 (.drw [0,1,2,3,4,5,6,7,8] [
 iF 39 5 4,
 iL 40 39,
 iF 41 5 4,
 iL 42 41,
 iP 43 (.ia 1 (.t 42) (.c (i64 0))),
 iL 44 43,
 iP 45 (.neg .i64 (.t 44)),
 iP 46 (.ia 1 (.t 40) (.c (i64 1))),
 ⟨none,none,.e (.st 1 (.t 46) (.t 45))⟩])
 .skip))
 (.drw [0,1,2,3,4,5,6,7,8] [
 iM 47 0,
 iP 48 (.nck (.t 47)),
 iF 49 7 48,
 iF 50 1 49,
 iL 51 50,
 iM 52 1,
 iP 53 (.ldn 6 (.t 4)),
 iP 54 (.ia 6 (.t 51) (.t 52)),
 ⟨none,none,.e (.st 6 (.t 54) (.t 53))⟩]))))
def r75:List RS:=[]
theorem c75:Qi Tryz.prog Qb Tryz.f75 i75 r75=true:=by kernel_rfl
def Qfu:IC:=.keep [0,1,2,3,9]
 (.seq
 (.seq
 (.reg [
 iM 11 9,
 iM 12 0,
 iP 13 (.nck (.t 12)),
 iF 14 2 13,
 iL 15 14,
 iP 16 (.len (.t 15)),
 iP 17 (.bin .lss (.i .i64) (.t 11) (.t 16))])
 (.cond (.t 17)
 .skip
 (.exit 0)))
 (.seq
 (.blk 1
 (.seq
 (.reg [
 iM 20 0,
 iP 21 (.nck (.t 20)),
 iF 22 2 21,
 iL 23 22,
 iM 24 9,
 iP 25 (.ia 4 (.t 23) (.t 24)),
 iP 26 (.ldn 4 (.t 25)),
 iE 10 (.alc 160 [i64 0,i64 0,.val (.slice none 0 0),i64 0]),
 ⟨none,none,.e (.st 4 (.t 10) (.t 26))⟩])
 (.seq
 (.reg [
 iF 27 0 10,
 iL 28 27,
 iM 29 1,
 iP 30 (.bin .eql (.i .i64) (.t 28) (.t 29)),
 iM 31 30,
 iG 32 31 true (.fa 1 (.t 10)),
 iG 33 31 true (.ld1 (.t 32)),
 iG 34 31 true (.mov (.t 2)),
 iG 35 31 true (.bin .eql (.i .i64) (.t 33) (.t 34)),
 iP 36 (.pick (.t 31) (.t 35) (.c (bl false))),
 iM 37 36,
 iG 38 37 true (.fa 2 (.t 10)),
 iG 39 37 true (.ld1 (.t 38)),
 iG 40 37 true (.mov (.t 3)),
 ⟨(some 41),(some (37,true)),.q (.c (.fn (.func 40) [] [])) [(.t 39),(.t 40)]⟩,
 iP 42 (.pick (.t 37) (.t 41) (.c (bl false)))])
 (.cond (.t 42)
 (.seq
 (.reg [
 iF 43 3 10,
 iL 44 43,
 iM 8 44])
 .ret)
 .skip))))
 (.reg [
 iM 18 9,
 iP 19 (.bin .add (.i .i64) (.t 18) (.c (i64 1))),
 iM 9 19])))
def i76:IC :=
 (.seq
 (.reg [
 iP 8 (.mov (.c (i64 0)))])
 (.seq
 (.seq
 (.reg [
 iP 9 (.mov (.c (i64 0)))])
 (.blk 0
 (.loop Qfu)))
 (.seq
 (.drw [0,1,2,3,4,5,6,7,8,9,10,11,12,13,14,15,16,17,18,19] [
 iM 45 0,
 iM 46 0,
 iP 47 (.nck (.t 46)),
 iF 48 2 47,
 iL 49 48,
 iM 50 1,
 iM 51 2,
 iM 52 3,
 iM 53 0,
 iP 54 (.nck (.t 53)),
 iF 55 7 54,
 iF 56 2 55,
 iL 57 56,
 iP 58 (.len (.t 57)),
 iP 59 (.bld [i64 0,i64 0,.val (.slice none 0 0),i64 0] [(0,1,(.t 50)),(1,1,(.t 51)),(2,1,(.t 52)),(3,1,(.t 58))]),
 iE 60 (.bsl 160 4 1 [i64 0,i64 0,.val (.slice none 0 0),i64 0] [(0,(.t 59))]),
 iE 61 (.app 160 4 48 (.t 49) (.t 60)),
 iP 62 (.nck (.t 45)),
 iF 63 2 62,
 ⟨none,none,.e (.stw [57,49] 1 (.t 63) (.t 61))⟩])
 (.seq
 (.drw [0,1,2,3,4,5,6,7,8,9,10,11,12,13,14,15,16,17,18,19] [
 iM 64 0,
 iM 65 0,
 iP 66 (.nck (.t 65)),
 iF 67 7 66,
 iF 68 2 67,
 iL 69 68,
 iM 70 1,
 iM 71 0,
 iP 72 (.nck (.t 71)),
 iF 73 0 72,
 iL 74 73,
 iC 75 48 [.t 74,(.c (i64 3))],
 iP 76 (.bin .add (.i .i64) (.c (i64 1)) (.t 75)),
 iP 77 (.bld [i64 0,i64 0] [(0,1,(.t 70)),(1,1,(.t 76))]),
 iE 78 (.bsl 55 2 1 [i64 0,i64 0] [(0,(.t 77))]),
 iE 79 (.app 55 2 16 (.t 69) (.t 78)),
 iP 80 (.nck (.t 64)),
 iF 81 7 80,
 iF 82 2 81,
 ⟨none,none,.e (.stw [74,69] 1 (.t 82) (.t 79))⟩])
 (.seq
 (.reg [
 iM 83 0,
 iP 84 (.nck (.t 83)),
 iF 85 7 84,
 iF 86 2 85,
 iL 87 86,
 iP 88 (.len (.t 87)),
 iP 89 (.bin .sub (.i .i64) (.t 88) (.c (i64 1))),
 iM 8 89])
 .ret)))))
def r76:List RS:=[.t 8]
theorem c76:Qi Tryz.prog Qb Tryz.f76 i76 r76=true:=by kernel_rfl
def QgY:IC:=.keep [0,1,6]
 (.seq
 (.seq
 (.reg [
 iM 20 6,
 iM 21 0,
 iP 22 (.nck (.t 21)),
 iF 23 7 22,
 iF 24 1 23,
 iL 25 24,
 iP 26 (.len (.t 25)),
 iP 27 (.bin .lss (.i .i64) (.t 20) (.t 26))])
 (.cond (.t 27)
 .skip
 (.exit 0)))
 (.seq
 (.blk 1
 (.seq
 (.reg [
 iM 30 0,
 iP 31 (.nck (.t 30)),
 iF 32 7 31,
 iF 33 1 32,
 iL 34 33,
 iM 35 6,
 iP 36 (.ia 6 (.t 34) (.t 35)),
 iF 37 0 36,
 iL 38 37,
 iP 39 (.bin .eql (.i .i64) (.t 38) (.c (i64 2))),
 iM 40 39,
 iG 41 40 true (.mov (.t 0)),
 iG 42 40 true (.nck (.t 41)),
 iG 43 40 true (.fa 7 (.t 42)),
 iG 44 40 true (.fa 1 (.t 43)),
 iG 45 40 true (.ld1 (.t 44)),
 iG 46 40 true (.mov (.t 6)),
 iG 47 40 true (.ia 6 (.t 45) (.t 46)),
 iG 48 40 true (.fa 2 (.t 47)),
 iG 49 40 true (.ld1 (.t 48)),
 iG 50 40 true (.mov (.t 1)),
 iG 51 40 true (.bin .eql (.i .i64) (.t 49) (.t 50)),
 iP 52 (.pick (.t 40) (.t 51) (.c (bl false)))])
 (.cond (.t 52)
 .ret
 .skip)))
 (.reg [
 iM 28 6,
 iP 29 (.bin .add (.i .i64) (.t 28) (.c (i64 1))),
 iM 6 29])))
def i77:IC :=
 (.seq
 (.seq
 (.reg [
 iM 7 2,
 iP 8 (.bin .lss (.i .i64) (.t 7) (.c (i64 0))),
 iM 9 8,
 iG 10 9 false (.mov (.t 1)),
 iG 11 9 false (.mov (.t 0)),
 iG 12 9 false (.nck (.t 11)),
 iG 13 9 false (.fa 7 (.t 12)),
 iG 14 9 false (.fa 2 (.t 13)),
 iG 15 9 false (.ld1 (.t 14)),
 iG 16 9 false (.len (.t 15)),
 iG 17 9 false (.bin .sub (.i .i64) (.t 16) (.c (i64 1))),
 iG 18 9 false (.bin .neq (.i .i64) (.t 10) (.t 17)),
 iP 19 (.pick (.t 9) (.c (bl true)) (.t 18))])
 (.cond (.t 19)
 .ret
 .skip))
 (.seq
 (.seq
 (.reg [
 iP 6 (.mov (.c (i64 0)))])
 (.blk 0
 (.loop QgY)))
 (.seq
 (.reg [
 iM 53 0,
 iM 54 0,
 iP 55 (.nck (.t 54)),
 iF 56 7 55,
 iF 57 2 56,
 iL 58 57,
 iM 59 1,
 iP 60 (.sl 2 (.t 58) none (some (.t 59))),
 iP 61 (.nck (.t 53)),
 iF 62 7 61,
 iF 63 2 62,
 ⟨none,none,.e (.st 1 (.t 63) (.t 60))⟩])
 (.drw [0,1,2,3,4,5,6,7,8,9,10,11,12,13,14] [
 iM 64 0,
 iM 65 0,
 iP 66 (.nck (.t 65)),
 iF 67 2 66,
 iL 68 67,
 iM 69 0,
 iP 70 (.nck (.t 69)),
 iF 71 2 70,
 iL 72 71,
 iP 73 (.len (.t 72)),
 iP 74 (.bin .sub (.i .i64) (.t 73) (.c (i64 1))),
 iP 75 (.sl 4 (.t 68) none (some (.t 74))),
 iP 76 (.nck (.t 64)),
 iF 77 2 76,
 ⟨none,none,.e (.st 1 (.t 77) (.t 75))⟩]))))
def r77:List RS:=[]
theorem c77:Qi Tryz.prog Qb Tryz.f77 i77 r77=true:=by kernel_rfl
def i78:IC :=
 (.seq
 (.reg [
 iE 2 (.box 26 (.t 0)),
 iP 4 (.mov (.c (i64 0)))])
 (.seq
 (.seq
 (.reg [
 iM 5 1,
 iP 6 (.len (.t 5)),
 iF 7 2 2,
 iL 8 7,
 iP 9 (.len (.t 8)),
 iP 10 (.bin .neq (.i .i64) (.t 6) (.t 9))])
 (.cond (.t 10)
 (.seq
 (.reg [
 iP 4 (.mov (.c (i64 3)))])
 .ret)
 .skip))
 (.seq
 (.reg [
 iP 4 (.mov (.c (i64 0)))])
 .ret)))
def r78:List RS:=[.t 4]
theorem c78:Qi Tryz.prog Qb Tryz.f78 i78 r78=true:=by kernel_rfl
def i79:IC :=
 (.seq
 (.reg [
 iE 2 (.alc 78 [bl false,.val (.slice none 0 0),.val (.slice none 0 0)])])
 (.seq
 (.reg [
 iM 3 0,
 iP 4 (.bin .lss (.i .i64) (.t 3) (.c (i64 0))),
 iM 5 0,
 iC 6 71 [.t 5],
 iE 7 (.bsl 114 1 1 [.val (.int .u32 0)] [(0,(.c (.val (.int .u32 1))))]),
 iC 8 70 [.t 4,.t 6,.t 7],
 ⟨none,none,.e (.st 3 (.t 2) (.t 8))⟩])
 .ret))
def r79:List RS:=[.cn 2 3]
theorem c79:Qi Tryz.prog Qb Tryz.f79 i79 r79=true:=by kernel_rfl
def i80:IC :=
 (.seq
 (.reg [
 iE 1 (.box 78 (.t 0)),
 iP 2 (.mov (.c (i64 0)))])
 (.seq
 (.seq
 (.reg [
 iF 4 1 1,
 iL 5 4,
 iF 6 2 1,
 iL 7 6,
 iC 8 101 [.t 5,.t 7],
 iM 3 8])
 (.seq
 (.reg [
 iM 9 3,
 iP 10 (.bin .neq (.i .i64) (.t 9) (.c (i64 0)))])
 (.cond (.t 10)
 (.seq
 (.reg [
 iM 11 3,
 iM 2 11])
 .ret)
 .skip)))
 (.seq
 (.seq
 (.reg [
 iF 12 1 1,
 iL 13 12,
 iF 14 2 1,
 iL 15 14,
 iC 16 98 [.t 13,.t 15],
 iP 17 (.len (.t 16)),
 iP 18 (.bin .neq (.i .i64) (.t 17) (.c (i64 1))),
 iM 19 18,
 iG 20 19 false (.fa 1 (.t 1)),
 iG 21 19 false (.ld1 (.t 20)),
 iG 22 19 false (.fa 2 (.t 1)),
 iG 23 19 false (.ld1 (.t 22)),
 ⟨(some 24),(some (19,false)),.q (.c (.fn (.func 98) [] [])) [(.t 21),(.t 23)]⟩,
 iG 25 19 false (.ia 1 (.t 24) (.c (i64 0))),
 iG 26 19 false (.ld1 (.t 25)),
 iG 27 19 false (.bin .neq (.i .u32) (.t 26) (.c (.val (.int .u32 1)))),
 iP 28 (.pick (.t 19) (.c (bl true)) (.t 27)),
 iM 29 28,
 iG 30 29 false (.fa 0 (.t 1)),
 iG 31 29 false (.ld1 (.t 30)),
 iG 32 29 false (.mov (.t 31)),
 iG 33 32 true (.fa 1 (.t 1)),
 iG 34 32 true (.ld1 (.t 33)),
 iG 35 32 true (.len (.t 34)),
 iG 36 32 true (.bin .eql (.i .i64) (.t 35) (.c (i64 0))),
 iG 37 29 false (.pick (.t 32) (.t 36) (.c (bl false))),
 iP 38 (.pick (.t 29) (.c (bl true)) (.t 37))])
 (.cond (.t 38)
 (.seq
 (.reg [
 iP 2 (.mov (.c (i64 3)))])
 .ret)
 .skip))
 (.seq
 (.reg [
 iP 2 (.mov (.c (i64 0)))])
 .ret))))
def r80:List RS:=[.t 2]
theorem c80:Qi Tryz.prog Qb Tryz.f80 i80 r80=true:=by kernel_rfl
def i81:IC :=
 (.seq
 (.reg [
 iE 2 (.box 78 (.t 0)),
 iE 3 (.box 78 (.t 1)),
 iP 4 (.mov (.c (i64 0)))])
 (.seq
 (.drw [0,1,2,3,4,5] [
 iP 6 (.ldn 3 (.t 2)),
 iP 7 (.ldn 3 (.t 3)),
 ⟨(some 8),none,.q (.c (.fn (.func 102) [] [])) [(.t 7)]⟩,
 ⟨(some 9),none,.q (.c (.fn (.func 82) [] [])) [(.t 6),(.t 8)]⟩,
 iE 5 (.alc 78 [bl false,.val (.slice none 0 0),.val (.slice none 0 0)]),
 ⟨none,none,.e (.st 3 (.t 5) (.t 9))⟩])
 (.seq
 (.blk 0
 (.seq
 (.reg [
 iF 11 1 5,
 iL 12 11,
 iP 13 (.len (.t 12)),
 iP 14 (.bin .eql (.i .i64) (.t 13) (.c (i64 0))),
 iM 10 14])
 (.cond (.t 10)
 (.seq
 (.reg [
 iP 4 (.mov (.c (i64 0)))])
 .ret)
 (.seq
 (.reg [
 iF 16 0 5,
 iL 17 16,
 iM 15 17])
 (.cond (.t 15)
 (.seq
 (.reg [
 iP 4 (.mov (.c (i64 (-1))))])
 .ret)
 .skip)))))
 (.seq
 (.reg [
 iP 4 (.mov (.c (i64 1)))])
 .ret))))
def r81:List RS:=[.t 4]
theorem c81:Qi Tryz.prog Qb Tryz.f81 i81 r81=true:=by kernel_rfl
def i82:IC :=
 (.seq
 (.reg [
 iE 2 (.box 78 (.t 0)),
 iE 3 (.box 78 (.t 1)),
 iE 4 (.alc 78 [bl false,.val (.slice none 0 0),.val (.slice none 0 0)])])
 (.seq
 (.drw [0,1,2,3,4,5,6,7,8,9,10,11,12,13,14,15,16,17] [
 iF 8 1 2,
 iL 9 8,
 iF 10 2 3,
 iL 11 10,
 ⟨(some 12),none,.q (.c (.fn (.func 103) [] [])) [(.t 9),(.t 11)]⟩,
 iF 13 1 3,
 iL 14 13,
 iF 15 2 2,
 iL 16 15,
 ⟨(some 17),none,.q (.c (.fn (.func 103) [] [])) [(.t 14),(.t 16)]⟩,
 iF 18 2 2,
 iL 19 18,
 iF 20 2 3,
 iL 21 20,
 ⟨(some 22),none,.q (.c (.fn (.func 103) [] [])) [(.t 19),(.t 21)]⟩,
 iM 5 12,
 iM 6 17,
 iM 7 22])
 (.seq
 (.seq
 (.reg [
 iF 23 0 2,
 iL 24 23,
 iF 25 0 3,
 iL 26 25,
 iP 27 (.bin .eql .b (.t 24) (.t 26))])
 (.cond (.t 27)
 (.seq
 (.drw [0,1,2,3,4,5,6,7] [
 iF 28 0 2,
 iL 29 28,
 iM 30 5,
 iM 31 6,
 ⟨(some 32),none,.q (.c (.fn (.func 104) [] [])) [(.t 30),(.t 31)]⟩,
 iM 33 7,
 ⟨(some 34),none,.q (.c (.fn (.func 70) [] [])) [(.t 29),(.t 32),(.t 33)]⟩,
 ⟨none,none,.e (.st 3 (.t 4) (.t 34))⟩])
 .ret)
 .skip))
 (.seq
 (.seq
 (.reg [
 iM 35 5,
 iM 36 6,
 iC 37 105 [.t 35,.t 36],
 iP 38 (.bin .geq (.i .i64) (.t 37) (.c (i64 0)))])
 (.cond (.t 38)
 (.seq
 (.drw [0,1,2,3,4,5,6,7] [
 iF 39 0 2,
 iL 40 39,
 iM 41 5,
 iM 42 6,
 ⟨(some 43),none,.q (.c (.fn (.func 106) [] [])) [(.t 41),(.t 42)]⟩,
 iM 44 7,
 ⟨(some 45),none,.q (.c (.fn (.func 70) [] [])) [(.t 40),(.t 43),(.t 44)]⟩,
 ⟨none,none,.e (.st 3 (.t 4) (.t 45))⟩])
 .ret)
 .skip))
 (.seq
 (.drw [0,1,2,3,4,5,6,7] [
 iF 46 0 3,
 iL 47 46,
 iM 48 6,
 iM 49 5,
 ⟨(some 50),none,.q (.c (.fn (.func 106) [] [])) [(.t 48),(.t 49)]⟩,
 iM 51 7,
 ⟨(some 52),none,.q (.c (.fn (.func 70) [] [])) [(.t 47),(.t 50),(.t 51)]⟩,
 ⟨none,none,.e (.st 3 (.t 4) (.t 52))⟩])
 .ret)))))
def r82:List RS:=[.cn 4 3]
theorem c82:Qi Tryz.prog Qb Tryz.f82 i82 r82=true:=by kernel_rfl
def QgZ:IC:=.keep [1,4,40,41,42]
 (.seq
 (.reg [
 iP 43 (.bin .lss (.i .i64) (.t 42) (.t 41))])
 (.seq
 (.cond (.t 43)
 .skip
 (.exit 0))
 (.seq
 (.blk 1
 (.seq
 (.reg [
 iP 44 (.ia 6 (.t 40) (.t 42)),
 iP 45 (.ldn 6 (.t 44)),
 iE 6 (.alc 57 [i64 0,i64 0,i64 0,.val (.slice none 0 0),.val (.slice none 0 0),.val (.slice none 0 0)]),
 ⟨none,none,.e (.st 6 (.t 6) (.t 45))⟩])
 (.seq
 (.reg [
 iM 46 4,
 iP 47 (.ldn 6 (.t 6)),
 iC 48 107 [.t 46,.t 47],
 iM 7 48])
 (.seq
 (.reg [
 iM 49 7,
 iP 50 (.bin .neq (.i .i64) (.t 49) (.c (i64 0)))])
 (.cond (.t 50)
 (.seq
 (.reg [
 iM 51 7,
 iP 2 (.mov (.c (.val (.pointer none)))),
 iM 3 51])
 .ret)
 .skip)))))
 (.reg [
 iP 52 (.bin .add (.i .i64) (.t 42) (.c (i64 1))),
 iM 42 52]))))
def i83:IC :=
 (.seq
 (.reg [
 iE 1 (.box 26 (.t 0)),
 iP 2 (.mov (.c (.val (.pointer none)))),
 iP 3 (.mov (.c (i64 0)))])
 (.seq
 (.seq
 (.reg [
 iF 10 0 1,
 iL 11 10,
 iP 12 (.bin .lss (.i .i64) (.t 11) (.c (i64 1))),
 iM 13 12,
 iG 14 13 false (.fa 0 (.t 1)),
 iG 15 13 false (.ld1 (.t 14)),
 iG 16 13 false (.bin .gtr (.i .i64) (.t 15) (.c (i64 4))),
 iP 17 (.pick (.t 13) (.c (bl true)) (.t 16)),
 iM 18 17,
 iG 19 18 false (.fa 1 (.t 1)),
 iG 20 18 false (.ld1 (.t 19)),
 iG 21 18 false (.len (.t 20)),
 iG 22 18 false (.bin .lss (.i .i64) (.t 21) (.c (i64 1))),
 iP 23 (.pick (.t 18) (.c (bl true)) (.t 22)),
 iM 24 23,
 iG 25 24 false (.fa 1 (.t 1)),
 iG 26 24 false (.ld1 (.t 25)),
 iG 27 24 false (.len (.t 26)),
 iG 28 24 false (.bin .gtr (.i .i64) (.t 27) (.c (i64 2000))),
 iP 29 (.pick (.t 24) (.c (bl true)) (.t 28)),
 iM 30 29,
 iG 31 30 false (.fa 2 (.t 1)),
 iG 32 30 false (.ld1 (.t 31)),
 iG 33 30 false (.len (.t 32)),
 iG 34 30 false (.bin .gtr (.i .i64) (.t 33) (.c (i64 200))),
 iP 35 (.pick (.t 30) (.c (bl true)) (.t 34))])
 (.cond (.t 35)
 (.seq
 (.reg [
 iP 2 (.mov (.c (.val (.pointer none)))),
 iP 3 (.mov (.c (i64 2)))])
 .ret)
 .skip))
 (.seq
 (.reg [
 iP 36 (.ldn 3 (.t 1)),
 iP 37 (.bld [i64 0,.val (.slice none 0 0),.val (.slice none 0 0),.val (.slice none 0 0),.val (.slice none 0 0),.val (.slice none 0 0)] [(0,3,(.t 36))]),
 iE 38 (.box 139 (.t 37)),
 iM 4 38])
 (.seq
 (.seq
 (.reg [
 iF 39 1 1,
 iL 40 39,
 iP 41 (.len (.t 40)),
 iP 42 (.mov (.c (i64 0)))])
 (.blk 0
 (.loop QgZ)))
 (.seq
 (.drf [3,3,3] [3,4,5,6,7,8,9,10,11,12,13,14,0,1,2,15,16,17,18,19,20,21,22,23] [
 iF 56 1 1,
 iL 57 56,
 iP 58 (.len (.t 57)),
 iE 59 (.flo 0 3 1 8 [i64 0] (.t 58) (.t 58)),
 iF 60 1 1,
 iL 61 60,
 iP 62 (.len (.t 61)),
 iE 63 (.flo 1 3 1 8 [i64 0] (.t 62) (.t 62)),
 iF 64 1 1,
 iL 65 64,
 iP 66 (.len (.t 65)),
 iE 67 (.flo 2 3 1 8 [i64 0] (.t 66) (.t 66)),
 iM 53 4,
 iM 54 4,
 iM 55 4,
 iP 68 (.nck (.t 53)),
 iF 69 3 68,
 ⟨none,none,.e (.stw [57] 1 (.t 69) (.t 59))⟩,
 iP 70 (.nck (.t 54)),
 iF 71 4 70,
 ⟨none,none,.e (.stw [61,57] 1 (.t 71) (.t 63))⟩,
 iP 72 (.nck (.t 55)),
 iF 73 5 72,
 ⟨none,none,.e (.stw [65,61,57] 1 (.t 73) (.t 67))⟩])
 (.seq
 (.seq
 (.reg [
 iM 75 4,
 iF 76 1 1,
 iL 77 76,
 iC 78 108 [.t 75,(.c (i64 (-1))),(.c (i64 0)),.t 77],
 iM 74 78,
 iP 79 (.ext (.t 74) 0),
 iP 80 (.ext (.t 74) 1),
 iM 8 79,
 iM 9 80])
 (.seq
 (.reg [
 iM 81 9,
 iP 82 (.not (.t 81)),
 iM 83 82,
 iG 84 83 false (.mov (.t 8)),
 iG 85 83 false (.len (.t 84)),
 iG 86 83 false (.bin .gtr (.i .i64) (.t 85) (.c (i64 0))),
 iP 87 (.pick (.t 83) (.c (bl true)) (.t 86))])
 (.cond (.t 87)
 (.seq
 (.reg [
 iP 2 (.mov (.c (.val (.pointer none)))),
 iP 3 (.mov (.c (i64 9)))])
 .ret)
 .skip)))
 (.seq
 (.seq
 (.reg [
 iM 88 4,
 iP 89 (.nck (.t 88)),
 iF 90 4 89,
 iL 91 90,
 iC 92 109 [.t 91],
 iP 93 (.bin .gtr (.i .i64) (.t 92) (.c (i64 40)))])
 (.cond (.t 93)
 (.seq
 (.reg [
 iP 2 (.mov (.c (.val (.pointer none)))),
 iP 3 (.mov (.c (i64 5)))])
 .ret)
 .skip))
 (.seq
 (.reg [
 iM 94 4,
 iM 95 4,
 iC 96 110 [.t 95],
 iM 2 94,
 iM 3 96])
 .ret))))))))
def r83:List RS:=[.t 2,.t 3]
theorem c83:Qi Tryz.prog Qb Tryz.f83 i83 r83=true:=by kernel_rfl
def i84:IC :=
 (.seq
 (.reg [
 iE 3 (.box 3 (.t 0)),
 iE 4 (.box 3 (.t 1)),
 iP 6 (.mov (.c (i64 0)))])
 (.seq
 (.seq
 (.reg [
 iM 7 2,
 iP 8 (.mkf (.func 112) [] [(.t 3),(.t 4)]),
 iC 9 111 [.t 7,.t 8]])
 (.cond (.t 9)
 (.seq
 (.reg [
 iP 6 (.mov (.c (i64 2)))])
 .ret)
 .skip))
 (.seq
 (.reg [
 iP 6 (.mov (.c (i64 0)))])
 .ret)))
def r84:List RS:=[.t 6]
theorem c84:Qi Tryz.prog Qb Tryz.f84 i84 r84=true:=by kernel_rfl
def i85:IC :=
 (.seq
 (.reg [
 iE 2 (.box 133 (.t 0)),
 iP 3 (.mov (.c (bl false)))])
 (.seq
 (.reg [
 iF 4 0 2,
 iL 5 4,
 iP 6 (.bin .neq (.i .i64) (.t 5) (.c (i64 2))),
 ⟨none,none,.e (.st 1 (.t 1) (.t 6))⟩])
 (.seq
 (.reg [
 iL 7 1,
 iM 3 7])
 .ret)))
def r85:List RS:=[.t 3]
theorem c85:Qi Tryz.prog Qb Tryz.f85 i85 r85=true:=by kernel_rfl
def QgV:IC:=.keep [3,17,18,19]
 (.seq
 (.reg [
 iP 20 (.bin .lss (.i .i64) (.t 19) (.t 18))])
 (.seq
 (.cond (.t 20)
 .skip
 (.exit 0))
 (.seq
 (.blk 1
 (.seq
 (.reg [
 iM 21 19,
 iP 22 (.ia 6 (.t 17) (.t 19)),
 iP 23 (.ldn 6 (.t 22)),
 iE 5 (.alc 57 [i64 0,i64 0,i64 0,.val (.slice none 0 0),.val (.slice none 0 0),.val (.slice none 0 0)]),
 iM 4 21,
 ⟨none,none,.e (.st 6 (.t 5) (.t 23))⟩])
 (.seq
 (.reg [
 iF 24 0 5,
 iL 25 24,
 iP 26 (.bin .eql (.i .i64) (.t 25) (.c (i64 2)))])
 (.cond (.t 26)
 (.drw [0,1,2,3,4,5,6,7,8,9,10,11,12] [
 iM 27 3,
 iF 28 2 5,
 iL 29 28,
 iM 30 3,
 iF 31 2 5,
 iL 32 31,
 iP 33 (.ia 1 (.t 30) (.t 32)),
 iL 34 33,
 iM 35 4,
 iE 36 (.bsl 3 1 1 [i64 0] [(0,(.t 35))]),
 iE 37 (.app 3 1 8 (.t 34) (.t 36)),
 iP 38 (.ia 1 (.t 27) (.t 29)),
 ⟨none,none,.e (.stw [34,32] 1 (.t 38) (.t 37))⟩])
 .skip))))
 (.reg [
 iP 39 (.bin .add (.i .i64) (.t 19) (.c (i64 1))),
 iM 19 39]))))
def i86:IC :=
 (.seq
 (.reg [
 iP 2 (.mov (.c (.val (.slice none 0 0))))])
 (.seq
 (.reg [
 iM 6 0,
 iP 7 (.nck (.t 6)),
 iF 8 0 7,
 iF 9 2 8,
 iL 10 9,
 iP 11 (.len (.t 10)),
 iE 12 (.mks 45 1 24 [.val (.slice none 0 0)] (.t 11) (.t 11)),
 iM 3 12])
 (.seq
 (.seq
 (.reg [
 iM 13 0,
 iP 14 (.nck (.t 13)),
 iF 15 0 14,
 iF 16 1 15,
 iL 17 16,
 iP 18 (.len (.t 17)),
 iP 19 (.mov (.c (i64 0)))])
 (.blk 0
 (.loop QgV)))
 (.seq
 (.reg [
 iM 40 3,
 iM 2 40])
 .ret))))
def r86:List RS:=[.t 2]
theorem c86:Qi Tryz.prog Qb Tryz.f86 i86 r86=true:=by kernel_rfl
def Qid:IC:=.keep [2,3,4,7,8,29,30,31]
 (.seq
 (.reg [
 iP 32 (.bin .lss (.i .i64) (.t 31) (.t 30))])
 (.seq
 (.cond (.t 32)
 .skip
 (.exit 0))
 (.seq
 (.blk 1
 (.seq
 (.reg [
 iP 33 (.ia 1 (.t 29) (.t 31)),
 iL 34 33,
 iM 10 34])
 (.seq
 (.reg [
 iE 11 (.alc 3 [i64 0]),
 ⟨none,none,.e (.st 1 (.t 11) (.c (i64 (-1))))⟩])
 (.seq
 (.reg [
 iF 35 0 3,
 iL 36 35,
 iM 37 10,
 iM 38 7,
 iP 39 (.mkf (.func 115) [] [(.t 3),(.t 4),(.t 11)]),
 iC 40 114 [.t 36,.t 37,.t 38,.t 39]])
 (.seq
 (.seq
 (.reg [
 iL 41 11,
 iP 42 (.bin .geq (.i .i64) (.t 41) (.c (i64 0))),
 iM 43 42,
 iG 44 43 true (.fa 1 (.t 3)),
 iG 45 43 true (.ld1 (.t 44)),
 iG 46 43 true (.mov (.t 10)),
 iG 47 43 true (.ld1 (.t 4)),
 iG 48 43 true (.ld1 (.t 11)),
 iG 49 43 true (.bld [i64 0,i64 0,i64 0,i64 0] [(0,1,(.c (i64 1))),(1,1,(.t 46)),(2,1,(.t 47)),(3,1,(.t 48))]),
 ⟨(some 50),(some (43,true)),.e (.call (.t 45) [(.t 49)])⟩,
 iG 51 43 true (.not (.t 50)),
 iP 52 (.pick (.t 43) (.t 51) (.c (bl false)))])
 (.cond (.t 52)
 (.seq
 (.reg [
 iP 6 (.mov (.c (bl false)))])
 .ret)
 .skip))
 (.seq
 (.seq
 (.reg [
 iF 53 0 3,
 iL 54 53,
 iM 55 10,
 iM 56 7,
 iC 57 113 [.t 54,.t 55,.t 56],
 iM 58 8,
 iC 59 116 [.t 57,.t 58]])
 (.cond (.t 59)
 (.exit 1)
 .skip))
 (.seq
 (.drw [0,1,2,3,4,5,6,7,8,9] [
 iF 60 1 3,
 iL 61 60,
 iM 62 10,
 iL 63 4,
 iM 64 2,
 iP 65 (.ia 1 (.t 64) (.c (i64 0))),
 iL 66 65,
 iP 67 (.bld [i64 0,i64 0,i64 0,i64 0] [(0,1,(.c (i64 2))),(1,1,(.t 62)),(2,1,(.t 63)),(3,1,(.t 66))]),
 iE 68 (.call (.t 61) [(.t 67)]),
 iP 69 (.not (.t 68))])
 (.cond (.t 69)
 (.seq
 (.reg [
 iP 6 (.mov (.c (bl false)))])
 .ret)
 .skip))))))))
 (.reg [
 iP 70 (.bin .add (.i .i64) (.t 31) (.c (i64 1))),
 iM 31 70]))))
def i87:IC :=
 (.seq
 (.reg [
 iE 3 (.box 136 (.t 0)),
 iE 4 (.box 3 (.t 1)),
 iP 6 (.mov (.c (bl false)))])
 (.seq
 (.drw [0,1,2,3,4,5,6,7,8,9,10] [
 iF 12 0 3,
 iL 13 12,
 iP 14 (.nck (.t 13)),
 iF 15 0 14,
 iF 16 2 15,
 iL 17 16,
 iL 18 4,
 iP 19 (.ia 2 (.t 17) (.t 18)),
 iF 20 0 19,
 iL 21 20,
 iM 7 21])
 (.seq
 (.drw [0,1,2,3,4,5,6,7] [
 iF 22 0 3,
 iL 23 22,
 iM 24 2,
 iP 25 (.ia 1 (.t 24) (.c (i64 0))),
 iL 26 25,
 iM 27 7,
 ⟨(some 28),none,.q (.c (.fn (.func 113) [] [])) [(.t 23),(.t 26),(.t 27)]⟩,
 iM 8 28])
 (.seq
 (.seq
 (.reg [
 iM 29 2,
 iP 30 (.len (.t 29)),
 iP 31 (.mov (.c (i64 0)))])
 (.blk 0
 (.loop Qid)))
 (.seq
 (.reg [
 iP 6 (.mov (.c (bl true)))])
 .ret)))))
def r87:List RS:=[.t 6]
theorem c87:Qi Tryz.prog Qb Tryz.f87 i87 r87=true:=by kernel_rfl
def Qno:IC:=.keep [0,1,2,6,7,8]
 (.seq
 (.seq
 (.reg [
 iM 11 8,
 iM 12 1,
 iP 13 (.bin .leq (.i .i64) (.t 11) (.t 12))])
 (.cond (.t 13)
 .skip
 (.exit 0)))
 (.blk 1
 (.seq
 (.reg [
 iM 14 0,
 iM 15 7,
 iM 16 8,
 iM 17 2,
 iC 18 117 [.t 14,.t 15,.t 16,.t 17]])
 (.seq
 (.reg [
 iM 19 8,
 iM 7 19])
 (.reg [
 iM 20 8,
 iM 21 6,
 iP 22 (.bin .add (.i .i64) (.t 20) (.t 21)),
 iM 8 22])))))
def QrE:IC:=.keep [0,1,2,6,7,8]
 (.seq
 (.seq
 (.reg [
 iM 33 8,
 iM 34 1,
 iP 35 (.bin .leq (.i .i64) (.t 33) (.t 34))])
 (.cond (.t 35)
 .skip
 (.exit 4)))
 (.blk 5
 (.seq
 (.reg [
 iM 36 0,
 iM 37 7,
 iM 38 7,
 iM 39 6,
 iP 40 (.bin .add (.i .i64) (.t 38) (.t 39)),
 iM 41 8,
 iM 42 2,
 iC 43 118 [.t 36,.t 37,.t 40,.t 41,.t 42]])
 (.seq
 (.reg [
 iM 44 8,
 iM 7 44])
 (.reg [
 iM 45 8,
 iM 46 6,
 iP 47 (.bin .mul (.i .i64) (.c (i64 2)) (.t 46)),
 iP 48 (.bin .add (.i .i64) (.t 45) (.t 47)),
 iM 8 48])))))
def Qo6:IC:=.keep [0,1,2,6]
 (.seq
 (.seq
 (.reg [
 iM 28 6,
 iM 29 1,
 iP 30 (.bin .lss (.i .i64) (.t 28) (.t 29))])
 (.cond (.t 30)
 .skip
 (.exit 2)))
 (.blk 3
 (.seq
 (.reg [
 iM 31 6,
 iP 32 (.bin .mul (.i .i64) (.c (i64 2)) (.t 31)),
 iP 7 (.mov (.c (i64 0))),
 iM 8 32])
 (.seq
 (.blk 4
 (.loop QrE))
 (.seq
 (.seq
 (.reg [
 iM 49 7,
 iM 50 6,
 iP 51 (.bin .add (.i .i64) (.t 49) (.t 50)),
 iM 9 51])
 (.seq
 (.reg [
 iM 52 9,
 iM 53 1,
 iP 54 (.bin .lss (.i .i64) (.t 52) (.t 53))])
 (.cond (.t 54)
 (.reg [
 iM 55 0,
 iM 56 7,
 iM 57 9,
 iM 58 1,
 iM 59 2,
 iC 60 118 [.t 55,.t 56,.t 57,.t 58,.t 59]])
 .skip)))
 (.reg [
 iM 61 6,
 iP 62 (.bin .mul (.i .i64) (.t 61) (.c (i64 2))),
 iM 6 62]))))))
def i88:IC :=
 (.seq
 (.reg [
 iP 6 (.mov (.c (i64 20)))])
 (.seq
 (.reg [
 iM 10 6,
 iP 7 (.mov (.c (i64 0))),
 iM 8 10])
 (.seq
 (.blk 0
 (.loop Qno))
 (.seq
 (.reg [
 iM 23 0,
 iM 24 7,
 iM 25 1,
 iM 26 2,
 iC 27 117 [.t 23,.t 24,.t 25,.t 26]])
 (.blk 2
 (.loop Qo6))))))
def r88:List RS:=[]
theorem c88:Qi Tryz.prog Qb Tryz.f88 i88 r88=true:=by kernel_rfl
def i89:IC :=
 (.seq
 (.reg [
 iP 6 (.mov (.c (i64 0))),
 iP 7 (.mov (.c (i64 0)))])
 (.seq
 (.reg [
 iM 9 0,
 iP 10 (.nck (.t 9)),
 iF 11 0 10,
 iF 12 1 11,
 iL 13 12,
 iM 14 1,
 iP 15 (.ia 6 (.t 13) (.t 14)),
 iM 8 15])
 (.seq
 (.seq
 (.reg [
 iM 16 8,
 iP 17 (.nck (.t 16)),
 iF 18 0 17,
 iL 19 18,
 iP 20 (.bin .eql (.i .i64) (.t 19) (.c (i64 1)))])
 (.cond (.t 20)
 (.seq
 (.drw [0,1,2,3,4,5,6,7,8,9,10,11,12,13,14,15] [
 iM 21 8,
 iP 22 (.nck (.t 21)),
 iF 23 4 22,
 iL 24 23,
 iM 25 2,
 iP 26 (.ia 1 (.t 24) (.t 25)),
 iL 27 26,
 iM 28 0,
 iP 29 (.nck (.t 28)),
 iF 30 3 29,
 iL 31 30,
 iM 32 1,
 iP 33 (.ia 1 (.t 31) (.t 32)),
 iL 34 33,
 iM 6 27,
 iM 7 34])
 .ret)
 .skip))
 (.seq
 (.drw [0,1,2,3,4,5,6,7,8,9,10,11,12,13,14] [
 iM 35 0,
 iP 36 (.nck (.t 35)),
 iF 37 9 36,
 iL 38 37,
 iM 39 8,
 iP 40 (.nck (.t 39)),
 iF 41 2 40,
 iL 42 41,
 iP 43 (.ia 1 (.t 38) (.t 42)),
 iL 44 43,
 iM 45 2,
 iP 46 (.ia 1 (.t 44) (.t 45)),
 iL 47 46,
 iM 6 47,
 iP 7 (.mov (.c (i64 65536)))])
 .ret))))
def r89:List RS:=[.t 6,.t 7]
theorem c89:Qi Tryz.prog Qb Tryz.f89 i89 r89=true:=by kernel_rfl
def i90:IC :=
 (.seq
 (.reg [
 iE 0 (.alc 78 [bl false,.val (.slice none 0 0),.val (.slice none 0 0)])])
 (.seq
 (.reg [
 iC 1 119 [],
 iP 2 (.bld [bl false,.val (.slice none 0 0),.val (.slice none 0 0)] [(2,1,(.t 1))]),
 ⟨none,none,.e (.st 3 (.t 0) (.t 2))⟩])
 .ret))
def r90:List RS:=[.cn 0 3]
theorem c90:Qi Tryz.prog Qb Tryz.f90 i90 r90=true:=by kernel_rfl
def i91:IC :=
 (.seq
 (.reg [
 iE 6 (.alc 78 [bl false,.val (.slice none 0 0),.val (.slice none 0 0)])])
 (.seq
 (.reg [
 iM 8 1,
 iM 9 2,
 iC 10 120 [.t 8,.t 9],
 iM 7 10])
 (.seq
 (.drw [0,1,2,3,4,5,6,7,8,9,10] [
 iM 11 0,
 iM 12 1,
 iM 13 7,
 iP 14 (.bin .quo (.i .u64) (.t 12) (.t 13)),
 ⟨(some 15),none,.q (.c (.fn (.func 62) [] [])) [(.t 14)]⟩,
 iM 16 2,
 iM 17 7,
 iP 18 (.bin .quo (.i .u64) (.t 16) (.t 17)),
 ⟨(some 19),none,.q (.c (.fn (.func 62) [] [])) [(.t 18)]⟩,
 iP 20 (.bld [bl false,.val (.slice none 0 0),.val (.slice none 0 0)] [(0,1,(.t 11)),(1,1,(.t 15)),(2,1,(.t 19))]),
 ⟨none,none,.e (.st 3 (.t 6) (.t 20))⟩])
 .ret)))
def r91:List RS:=[.cn 6 3]
theorem c91:Qi Tryz.prog Qb Tryz.f91 i91 r91=true:=by kernel_rfl
def Qhm:IC:=.keep [0,3,4]
 (.seq
 (.seq
 (.reg [
 iM 8 4,
 iP 9 (.bin .geq (.i .i64) (.t 8) (.c (i64 0)))])
 (.cond (.t 9)
 .skip
 (.exit 0)))
 (.seq
 (.blk 1
 (.reg [
 iM 12 3,
 iP 13 (.bin .mul (.i .u64) (.t 12) (.c (.val (.int .u64 1000000000)))),
 iM 14 0,
 iM 15 4,
 iP 16 (.ia 1 (.t 14) (.t 15)),
 iL 17 16,
 iP 18 (.cvi .u64 (.t 17)),
 iP 19 (.bin .add (.i .u64) (.t 13) (.t 18)),
 iM 3 19]))
 (.reg [
 iM 10 4,
 iP 11 (.bin .sub (.i .i64) (.t 10) (.c (i64 1))),
 iM 4 11])))
def i92:IC :=
 (.seq
 (.reg [
 iP 2 (.mov (.c (.val (.int .u64 0))))])
 (.seq
 (.reg [
 iP 3 (.mov (.c (.val (.int .u64 0))))])
 (.seq
 (.seq
 (.reg [
 iM 5 0,
 iP 6 (.len (.t 5)),
 iP 7 (.bin .sub (.i .i64) (.t 6) (.c (i64 1))),
 iM 4 7])
 (.blk 0
 (.loop Qhm)))
 (.seq
 (.reg [
 iM 20 3,
 iM 2 20])
 .ret))))
def r92:List RS:=[.t 2]
theorem c92:Qi Tryz.prog Qb Tryz.f92 i92 r92=true:=by kernel_rfl
def QiI:IC:=.keep [0,1]
 (.seq
 (.seq
 (.reg [
 iM 7 1,
 iP 8 (.len (.t 7)),
 iP 9 (.bin .gtr (.i .i64) (.t 8) (.c (i64 0)))])
 (.cond (.t 9)
 .skip
 (.exit 0)))
 (.blk 1
 (.seq
 (.reg [
 iM 11 0,
 iM 12 1,
 iC 13 99 [.t 11,.t 12],
 iM 10 13,
 iP 14 (.ext (.t 10) 0),
 iP 15 (.ext (.t 10) 1),
 iM 5 14,
 iM 6 15])
 (.reg [
 iM 16 1,
 iM 17 6,
 iM 0 16,
 iM 1 17]))))
def i98:IC :=
 (.seq
 (.reg [
 iP 4 (.mov (.c (.val (.slice none 0 0))))])
 (.seq
 (.blk 0
 (.loop QiI))
 (.seq
 (.reg [
 iM 18 0,
 iM 4 18])
 .ret)))
def r98:List RS:=[.t 4]
theorem c98:Qi Tryz.prog Qb Tryz.f98 i98 r98=true:=by kernel_rfl
def Qig:IC:=.keep [0,1,4,5,6,7,9,10,11]
 (.seq
 (.seq
 (.reg [
 iM 80 11,
 iM 81 1,
 iP 82 (.len (.t 81)),
 iP 83 (.bin .sub (.i .i64) (.t 82) (.c (i64 1))),
 iP 84 (.bin .geq (.i .i64) (.t 80) (.t 83))])
 (.cond (.t 84)
 .skip
 (.exit 2)))
 (.seq
 (.blk 3
 (.reg [
 iM 87 10,
 iP 88 (.bin .mul (.i .u64) (.t 87) (.c (.val (.int .u64 1000000000)))),
 iM 89 5,
 iM 90 11,
 iP 91 (.ia 1 (.t 89) (.t 90)),
 iL 92 91,
 iP 93 (.cvi .u64 (.t 92)),
 iP 94 (.bin .add (.i .u64) (.t 88) (.t 93)),
 iM 10 94]))
 (.reg [
 iM 85 11,
 iP 86 (.bin .sub (.i .i64) (.t 85) (.c (i64 1))),
 iM 11 86])))
def QiA:IC:=.keep [0,1,4,5,6,7,9,12]
 (.seq
 (.seq
 (.reg [
 iM 99 1,
 iM 100 12,
 iP 101 (.cvi .u32 (.t 100)),
 iC 102 129 [.t 101],
 iC 103 103 [.t 99,.t 102],
 iM 104 5,
 iC 105 105 [.t 103,.t 104],
 iP 106 (.bin .gtr (.i .i64) (.t 105) (.c (i64 0)))])
 (.cond (.t 106)
 .skip
 (.exit 4)))
 (.blk 5
 (.reg [
 iM 107 12,
 iP 108 (.bin .sub (.i .u64) (.t 107) (.c (.val (.int .u64 1)))),
 iM 12 108])))
def QhK:IC:=.keep [0,1,4,5,6,7,9]
 (.seq
 (.seq
 (.reg [
 iM 65 9,
 iP 66 (.bin .geq (.i .i64) (.t 65) (.c (i64 0)))])
 (.cond (.t 66)
 .skip
 (.exit 0)))
 (.seq
 (.blk 1
 (.seq
 (.reg [
 iM 69 0,
 iM 70 9,
 iP 71 (.ia 1 (.t 69) (.t 70)),
 iL 72 71,
 iE 73 (.bsl 114 1 1 [.val (.int .u32 0)] [(0,(.t 72))]),
 iM 74 5,
 iE 75 (.app 114 1 4 (.t 73) (.t 74)),
 iC 76 130 [.t 75],
 iM 5 76])
 (.seq
 (.reg [
 iP 10 (.mov (.c (.val (.int .u64 0))))])
 (.seq
 (.seq
 (.reg [
 iM 77 5,
 iP 78 (.len (.t 77)),
 iP 79 (.bin .sub (.i .i64) (.t 78) (.c (i64 1))),
 iM 11 79])
 (.blk 2
 (.loop Qig)))
 (.seq
 (.reg [
 iM 95 10,
 iM 96 7,
 iP 97 (.bin .quo (.i .u64) (.t 95) (.t 96)),
 iP 98 (.mm false .u64 (.t 97) (.c (.val (.int .u64 999999999)))),
 iM 12 98])
 (.seq
 (.blk 4
 (.loop QiA))
 (.reg [
 iM 109 4,
 iM 110 9,
 iM 111 5,
 iM 112 1,
 iM 113 12,
 iP 114 (.cvi .u32 (.t 113)),
 iC 115 129 [.t 114],
 iC 116 103 [.t 112,.t 115],
 iC 117 106 [.t 111,.t 116],
 iM 118 12,
 iP 119 (.cvi .u32 (.t 118)),
 iM 5 117,
 iP 120 (.ia 1 (.t 109) (.t 110)),
 ⟨none,none,.e (.st 1 (.t 120) (.t 119))⟩])))))))
 (.reg [
 iM 67 9,
 iP 68 (.bin .sub (.i .i64) (.t 67) (.c (i64 1))),
 iM 9 68])))
def QiQ:IC:=.keep [4,5,6,13,14]
 (.seq
 (.seq
 (.reg [
 iM 124 14,
 iP 125 (.bin .geq (.i .i64) (.t 124) (.c (i64 0)))])
 (.cond (.t 125)
 .skip
 (.exit 6)))
 (.seq
 (.blk 7
 (.seq
 (.reg [
 iM 128 13,
 iP 129 (.bin .mul (.i .u64) (.t 128) (.c (.val (.int .u64 1000000000)))),
 iM 130 5,
 iM 131 14,
 iP 132 (.ia 1 (.t 130) (.t 131)),
 iL 133 132,
 iP 134 (.cvi .u64 (.t 133)),
 iP 135 (.bin .add (.i .u64) (.t 129) (.t 134)),
 iM 13 135])
 (.seq
 (.reg [
 iM 136 5,
 iM 137 14,
 iM 138 13,
 iM 139 6,
 iP 140 (.ia 1 (.t 139) (.c (i64 0))),
 iL 141 140,
 iP 142 (.cvi .u64 (.t 141)),
 iP 143 (.bin .quo (.i .u64) (.t 138) (.t 142)),
 iP 144 (.cvi .u32 (.t 143)),
 iP 145 (.ia 1 (.t 136) (.t 137)),
 ⟨none,none,.e (.st 1 (.t 145) (.t 144))⟩])
 (.reg [
 iM 146 13,
 iM 147 6,
 iP 148 (.ia 1 (.t 147) (.c (i64 0))),
 iL 149 148,
 iP 150 (.cvi .u64 (.t 149)),
 iP 151 (.bin .rem (.i .u64) (.t 146) (.t 150)),
 iM 13 151]))))
 (.reg [
 iM 126 14,
 iP 127 (.bin .sub (.i .i64) (.t 126) (.c (i64 1))),
 iM 14 127])))
def i99:IC :=
 (.seq
 (.reg [
 iP 4 (.mov (.c (.val (.slice none 0 0)))),
 iE 5 (.nil 114 1 (.c (.val (.slice none 0 0))))])
 (.seq
 (.seq
 (.reg [
 iM 15 0,
 iM 16 1,
 iC 17 105 [.t 15,.t 16],
 iP 18 (.bin .lss (.i .i64) (.t 17) (.c (i64 0)))])
 (.cond (.t 18)
 (.seq
 (.reg [
 iM 19 0,
 iP 4 (.mov (.c (.val (.slice none 0 0)))),
 iM 5 19])
 .ret)
 .skip))
 (.seq
 (.reg [
 iM 20 1,
 iM 21 1,
 iP 22 (.len (.t 21)),
 iP 23 (.bin .sub (.i .i64) (.t 22) (.c (i64 1))),
 iP 24 (.ia 1 (.t 20) (.t 23)),
 iL 25 24,
 iP 26 (.cvi .u64 (.t 25)),
 iP 27 (.bin .add (.i .u64) (.t 26) (.c (.val (.int .u64 1)))),
 iP 28 (.bin .quo (.i .u64) (.c (.val (.int .u64 1000000000))) (.t 27)),
 iP 29 (.cvi .u32 (.t 28)),
 iC 30 129 [.t 29],
 iM 6 30])
 (.seq
 (.reg [
 iM 31 0,
 iM 32 6,
 iC 33 103 [.t 31,.t 32],
 iM 34 1,
 iM 35 6,
 iC 36 103 [.t 34,.t 35],
 iM 0 33,
 iM 1 36])
 (.seq
 (.reg [
 iM 37 1,
 iM 38 1,
 iP 39 (.len (.t 38)),
 iP 40 (.bin .sub (.i .i64) (.t 39) (.c (i64 1))),
 iP 41 (.ia 1 (.t 37) (.t 40)),
 iL 42 41,
 iP 43 (.cvi .u64 (.t 42)),
 iM 7 43])
 (.seq
 (.reg [
 iM 44 1,
 iP 45 (.len (.t 44)),
 iM 8 45])
 (.seq
 (.drft [114] 16 [0,1,2,3,4,5,6,7,8,9,10,11,12,13,14,15] [
 iM 46 0,
 iP 47 (.len (.t 46)),
 iM 48 8,
 iP 49 (.bin .sub (.i .i64) (.t 47) (.t 48)),
 iP 50 (.bin .add (.i .i64) (.t 49) (.c (i64 1))),
 iE 51 (.flo 0 114 1 4 [.val (.int .u32 0)] (.t 50) (.t 50)),
 iM 52 5,
 iM 53 0,
 iM 54 0,
 iP 55 (.len (.t 54)),
 iM 56 8,
 iP 57 (.bin .sub (.i .i64) (.t 55) (.t 56)),
 iP 58 (.bin .add (.i .i64) (.t 57) (.c (i64 1))),
 iP 59 (.sl 1 (.t 53) (some (.t 58)) none),
 iE 60 (.app 114 1 4 (.t 52) (.t 59)),
 iM 4 51] [
 iM 5 60])
 (.seq
 (.seq
 (.reg [
 iM 61 0,
 iP 62 (.len (.t 61)),
 iM 63 8,
 iP 64 (.bin .sub (.i .i64) (.t 62) (.t 63)),
 iM 9 64])
 (.blk 0
 (.loop QhK)))
 (.seq
 (.reg [
 iP 13 (.mov (.c (.val (.int .u64 0))))])
 (.seq
 (.seq
 (.reg [
 iM 121 5,
 iP 122 (.len (.t 121)),
 iP 123 (.bin .sub (.i .i64) (.t 122) (.c (i64 1))),
 iM 14 123])
 (.blk 6
 (.loop QiQ)))
 (.seq
 (.reg [
 iM 152 4,
 iC 153 130 [.t 152],
 iM 154 5,
 iC 155 130 [.t 154],
 iM 4 153,
 iM 5 155])
 .ret)))))))))))
def r99:List RS:=[.t 4,.t 5]
theorem c99:Qi Tryz.prog Qb Tryz.f99 i99 r99=true:=by kernel_rfl
def i101:IC :=
 (.seq
 (.reg [
 iP 4 (.mov (.c (i64 0)))])
 (.seq
 (.seq
 (.reg [
 iM 7 0,
 iC 8 131 [.t 7],
 iM 5 8])
 (.seq
 (.reg [
 iM 9 5,
 iP 10 (.bin .neq (.i .i64) (.t 9) (.c (i64 0)))])
 (.cond (.t 10)
 (.seq
 (.reg [
 iM 11 5,
 iM 4 11])
 .ret)
 .skip)))
 (.seq
 (.seq
 (.reg [
 iM 12 1,
 iC 13 131 [.t 12],
 iM 6 13])
 (.seq
 (.reg [
 iM 14 6,
 iP 15 (.bin .neq (.i .i64) (.t 14) (.c (i64 0)))])
 (.cond (.t 15)
 (.seq
 (.reg [
 iM 16 6,
 iM 4 16])
 .ret)
 .skip)))
 (.seq
 (.seq
 (.reg [
 iM 17 1,
 iP 18 (.len (.t 17)),
 iP 19 (.bin .eql (.i .i64) (.t 18) (.c (i64 0)))])
 (.cond (.t 19)
 (.seq
 (.reg [
 iP 4 (.mov (.c (i64 6)))])
 .ret)
 .skip))
 (.seq
 (.reg [
 iP 4 (.mov (.c (i64 0)))])
 .ret)))))
def r101:List RS:=[.t 4]
theorem c101:Qi Tryz.prog Qb Tryz.f101 i101 r101=true:=by kernel_rfl
def i102:IC :=
 (.seq
 (.reg [
 iE 1 (.box 78 (.t 0)),
 iE 2 (.alc 78 [bl false,.val (.slice none 0 0),.val (.slice none 0 0)])])
 (.seq
 (.reg [
 iF 3 0 1,
 iL 4 3,
 iP 5 (.not (.t 4)),
 iM 6 5,
 iG 7 6 true (.fa 1 (.t 1)),
 iG 8 6 true (.ld1 (.t 7)),
 iG 9 6 true (.len (.t 8)),
 iG 10 6 true (.bin .gtr (.i .i64) (.t 9) (.c (i64 0))),
 iP 11 (.pick (.t 6) (.t 10) (.c (bl false))),
 iF 12 0 1,
 ⟨none,none,.e (.st 1 (.t 12) (.t 11))⟩])
 (.seq
 (.reg [
 iP 13 (.ldn 3 (.t 1)),
 ⟨none,none,.e (.st 3 (.t 2) (.t 13))⟩])
 .ret)))
def r102:List RS:=[.cn 2 3]
theorem c102:Qi Tryz.prog Qb Tryz.f102 i102 r102=true:=by kernel_rfl
def Qhh:IC:=.keep [0,1,5,6,7,8]
 (.seq
 (.seq
 (.reg [
 iM 21 8,
 iM 22 1,
 iP 23 (.len (.t 22)),
 iP 24 (.bin .lss (.i .i64) (.t 21) (.t 23))])
 (.cond (.t 24)
 .skip
 (.exit 2)))
 (.seq
 (.blk 3
 (.seq
 (.drt 21 [0,1,2,3,4,5,6,7,8,9,10,11,12,13,14,15,16,17,18,19,20] [
 iM 27 7,
 iM 28 5,
 iM 29 6,
 iM 30 8,
 iP 31 (.bin .add (.i .i64) (.t 29) (.t 30)),
 iP 32 (.ia 1 (.t 28) (.t 31)),
 iL 33 32,
 iP 34 (.cvi .u64 (.t 33)),
 iP 35 (.bin .add (.i .u64) (.t 27) (.t 34)),
 iM 36 0,
 iM 37 6,
 iP 38 (.ia 1 (.t 36) (.t 37)),
 iL 39 38,
 iP 40 (.cvi .u64 (.t 39)),
 iM 41 1,
 iM 42 8,
 iP 43 (.ia 1 (.t 41) (.t 42)),
 iL 44 43,
 iP 45 (.cvi .u64 (.t 44)),
 iP 46 (.bin .mul (.i .u64) (.t 40) (.t 45)),
 iP 47 (.bin .add (.i .u64) (.t 35) (.t 46))] [
 iM 7 47])
 (.seq
 (.reg [
 iM 48 5,
 iM 49 6,
 iM 50 8,
 iP 51 (.bin .add (.i .i64) (.t 49) (.t 50)),
 iM 52 7,
 iP 53 (.bin .rem (.i .u64) (.t 52) (.c (.val (.int .u64 1000000000)))),
 iP 54 (.cvi .u32 (.t 53)),
 iP 55 (.ia 1 (.t 48) (.t 51)),
 ⟨none,none,.e (.st 1 (.t 55) (.t 54))⟩])
 (.reg [
 iM 56 7,
 iP 57 (.bin .quo (.i .u64) (.t 56) (.c (.val (.int .u64 1000000000)))),
 iM 7 57]))))
 (.reg [
 iM 25 8,
 iP 26 (.bin .add (.i .i64) (.t 25) (.c (i64 1))),
 iM 8 26])))
def Qiq:IC:=.keep [0,1,5,6]
 (.seq
 (.seq
 (.reg [
 iM 15 6,
 iM 16 0,
 iP 17 (.len (.t 16)),
 iP 18 (.bin .lss (.i .i64) (.t 15) (.t 17))])
 (.cond (.t 18)
 .skip
 (.exit 0)))
 (.seq
 (.blk 1
 (.seq
 (.reg [
 iP 7 (.mov (.c (.val (.int .u64 0))))])
 (.seq
 (.seq
 (.reg [
 iP 8 (.mov (.c (i64 0)))])
 (.blk 2
 (.loop Qhh)))
 (.reg [
 iM 58 5,
 iM 59 6,
 iM 60 1,
 iP 61 (.len (.t 60)),
 iP 62 (.bin .add (.i .i64) (.t 59) (.t 61)),
 iM 63 7,
 iP 64 (.cvi .u32 (.t 63)),
 iP 65 (.ia 1 (.t 58) (.t 62)),
 ⟨none,none,.e (.st 1 (.t 65) (.t 64))⟩]))))
 (.reg [
 iM 19 6,
 iP 20 (.bin .add (.i .i64) (.t 19) (.c (i64 1))),
 iM 6 20])))
def i103:IC :=
 (.seq
 (.reg [
 iP 4 (.mov (.c (.val (.slice none 0 0))))])
 (.seq
 (.reg [
 iM 9 0,
 iP 10 (.len (.t 9)),
 iM 11 1,
 iP 12 (.len (.t 11)),
 iP 13 (.bin .add (.i .i64) (.t 10) (.t 12)),
 iE 14 (.mks 114 1 4 [.val (.int .u32 0)] (.t 13) (.t 13)),
 iM 5 14])
 (.seq
 (.seq
 (.reg [
 iP 6 (.mov (.c (i64 0)))])
 (.blk 0
 (.loop Qiq)))
 (.seq
 (.reg [
 iM 66 5,
 iC 67 130 [.t 66],
 iM 4 67])
 .ret))))
def r103:List RS:=[.t 4]
theorem c103:Qi Tryz.prog Qb Tryz.f103 i103 r103=true:=by kernel_rfl
def QfX:IC:=.keep [0,1,5,6,7]
 (.seq
 (.seq
 (.reg [
 iM 8 7,
 iM 9 0,
 iP 10 (.len (.t 9)),
 iP 11 (.bin .lss (.i .i64) (.t 8) (.t 10)),
 iM 12 11,
 iG 13 12 false (.mov (.t 7)),
 iG 14 12 false (.mov (.t 1)),
 iG 15 12 false (.len (.t 14)),
 iG 16 12 false (.bin .lss (.i .i64) (.t 13) (.t 15)),
 iP 17 (.pick (.t 12) (.c (bl true)) (.t 16)),
 iM 18 17,
 iG 19 18 false (.mov (.t 6)),
 iG 20 18 false (.bin .gtr (.i .u32) (.t 19) (.c (.val (.int .u32 0)))),
 iP 21 (.pick (.t 18) (.c (bl true)) (.t 20))])
 (.cond (.t 21)
 .skip
 (.exit 0)))
 (.seq
 (.blk 1
 (.seq
 (.seq
 (.reg [
 iM 24 7,
 iM 25 0,
 iP 26 (.len (.t 25)),
 iP 27 (.bin .lss (.i .i64) (.t 24) (.t 26))])
 (.cond (.t 27)
 (.reg [
 iM 28 6,
 iM 29 0,
 iM 30 7,
 iP 31 (.ia 1 (.t 29) (.t 30)),
 iL 32 31,
 iP 33 (.bin .add (.i .u32) (.t 28) (.t 32)),
 iM 6 33])
 .skip))
 (.seq
 (.seq
 (.reg [
 iM 34 7,
 iM 35 1,
 iP 36 (.len (.t 35)),
 iP 37 (.bin .lss (.i .i64) (.t 34) (.t 36))])
 (.cond (.t 37)
 (.reg [
 iM 38 6,
 iM 39 1,
 iM 40 7,
 iP 41 (.ia 1 (.t 39) (.t 40)),
 iL 42 41,
 iP 43 (.bin .add (.i .u32) (.t 38) (.t 42)),
 iM 6 43])
 .skip))
 (.seq
 (.reg [
 iM 44 5,
 iM 45 6,
 iP 46 (.bin .rem (.i .u32) (.t 45) (.c (.val (.int .u32 1000000000)))),
 iE 47 (.bsl 114 1 1 [.val (.int .u32 0)] [(0,(.t 46))]),
 iE 48 (.app 114 1 4 (.t 44) (.t 47)),
 iM 5 48])
 (.reg [
 iM 49 6,
 iP 50 (.bin .quo (.i .u32) (.t 49) (.c (.val (.int .u32 1000000000)))),
 iM 6 50])))))
 (.reg [
 iM 22 7,
 iP 23 (.bin .add (.i .i64) (.t 22) (.c (i64 1))),
 iM 7 23])))
def i104:IC :=
 (.seq
 (.reg [
 iP 4 (.mov (.c (.val (.slice none 0 0))))])
 (.seq
 (.reg [
 iE 5 (.nil 114 1 (.c (.val (.slice none 0 0))))])
 (.seq
 (.reg [
 iP 6 (.mov (.c (.val (.int .u32 0))))])
 (.seq
 (.seq
 (.reg [
 iP 7 (.mov (.c (i64 0)))])
 (.blk 0
 (.loop QfX)))
 (.seq
 (.reg [
 iM 51 5,
 iM 4 51])
 .ret)))))
def r104:List RS:=[.t 4]
theorem c104:Qi Tryz.prog Qb Tryz.f104 i104 r104=true:=by kernel_rfl
def Qi3:IC:=.keep [0,1,5]
 (.seq
 (.seq
 (.reg [
 iM 19 5,
 iP 20 (.bin .geq (.i .i64) (.t 19) (.c (i64 0)))])
 (.cond (.t 20)
 .skip
 (.exit 0)))
 (.seq
 (.blk 1
 (.seq
 (.seq
 (.drw [0,1,2,3,4,5,6,7,8] [
 iM 23 0,
 iM 24 5,
 iP 25 (.ia 1 (.t 23) (.t 24)),
 iL 26 25,
 iM 27 1,
 iM 28 5,
 iP 29 (.ia 1 (.t 27) (.t 28)),
 iL 30 29,
 iP 31 (.bin .lss (.i .u32) (.t 26) (.t 30))])
 (.cond (.t 31)
 (.seq
 (.reg [
 iP 4 (.mov (.c (i64 (-1))))])
 .ret)
 .skip))
 (.seq
 (.drw [0,1,2,3,4,5,6,7,8] [
 iM 32 0,
 iM 33 5,
 iP 34 (.ia 1 (.t 32) (.t 33)),
 iL 35 34,
 iM 36 1,
 iM 37 5,
 iP 38 (.ia 1 (.t 36) (.t 37)),
 iL 39 38,
 iP 40 (.bin .gtr (.i .u32) (.t 35) (.t 39))])
 (.cond (.t 40)
 (.seq
 (.reg [
 iP 4 (.mov (.c (i64 1)))])
 .ret)
 .skip))))
 (.reg [
 iM 21 5,
 iP 22 (.bin .sub (.i .i64) (.t 21) (.c (i64 1))),
 iM 5 22])))
def Qhz:IC :=
 (.seq
 (.reg [
 iP 4 (.mov (.c (i64 0)))])
 (.seq
 (.seq
 (.reg [
 iM 6 0,
 iP 7 (.len (.t 6)),
 iM 8 1,
 iP 9 (.len (.t 8)),
 iP 10 (.bin .neq (.i .i64) (.t 7) (.t 9))])
 (.cond (.t 10)
 (.seq
 (.seq
 (.reg [
 iM 11 0,
 iP 12 (.len (.t 11)),
 iM 13 1,
 iP 14 (.len (.t 13)),
 iP 15 (.bin .lss (.i .i64) (.t 12) (.t 14))])
 (.cond (.t 15)
 (.seq
 (.reg [
 iP 4 (.mov (.c (i64 (-1))))])
 .ret)
 .skip))
 (.seq
 (.reg [
 iP 4 (.mov (.c (i64 1)))])
 .ret))
 .skip))
 (.seq
 (.seq
 (.reg [
 iM 16 0,
 iP 17 (.len (.t 16)),
 iP 18 (.bin .sub (.i .i64) (.t 17) (.c (i64 1))),
 iM 5 18])
 (.blk 0
 (.loop Qi3)))
 (.seq
 (.reg [
 iP 4 (.mov (.c (i64 0)))])
 .ret))))
def Qhc:List RS:=[.t 4]
theorem c105:Qi Tryz.prog Qb Tryz.f105 Qhz Qhc=true:=by kernel_rfl
def Qfi:IC:=.keep [0,1,5,6,7]
 (.seq
 (.seq
 (.reg [
 iM 9 7,
 iM 10 0,
 iP 11 (.len (.t 10)),
 iP 12 (.bin .lss (.i .i64) (.t 9) (.t 11))])
 (.cond (.t 12)
 .skip
 (.exit 0)))
 (.seq
 (.blk 1
 (.seq
 (.reg [
 iM 15 0,
 iM 16 7,
 iP 17 (.ia 1 (.t 15) (.t 16)),
 iL 18 17,
 iP 19 (.cvi .i64 (.t 18)),
 iM 20 6,
 iP 21 (.bin .sub (.i .i64) (.t 19) (.t 20)),
 iM 8 21])
 (.seq
 (.seq
 (.reg [
 iM 22 7,
 iM 23 1,
 iP 24 (.len (.t 23)),
 iP 25 (.bin .lss (.i .i64) (.t 22) (.t 24))])
 (.cond (.t 25)
 (.reg [
 iM 26 8,
 iM 27 1,
 iM 28 7,
 iP 29 (.ia 1 (.t 27) (.t 28)),
 iL 30 29,
 iP 31 (.cvi .i64 (.t 30)),
 iP 32 (.bin .sub (.i .i64) (.t 26) (.t 31)),
 iM 8 32])
 .skip))
 (.seq
 (.reg [
 iP 6 (.mov (.c (i64 0)))])
 (.seq
 (.seq
 (.reg [
 iM 33 8,
 iP 34 (.bin .lss (.i .i64) (.t 33) (.c (i64 0)))])
 (.cond (.t 34)
 (.reg [
 iM 35 8,
 iP 36 (.bin .add (.i .i64) (.t 35) (.c (i64 1000000000))),
 iM 8 36,
 iP 6 (.mov (.c (i64 1)))])
 .skip))
 (.reg [
 iM 37 5,
 iM 38 8,
 iP 39 (.cvi .u32 (.t 38)),
 iE 40 (.bsl 114 1 1 [.val (.int .u32 0)] [(0,(.t 39))]),
 iE 41 (.app 114 1 4 (.t 37) (.t 40)),
 iM 5 41]))))))
 (.reg [
 iM 13 7,
 iP 14 (.bin .add (.i .i64) (.t 13) (.c (i64 1))),
 iM 7 14])))
def i106:IC :=
 (.seq
 (.reg [
 iP 4 (.mov (.c (.val (.slice none 0 0))))])
 (.seq
 (.reg [
 iE 5 (.nil 114 1 (.c (.val (.slice none 0 0))))])
 (.seq
 (.reg [
 iP 6 (.mov (.c (i64 0)))])
 (.seq
 (.seq
 (.reg [
 iP 7 (.mov (.c (i64 0)))])
 (.blk 0
 (.loop Qfi)))
 (.seq
 (.reg [
 iM 42 5,
 iC 43 130 [.t 42],
 iM 4 43])
 .ret)))))
def r106:List RS:=[.t 4]
theorem c106:Qi Tryz.prog Qb Tryz.f106 i106 r106=true:=by kernel_rfl
def i107:IC :=
 (.seq
 (.reg [
 iE 3 (.box 57 (.t 1)),
 iP 4 (.mov (.c (i64 0)))])
 (.seq
 (.reg [
 iP 6 (.bld [.val .nilFunc,.val .nilFunc,.val .nilFunc,.val .nilFunc] [(1,1,(.c (.fn (.func 132) [] []))),(2,1,(.c (.fn (.func 133) [] []))),(3,1,(.c (.fn (.func 134) [] [])))]),
 iE 5 (.alc 190 [.val .nilFunc,.val .nilFunc,.val .nilFunc,.val .nilFunc]),
 ⟨none,none,.e (.st 4 (.t 5) (.t 6))⟩])
 (.seq
 (.seq
 (.reg [
 iF 7 0 3,
 iL 8 7,
 iP 9 (.bin .lss (.i .i64) (.t 8) (.c (i64 1))),
 iM 10 9,
 iG 11 10 false (.fa 0 (.t 3)),
 iG 12 10 false (.ld1 (.t 11)),
 iG 13 10 false (.bin .gtr (.i .i64) (.t 12) (.c (i64 3))),
 iP 14 (.pick (.t 10) (.c (bl true)) (.t 13))])
 (.cond (.t 14)
 (.seq
 (.reg [
 iP 4 (.mov (.c (i64 3)))])
 .ret)
 .skip))
 (.seq
 (.drw [0,1,2,3,4,5,6,7] [
 iF 15 0 3,
 iL 16 15,
 iP 17 (.iap 4 1 (.t 5) (.t 16)),
 iL 18 17,
 iM 19 0,
 iP 20 (.ldn 6 (.t 3)),
 iE 21 (.call (.t 18) [(.t 19),(.t 20)]),
 iM 4 21])
 .ret))))
def r107:List RS:=[.t 4]
theorem c107:Qi Tryz.prog Qb Tryz.f107 i107 r107=true:=by kernel_rfl
def QgC:IC:=.keep [0,2,10,11,46,47,48]
 (.seq
 (.reg [
 iP 49 (.bin .lss (.i .i64) (.t 48) (.t 47))])
 (.seq
 (.cond (.t 49)
 .skip
 (.exit 0))
 (.seq
 (.blk 1
 (.seq
 (.reg [
 iP 50 (.ia 1 (.t 46) (.t 48)),
 iL 51 50,
 iM 14 51])
 (.seq
 (.seq
 (.reg [
 iM 52 14,
 iM 53 0,
 iP 54 (.nck (.t 53)),
 iF 55 0 54,
 iF 56 1 55,
 iL 57 56,
 iP 58 (.len (.t 57)),
 iM 59 11,
 iP 60 (.len (.t 59)),
 iP 61 (.bin .sub (.i .i64) (.t 58) (.t 60)),
 iP 62 (.bin .neq (.i .i64) (.t 52) (.t 61))])
 (.cond (.t 62)
 (.seq
 (.reg [
 iP 8 (.mov (.c (.val (.slice none 0 0)))),
 iP 9 (.mov (.c (bl false)))])
 .ret)
 .skip))
 (.seq
 (.reg [
 iM 64 0,
 iM 65 10,
 iM 66 2,
 iP 67 (.bin .add (.i .i64) (.t 66) (.c (i64 1))),
 iM 68 11,
 iC 69 108 [.t 64,.t 65,.t 67,.t 68],
 iM 63 69,
 iP 70 (.ext (.t 63) 0),
 iP 71 (.ext (.t 63) 1),
 iM 11 70,
 iM 12 71])
 (.seq
 (.reg [
 iM 72 12,
 iP 73 (.not (.t 72))])
 (.cond (.t 73)
 (.seq
 (.reg [
 iP 8 (.mov (.c (.val (.slice none 0 0)))),
 iP 9 (.mov (.c (bl false)))])
 .ret)
 .skip))))))
 (.reg [
 iP 74 (.bin .add (.i .i64) (.t 48) (.c (i64 1))),
 iM 48 74]))))
def Qj3:IC :=
 (.seq
 (.reg [
 iP 8 (.mov (.c (.val (.slice none 0 0)))),
 iP 9 (.mov (.c (bl false)))])
 (.seq
 (.seq
 (.reg [
 iM 15 3,
 iP 16 (.len (.t 15)),
 iP 17 (.bin .eql (.i .i64) (.t 16) (.c (i64 0)))])
 (.cond (.t 17)
 (.seq
 (.reg [
 iP 8 (.mov (.c (.val (.slice none 0 0)))),
 iP 9 (.mov (.c (bl false)))])
 .ret)
 .skip))
 (.seq
 (.reg [
 iM 18 0,
 iP 19 (.nck (.t 18)),
 iF 20 0 19,
 iF 21 1 20,
 iL 22 21,
 iP 23 (.len (.t 22)),
 iM 24 3,
 iP 25 (.len (.t 24)),
 iP 26 (.bin .sub (.i .i64) (.t 23) (.t 25)),
 iM 10 26])
 (.seq
 (.drw [0,1,2,3,4,5,6,7,8,9,10,11,12,13,14,15] [
 iM 27 0,
 iP 28 (.nck (.t 27)),
 iF 29 3 28,
 iL 30 29,
 iM 31 10,
 iM 32 0,
 iP 33 (.nck (.t 32)),
 iF 34 4 33,
 iL 35 34,
 iM 36 10,
 iM 37 1,
 iM 38 2,
 iP 39 (.ia 1 (.t 30) (.t 31)),
 ⟨none,none,.e (.stw [35] 1 (.t 39) (.t 37))⟩,
 iP 40 (.ia 1 (.t 35) (.t 36)),
 ⟨none,none,.e (.stw [30] 1 (.t 40) (.t 38))⟩])
 (.seq
 (.reg [
 iM 41 3,
 iP 42 (.sl 6 (.t 41) (some (.c (i64 1))) none),
 iM 11 42,
 iP 12 (.mov (.c (bl true)))])
 (.seq
 (.seq
 (.reg [
 iM 43 3,
 iP 44 (.ia 6 (.t 43) (.c (i64 0))),
 iF 45 3 44,
 iL 46 45,
 iP 47 (.len (.t 46)),
 iP 48 (.mov (.c (i64 0)))])
 (.blk 0
 (.loop QgC)))
 (.seq
 (.drw [0,1,2,3,4,5,6,7,8,9,10,11,12,13,14,15,16] [
 iM 75 0,
 iP 76 (.nck (.t 75)),
 iF 77 5 76,
 iL 78 77,
 iM 79 10,
 iM 80 0,
 iP 81 (.nck (.t 80)),
 iF 82 0 81,
 iF 83 1 82,
 iL 84 83,
 iP 85 (.len (.t 84)),
 iM 86 11,
 iP 87 (.len (.t 86)),
 iP 88 (.bin .sub (.i .i64) (.t 85) (.t 87)),
 iP 89 (.bin .sub (.i .i64) (.t 88) (.c (i64 1))),
 iP 90 (.ia 1 (.t 78) (.t 79)),
 ⟨none,none,.e (.st 1 (.t 90) (.t 89))⟩])
 (.seq
 (.reg [
 iM 91 11,
 iM 8 91,
 iP 9 (.mov (.c (bl true)))])
 .ret))))))))
def Qjk:List RS:=[.t 8,.t 9]
theorem c108:Qi Tryz.prog Qb Tryz.f108 Qj3 Qjk=true:=by kernel_rfl
def QgQ:IC:=.keep [0,3,4]
 (.seq
 (.seq
 (.reg [
 iM 12 4,
 iM 13 0,
 iP 14 (.len (.t 13)),
 iP 15 (.bin .lss (.i .i64) (.t 12) (.t 14))])
 (.cond (.t 15)
 .skip
 (.exit 0)))
 (.seq
 (.blk 1
 (.reg [
 iM 18 3,
 iM 19 0,
 iM 20 4,
 iP 21 (.ia 1 (.t 19) (.t 20)),
 iL 22 21,
 iP 23 (.mm true .i64 (.t 18) (.t 22)),
 iM 3 23]))
 (.reg [
 iM 16 4,
 iP 17 (.bin .add (.i .i64) (.t 16) (.c (i64 1))),
 iM 4 17])))
def i109:IC :=
 (.seq
 (.reg [
 iP 2 (.mov (.c (i64 0)))])
 (.seq
 (.seq
 (.reg [
 iM 5 0,
 iP 6 (.len (.t 5)),
 iP 7 (.bin .lss (.i .i64) (.t 6) (.c (i64 1)))])
 (.cond (.t 7)
 (.reg [
 iP 8 (.mki 9 (.c (st ⟨#[115,108,105,99,101,115,46,77,97,120,58,32,101,109,112,116,121,32,108,105,115,116]⟩))),
 ⟨none,none,.e (.pan (.t 8))⟩])
 .skip))
 (.seq
 (.reg [
 iM 9 0,
 iP 10 (.ia 1 (.t 9) (.c (i64 0))),
 iL 11 10,
 iM 3 11])
 (.seq
 (.seq
 (.reg [
 iP 4 (.mov (.c (i64 1)))])
 (.blk 0
 (.loop QgQ)))
 (.seq
 (.reg [
 iM 24 3,
 iM 2 24])
 .ret)))))
def r109:List RS:=[.t 2]
theorem c109:Qi Tryz.prog Qb Tryz.f109 i109 r109=true:=by kernel_rfl
def QiB:IC:=.keep [0,3,4]
 (.seq
 (.seq
 (.reg [
 iM 22 4,
 iP 23 (.bin .geq (.i .i64) (.t 22) (.c (i64 0)))])
 (.cond (.t 23)
 .skip
 (.exit 0)))
 (.seq
 (.blk 1
 (.seq
 (.reg [
 iM 26 0,
 iP 27 (.nck (.t 26)),
 iF 28 0 27,
 iF 29 1 28,
 iL 30 29,
 iM 31 4,
 iP 32 (.ia 6 (.t 30) (.t 31)),
 iP 33 (.ldn 6 (.t 32)),
 iE 5 (.alc 57 [i64 0,i64 0,i64 0,.val (.slice none 0 0),.val (.slice none 0 0),.val (.slice none 0 0)]),
 ⟨none,none,.e (.st 6 (.t 5) (.t 33))⟩])
 (.seq
 (.reg [
 iF 34 0 5,
 iL 35 34,
 iP 36 (.bin .eql (.i .i64) (.t 35) (.c (i64 2)))])
 (.cond (.t 36)
 (.reg [
 iM 37 3,
 iF 38 2 5,
 iL 39 38,
 iM 40 4,
 iP 41 (.bin .add (.i .i64) (.t 40) (.c (i64 1))),
 iP 42 (.ia 1 (.t 37) (.t 39)),
 ⟨none,none,.e (.st 1 (.t 42) (.t 41))⟩])
 .skip))))
 (.reg [
 iM 24 4,
 iP 25 (.bin .sub (.i .i64) (.t 24) (.c (i64 1))),
 iM 4 25])))
def QhN:IC:=.keep [0,3,47,48,49]
 (.seq
 (.reg [
 iP 50 (.bin .lss (.i .i64) (.t 49) (.t 48))])
 (.seq
 (.cond (.t 50)
 .skip
 (.exit 2))
 (.seq
 (.blk 3
 (.seq
 (.reg [
 iP 51 (.ia 6 (.t 47) (.t 49)),
 iP 52 (.ldn 6 (.t 51)),
 iE 7 (.alc 57 [i64 0,i64 0,i64 0,.val (.slice none 0 0),.val (.slice none 0 0),.val (.slice none 0 0)]),
 ⟨none,none,.e (.st 6 (.t 7) (.t 52))⟩])
 (.seq
 (.drw [0,1,2,3,4,5,6,7,8,9,10,11,12,13,14,15,16,17,18,19,20] [
 iF 53 0 7,
 iL 54 53,
 iP 55 (.bin .eql (.i .i64) (.t 54) (.c (i64 2))),
 iM 56 55,
 iG 57 56 true (.mov (.t 0)),
 iG 58 56 true (.nck (.t 57)),
 iG 59 56 true (.fa 0 (.t 58)),
 iG 60 56 true (.fa 2 (.t 59)),
 iG 61 56 true (.ld1 (.t 60)),
 iG 62 56 true (.fa 2 (.t 7)),
 iG 63 56 true (.ld1 (.t 62)),
 iG 64 56 true (.ia 2 (.t 61) (.t 63)),
 iG 65 56 true (.ldn 2 (.t 64)),
 iG 66 56 true (.fa 1 (.t 7)),
 iG 67 56 true (.ld1 (.t 66)),
 iG 68 56 true (.fa 3 (.t 7)),
 iG 69 56 true (.ld1 (.t 68)),
 iG 70 56 true (.len (.t 69)),
 iG 71 56 true (.bld [i64 0,i64 0] [(0,1,(.t 67)),(1,1,(.t 70))]),
 iG 72 56 true (.eqf true [.i .i64,.i .i64] (.t 65) (.t 71)),
 iP 73 (.pick (.t 56) (.t 72) (.c (bl false)))])
 (.cond (.t 73)
 (.seq
 (.reg [
 iP 2 (.mov (.c (i64 10)))])
 .ret)
 .skip))))
 (.reg [
 iP 74 (.bin .add (.i .i64) (.t 49) (.c (i64 1))),
 iM 49 74]))))
def i110:IC :=
 (.seq
 (.reg [
 iP 2 (.mov (.c (i64 0)))])
 (.seq
 (.reg [
 iM 8 0,
 iP 9 (.nck (.t 8)),
 iF 10 0 9,
 iF 11 2 10,
 iL 12 11,
 iP 13 (.len (.t 12)),
 iE 14 (.mks 3 1 8 [i64 0] (.t 13) (.t 13)),
 iM 3 14])
 (.seq
 (.seq
 (.reg [
 iM 15 0,
 iP 16 (.nck (.t 15)),
 iF 17 0 16,
 iF 18 1 17,
 iL 19 18,
 iP 20 (.len (.t 19)),
 iP 21 (.bin .sub (.i .i64) (.t 20) (.c (i64 1))),
 iM 4 21])
 (.blk 0
 (.loop QiB)))
 (.seq
 (.seq
 (.reg [
 iM 43 0,
 iP 44 (.nck (.t 43)),
 iF 45 0 44,
 iF 46 1 45,
 iL 47 46,
 iP 48 (.len (.t 47)),
 iP 49 (.mov (.c (i64 0)))])
 (.blk 2
 (.loop QhN)))
 (.seq
 (.seq
 (.reg [
 iM 75 3,
 iC 76 135 [.t 75,(.c (i64 0))]])
 (.cond (.t 76)
 (.seq
 (.reg [
 iP 2 (.mov (.c (i64 18)))])
 .ret)
 .skip))
 (.seq
 (.seq
 (.reg [
 iM 77 3,
 iC 78 136 [.t 77],
 iP 79 (.not (.t 78))])
 (.cond (.t 79)
 (.seq
 (.reg [
 iP 2 (.mov (.c (i64 9)))])
 .ret)
 .skip))
 (.seq
 (.reg [
 iP 2 (.mov (.c (i64 0)))])
 .ret)))))))
def r110:List RS:=[.t 2]
theorem c110:Qi Tryz.prog Qb Tryz.f110 i110 r110=true:=by kernel_rfl
def i111:IC :=
 (.seq
 (.reg [
 iP 4 (.mov (.c (bl false)))])
 (.seq
 (.reg [
 iM 5 0,
 iM 6 1,
 iC 7 137 [.t 5,.t 6],
 iP 8 (.bin .geq (.i .i64) (.t 7) (.c (i64 0))),
 iM 4 8])
 .ret))
def r111:List RS:=[.t 4]
theorem c111:Qi Tryz.prog Qb Tryz.f111 i111 r111=true:=by kernel_rfl
def QjJ:IC :=
 (.seq
 (.reg [
 iP 4 (.mov (.c (bl false)))])
 (.seq
 (.reg [
 iM 5 0,
 iL 6 1,
 iP 7 (.bin .lss (.i .i64) (.t 5) (.t 6)),
 iM 8 7,
 iG 9 8 false (.mov (.t 0)),
 iG 10 8 false (.ld1 (.t 2)),
 iG 11 8 false (.bin .gtr (.i .i64) (.t 9) (.t 10)),
 iP 12 (.pick (.t 8) (.c (bl true)) (.t 11)),
 iM 4 12])
 .ret))
def Qlp:List RS:=[.t 4]
theorem c112:Qi Tryz.prog Qb Tryz.f112 QjJ Qlp=true:=by kernel_rfl
def i113:IC :=
 (.seq
 (.reg [
 iE 3 (.box 128 (.t 0)),
 iP 6 (.mov (.c (.val (.slice none 0 0))))])
 (.seq
 (.reg [
 iE 7 (.alc 151 [.val (.slice none 0 0)])])
 (.seq
 (.reg [
 iL 8 3,
 iM 9 1,
 iM 10 2,
 iP 11 (.mkf (.func 138) [] [(.t 7),(.t 3)]),
 iC 12 114 [.t 8,.t 9,.t 10,.t 11]])
 (.seq
 (.reg [
 iL 13 7,
 iC 14 139 [.t 13]])
 (.seq
 (.reg [
 iL 15 7,
 iM 6 15])
 .ret)))))
def r113:List RS:=[.t 6]
theorem c113:Qi Tryz.prog Qb Tryz.f113 i113 r113=true:=by kernel_rfl
def Qj5:IC:=.keep [0,1,2,3,8]
 (.seq
 (.seq
 (.reg [
 iM 17 8,
 iP 18 (.bin .geq (.i .i64) (.t 17) (.c (i64 0)))])
 (.cond (.t 18)
 .skip
 (.exit 0)))
 (.seq
 (.blk 1
 (.seq
 (.reg [
 iM 27 0,
 iP 28 (.nck (.t 27)),
 iF 29 0 28,
 iF 30 1 29,
 iL 31 30,
 iM 32 8,
 iP 33 (.ia 6 (.t 31) (.t 32)),
 iP 34 (.ldn 6 (.t 33)),
 iE 9 (.alc 57 [i64 0,i64 0,i64 0,.val (.slice none 0 0),.val (.slice none 0 0),.val (.slice none 0 0)]),
 ⟨none,none,.e (.st 6 (.t 9) (.t 34))⟩])
 (.seq
 (.reg [
 iF 35 0 9,
 iL 36 35,
 iP 37 (.bin .eql (.i .i64) (.t 36) (.c (i64 2))),
 iM 38 37,
 iG 39 38 true (.fa 1 (.t 9)),
 iG 40 38 true (.ld1 (.t 39)),
 iG 41 38 true (.mov (.t 2)),
 iG 42 38 true (.bin .eql (.i .i64) (.t 40) (.t 41)),
 iP 43 (.pick (.t 38) (.t 42) (.c (bl false))),
 iM 44 43,
 iG 45 44 true (.mov (.t 3)),
 iG 46 44 true (.mov (.t 8)),
 iG 47 44 true (.fa 3 (.t 9)),
 iG 48 44 true (.ld1 (.t 47)),
 iG 49 44 true (.mov (.t 1)),
 ⟨(some 50),(some (44,true)),.q (.c (.fn (.func 140) [] [])) [(.t 48),(.t 49)]⟩,
 ⟨(some 51),(some (44,true)),.e (.call (.t 45) [(.t 46),(.t 50)])⟩,
 iG 52 44 true (.not (.t 51)),
 iP 53 (.pick (.t 44) (.t 52) (.c (bl false)))])
 (.cond (.t 53)
 .ret
 .skip))))
 (.drt 9 [0,1,2,3,4,5,6,7,8] [
 iM 19 8,
 iM 20 0,
 iP 21 (.nck (.t 20)),
 iF 22 3 21,
 iL 23 22,
 iM 24 8,
 iP 25 (.ia 1 (.t 23) (.t 24)),
 iL 26 25,
 iM 1 19] [
 iM 8 26])))
def i114:IC :=
 (.seq
 (.reg [
 iM 10 0,
 iP 11 (.nck (.t 10)),
 iF 12 3 11,
 iL 13 12,
 iM 14 1,
 iP 15 (.ia 1 (.t 13) (.t 14)),
 iL 16 15,
 iM 8 16])
 (.blk 0
 (.loop Qj5)))
def r114:List RS:=[]
theorem c114:Qi Tryz.prog Qb Tryz.f114 i114 r114=true:=by kernel_rfl
def Qld:IC :=
 (.seq
 (.reg [
 iP 7 (.mov (.c (bl false)))])
 (.seq
 (.seq
 (.drw [0,1,2,3,4,5,6,7,8,9,10,11] [
 iF 8 0 2,
 iL 9 8,
 iP 10 (.nck (.t 9)),
 iF 11 0 10,
 iF 12 1 11,
 iL 13 12,
 iM 14 0,
 iP 15 (.ia 6 (.t 13) (.t 14)),
 iF 16 2 15,
 iL 17 16,
 iL 18 3,
 iP 19 (.bin .eql (.i .i64) (.t 17) (.t 18))])
 (.cond (.t 19)
 (.reg [
 iM 20 0,
 ⟨none,none,.e (.st 1 (.t 4) (.t 20))⟩])
 .skip))
 (.seq
 (.reg [
 iL 21 4,
 iP 22 (.bin .lss (.i .i64) (.t 21) (.c (i64 0))),
 iM 7 22])
 .ret)))
def Qk9:List RS:=[.t 7]
theorem c115:Qi Tryz.prog Qb Tryz.f115 Qld Qk9=true:=by kernel_rfl
def i116:IC :=
 (.seq
 (.reg [
 iP 4 (.mov (.c (bl false)))])
 (.seq
 (.reg [
 iM 5 0,
 iM 6 1,
 iC 7 141 [.t 5,.t 6],
 iM 4 7])
 .ret))
def r116:List RS:=[.t 4]
theorem c116:Qi Tryz.prog Qb Tryz.f116 i116 r116=true:=by kernel_rfl
def Qgz:IC:=.keep [0,1,2,3,8,9]
 (.seq
 (.seq
 (.drw [0,1,2,3,4,5,6,7,8,9,10,11,12,13,14,15,16] [
 iM 18 9,
 iM 19 1,
 iP 20 (.bin .gtr (.i .i64) (.t 18) (.t 19)),
 iM 21 20,
 iG 22 21 true (.mov (.t 3)),
 iG 23 21 true (.mov (.t 0)),
 iG 24 21 true (.mov (.t 9)),
 iG 25 21 true (.ia 1 (.t 23) (.t 24)),
 iG 26 21 true (.ld1 (.t 25)),
 iG 27 21 true (.mov (.t 0)),
 iG 28 21 true (.mov (.t 9)),
 iG 29 21 true (.bin .sub (.i .i64) (.t 28) (.c (i64 1))),
 iG 30 21 true (.ia 1 (.t 27) (.t 29)),
 iG 31 21 true (.ld1 (.t 30)),
 ⟨(some 32),(some (21,true)),.e (.call (.t 22) [(.t 26),(.t 31)])⟩,
 iG 33 21 true (.bin .lss (.i .i64) (.t 32) (.c (i64 0))),
 iP 34 (.pick (.t 21) (.t 33) (.c (bl false)))])
 (.cond (.t 34)
 .skip
 (.exit 2)))
 (.seq
 (.blk 3
 (.drw [0,1,2,3,4,5,6,7,8,9,10,11,12,13,14,15,16,17] [
 iM 37 0,
 iM 38 9,
 iM 39 0,
 iM 40 9,
 iP 41 (.bin .sub (.i .i64) (.t 40) (.c (i64 1))),
 iM 42 0,
 iM 43 9,
 iP 44 (.bin .sub (.i .i64) (.t 43) (.c (i64 1))),
 iP 45 (.ia 1 (.t 42) (.t 44)),
 iL 46 45,
 iM 47 0,
 iM 48 9,
 iP 49 (.ia 1 (.t 47) (.t 48)),
 iL 50 49,
 iP 51 (.ia 1 (.t 37) (.t 38)),
 ⟨none,none,.e (.stw [50] 1 (.t 51) (.t 46))⟩,
 iP 52 (.ia 1 (.t 39) (.t 41)),
 ⟨none,none,.e (.stw [46] 1 (.t 52) (.t 50))⟩]))
 (.reg [
 iM 35 9,
 iP 36 (.bin .sub (.i .i64) (.t 35) (.c (i64 1))),
 iM 9 36])))
def QfH:IC:=.keep [0,1,2,3,8]
 (.seq
 (.seq
 (.reg [
 iM 12 8,
 iM 13 2,
 iP 14 (.bin .lss (.i .i64) (.t 12) (.t 13))])
 (.cond (.t 14)
 .skip
 (.exit 0)))
 (.seq
 (.blk 1
 (.seq
 (.reg [
 iM 17 8,
 iM 9 17])
 (.blk 2
 (.loop Qgz))))
 (.reg [
 iM 15 8,
 iP 16 (.bin .add (.i .i64) (.t 15) (.c (i64 1))),
 iM 8 16])))
def i117:IC :=
 (.seq
 (.reg [
 iM 10 1,
 iP 11 (.bin .add (.i .i64) (.t 10) (.c (i64 1))),
 iM 8 11])
 (.blk 0
 (.loop QfH)))
def r117:List RS:=[]
theorem c117:Qi Tryz.prog Qb Tryz.f117 i117 r117=true:=by kernel_rfl
def i119:IC :=
 (.seq
 (.reg [
 iP 0 (.mov (.c (.val (.slice none 0 0))))])
 (.seq
 (.reg [
 iE 1 (.bsl 114 1 1 [.val (.int .u32 0)] [(0,(.c (.val (.int .u32 1))))]),
 iM 0 1])
 .ret))
def r119:List RS:=[.t 0]
theorem c119:Qi Tryz.prog Qb Tryz.f119 i119 r119=true:=by kernel_rfl
def Qlh:IC:=.keep [0,1,5]
 (.seq
 (.seq
 (.reg [
 iM 20 1,
 iP 21 (.bin .neq (.i .u64) (.t 20) (.c (.val (.int .u64 0))))])
 (.cond (.t 21)
 .skip
 (.exit 0)))
 (.blk 1
 (.seq
 (.reg [
 iM 22 1,
 iM 23 1,
 iC 24 143 [.t 23],
 iP 25 (.bin .shr (.sh .u64 .i64) (.t 22) (.t 24)),
 iM 1 25])
 (.seq
 (.seq
 (.reg [
 iM 26 0,
 iM 27 1,
 iP 28 (.bin .gtr (.i .u64) (.t 26) (.t 27))])
 (.cond (.t 28)
 (.reg [
 iM 29 1,
 iM 30 0,
 iM 0 29,
 iM 1 30])
 .skip))
 (.reg [
 iM 31 1,
 iM 32 0,
 iP 33 (.bin .sub (.i .u64) (.t 31) (.t 32)),
 iM 1 33])))))
def i120:IC :=
 (.seq
 (.reg [
 iP 4 (.mov (.c (.val (.int .u64 0))))])
 (.seq
 (.seq
 (.reg [
 iM 6 0,
 iP 7 (.bin .eql (.i .u64) (.t 6) (.c (.val (.int .u64 0))))])
 (.cond (.t 7)
 (.seq
 (.reg [
 iM 8 1,
 iM 4 8])
 .ret)
 .skip))
 (.seq
 (.seq
 (.reg [
 iM 9 1,
 iP 10 (.bin .eql (.i .u64) (.t 9) (.c (.val (.int .u64 0))))])
 (.cond (.t 10)
 (.seq
 (.reg [
 iM 11 0,
 iM 4 11])
 .ret)
 .skip))
 (.seq
 (.reg [
 iM 12 0,
 iM 13 1,
 iP 14 (.bin .or (.i .u64) (.t 12) (.t 13)),
 iC 15 143 [.t 14],
 iM 5 15])
 (.seq
 (.reg [
 iM 16 0,
 iM 17 0,
 iC 18 143 [.t 17],
 iP 19 (.bin .shr (.sh .u64 .i64) (.t 16) (.t 18)),
 iM 0 19])
 (.seq
 (.blk 0
 (.loop Qlh))
 (.seq
 (.reg [
 iM 34 0,
 iM 35 5,
 iP 36 (.bin .shl (.sh .u64 .i64) (.t 34) (.t 35)),
 iM 4 36])
 .ret)))))))
def r120:List RS:=[.t 4]
theorem c120:Qi Tryz.prog Qb Tryz.f120 i120 r120=true:=by kernel_rfl
def i129:IC :=
 (.seq
 (.reg [
 iP 2 (.mov (.c (.val (.slice none 0 0))))])
 (.seq
 (.reg [
 iM 3 0,
 iE 4 (.bsl 114 1 1 [.val (.int .u32 0)] [(0,(.t 3))]),
 iC 5 130 [.t 4],
 iM 2 5])
 .ret))
def r129:List RS:=[.t 2]
theorem c129:Qi Tryz.prog Qb Tryz.f129 i129 r129=true:=by kernel_rfl
def Qdk:IC:=.keep [0]
 (.seq
 (.seq
 (.reg [
 iM 3 0,
 iP 4 (.len (.t 3)),
 iP 5 (.bin .gtr (.i .i64) (.t 4) (.c (i64 0))),
 iM 6 5,
 iG 7 6 true (.mov (.t 0)),
 iG 8 6 true (.mov (.t 0)),
 iG 9 6 true (.len (.t 8)),
 iG 10 6 true (.bin .sub (.i .i64) (.t 9) (.c (i64 1))),
 iG 11 6 true (.ia 1 (.t 7) (.t 10)),
 iG 12 6 true (.ld1 (.t 11)),
 iG 13 6 true (.bin .eql (.i .u32) (.t 12) (.c (.val (.int .u32 0)))),
 iP 14 (.pick (.t 6) (.t 13) (.c (bl false)))])
 (.cond (.t 14)
 .skip
 (.exit 0)))
 (.blk 1
 (.reg [
 iM 15 0,
 iM 16 0,
 iP 17 (.len (.t 16)),
 iP 18 (.bin .sub (.i .i64) (.t 17) (.c (i64 1))),
 iP 19 (.sl 1 (.t 15) none (some (.t 18))),
 iM 0 19])))
def Qhw:IC :=
 (.seq
 (.reg [
 iP 2 (.mov (.c (.val (.slice none 0 0))))])
 (.seq
 (.blk 0
 (.loop Qdk))
 (.seq
 (.reg [
 iM 20 0,
 iM 2 20])
 .ret)))
def QiG:List RS:=[.t 2]
theorem Qlf:Qi Tryz.prog Qb Tryz.f130 Qhw QiG=true:=by kernel_rfl
def QgJ:IC:=.keep [0,3]
 (.seq
 (.seq
 (.reg [
 iM 7 3,
 iM 8 0,
 iP 9 (.len (.t 8)),
 iP 10 (.bin .lss (.i .i64) (.t 7) (.t 9))])
 (.cond (.t 10)
 .skip
 (.exit 0)))
 (.seq
 (.blk 1
 (.seq
 (.reg [
 iM 13 0,
 iM 14 3,
 iP 15 (.ia 1 (.t 13) (.t 14)),
 iL 16 15,
 iP 17 (.bin .geq (.i .u32) (.t 16) (.c (.val (.int .u32 1000000000))))])
 (.cond (.t 17)
 (.seq
 (.reg [
 iP 2 (.mov (.c (i64 3)))])
 .ret)
 .skip)))
 (.reg [
 iM 11 3,
 iP 12 (.bin .add (.i .i64) (.t 11) (.c (i64 1))),
 iM 3 12])))
def i131:IC :=
 (.seq
 (.reg [
 iP 2 (.mov (.c (i64 0)))])
 (.seq
 (.seq
 (.reg [
 iM 4 0,
 iP 5 (.len (.t 4)),
 iP 6 (.bin .gtr (.i .i64) (.t 5) (.c (i64 1024)))])
 (.cond (.t 6)
 (.seq
 (.reg [
 iP 2 (.mov (.c (i64 4)))])
 .ret)
 .skip))
 (.seq
 (.seq
 (.reg [
 iP 3 (.mov (.c (i64 0)))])
 (.blk 0
 (.loop QgJ)))
 (.seq
 (.seq
 (.reg [
 iM 18 0,
 iP 19 (.len (.t 18)),
 iP 20 (.bin .gtr (.i .i64) (.t 19) (.c (i64 0))),
 iM 21 20,
 iG 22 21 true (.mov (.t 0)),
 iG 23 21 true (.mov (.t 0)),
 iG 24 21 true (.len (.t 23)),
 iG 25 21 true (.bin .sub (.i .i64) (.t 24) (.c (i64 1))),
 iG 26 21 true (.ia 1 (.t 22) (.t 25)),
 iG 27 21 true (.ld1 (.t 26)),
 iG 28 21 true (.bin .eql (.i .u32) (.t 27) (.c (.val (.int .u32 0)))),
 iP 29 (.pick (.t 21) (.t 28) (.c (bl false)))])
 (.cond (.t 29)
 (.seq
 (.reg [
 iP 2 (.mov (.c (i64 3)))])
 .ret)
 .skip))
 (.seq
 (.reg [
 iP 2 (.mov (.c (i64 0)))])
 .ret)))))
def r131:List RS:=[.t 2]
theorem c131:Qi Tryz.prog Qb Tryz.f131 i131 r131=true:=by kernel_rfl
def i132:IC :=
 (.seq
 (.reg [
 iE 3 (.box 57 (.t 1)),
 iP 4 (.mov (.c (i64 0)))])
 (.seq
 (.seq
 (.reg [
 iF 5 1 3,
 iL 6 5,
 iP 7 (.bin .neq (.i .i64) (.t 6) (.c (i64 0))),
 iM 8 7,
 iG 9 8 false (.fa 2 (.t 3)),
 iG 10 8 false (.ld1 (.t 9)),
 iG 11 8 false (.bin .neq (.i .i64) (.t 10) (.c (i64 0))),
 iP 12 (.pick (.t 8) (.c (bl true)) (.t 11)),
 iM 13 12,
 iG 14 13 false (.fa 5 (.t 3)),
 iG 15 13 false (.ld1 (.t 14)),
 iG 16 13 false (.len (.t 15)),
 iG 17 13 false (.bin .gtr (.i .i64) (.t 16) (.c (i64 0))),
 iP 18 (.pick (.t 13) (.c (bl true)) (.t 17)),
 iM 19 18,
 iG 20 19 false (.fa 3 (.t 3)),
 iG 21 19 false (.ld1 (.t 20)),
 iG 22 19 false (.len (.t 21)),
 iG 23 19 false (.bin .lss (.i .i64) (.t 22) (.c (i64 1))),
 iP 24 (.pick (.t 19) (.c (bl true)) (.t 23)),
 iM 25 24,
 iG 26 25 false (.fa 3 (.t 3)),
 iG 27 25 false (.ld1 (.t 26)),
 iG 28 25 false (.len (.t 27)),
 iG 29 25 false (.bin .gtr (.i .i64) (.t 28) (.c (i64 60))),
 iP 30 (.pick (.t 25) (.c (bl true)) (.t 29)),
 iM 31 30,
 iG 32 31 false (.fa 4 (.t 3)),
 iG 33 31 false (.ld1 (.t 32)),
 iG 34 31 false (.len (.t 33)),
 iG 35 31 false (.fa 3 (.t 3)),
 iG 36 31 false (.ld1 (.t 35)),
 iG 37 31 false (.len (.t 36)),
 iG 38 31 false (.bin .neq (.i .i64) (.t 34) (.t 37)),
 iP 39 (.pick (.t 31) (.c (bl true)) (.t 38))])
 (.cond (.t 39)
 (.seq
 (.reg [
 iP 4 (.mov (.c (i64 3)))])
 .ret)
 .skip))
 (.seq
 (.reg [
 iF 40 4 3,
 iL 41 40,
 iC 42 84 [(.c (i64 1)),(.c (i64 1000)),.t 41],
 iM 4 42])
 .ret)))
def r132:List RS:=[.t 4]
theorem c132:Qi Tryz.prog Qb Tryz.f132 i132 r132=true:=by kernel_rfl
def i133:IC :=
 (.seq
 (.reg [
 iE 3 (.box 57 (.t 1)),
 iP 4 (.mov (.c (i64 0)))])
 (.seq
 (.seq
 (.reg [
 iF 6 4 3,
 iL 7 6,
 iP 8 (.len (.t 7)),
 iP 9 (.bin .gtr (.i .i64) (.t 8) (.c (i64 0))),
 iM 10 9,
 iG 11 10 false (.fa 5 (.t 3)),
 iG 12 10 false (.ld1 (.t 11)),
 iG 13 10 false (.len (.t 12)),
 iG 14 10 false (.bin .gtr (.i .i64) (.t 13) (.c (i64 0))),
 iP 15 (.pick (.t 10) (.c (bl true)) (.t 14)),
 iM 16 15,
 iG 17 16 false (.fa 3 (.t 3)),
 iG 18 16 false (.ld1 (.t 17)),
 iG 19 16 false (.len (.t 18)),
 iG 20 16 false (.bin .lss (.i .i64) (.t 19) (.c (i64 1))),
 iP 21 (.pick (.t 16) (.c (bl true)) (.t 20)),
 iM 22 21,
 iG 23 22 false (.fa 3 (.t 3)),
 iG 24 22 false (.ld1 (.t 23)),
 iG 25 22 false (.len (.t 24)),
 iG 26 22 false (.bin .gtr (.i .i64) (.t 25) (.c (i64 10))),
 iP 27 (.pick (.t 22) (.c (bl true)) (.t 26))])
 (.cond (.t 27)
 (.seq
 (.reg [
 iP 4 (.mov (.c (i64 3)))])
 .ret)
 .skip))
 (.seq
 (.seq
 (.drw [0,1,2,3,4,5,6,7,8,9,10] [
 iM 28 0,
 iP 29 (.nck (.t 28)),
 iF 30 0 29,
 iF 31 0 30,
 iL 32 31,
 iP 33 (.bin .sub (.i .i64) (.t 32) (.c (i64 1))),
 iF 34 1 3,
 iL 35 34,
 iE 36 (.bsl 3 1 1 [i64 0] [(0,(.t 35))]),
 ⟨(some 37),none,.q (.c (.fn (.func 84) [] [])) [(.c (i64 0)),(.t 33),(.t 36)]⟩,
 iM 5 37])
 (.seq
 (.reg [
 iM 38 5,
 iP 39 (.bin .neq (.i .i64) (.t 38) (.c (i64 0)))])
 (.cond (.t 39)
 (.seq
 (.reg [
 iM 40 5,
 iM 4 40])
 .ret)
 .skip)))
 (.seq
 (.drw [0,1,2,3,4,5,6,7,8,9,10,11] [
 iM 41 0,
 iP 42 (.nck (.t 41)),
 iF 43 0 42,
 iF 44 2 43,
 iL 45 44,
 iP 46 (.len (.t 45)),
 iP 47 (.bin .sub (.i .i64) (.t 46) (.c (i64 1))),
 iF 48 2 3,
 iL 49 48,
 iE 50 (.bsl 3 1 1 [i64 0] [(0,(.t 49))]),
 ⟨(some 51),none,.q (.c (.fn (.func 84) [] [])) [(.c (i64 0)),(.t 47),(.t 50)]⟩,
 iM 4 51])
 .ret))))
def r133:List RS:=[.t 4]
theorem c133:Qi Tryz.prog Qb Tryz.f133 i133 r133=true:=by kernel_rfl
def i134:IC :=
 (.seq
 (.reg [
 iE 3 (.box 57 (.t 1)),
 iP 4 (.mov (.c (i64 0)))])
 (.seq
 (.seq
 (.drw [0,1,2,3,4,5,6,7,8,9,10,11,12,13,14,15,16,17,18,19,20,21,22,23,24,25,26,27,28,29,30] [
 iF 5 1 3,
 iL 6 5,
 iP 7 (.bin .neq (.i .i64) (.t 6) (.c (i64 0))),
 iM 8 7,
 iG 9 8 false (.fa 2 (.t 3)),
 iG 10 8 false (.ld1 (.t 9)),
 iG 11 8 false (.bin .neq (.i .i64) (.t 10) (.c (i64 0))),
 iP 12 (.pick (.t 8) (.c (bl true)) (.t 11)),
 iM 13 12,
 iG 14 13 false (.fa 3 (.t 3)),
 iG 15 13 false (.ld1 (.t 14)),
 iG 16 13 false (.len (.t 15)),
 iG 17 13 false (.bin .gtr (.i .i64) (.t 16) (.c (i64 0))),
 iP 18 (.pick (.t 13) (.c (bl true)) (.t 17)),
 iM 19 18,
 iG 20 19 false (.fa 4 (.t 3)),
 iG 21 19 false (.ld1 (.t 20)),
 iG 22 19 false (.len (.t 21)),
 iG 23 19 false (.bin .gtr (.i .i64) (.t 22) (.c (i64 0))),
 iP 24 (.pick (.t 19) (.c (bl true)) (.t 23)),
 iM 25 24,
 iG 26 25 false (.fa 5 (.t 3)),
 iG 27 25 false (.ld1 (.t 26)),
 iG 28 25 false (.len (.t 27)),
 iG 29 25 false (.mov (.t 0)),
 iG 30 25 false (.nck (.t 29)),
 iG 31 25 false (.fa 0 (.t 30)),
 iG 32 25 false (.fa 0 (.t 31)),
 iG 33 25 false (.ld1 (.t 32)),
 iG 34 25 false (.bin .neq (.i .i64) (.t 28) (.t 33)),
 iP 35 (.pick (.t 25) (.c (bl true)) (.t 34))])
 (.cond (.t 35)
 (.seq
 (.reg [
 iP 4 (.mov (.c (i64 3)))])
 .ret)
 .skip))
 (.seq
 (.reg [
 iF 36 5 3,
 iL 37 36,
 iC 38 84 [(.c (i64 (-1000000))),(.c (i64 1000000)),.t 37],
 iM 4 38])
 .ret)))
def r134:List RS:=[.t 4]
theorem c134:Qi Tryz.prog Qb Tryz.f134 i134 r134=true:=by kernel_rfl
def i135:IC :=
 (.seq
 (.reg [
 iP 4 (.mov (.c (bl false)))])
 (.seq
 (.reg [
 iM 5 0,
 iM 6 1,
 iC 7 140 [.t 5,.t 6],
 iP 8 (.bin .geq (.i .i64) (.t 7) (.c (i64 0))),
 iM 4 8])
 .ret))
def r135:List RS:=[.t 4]
theorem c135:Qi Tryz.prog Qb Tryz.f135 i135 r135=true:=by kernel_rfl
def Qfy:IC:=.keep [0,3]
 (.seq
 (.seq
 (.reg [
 iM 7 3,
 iP 8 (.bin .gtr (.i .i64) (.t 7) (.c (i64 0)))])
 (.cond (.t 8)
 .skip
 (.exit 0)))
 (.seq
 (.blk 1
 (.seq
 (.drw [0,1,2,3,4,5,6,7,8,9] [
 iM 11 0,
 iM 12 3,
 iP 13 (.ia 1 (.t 11) (.t 12)),
 iL 14 13,
 iM 15 0,
 iM 16 3,
 iP 17 (.bin .sub (.i .i64) (.t 16) (.c (i64 1))),
 iP 18 (.ia 1 (.t 15) (.t 17)),
 iL 19 18,
 ⟨(some 20),none,.q (.c (.fn (.func 151) [] [])) [(.t 14),(.t 19)]⟩])
 (.cond (.t 20)
 (.seq
 (.reg [
 iP 2 (.mov (.c (bl false)))])
 .ret)
 .skip)))
 (.reg [
 iM 9 3,
 iP 10 (.bin .sub (.i .i64) (.t 9) (.c (i64 1))),
 iM 3 10])))
def QlC:IC :=
 (.seq
 (.reg [
 iP 2 (.mov (.c (bl false)))])
 (.seq
 (.seq
 (.reg [
 iM 4 0,
 iP 5 (.len (.t 4)),
 iP 6 (.bin .sub (.i .i64) (.t 5) (.c (i64 1))),
 iM 3 6])
 (.blk 0
 (.loop Qfy)))
 (.seq
 (.reg [
 iP 2 (.mov (.c (bl true)))])
 .ret)))
def Qle:List RS:=[.t 2]
theorem c136:Qi Tryz.prog Qb Tryz.f136 QlC Qle=true:=by kernel_rfl
def QhG:IC:=.keep [0,1,7,8]
 (.seq
 (.reg [
 iP 9 (.bin .lss (.i .i64) (.t 8) (.t 7))])
 (.seq
 (.cond (.t 9)
 .skip
 (.exit 0))
 (.seq
 (.blk 1
 (.seq
 (.reg [
 iM 10 8,
 iM 5 10])
 (.seq
 (.reg [
 iM 11 1,
 iM 12 0,
 iM 13 5,
 iP 14 (.ia 1 (.t 12) (.t 13)),
 iL 15 14,
 iE 16 (.call (.t 11) [(.t 15)])])
 (.cond (.t 16)
 (.seq
 (.reg [
 iM 17 5,
 iM 4 17])
 .ret)
 .skip))))
 (.reg [
 iP 18 (.bin .add (.i .i64) (.t 8) (.c (i64 1))),
 iM 8 18]))))
def i137:IC :=
 (.seq
 (.reg [
 iP 4 (.mov (.c (i64 0)))])
 (.seq
 (.seq
 (.reg [
 iM 6 0,
 iP 7 (.len (.t 6)),
 iP 8 (.mov (.c (i64 0)))])
 (.blk 0
 (.loop QhG)))
 (.seq
 (.reg [
 iP 4 (.mov (.c (i64 (-1))))])
 .ret)))
def r137:List RS:=[.t 4]
theorem c137:Qi Tryz.prog Qb Tryz.f137 i137 r137=true:=by kernel_rfl
def Qku:IC :=
 (.seq
 (.reg [
 iP 6 (.mov (.c (bl false)))])
 (.seq
 (.drw [0,1,2,3,4,5,6,7,8,9,10,11,12,13,14] [
 iL 7 2,
 iL 8 3,
 iP 9 (.nck (.t 8)),
 iF 10 0 9,
 iF 11 1 10,
 iL 12 11,
 iM 13 0,
 iP 14 (.ia 6 (.t 12) (.t 13)),
 iF 15 2 14,
 iL 16 15,
 iM 17 1,
 iP 18 (.bld [i64 0,i64 0] [(0,1,(.t 16)),(1,1,(.t 17))]),
 iE 19 (.bsl 155 2 1 [i64 0,i64 0] [(0,(.t 18))]),
 iE 20 (.app 155 2 16 (.t 7) (.t 19)),
 ⟨none,none,.e (.stw [16,12,8,7] 1 (.t 2) (.t 20))⟩])
 (.seq
 (.reg [
 iP 6 (.mov (.c (bl true)))])
 .ret)))
def QlM:List RS:=[.t 6]
theorem c138:Qi Tryz.prog Qb Tryz.f138 Qku QlM=true:=by kernel_rfl
def Qf5:IC:=.keep [0,2,3]
 (.seq
 (.seq
 (.reg [
 iM 7 2,
 iM 8 3,
 iP 9 (.bin .lss (.i .i64) (.t 7) (.t 8))])
 (.cond (.t 9)
 .skip
 (.exit 0)))
 (.seq
 (.blk 1
 (.drw [0,1,2,3,4,5,6,7,8,9,10,11,12,13,14,15] [
 iM 14 0,
 iM 15 2,
 iM 16 0,
 iM 17 3,
 iM 18 0,
 iM 19 3,
 iP 20 (.ia 2 (.t 18) (.t 19)),
 iP 21 (.ldn 2 (.t 20)),
 iM 22 0,
 iM 23 2,
 iP 24 (.ia 2 (.t 22) (.t 23)),
 iP 25 (.ldn 2 (.t 24)),
 iP 26 (.ia 2 (.t 14) (.t 15)),
 ⟨none,none,.e (.stw [25] 2 (.t 26) (.t 21))⟩,
 iP 27 (.ia 2 (.t 16) (.t 17)),
 ⟨none,none,.e (.stw [21] 2 (.t 27) (.t 25))⟩]))
 (.reg [
 iM 10 2,
 iP 11 (.bin .add (.i .i64) (.t 10) (.c (i64 1))),
 iM 12 3,
 iP 13 (.bin .sub (.i .i64) (.t 12) (.c (i64 1))),
 iM 2 11,
 iM 3 13])))
def Qls:IC :=
 (.seq
 (.reg [
 iM 4 0,
 iP 5 (.len (.t 4)),
 iP 6 (.bin .sub (.i .i64) (.t 5) (.c (i64 1))),
 iP 2 (.mov (.c (i64 0))),
 iM 3 6])
 (.blk 0
 (.loop Qf5)))
def QjS:List RS:=[]
theorem c139:Qi Tryz.prog Qb Tryz.f139 Qls QjS=true:=by kernel_rfl
def Qh0:IC:=.keep [0,1,7,8]
 (.seq
 (.reg [
 iP 9 (.bin .lss (.i .i64) (.t 8) (.t 7))])
 (.seq
 (.cond (.t 9)
 .skip
 (.exit 0))
 (.seq
 (.blk 1
 (.seq
 (.reg [
 iM 10 8,
 iM 5 10])
 (.seq
 (.reg [
 iM 11 1,
 iM 12 0,
 iM 13 5,
 iP 14 (.ia 1 (.t 12) (.t 13)),
 iL 15 14,
 iP 16 (.bin .eql (.i .i64) (.t 11) (.t 15))])
 (.cond (.t 16)
 (.seq
 (.reg [
 iM 17 5,
 iM 4 17])
 .ret)
 .skip))))
 (.reg [
 iP 18 (.bin .add (.i .i64) (.t 8) (.c (i64 1))),
 iM 8 18]))))
def i140:IC :=
 (.seq
 (.reg [
 iP 4 (.mov (.c (i64 0)))])
 (.seq
 (.seq
 (.reg [
 iM 6 0,
 iP 7 (.len (.t 6)),
 iP 8 (.mov (.c (i64 0)))])
 (.blk 0
 (.loop Qh0)))
 (.seq
 (.reg [
 iP 4 (.mov (.c (i64 (-1))))])
 .ret)))
def r140:List RS:=[.t 4]
theorem c140:Qi Tryz.prog Qb Tryz.f140 i140 r140=true:=by kernel_rfl
def Qh6:IC:=.keep [0,1,12,13]
 (.seq
 (.reg [
 iP 14 (.bin .lss (.i .i64) (.t 13) (.t 12))])
 (.seq
 (.cond (.t 14)
 .skip
 (.exit 0))
 (.seq
 (.blk 1
 (.seq
 (.reg [
 iM 15 13,
 iM 5 15])
 (.seq
 (.drw [0,1,2,3,4,5,6,7,8] [
 iM 16 0,
 iM 17 5,
 iP 18 (.ia 2 (.t 16) (.t 17)),
 iP 19 (.ldn 2 (.t 18)),
 iM 20 1,
 iM 21 5,
 iP 22 (.ia 2 (.t 20) (.t 21)),
 iP 23 (.ldn 2 (.t 22)),
 iP 24 (.eqf true [.i .i64,.i .i64] (.t 19) (.t 23))])
 (.cond (.t 24)
 (.seq
 (.reg [
 iP 4 (.mov (.c (bl false)))])
 .ret)
 .skip))))
 (.reg [
 iP 25 (.bin .add (.i .i64) (.t 13) (.c (i64 1))),
 iM 13 25]))))
def QkV:IC :=
 (.seq
 (.reg [
 iP 4 (.mov (.c (bl false)))])
 (.seq
 (.seq
 (.reg [
 iM 6 0,
 iP 7 (.len (.t 6)),
 iM 8 1,
 iP 9 (.len (.t 8)),
 iP 10 (.bin .neq (.i .i64) (.t 7) (.t 9))])
 (.cond (.t 10)
 (.seq
 (.reg [
 iP 4 (.mov (.c (bl false)))])
 .ret)
 .skip))
 (.seq
 (.seq
 (.reg [
 iM 11 0,
 iP 12 (.len (.t 11)),
 iP 13 (.mov (.c (i64 0)))])
 (.blk 0
 (.loop Qh6)))
 (.seq
 (.reg [
 iP 4 (.mov (.c (bl true)))])
 .ret))))
def QjA:List RS:=[.t 4]
theorem c141:Qi Tryz.prog Qb Tryz.f141 QkV QjA=true:=by kernel_rfl
def i143:IC :=
 (.seq
 (.reg [
 iP 2 (.mov (.c (i64 0)))])
 (.seq
 (.seq
 (.reg [
 iM 3 0,
 iP 4 (.bin .eql (.i .u64) (.t 3) (.c (.val (.int .u64 0))))])
 (.cond (.t 4)
 (.seq
 (.reg [
 iP 2 (.mov (.c (i64 64)))])
 .ret)
 .skip))
 (.seq
 (.reg [
 iM 5 0,
 iM 6 0,
 iP 7 (.neg .u64 (.t 6)),
 iP 8 (.bin .and (.i .u64) (.t 5) (.t 7)),
 iP 9 (.bin .mul (.i .u64) (.t 8) (.c (.val (.int .u64 285870213051353865)))),
 iP 10 (.bin .shr (.sh .u64 .u64) (.t 9) (.c (.val (.int .u64 58)))),
 iP 11 (.gix 0 64 1 gv0 (.t 10)),
 iL 12 11,
 iP 13 (.cvi .i64 (.t 12)),
 iM 2 13])
 .ret)))
def r143:List RS:=[.t 2]
theorem c143:Qi Tryz.prog Qb Tryz.f143 i143 r143=true:=by kernel_rfl
def i151:IC :=
 (.seq
 (.reg [
 iP 4 (.mov (.c (bl false)))])
 (.seq
 (.reg [
 iM 5 0,
 iC 6 153 [.t 5],
 iM 7 6,
 iG 8 7 true (.mov (.t 1)),
 ⟨(some 9),(some (7,true)),.q (.c (.fn (.func 153) [] [])) [(.t 8)]⟩,
 iG 10 7 true (.not (.t 9)),
 iP 11 (.pick (.t 7) (.t 10) (.c (bl false))),
 iM 12 11,
 iG 13 12 false (.mov (.t 0)),
 iG 14 12 false (.mov (.t 1)),
 iG 15 12 false (.bin .lss (.i .i64) (.t 13) (.t 14)),
 iP 16 (.pick (.t 12) (.c (bl true)) (.t 15)),
 iM 4 16])
 .ret))
def r151:List RS:=[.t 4]
theorem c151:Qi Tryz.prog Qb Tryz.f151 i151 r151=true:=by kernel_rfl
def i153:IC :=
 (.seq
 (.reg [
 iP 2 (.mov (.c (bl false)))])
 (.seq
 (.reg [
 iM 3 0,
 iM 4 0,
 iP 5 (.bin .neq (.i .i64) (.t 3) (.t 4)),
 iM 2 5])
 .ret))
def r153:List RS:=[.t 2]
theorem c153:Qi Tryz.prog Qb Tryz.f153 i153 r153=true:=by kernel_rfl
end Go.Proofs.YtogjmpkehjfecaaGreatDoor
