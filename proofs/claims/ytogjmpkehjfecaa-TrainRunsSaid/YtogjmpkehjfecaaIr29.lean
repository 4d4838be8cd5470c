/-
  Steps of the proof: contracts of functions and plain facts that the statement rests on.
-/
import Derived.Test.YtogjmpkehjfecaaM0
set_option linter.all false
namespace Go.Proofs.Ytogjmpkehjfecaa
open Go.Ab
abbrev iP (n:Nat) (i:I):Ins:=⟨some n,none,.p i⟩
abbrev iM (n m:Nat):Ins:=⟨some n,none,.p (.mov (.t m))⟩
abbrev iF (n k m:Nat):Ins:=⟨some n,none,.p (.fa k (.t m))⟩
abbrev iL (n m:Nat):Ins:=⟨some n,none,.p (.ld1 (.t m))⟩
abbrev iC (n f:Nat) (l:List Od):Ins:=⟨some n,none,.e (.call (.c (.fn (.func f) [] [])) l)⟩
abbrev iE (n:Nat) (e:E):Ins:=⟨some n,none,.e e⟩
abbrev iG (n g:Nat) (b:Bool) (i:I):Ins:=⟨some n,some (g,b),.p i⟩
def i3:IC :=
 (.seq
 (.reg [
 iE 3 (.box 25 (.t 0)),
 iE 4 (.box 28 (.t 1)),
 iP 6 (.mov (.c (bl false)))])
 (.seq
 (.seq
 (.reg [
 iC 11 6 [],
 iP 12 (.not (.t 11))])
 (.cond (.t 12)
 (.seq
 (.reg [
 iP 6 (.mov (.c (bl false)))])
 .ret)
 .skip))
 (.seq
 (.seq
 (.reg [
 iF 13 1 3,
 iL 14 13,
 iP 15 (.len (.t 14)),
 iP 16 (.bin .gtr (.i .i64) (.t 15) (.c (i64 30))),
 iM 17 16,
 iG 18 17 false (.fa 2 (.t 4)),
 iG 19 17 false (.ld1 (.t 18)),
 ⟨(some 20),(some (17,false)),.q (.c (.fn (.func 7) [] [])) [(.t 19)]⟩,
 iP 21 (.pick (.t 17) (.c (bl true)) (.t 20)),
 iM 22 21,
 iG 23 22 false (.fa 3 (.t 4)),
 iG 24 22 false (.ld1 (.t 23)),
 ⟨(some 25),(some (22,false)),.q (.c (.fn (.func 7) [] [])) [(.t 24)]⟩,
 iP 26 (.pick (.t 22) (.c (bl true)) (.t 25)),
 iM 27 26,
 iG 28 27 false (.mov (.t 2)),
 iG 29 27 false (.bin .gtr (.i .i64) (.t 28) (.c (i64 200))),
 iG 30 27 false (.mov (.t 29)),
 iG 31 30 true (.mov (.t 2)),
 iG 32 30 true (.bin .leq (.i .i64) (.t 31) (.c (i64 20000))),
 iG 33 27 false (.pick (.t 30) (.t 32) (.c (bl false))),
 iP 34 (.pick (.t 27) (.c (bl true)) (.t 33))])
 (.cond (.t 34)
 (.seq
 (.reg [
 iP 6 (.mov (.c (bl true)))])
 .ret)
 .skip))
 (.seq
 (.reg [
 iP 36 (.ldn 3 (.t 3)),
 iP 37 (.ldn 4 (.t 4)),
 iM 38 2,
 iC 39 8 [.t 36,.t 37,.t 38],
 iM 35 39,
 iP 40 (.ext (.t 35) 0),
 iP 41 (.ext (.t 35) 1),
 iE 7 (.alc 28 [i64 0,i64 0,.val (.slice none 0 0),.val (.slice none 0 0)]),
 ⟨none,none,.e (.st 4 (.t 7) (.t 40))⟩,
 iM 8 41])
 (.seq
 (.reg [
 iP 43 (.ldn 3 (.t 3)),
 iP 44 (.ldn 4 (.t 4)),
 iM 45 2,
 iC 46 9 [.t 43,.t 44,.t 45],
 iM 42 46,
 iP 47 (.ext (.t 42) 0),
 iP 48 (.ext (.t 42) 1),
 iE 9 (.alc 28 [i64 0,i64 0,.val (.slice none 0 0),.val (.slice none 0 0)]),
 ⟨none,none,.e (.st 4 (.t 9) (.t 47))⟩,
 iM 10 48])
 (.seq
 (.reg [
 iP 49 (.ldn 4 (.t 7)),
 iP 50 (.ldn 4 (.t 9)),
 iC 51 10 [.t 49,.t 50],
 iM 52 51,
 iG 53 52 true (.mov (.t 8)),
 iG 54 52 true (.mov (.t 10)),
 iG 55 52 true (.bin .eql (.i .i64) (.t 53) (.t 54)),
 iP 56 (.pick (.t 52) (.t 55) (.c (bl false))),
 iM 6 56])
 .ret))))))
def r3:List RS:=[.t 6]
theorem c3:chkF Try.prog drawB Try.f3 i3 r3=true:=by kernel_rfl
def i6:IC :=
 (.seq
 (.reg [
 iP 0 (.mov (.c (bl false)))])
 (.seq
 (.reg [
 iC 7 25 [],
 iC 8 13 [.t 7],
 iM 6 8,
 iP 9 (.ext (.t 6) 0),
 iP 10 (.ext (.t 6) 1),
 iE 1 (.alc 28 [i64 0,i64 0,.val (.slice none 0 0),.val (.slice none 0 0)]),
 ⟨none,none,.e (.st 4 (.t 1) (.t 9))⟩,
 iM 2 10])
 (.seq
 (.drw [0,1,2,3,4,5,6,7] [
 ⟨(some 12),none,.q (.c (.fn (.func 25) [] [])) []⟩,
 iP 13 (.ldn 4 (.t 1)),
 ⟨(some 14),none,.q (.c (.fn (.func 15) [] [])) [(.t 12),(.t 13)]⟩,
 iM 11 14,
 iP 15 (.ext (.t 11) 0),
 iP 16 (.ext (.t 11) 1),
 ⟨none,none,.e (.st 4 (.t 1) (.t 15))⟩,
 iM 3 16])
 (.seq
 (.drw [0,1,2,3,4,5,6,7] [
 ⟨(some 18),none,.q (.c (.fn (.func 25) [] [])) []⟩,
 iP 19 (.ldn 4 (.t 1)),
 ⟨(some 20),none,.q (.c (.fn (.func 14) [] [])) [(.t 18),(.t 19)]⟩,
 iM 17 20,
 iP 21 (.ext (.t 17) 0),
 iP 22 (.ext (.t 17) 1),
 iM 4 21,
 iM 5 22])
 (.seq
 (.reg [
 iM 23 2,
 iP 24 (.bin .eql (.i .i64) (.t 23) (.c (i64 0))),
 iM 25 24,
 iG 26 25 true (.mov (.t 3)),
 iG 27 25 true (.bin .eql (.i .i64) (.t 26) (.c (i64 0))),
 iP 28 (.pick (.t 25) (.t 27) (.c (bl false))),
 iM 29 28,
 iG 30 29 true (.mov (.t 5)),
 iG 31 29 true (.bin .eql (.i .i64) (.t 30) (.c (i64 0))),
 iP 32 (.pick (.t 29) (.t 31) (.c (bl false))),
 iM 33 32,
 iG 34 33 true (.fa 2 (.t 1)),
 iG 35 33 true (.ld1 (.t 34)),
 ⟨(some 36),(some (33,true)),.e (.bsl 3 1 2 [i64 0] [(0,(.c (i64 171))),(1,(.c (i64 (-171))))])⟩,
 ⟨(some 37),(some (33,true)),.e (.bsl 3 1 2 [i64 0] [(0,(.c (i64 341))),(1,(.c (i64 (-341))))])⟩,
 ⟨(some 38),(some (33,true)),.e (.bsl 3 1 3 [i64 0] [(0,(.c (i64 341))),(1,(.c (i64 (-1194)))),(2,(.c (i64 853)))])⟩,
 ⟨(some 39),(some (33,true)),.e (.bsl 36 1 3 [.val (.slice none 0 0)] [(0,(.t 36)),(1,(.t 37)),(2,(.t 38))])⟩,
 ⟨(some 40),(some (33,true)),.q (.c (.fn (.func 26) [] [])) [(.t 35),(.t 39)]⟩,
 iP 41 (.pick (.t 33) (.t 40) (.c (bl false))),
 iM 42 41,
 iG 43 42 true (.mov (.t 4)),
 ⟨(some 44),(some (42,true)),.e (.bsl 3 1 2 [i64 0] [(0,(.c (i64 65536))),(1,(.c (i64 0)))])⟩,
 ⟨(some 45),(some (42,true)),.e (.bsl 3 1 2 [i64 0] [(0,(.c (i64 65536))),(1,(.c (i64 0)))])⟩,
 ⟨(some 46),(some (42,true)),.e (.bsl 3 1 3 [i64 0] [(0,(.c (i64 18717))),(1,(.c (i64 0))),(2,(.c (i64 46819)))])⟩,
 ⟨(some 47),(some (42,true)),.e (.bsl 36 1 3 [.val (.slice none 0 0)] [(0,(.t 44)),(1,(.t 45)),(2,(.t 46))])⟩,
 ⟨(some 48),(some (42,true)),.q (.c (.fn (.func 26) [] [])) [(.t 43),(.t 47)]⟩,
 iP 49 (.pick (.t 42) (.t 48) (.c (bl false))),
 iM 0 49])
 .ret)))))
def r6:List RS:=[.t 0]
theorem c6:chkF Try.prog drawB Try.f6 i6 r6=true:=by kernel_rfl
def l7_0:IC:=.keep [0,3]
 (.seq
 (.seq
 (.reg [
 iM 4 3,
 iM 5 0,
 iP 6 (.len (.t 5)),
 iP 7 (.bin .lss (.i .i64) (.t 4) (.t 6))])
 (.cond (.t 7)
 .skip
 (.exit 0)))
 (.seq
 (.blk 1
 (.seq
 (.reg [
 iM 10 0,
 iM 11 3,
 iP 12 (.ia 1 (.t 10) (.t 11)),
 iL 13 12,
 iP 14 (.len (.t 13)),
 iP 15 (.bin .gtr (.i .i64) (.t 14) (.c (i64 20)))])
 (.cond (.t 15)
 (.seq
 (.reg [
 iP 2 (.mov (.c (bl true)))])
 .ret)
 .skip)))
 (.reg [
 iM 8 3,
 iP 9 (.bin .add (.i .i64) (.t 8) (.c (i64 1))),
 iM 3 9])))
def i7:IC :=
 (.seq
 (.reg [
 iP 2 (.mov (.c (bl false)))])
 (.seq
 (.seq
 (.reg [
 iP 3 (.mov (.c (i64 0)))])
 (.blk 0
 (.loop l7_0)))
 (.seq
 (.reg [
 iM 16 0,
 iP 17 (.len (.t 16)),
 iP 18 (.bin .gtr (.i .i64) (.t 17) (.c (i64 60))),
 iM 2 18])
 .ret)))
def r7:List RS:=[.t 2]
theorem c7:chkF Try.prog drawB Try.f7 i7 r7=true:=by kernel_rfl
def l8_0:IC:=.keep [6,7,9,45,46]
 (.seq
 (.reg [
 iP 47 (.bin .lss (.i .i64) (.t 46) (.t 45))])
 (.seq
 (.cond (.t 47)
 .skip
 (.exit 0))
 (.seq
 (.blk 1
 (.reg [
 iM 48 9,
 iC 49 30 [.t 48]]))
 (.reg [
 iP 50 (.bin .add (.i .i64) (.t 46) (.c (i64 1))),
 iM 46 50]))))
def i8a0:IC :=
 (.reg [
 iE 3 (.box 25 (.t 0)),
 iE 4 (.box 28 (.t 1)),
 iE 6 (.alc 28 [i64 0,i64 0,.val (.slice none 0 0),.val (.slice none 0 0)]),
 iE 7 (.alc 31 [i64 0])])
def i8a1:IC :=
 (.seq
 (.reg [
 iP 10 (.ldn 3 (.t 3)),
 iP 11 (.ldn 4 (.t 4)),
 iC 12 16 [.t 10,.t 11],
 iM 8 12])
 (.seq
 (.reg [
 iM 13 8,
 iP 14 (.bin .neq (.i .i64) (.t 13) (.c (i64 0)))])
 (.cond (.t 14)
 (.seq
 (.reg [
 iP 15 (.bld [i64 0,i64 0,.val (.slice none 0 0),.val (.slice none 0 0)] []),
 iM 16 8,
 ⟨none,none,.e (.st 4 (.t 6) (.t 15))⟩,
 ⟨none,none,.e (.st 1 (.t 7) (.t 16))⟩])
 .ret)
 .skip)))
def i8a2:IC :=
 (.seq
 (.reg [
 iM 17 2,
 iP 18 (.bin .lss (.i .i64) (.t 17) (.c (i64 0))),
 iM 19 18,
 iG 20 19 false (.mov (.t 2)),
 iG 21 19 false (.bin .gtr (.i .i64) (.t 20) (.c (i64 20000))),
 iP 22 (.pick (.t 19) (.c (bl true)) (.t 21)),
 iM 23 22,
 iG 24 23 false (.fa 0 (.t 4)),
 iG 25 23 false (.ld1 (.t 24)),
 iG 26 23 false (.mov (.t 2)),
 iG 27 23 false (.bin .add (.i .i64) (.t 25) (.t 26)),
 iG 28 23 false (.bin .gtr (.i .i64) (.t 27) (.c (i64 1000000))),
 iP 29 (.pick (.t 23) (.c (bl true)) (.t 28))])
 (.cond (.t 29)
 (.seq
 (.reg [
 iP 30 (.bld [i64 0,i64 0,.val (.slice none 0 0),.val (.slice none 0 0)] []),
 ⟨none,none,.e (.st 4 (.t 6) (.t 30))⟩,
 ⟨none,none,.e (.st 1 (.t 7) (.c (i64 2)))⟩])
 .ret)
 .skip))
def i8p:List IC:=[i8a0,i8a1,i8a2]
def i8s:Ins:=⟨(some 31),none,.p (.mkf (.func 27) [] [(.t 6),(.t 7)])⟩
def i8f:Od:=.t 31
def i8:IC :=
 (.seq
 (.drw [0,1,2,3,4,5,6,8,9,7,10,11,12,13] [
 iP 32 (.ldn 3 (.t 3)),
 iF 33 0 4,
 iL 34 33,
 iF 35 1 4,
 iL 36 35,
 iF 37 2 4,
 iL 38 37,
 iF 40 3 4,
 iL 41 40,
 iC 39 29 [.t 38],
 iC 42 29 [.t 41],
 iP 43 (.bld [i64 0,i64 0,.val (.slice none 0 0),.val (.slice none 0 0)] [(0,1,(.t 34)),(1,1,(.t 36)),(2,1,(.t 39)),(3,1,(.t 42))]),
 iC 44 28 [.t 32,.t 43],
 iM 9 44])
 (.seq
 (.seq
 (.reg [
 iM 45 2,
 iP 46 (.mov (.c (i64 0)))])
 (.blk 0
 (.loop l8_0)))
 (.seq
 (.reg [
 iM 51 9,
 iP 52 (.nck (.t 51)),
 iF 53 5 52,
 iP 54 (.ldn 4 (.t 53)),
 ⟨none,none,.e (.st 4 (.t 6) (.t 54))⟩,
 ⟨none,none,.e (.st 1 (.t 7) (.c (i64 0)))⟩])
 .ret)))
def r8:List RS:=[.cn 6 4,.c1 7]
theorem c8:chkDs Try.prog drawB Try.f8 i8p i8s i8f i8 r8=true:=by kernel_rfl
def l9_0:IC:=.keep [2,3,4,6,9,10]
 (.seq
 (.seq
 (.reg [
 iM 43 10,
 iF 44 2 3,
 iL 45 44,
 iP 46 (.len (.t 45)),
 iP 47 (.bin .lss (.i .i64) (.t 43) (.t 46))])
 (.cond (.t 47)
 .skip
 (.exit 0)))
 (.seq
 (.blk 1
 (.seq
 (.drw [0,1,2,3,4,5,6,7,8,9,10] [
 iF 50 2 9,
 iL 51 50,
 iM 52 10,
 iP 53 (.ia 1 (.t 51) (.t 52)),
 iL 54 53,
 iF 55 2 4,
 iL 56 55,
 iM 57 10,
 iP 58 (.ia 1 (.t 56) (.t 57)),
 iL 59 58,
 iE 60 (.cpy 1 (.t 54) (.t 59))])
 (.drw [0,1,2,3,4,5,6,7,8,9,10] [
 iF 61 3 9,
 iL 62 61,
 iM 63 10,
 iP 64 (.ia 1 (.t 62) (.t 63)),
 iL 65 64,
 iF 66 3 4,
 iL 67 66,
 iM 68 10,
 iP 69 (.ia 1 (.t 67) (.t 68)),
 iL 70 69,
 iE 71 (.cpy 1 (.t 65) (.t 70))])))
 (.reg [
 iM 48 10,
 iP 49 (.bin .add (.i .i64) (.t 48) (.c (i64 1))),
 iM 10 49])))
def l9_1:IC:=.keep [2,3,6,9]
 (.seq
 (.seq
 (.reg [
 iM 72 2,
 iP 73 (.bin .gtr (.i .i64) (.t 72) (.c (i64 0)))])
 (.cond (.t 73)
 .skip
 (.exit 2)))
 (.seq
 (.blk 3
 (.seq
 (.reg [
 iP 77 (.ldn 3 (.t 3)),
 iP 78 (.ldn 4 (.t 9)),
 iC 79 33 [.t 77,.t 78],
 iM 76 79,
 iP 80 (.ext (.t 76) 0),
 iP 81 (.ext (.t 76) 1),
 iE 11 (.alc 28 [i64 0,i64 0,.val (.slice none 0 0),.val (.slice none 0 0)]),
 ⟨none,none,.e (.st 4 (.t 11) (.t 80))⟩,
 iM 12 81])
 (.seq
 (.seq
 (.reg [
 iM 82 12,
 iP 83 (.bin .neq (.i .i64) (.t 82) (.c (i64 0)))])
 (.cond (.t 83)
 (.seq
 (.reg [
 iP 84 (.bld [i64 0,i64 0,.val (.slice none 0 0),.val (.slice none 0 0)] []),
 iM 85 12,
 ⟨none,none,.e (.st 4 (.t 6) (.t 84))⟩,
 iM 7 85])
 .ret)
 .skip))
 (.reg [
 iP 86 (.ldn 4 (.t 11)),
 ⟨none,none,.e (.st 4 (.t 9) (.t 86))⟩]))))
 (.reg [
 iM 74 2,
 iP 75 (.bin .sub (.i .i64) (.t 74) (.c (i64 1))),
 iM 2 75])))
def i9:IC :=
 (.seq
 (.reg [
 iE 3 (.box 25 (.t 0)),
 iE 4 (.box 28 (.t 1)),
 iE 6 (.alc 28 [i64 0,i64 0,.val (.slice none 0 0),.val (.slice none 0 0)]),
 iP 7 (.mov (.c (i64 0)))])
 (.seq
 (.seq
 (.reg [
 iP 13 (.ldn 3 (.t 3)),
 iP 14 (.ldn 4 (.t 4)),
 iC 15 31 [.t 13,.t 14],
 iM 8 15])
 (.seq
 (.reg [
 iM 16 8,
 iP 17 (.bin .neq (.i .i64) (.t 16) (.c (i64 0)))])
 (.cond (.t 17)
 (.seq
 (.reg [
 iP 18 (.bld [i64 0,i64 0,.val (.slice none 0 0),.val (.slice none 0 0)] []),
 iM 19 8,
 ⟨none,none,.e (.st 4 (.t 6) (.t 18))⟩,
 iM 7 19])
 .ret)
 .skip)))
 (.seq
 (.seq
 (.reg [
 iM 20 2,
 iP 21 (.bin .lss (.i .i64) (.t 20) (.c (i64 0))),
 iM 22 21,
 iG 23 22 false (.mov (.t 2)),
 iG 24 22 false (.bin .gtr (.i .i64) (.t 23) (.c (i64 20000))),
 iP 25 (.pick (.t 22) (.c (bl true)) (.t 24)),
 iM 26 25,
 iG 27 26 false (.fa 0 (.t 4)),
 iG 28 26 false (.ld1 (.t 27)),
 iG 29 26 false (.mov (.t 2)),
 iG 30 26 false (.bin .add (.i .i64) (.t 28) (.t 29)),
 iG 31 26 false (.bin .gtr (.i .i64) (.t 30) (.c (i64 1000000))),
 iP 32 (.pick (.t 26) (.c (bl true)) (.t 31))])
 (.cond (.t 32)
 (.seq
 (.reg [
 iP 33 (.bld [i64 0,i64 0,.val (.slice none 0 0),.val (.slice none 0 0)] []),
 ⟨none,none,.e (.st 4 (.t 6) (.t 33))⟩,
 iP 7 (.mov (.c (i64 2)))])
 .ret)
 .skip))
 (.seq
 (.drf [28] [9,0,1,2,3,4,6,5,7,8,10] [
 iE 9 (.fla 0 28 [i64 0,i64 0,.val (.slice none 0 0),.val (.slice none 0 0)]),
 iF 34 0 4,
 iL 35 34,
 iF 36 1 4,
 iL 37 36,
 iP 38 (.ldn 3 (.t 3)),
 iP 40 (.ldn 3 (.t 3)),
 iE 39 (.calln (.c (.fn (.func 32) [] [])) [(.t 38)]),
 iE 41 (.calln (.c (.fn (.func 32) [] [])) [(.t 40)]),
 iP 42 (.bld [i64 0,i64 0,.val (.slice none 0 0),.val (.slice none 0 0)] [(0,1,(.t 35)),(1,1,(.t 37)),(2,1,(.t 39)),(3,1,(.t 41))]),
 ⟨none,none,.e (.stw [40,38] 4 (.t 9) (.t 42))⟩])
 (.seq
 (.seq
 (.reg [
 iP 10 (.mov (.c (i64 0)))])
 (.blk 0
 (.loop l9_0)))
 (.seq
 (.blk 2
 (.loop l9_1))
 (.seq
 (.reg [
 iP 87 (.ldn 4 (.t 9)),
 ⟨none,none,.e (.st 4 (.t 6) (.t 87))⟩,
 iP 7 (.mov (.c (i64 0)))])
 .ret)))))))
def r9:List RS:=[.cn 6 4,.t 7]
theorem c9:chkF Try.prog drawB Try.f9 i9 r9=true:=by kernel_rfl
def i10:IC :=
 (.seq
 (.reg [
 iE 2 (.box 28 (.t 0)),
 iE 3 (.box 28 (.t 1)),
 iP 4 (.mov (.c (bl false)))])
 (.seq
 (.reg [
 iF 5 0 2,
 iL 6 5,
 iF 7 0 3,
 iL 8 7,
 iP 9 (.bin .eql (.i .i64) (.t 6) (.t 8)),
 iM 10 9,
 iG 11 10 true (.fa 1 (.t 2)),
 iG 12 10 true (.ld1 (.t 11)),
 iG 13 10 true (.fa 1 (.t 3)),
 iG 14 10 true (.ld1 (.t 13)),
 iG 15 10 true (.bin .eql (.i .i64) (.t 12) (.t 14)),
 iP 16 (.pick (.t 10) (.t 15) (.c (bl false))),
 iM 17 16,
 iG 18 17 true (.fa 2 (.t 2)),
 iG 19 17 true (.ld1 (.t 18)),
 iG 20 17 true (.fa 2 (.t 3)),
 iG 21 17 true (.ld1 (.t 20)),
 ⟨(some 22),(some (17,true)),.q (.c (.fn (.func 26) [] [])) [(.t 19),(.t 21)]⟩,
 iP 23 (.pick (.t 17) (.t 22) (.c (bl false))),
 iM 24 23,
 iG 25 24 true (.fa 3 (.t 2)),
 iG 26 24 true (.ld1 (.t 25)),
 iG 27 24 true (.fa 3 (.t 3)),
 iG 28 24 true (.ld1 (.t 27)),
 ⟨(some 29),(some (24,true)),.q (.c (.fn (.func 26) [] [])) [(.t 26),(.t 28)]⟩,
 iP 30 (.pick (.t 24) (.t 29) (.c (bl false))),
 iM 4 30])
 .ret))
def r10:List RS:=[.t 4]
theorem c10:chkF Try.prog drawB Try.f10 i10 r10=true:=by kernel_rfl
def i13:IC :=
 (.seq
 (.reg [
 iE 1 (.box 25 (.t 0)),
 iE 2 (.alc 28 [i64 0,i64 0,.val (.slice none 0 0),.val (.slice none 0 0)]),
 iP 3 (.mov (.c (i64 0)))])
 (.seq
 (.seq
 (.reg [
 iP 5 (.ldn 3 (.t 1)),
 iC 6 36 [.t 5],
 iM 4 6])
 (.seq
 (.reg [
 iM 7 4,
 iP 8 (.bin .neq (.i .i64) (.t 7) (.c (i64 0)))])
 (.cond (.t 8)
 (.seq
 (.reg [
 iP 9 (.bld [i64 0,i64 0,.val (.slice none 0 0),.val (.slice none 0 0)] []),
 iM 10 4,
 ⟨none,none,.e (.st 4 (.t 2) (.t 9))⟩,
 iM 3 10])
 .ret)
 .skip)))
 (.seq
 (.drw [0,2,1,3,4,5,6] [
 iP 11 (.ldn 3 (.t 1)),
 iP 13 (.ldn 3 (.t 1)),
 iC 12 37 [.t 11],
 iC 14 37 [.t 13],
 iP 15 (.bld [i64 0,i64 0,.val (.slice none 0 0),.val (.slice none 0 0)] [(2,1,(.t 12)),(3,1,(.t 14))]),
 ⟨none,none,.e (.stw [13,11] 4 (.t 2) (.t 15))⟩,
 iP 3 (.mov (.c (i64 0)))])
 .ret)))
def r13:List RS:=[.cn 2 4,.t 3]
theorem c13:chkF Try.prog drawB Try.f13 i13 r13=true:=by kernel_rfl
def l14_0:IC:=.keep [3,7,8,19,20,21]
 (.seq
 (.reg [
 iP 22 (.bin .lss (.i .i64) (.t 21) (.t 20))])
 (.seq
 (.cond (.t 22)
 .skip
 (.exit 0))
 (.seq
 (.blk 1
 (.seq
 (.reg [
 iM 23 21,
 iP 24 (.ia 1 (.t 19) (.t 21)),
 iL 25 24,
 iM 9 23,
 iM 10 25])
 (.drw [0,1,2,3,4,5,6,7,8,9] [
 iF 26 2 3,
 iL 27 26,
 iM 28 9,
 iP 29 (.ia 1 (.t 27) (.t 28)),
 iL 30 29,
 iM 31 10,
 iM 32 10,
 iP 33 (.len (.t 32)),
 iP 34 (.sla 10 1 (.t 8) none (some (.t 33))),
 iC 35 38 [.t 30,.t 31,.t 34]])))
 (.reg [
 iP 36 (.bin .add (.i .i64) (.t 21) (.c (i64 1))),
 iM 21 36]))))
def i14:IC :=
 (.seq
 (.reg [
 iE 2 (.box 25 (.t 0)),
 iE 3 (.box 28 (.t 1)),
 iP 4 (.mov (.c (.val (.slice none 0 0)))),
 iP 5 (.mov (.c (i64 0)))])
 (.seq
 (.seq
 (.reg [
 iP 11 (.ldn 3 (.t 2)),
 iP 12 (.ldn 4 (.t 3)),
 iC 13 16 [.t 11,.t 12],
 iM 6 13])
 (.seq
 (.reg [
 iM 14 6,
 iP 15 (.bin .neq (.i .i64) (.t 14) (.c (i64 0)))])
 (.cond (.t 15)
 (.seq
 (.reg [
 iM 16 6,
 iP 4 (.mov (.c (.val (.slice none 0 0)))),
 iM 5 16])
 .ret)
 .skip)))
 (.seq
 (.reg [
 iP 17 (.ldn 3 (.t 2)),
 iC 18 37 [.t 17],
 iM 7 18])
 (.seq
 (.reg [
 iE 8 (.alc 71 [i64 0,i64 0,i64 0,i64 0,i64 0,i64 0,i64 0,i64 0,i64 0,i64 0])])
 (.seq
 (.seq
 (.reg [
 iM 19 7,
 iP 20 (.len (.t 19)),
 iP 21 (.mov (.c (i64 0)))])
 (.blk 0
 (.loop l14_0)))
 (.seq
 (.reg [
 iM 37 7,
 iM 4 37,
 iP 5 (.mov (.c (i64 0)))])
 .ret))))))
def r14:List RS:=[.t 4,.t 5]
theorem c14:chkF Try.prog drawB Try.f14 i14 r14=true:=by kernel_rfl
def i15:IC :=
 (.seq
 (.reg [
 iE 2 (.box 25 (.t 0)),
 iE 3 (.box 28 (.t 1)),
 iE 4 (.alc 28 [i64 0,i64 0,.val (.slice none 0 0),.val (.slice none 0 0)]),
 iP 5 (.mov (.c (i64 0)))])
 (.seq
 (.reg [
 iP 6 (.ldn 3 (.t 2)),
 iP 7 (.ldn 4 (.t 3)),
 iC 8 8 [.t 6,.t 7,(.c (i64 1))],
 iP 9 (.ext (.t 8) 0),
 iP 10 (.ext (.t 8) 1),
 ⟨none,none,.e (.st 4 (.t 4) (.t 9))⟩,
 iM 5 10])
 .ret))
def r15:List RS:=[.cn 4 4,.t 5]
theorem c15:chkF Try.prog drawB Try.f15 i15 r15=true:=by kernel_rfl
def i16:IC :=
 (.seq
 (.reg [
 iE 2 (.box 25 (.t 0)),
 iE 3 (.box 28 (.t 1)),
 iP 4 (.mov (.c (i64 0)))])
 (.seq
 (.seq
 (.reg [
 iP 7 (.ldn 3 (.t 2)),
 iC 8 36 [.t 7],
 iM 5 8])
 (.seq
 (.reg [
 iM 9 5,
 iP 10 (.bin .neq (.i .i64) (.t 9) (.c (i64 0)))])
 (.cond (.t 10)
 (.seq
 (.reg [
 iM 11 5,
 iM 4 11])
 .ret)
 .skip)))
 (.seq
 (.seq
 (.reg [
 iF 12 0 3,
 iL 13 12,
 iP 14 (.bin .lss (.i .i64) (.t 13) (.c (i64 0))),
 iM 15 14,
 iG 16 15 false (.fa 0 (.t 3)),
 iG 17 15 false (.ld1 (.t 16)),
 iG 18 15 false (.bin .gtr (.i .i64) (.t 17) (.c (i64 1000000))),
 iP 19 (.pick (.t 15) (.c (bl true)) (.t 18))])
 (.cond (.t 19)
 (.seq
 (.reg [
 iP 4 (.mov (.c (i64 2)))])
 .ret)
 .skip))
 (.seq
 (.seq
 (.reg [
 iF 20 1 3,
 iL 21 20,
 iP 22 (.bin .lss (.i .i64) (.t 21) (.c (i64 0))),
 iM 23 22,
 iG 24 23 false (.fa 1 (.t 3)),
 iG 25 23 false (.ld1 (.t 24)),
 iG 26 23 false (.bin .gtr (.i .i64) (.t 25) (.c (i64 2147483646))),
 iP 27 (.pick (.t 23) (.c (bl true)) (.t 26))])
 (.cond (.t 27)
 (.seq
 (.reg [
 iP 4 (.mov (.c (i64 2)))])
 .ret)
 .skip))
 (.seq
 (.seq
 (.reg [
 iP 28 (.ldn 3 (.t 2)),
 iF 29 2 3,
 iL 30 29,
 iC 31 39 [.t 28,.t 30,(.c (i64 (-70368744177664)))],
 iM 6 31])
 (.seq
 (.reg [
 iM 32 6,
 iP 33 (.bin .neq (.i .i64) (.t 32) (.c (i64 0)))])
 (.cond (.t 33)
 (.seq
 (.reg [
 iM 34 6,
 iM 4 34])
 .ret)
 .skip)))
 (.seq
 (.reg [
 iP 35 (.ldn 3 (.t 2)),
 iF 36 3 3,
 iL 37 36,
 iC 38 39 [.t 35,.t 37,(.c (i64 0))],
 iM 4 38])
 .ret))))))
def r16:List RS:=[.t 4]
theorem c16:chkF Try.prog drawB Try.f16 i16 r16=true:=by kernel_rfl
def i25:IC :=
 (.seq
 (.reg [
 iE 0 (.alc 25 [i64 0,.val (.slice none 0 0),.val (.slice none 0 0)])])
 (.seq
 (.reg [
 iP 1 (.bld [i64 0,i64 0] [(0,1,(.c (i64 0))),(1,1,(.c (i64 2)))]),
 iP 2 (.bld [i64 0,i64 0] [(0,1,(.c (i64 1))),(1,1,(.c (i64 2)))]),
 iP 3 (.bld [i64 0,i64 0] [(0,1,(.c (i64 0))),(1,1,(.c (i64 3)))]),
 iE 4 (.bsl 45 2 3 [i64 0,i64 0] [(0,(.t 1)),(1,(.t 2)),(2,(.t 3))]),
 iE 5 (.bsl 3 1 2 [i64 0] [(0,(.c (i64 1))),(1,(.c (i64 2)))]),
 iC 6 46 [(.c (i64 0)),(.c (i64 0)),.t 5],
 iC 7 47 [(.c (i64 1))],
 iE 8 (.bsl 3 1 2 [i64 0] [(0,(.c (i64 3))),(1,(.c (i64 4)))]),
 iC 9 46 [(.c (i64 1)),(.c (i64 1)),.t 8],
 iC 10 47 [(.c (i64 0))],
 iE 11 (.bsl 3 1 3 [i64 0] [(0,(.c (i64 5))),(1,(.c (i64 6))),(2,(.c (i64 7)))]),
 iC 12 46 [(.c (i64 0)),(.c (i64 2)),.t 11],
 iC 13 47 [(.c (i64 2))],
 iC 14 47 [(.c (i64 (-1)))],
 iC 15 47 [(.c (i64 3))],
 iE 16 (.bsl 59 6 8 [i64 0,i64 0,i64 0,.val (.slice none 0 0),.val (.slice none 0 0),.val (.slice none 0 0)] [(0,(.t 6)),(1,(.t 7)),(2,(.t 9)),(3,(.t 10)),(4,(.t 12)),(5,(.t 13)),(6,(.t 14)),(7,(.t 15))]),
 iP 17 (.bld [i64 0,.val (.slice none 0 0),.val (.slice none 0 0)] [(0,1,(.c (i64 2))),(2,1,(.t 4)),(1,1,(.t 16))]),
 ⟨none,none,.e (.st 3 (.t 0) (.t 17))⟩])
 .ret))
def r25:List RS:=[.cn 0 3]
theorem c25:chkF Try.prog drawB Try.f25 i25 r25=true:=by kernel_rfl
def l26_0:IC:=.keep [0,1,5]
 (.seq
 (.seq
 (.reg [
 iM 11 5,
 iM 12 0,
 iP 13 (.len (.t 12)),
 iP 14 (.bin .lss (.i .i64) (.t 11) (.t 13))])
 (.cond (.t 14)
 .skip
 (.exit 0)))
 (.seq
 (.blk 1
 (.seq
 (.drw [0,1,2,3,4,5,6,7,8,9] [
 iM 17 0,
 iM 18 5,
 iP 19 (.ia 1 (.t 17) (.t 18)),
 iL 20 19,
 iM 21 1,
 iM 22 5,
 iP 23 (.ia 1 (.t 21) (.t 22)),
 iL 24 23,
 ⟨(some 25),none,.q (.c (.fn (.func 48) [] [])) [(.t 20),(.t 24)]⟩,
 iP 26 (.not (.t 25))])
 (.cond (.t 26)
 (.seq
 (.reg [
 iP 4 (.mov (.c (bl false)))])
 .ret)
 .skip)))
 (.reg [
 iM 15 5,
 iP 16 (.bin .add (.i .i64) (.t 15) (.c (i64 1))),
 iM 5 16])))
def i26:IC :=
 (.seq
 (.reg [
 iP 4 (.mov (.c (bl false)))])
 (.seq
 (.seq
 (.reg [
 iM 6 0,
 iP 7 (.len (.t 6)),
 iM 8 1,
 iP 9 (.len (.t 8)),
 iP 10 (.bin .neq (.i .i64) (.t 7) (.t 9))])
 (.cond (.t 10)
 (.seq
 (.reg [
 iP 4 (.mov (.c (bl false)))])
 .ret)
 .skip))
 (.seq
 (.seq
 (.reg [
 iP 5 (.mov (.c (i64 0)))])
 (.blk 0
 (.loop l26_0)))
 (.seq
 (.reg [
 iP 4 (.mov (.c (bl true)))])
 .ret))))
def r26:List RS:=[.t 4]
theorem c26:chkF Try.prog drawB Try.f26 i26 r26=true:=by kernel_rfl
def i27s:List Ins:=[iM 2 5]
def i27:IC :=
 (.seq
 (.seq
 (.reg [
 iM 6 2,
 iP 7 (.ifn false true (.t 6))])
 (.cond (.t 7)
 .ret
 .skip))
 (.seq
 (.reg [
 iP 8 (.bld [i64 0,i64 0,.val (.slice none 0 0),.val (.slice none 0 0)] []),
 ⟨none,none,.e (.st 4 (.t 0) (.t 8))⟩,
 ⟨none,none,.e (.st 1 (.t 1) (.c (i64 13)))⟩])
 (.seq
 (.reg [
 iM 10 2,
 iP 11 (.tas 64 true (.agg [i64 0]) (.t 10)),
 iM 9 11,
 iP 12 (.ext (.t 9) 0),
 iP 13 (.ext (.t 9) 1),
 iE 3 (.alc 64 [i64 0]),
 ⟨none,none,.e (.st 1 (.t 3) (.t 12))⟩,
 iM 4 13])
 (.seq
 (.reg [
 iM 14 4])
 (.cond (.t 14)
 (.reg [
 iF 15 0 3,
 iL 16 15,
 ⟨none,none,.e (.st 1 (.t 1) (.t 16))⟩])
 .skip)))))
theorem c27:chkRc Try.prog drawB Try.f27 5 i27s i27=true:=by kernel_rfl
def l28_1:IC:=.keep [2,6,7,51,52,53]
 (.seq
 (.reg [
 iP 54 (.bin .lss (.i .i64) (.t 53) (.t 52))])
 (.seq
 (.cond (.t 54)
 .skip
 (.exit 2))
 (.seq
 (.blk 3
 (.seq
 (.reg [
 iP 55 (.ia 1 (.t 51) (.t 53)),
 iL 56 55,
 iM 9 56])
 (.reg [
 iM 57 6,
 iP 58 (.nck (.t 57)),
 iF 59 3 58,
 iL 60 59,
 iM 61 7,
 iP 62 (.ia 1 (.t 60) (.t 61)),
 iL 63 62,
 iM 64 9,
 iP 65 (.bin .add (.i .i64) (.t 63) (.t 64)),
 iP 66 (.ia 1 (.t 60) (.t 61)),
 ⟨none,none,.e (.st 1 (.t 66) (.t 65))⟩])))
 (.reg [
 iP 67 (.bin .add (.i .i64) (.t 53) (.c (i64 1))),
 iM 53 67]))))
def l28_0:IC:=.keep [2,6,7]
 (.seq
 (.seq
 (.reg [
 iM 42 7,
 iP 43 (.bin .geq (.i .i64) (.t 42) (.c (i64 0)))])
 (.cond (.t 43)
 .skip
 (.exit 0)))
 (.seq
 (.blk 1
 (.seq
 (.seq
 (.reg [
 iF 46 1 2,
 iL 47 46,
 iM 48 7,
 iP 49 (.ia 6 (.t 47) (.t 48)),
 iF 50 4 49,
 iL 51 50,
 iP 52 (.len (.t 51)),
 iP 53 (.mov (.c (i64 0)))])
 (.blk 2
 (.loop l28_1)))
 (.seq
 (.reg [
 iF 68 1 2,
 iL 69 68,
 iM 70 7,
 iP 71 (.ia 6 (.t 69) (.t 70)),
 iF 72 0 71,
 iL 73 72,
 iP 74 (.bin .eql (.i .i64) (.t 73) (.c (i64 2)))])
 (.cond (.t 74)
 (.drw [0,1,2,3,4,5,6,7,8,9,10,11,12] [
 iM 75 6,
 iP 76 (.nck (.t 75)),
 iF 77 4 76,
 iL 78 77,
 iF 79 1 2,
 iL 80 79,
 iM 81 7,
 iP 82 (.ia 6 (.t 80) (.t 81)),
 iF 83 2 82,
 iL 84 83,
 iM 85 7,
 iP 86 (.ia 1 (.t 78) (.t 84)),
 ⟨none,none,.e (.st 1 (.t 86) (.t 85))⟩])
 .skip))))
 (.reg [
 iM 44 7,
 iP 45 (.bin .sub (.i .i64) (.t 44) (.c (i64 1))),
 iM 7 45])))
def i28:IC :=
 (.seq
 (.reg [
 iE 2 (.box 25 (.t 0)),
 iE 3 (.box 28 (.t 1)),
 iP 4 (.mov (.c (.val (.pointer none))))])
 (.seq
 (.reg [
 iF 10 1 2,
 iL 11 10,
 iP 12 (.len (.t 11)),
 iM 5 12])
 (.seq
 (.drf [3,3] [1,2,3,4,5,6,0,7,8,9,10,11,12] [
 iM 14 5,
 iE 15 (.flo 0 3 1 8 [i64 0] (.t 14) (.t 14)),
 iF 16 2 2,
 iL 17 16,
 iP 18 (.len (.t 17)),
 iE 19 (.flo 1 3 1 8 [i64 0] (.t 18) (.t 18)),
 iP 13 (.ldn 3 (.t 2)),
 iP 20 (.ldn 4 (.t 3)),
 iP 21 (.ldn 3 (.t 2)),
 iE 22 (.calln (.c (.fn (.func 37) [] [])) [(.t 21)]),
 iP 23 (.bld [i64 0,.val (.slice none 0 0),.val (.slice none 0 0),.val (.slice none 0 0),.val (.slice none 0 0),i64 0,i64 0,.val (.slice none 0 0),.val (.slice none 0 0),.val (.slice none 0 0),.val (.slice none 0 0),.val (.slice none 0 0),.val (.slice none 0 0),i64 0,i64 0,i64 0,i64 0,i64 0,i64 0,i64 0,i64 0,i64 0,i64 0] [(0,3,(.t 13)),(3,1,(.t 15)),(4,1,(.t 19)),(5,4,(.t 20)),(9,1,(.t 22))]),
 iE 24 (.box 73 (.t 23)),
 iM 6 24])
 (.seq
 (.drf [101,101,101] [3,4,5,6,7,8,0,1,2,9,10,11,12,13,14,15,16,17] [
 iM 28 5,
 iE 29 (.flo 0 101 4 32 [i64 0,i64 0,i64 0,i64 0] (.t 28) (.t 28)),
 iM 30 5,
 iE 31 (.flo 1 101 4 32 [i64 0,i64 0,i64 0,i64 0] (.t 30) (.t 30)),
 iM 32 5,
 iE 33 (.flo 2 101 4 32 [i64 0,i64 0,i64 0,i64 0] (.t 32) (.t 32)),
 iM 25 6,
 iM 26 6,
 iM 27 6,
 iP 34 (.nck (.t 25)),
 iF 35 10 34,
 ⟨none,none,.e (.st 1 (.t 35) (.t 29))⟩,
 iP 36 (.nck (.t 26)),
 iF 37 11 36,
 ⟨none,none,.e (.st 1 (.t 37) (.t 31))⟩,
 iP 38 (.nck (.t 27)),
 iF 39 12 38,
 ⟨none,none,.e (.st 1 (.t 39) (.t 33))⟩])
 (.seq
 (.seq
 (.reg [
 iM 40 5,
 iP 41 (.bin .sub (.i .i64) (.t 40) (.c (i64 1))),
 iM 7 41])
 (.blk 0
 (.loop l28_0)))
 (.seq
 (.reg [
 iM 87 6,
 iM 4 87])
 .ret))))))
def r28:List RS:=[.t 4]
theorem c28:chkF Try.prog drawB Try.f28 i28 r28=true:=by kernel_rfl
def l29_0:IC:=.keep [3,9,10,11]
 (.seq
 (.reg [
 iP 12 (.bin .lss (.i .i64) (.t 11) (.t 10))])
 (.seq
 (.cond (.t 12)
 .skip
 (.exit 0))
 (.seq
 (.blk 1
 (.seq
 (.reg [
 iM 13 11,
 iP 14 (.ia 1 (.t 9) (.t 11)),
 iL 15 14,
 iM 4 13,
 iM 5 15])
 (.reg [
 iM 16 3,
 iM 17 4,
 iM 18 5,
 iC 19 49 [.t 18],
 iP 20 (.ia 1 (.t 16) (.t 17)),
 ⟨none,none,.e (.st 1 (.t 20) (.t 19))⟩])))
 (.reg [
 iP 21 (.bin .add (.i .i64) (.t 11) (.c (i64 1))),
 iM 11 21]))))
def i29:IC :=
 (.seq
 (.reg [
 iP 2 (.mov (.c (.val (.slice none 0 0))))])
 (.seq
 (.reg [
 iM 6 0,
 iP 7 (.len (.t 6)),
 iE 8 (.mks 36 1 24 [.val (.slice none 0 0)] (.t 7) (.t 7)),
 iM 3 8])
 (.seq
 (.seq
 (.reg [
 iM 9 0,
 iP 10 (.len (.t 9)),
 iP 11 (.mov (.c (i64 0)))])
 (.blk 0
 (.loop l29_0)))
 (.seq
 (.reg [
 iM 22 3,
 iM 2 22])
 .ret))))
def r29:List RS:=[.t 2]
theorem c29:chkF Try.prog drawB Try.f29 i29 r29=true:=by kernel_rfl
def l30_0:IC:=.keep [0,16,17,18]
 (.seq
 (.reg [
 iP 19 (.bin .lss (.i .i64) (.t 18) (.t 17))])
 (.seq
 (.cond (.t 19)
 .skip
 (.exit 0))
 (.seq
 (.blk 1
 (.seq
 (.reg [
 iM 20 18,
 iP 21 (.ia 1 (.t 16) (.t 18)),
 iL 22 21,
 iM 2 20,
 iM 3 22])
 (.drw [0,1,2,3,4,5,6,7,8,9,10,11,12,13,14,15] [
 iM 23 0,
 iP 24 (.nck (.t 23)),
 iF 25 5 24,
 iF 26 2 25,
 iL 27 26,
 iM 28 2,
 iP 29 (.ia 1 (.t 27) (.t 28)),
 iL 30 29,
 iM 31 3,
 iM 32 0,
 iP 33 (.nck (.t 32)),
 iF 34 13 33,
 iM 35 3,
 iP 36 (.len (.t 35)),
 iP 37 (.sla 10 1 (.t 34) none (some (.t 36))),
 iC 38 38 [.t 30,.t 31,.t 37]])))
 (.reg [
 iP 39 (.bin .add (.i .i64) (.t 18) (.c (i64 1))),
 iM 18 39]))))
def l30_1:IC:=.keep [0,4]
 (.seq
 (.seq
 (.reg [
 iM 47 4,
 iP 48 (.bin .geq (.i .i64) (.t 47) (.c (i64 0)))])
 (.cond (.t 48)
 .skip
 (.exit 2)))
 (.seq
 (.blk 3
 (.reg [
 iM 51 0,
 iM 52 4,
 iC 53 50 [.t 51,.t 52]]))
 (.reg [
 iM 49 4,
 iP 50 (.bin .sub (.i .i64) (.t 49) (.c (i64 1))),
 iM 4 50])))
def l30_2:IC:=.keep [0,58,59]
 (.seq
 (.reg [
 iP 60 (.bin .lss (.i .i64) (.t 59) (.t 58))])
 (.seq
 (.cond (.t 60)
 .skip
 (.exit 4))
 (.seq
 (.blk 5
 (.seq
 (.reg [
 iM 61 59,
 iM 5 61])
 (.drw [0,1,2,3,4,5,6,7,8,9,10,11,13,12,14,15] [
 iM 62 0,
 iP 63 (.nck (.t 62)),
 iF 64 11 63,
 iL 65 64,
 iM 66 5,
 iM 67 0,
 iP 68 (.nck (.t 67)),
 iF 69 12 68,
 iL 70 69,
 iM 71 5,
 iP 72 (.ia 4 (.t 65) (.c (i64 0))),
 iP 73 (.iap 4 1 (.t 72) (.t 66)),
 iP 74 (.ia 4 (.t 70) (.c (i64 0))),
 ⟨none,none,.e (.stw [70] 1 (.t 73) (.c (i64 1073741824)))⟩,
 iP 75 (.iap 4 1 (.t 74) (.t 71)),
 ⟨none,none,.e (.stw [65] 1 (.t 75) (.c (i64 1073741824)))⟩])))
 (.reg [
 iP 76 (.bin .add (.i .i64) (.t 59) (.c (i64 1))),
 iM 59 76]))))
def l30_3:IC:=.keep [0,82,83]
 (.seq
 (.reg [
 iP 84 (.bin .lss (.i .i64) (.t 83) (.t 82))])
 (.seq
 (.cond (.t 84)
 .skip
 (.exit 6))
 (.seq
 (.blk 7
 (.seq
 (.reg [
 iM 85 83,
 iM 6 85])
 (.reg [
 iM 86 0,
 iM 87 6,
 iC 88 51 [.t 86,.t 87]])))
 (.reg [
 iP 89 (.bin .add (.i .i64) (.t 83) (.c (i64 1))),
 iM 83 89]))))
def l30_4:IC:=.keep [0,95,96]
 (.seq
 (.reg [
 iP 97 (.bin .lss (.i .i64) (.t 96) (.t 95))])
 (.seq
 (.cond (.t 97)
 .skip
 (.exit 8))
 (.seq
 (.blk 9
 (.seq
 (.reg [
 iM 98 96,
 iM 7 98])
 (.reg [
 iM 99 0,
 iM 100 7,
 iC 101 52 [.t 99,.t 100]])))
 (.reg [
 iP 102 (.bin .add (.i .i64) (.t 96) (.c (i64 1))),
 iM 96 102]))))
def l30_6:IC:=.keep [0,8,10,106,107,108,136,137,138]
 (.seq
 (.reg [
 iP 139 (.bin .lss (.i .i64) (.t 138) (.t 137))])
 (.seq
 (.cond (.t 139)
 .skip
 (.exit 12))
 (.seq
 (.blk 13
 (.seq
 (.reg [
 iM 140 138,
 iP 141 (.ia 1 (.t 136) (.t 138)),
 iL 142 141,
 iM 11 140,
 iM 12 142])
 (.reg [
 iM 143 0,
 iP 144 (.nck (.t 143)),
 iF 145 5 144,
 iF 146 3 145,
 iL 147 146,
 iM 148 8,
 iP 149 (.ia 1 (.t 147) (.t 148)),
 iL 150 149,
 iM 151 11,
 iP 152 (.ia 1 (.t 150) (.t 151)),
 iL 153 152,
 iM 154 10,
 iM 155 12,
 iP 156 (.bin .mul (.i .i64) (.t 154) (.t 155)),
 iP 157 (.bin .quo (.i .i64) (.t 156) (.c (i64 65536))),
 iP 158 (.bin .add (.i .i64) (.t 153) (.t 157)),
 iP 159 (.ia 1 (.t 150) (.t 151)),
 ⟨none,none,.e (.st 1 (.t 159) (.t 158))⟩])))
 (.reg [
 iP 160 (.bin .add (.i .i64) (.t 138) (.c (i64 1))),
 iM 138 160]))))
def l30_5:IC:=.keep [0,106,107,108]
 (.seq
 (.reg [
 iP 109 (.bin .lss (.i .i64) (.t 108) (.t 107))])
 (.seq
 (.cond (.t 109)
 .skip
 (.exit 10))
 (.seq
 (.blk 11
 (.seq
 (.reg [
 iM 110 108,
 iP 111 (.ia 1 (.t 106) (.t 108)),
 iL 112 111,
 iM 8 110,
 iM 9 112])
 (.seq
 (.drw [0,1,2,3,4,5,6,7,8,9,10,11,12,13,14,15,16,17,18,19,20,21,22,23] [
 iM 113 0,
 iP 114 (.nck (.t 113)),
 iF 115 12 114,
 iL 116 115,
 iM 117 0,
 iP 118 (.nck (.t 117)),
 iF 119 4 118,
 iL 120 119,
 iM 121 8,
 iP 122 (.ia 1 (.t 120) (.t 121)),
 iL 123 122,
 iM 124 0,
 iP 125 (.nck (.t 124)),
 iF 126 0 125,
 iF 127 2 126,
 iL 128 127,
 iM 129 8,
 iP 130 (.ia 2 (.t 128) (.t 129)),
 iF 131 0 130,
 iL 132 131,
 iP 133 (.ia 4 (.t 116) (.t 123)),
 iP 134 (.iap 4 1 (.t 133) (.t 132)),
 iL 135 134,
 iM 10 135])
 (.seq
 (.reg [
 iM 136 9,
 iP 137 (.len (.t 136)),
 iP 138 (.mov (.c (i64 0)))])
 (.blk 12
 (.loop l30_6))))))
 (.reg [
 iP 161 (.bin .add (.i .i64) (.t 108) (.c (i64 1))),
 iM 108 161]))))
def i30:IC :=
 (.seq
 (.seq
 (.reg [
 iM 13 0,
 iP 14 (.nck (.t 13)),
 iF 15 9 14,
 iL 16 15,
 iP 17 (.len (.t 16)),
 iP 18 (.mov (.c (i64 0)))])
 (.blk 0
 (.loop l30_0)))
 (.seq
 (.seq
 (.reg [
 iM 40 0,
 iP 41 (.nck (.t 40)),
 iF 42 0 41,
 iF 43 1 42,
 iL 44 43,
 iP 45 (.len (.t 44)),
 iP 46 (.bin .sub (.i .i64) (.t 45) (.c (i64 1))),
 iM 4 46])
 (.blk 2
 (.loop l30_1)))
 (.seq
 (.seq
 (.reg [
 iM 54 0,
 iP 55 (.nck (.t 54)),
 iF 56 0 55,
 iF 57 0 56,
 iL 58 57,
 iP 59 (.mov (.c (i64 0)))])
 (.blk 4
 (.loop l30_2)))
 (.seq
 (.seq
 (.reg [
 iM 77 0,
 iP 78 (.nck (.t 77)),
 iF 79 0 78,
 iF 80 1 79,
 iL 81 80,
 iP 82 (.len (.t 81)),
 iP 83 (.mov (.c (i64 0)))])
 (.blk 6
 (.loop l30_3)))
 (.seq
 (.seq
 (.reg [
 iM 90 0,
 iP 91 (.nck (.t 90)),
 iF 92 0 91,
 iF 93 1 92,
 iL 94 93,
 iP 95 (.len (.t 94)),
 iP 96 (.mov (.c (i64 0)))])
 (.blk 8
 (.loop l30_4)))
 (.seq
 (.seq
 (.reg [
 iM 103 0,
 iP 104 (.nck (.t 103)),
 iF 105 9 104,
 iL 106 105,
 iP 107 (.len (.t 106)),
 iP 108 (.mov (.c (i64 0)))])
 (.blk 10
 (.loop l30_5)))
 (.seq
 (.reg [
 iM 162 0,
 iP 163 (.nck (.t 162)),
 iF 164 5 163,
 iF 165 0 164,
 iL 166 165,
 iP 167 (.bin .add (.i .i64) (.t 166) (.c (i64 1))),
 iP 168 (.nck (.t 162)),
 iF 169 5 168,
 iF 170 0 169,
 ⟨none,none,.e (.st 1 (.t 170) (.t 167))⟩])
 (.reg [
 iM 171 0,
 iC 172 53 [.t 171]]))))))))
def r30:List RS:=[]
theorem c30:chkF Try.prog drawB Try.f30 i30 r30=true:=by kernel_rfl
def i31:IC :=
 (.seq
 (.reg [
 iE 2 (.box 25 (.t 0)),
 iE 3 (.box 28 (.t 1)),
 iP 4 (.mov (.c (i64 0)))])
 (.seq
 (.seq
 (.reg [
 iP 6 (.ldn 3 (.t 2)),
 iC 7 54 [.t 6],
 iM 5 7])
 (.seq
 (.reg [
 iM 8 5,
 iP 9 (.bin .neq (.i .i64) (.t 8) (.c (i64 0)))])
 (.cond (.t 9)
 (.seq
 (.reg [
 iM 10 5,
 iM 4 10])
 .ret)
 .skip)))
 (.seq
 (.reg [
 iP 11 (.ldn 3 (.t 2)),
 iP 12 (.ldn 4 (.t 3)),
 iC 13 55 [.t 11,.t 12],
 iM 4 13])
 .ret)))
def r31:List RS:=[.t 4]
theorem c31:chkF Try.prog drawB Try.f31 i31 r31=true:=by kernel_rfl
def l32_0:IC:=.keep [1,3,4]
 (.seq
 (.seq
 (.reg [
 iM 5 4,
 iF 6 2 1,
 iL 7 6,
 iP 8 (.len (.t 7)),
 iP 9 (.bin .lss (.i .i64) (.t 5) (.t 8))])
 (.cond (.t 9)
 .skip
 (.exit 0)))
 (.seq
 (.blk 1
 (.reg [
 iM 12 3,
 iF 13 2 1,
 iL 14 13,
 iM 15 4,
 iP 16 (.ia 2 (.t 14) (.t 15)),
 iF 17 1 16,
 iL 18 17,
 iE 19 (.mks 3 1 8 [i64 0] (.t 18) (.t 18)),
 iE 20 (.bsl 36 1 1 [.val (.slice none 0 0)] [(0,(.t 19))]),
 iE 21 (.app 36 1 24 (.t 12) (.t 20)),
 iM 3 21]))
 (.reg [
 iM 10 4,
 iP 11 (.bin .add (.i .i64) (.t 10) (.c (i64 1))),
 iM 4 11])))
def i32:IC :=
 (.seq
 (.reg [
 iE 1 (.box 25 (.t 0)),
 iP 2 (.mov (.c (.val (.slice none 0 0))))])
 (.seq
 (.reg [
 iE 3 (.nil 36 1 (.c (.val (.slice none 0 0))))])
 (.seq
 (.seq
 (.reg [
 iP 4 (.mov (.c (i64 0)))])
 (.blk 0
 (.loop l32_0)))
 (.seq
 (.reg [
 iM 22 3,
 iM 2 22])
 .ret))))
def r32:List RS:=[.t 2]
theorem c32:chkF Try.prog drawB Try.f32 i32 r32=true:=by kernel_rfl
def l33_0:IC:=.keep [2,3,4,6,7,8]
 (.seq
 (.seq
 (.reg [
 iM 33 8,
 iF 34 2 2,
 iL 35 34,
 iP 36 (.len (.t 35)),
 iP 37 (.bin .lss (.i .i64) (.t 33) (.t 36))])
 (.cond (.t 37)
 .skip
 (.exit 0)))
 (.seq
 (.blk 1
 (.seq
 (.drw [0,1,2,3,4,5,6,7,8,9,10] [
 iF 40 2 7,
 iL 41 40,
 iM 42 8,
 iP 43 (.ia 1 (.t 41) (.t 42)),
 iL 44 43,
 iF 45 2 3,
 iL 46 45,
 iM 47 8,
 iP 48 (.ia 1 (.t 46) (.t 47)),
 iL 49 48,
 iE 50 (.cpy 1 (.t 44) (.t 49))])
 (.drw [0,1,2,3,4,5,6,7,8,9,10] [
 iF 51 3 7,
 iL 52 51,
 iM 53 8,
 iP 54 (.ia 1 (.t 52) (.t 53)),
 iL 55 54,
 iF 56 3 3,
 iL 57 56,
 iM 58 8,
 iP 59 (.ia 1 (.t 57) (.t 58)),
 iL 60 59,
 iE 61 (.cpy 1 (.t 55) (.t 60))])))
 (.reg [
 iM 38 8,
 iP 39 (.bin .add (.i .i64) (.t 38) (.c (i64 1))),
 iM 8 39])))
def l33_3:IC:=.keep [2,4,6,7,9,10,11,12,13,14,15,16]
 (.seq
 (.seq
 (.reg [
 iM 104 16,
 iF 105 3 15,
 iL 106 105,
 iP 107 (.len (.t 106)),
 iP 108 (.bin .lss (.i .i64) (.t 104) (.t 107))])
 (.cond (.t 108)
 .skip
 (.exit 6)))
 (.seq
 (.blk 7
 (.seq
 (.drw [0,1,2,3,4,5,6,7,8,9,10,11,12,13,14,15,16,17,18,19,20,21,22,23,24,25,26,27,28,29,30,31,32,33,34,35,36,37,38,39,40,41,42,43] [
 iF 111 2 7,
 iL 112 111,
 iF 113 2 15,
 iL 114 113,
 iP 115 (.ia 1 (.t 112) (.t 114)),
 iL 116 115,
 iM 117 16,
 iF 118 2 7,
 iL 119 118,
 iF 120 2 15,
 iL 121 120,
 iP 122 (.ia 1 (.t 119) (.t 121)),
 iL 123 122,
 iM 124 16,
 iP 125 (.ia 1 (.t 123) (.t 124)),
 iL 126 125,
 iM 127 11,
 iM 128 14,
 iP 129 (.ia 1 (.t 127) (.t 128)),
 iL 130 129,
 iM 131 9,
 iF 132 3 15,
 iL 133 132,
 iM 134 16,
 iP 135 (.ia 1 (.t 133) (.t 134)),
 iL 136 135,
 iP 137 (.ia 1 (.t 131) (.t 136)),
 iL 138 137,
 iM 139 10,
 iP 140 (.ia 1 (.t 138) (.t 139)),
 iL 141 140,
 iM 142 9,
 iM 143 14,
 iP 144 (.ia 1 (.t 142) (.t 143)),
 iL 145 144,
 iM 146 10,
 iP 147 (.ia 1 (.t 145) (.t 146)),
 iL 148 147,
 iP 149 (.bin .sub (.i .i64) (.t 141) (.t 148)),
 iP 150 (.bin .mul (.i .i64) (.t 130) (.t 149)),
 iP 151 (.bin .quo (.i .i64) (.t 150) (.c (i64 1073741824))),
 iP 152 (.bin .add (.i .i64) (.t 126) (.t 151)),
 iP 153 (.ia 1 (.t 116) (.t 117)),
 ⟨none,none,.e (.st 1 (.t 153) (.t 152))⟩])
 (.seq
 (.reg [
 iM 154 13,
 iF 155 2 15,
 iL 156 155,
 iP 157 (.ia 1 (.t 154) (.t 156)),
 iL 158 157,
 iP 159 (.not (.t 158))])
 (.cond (.t 159)
 (.drw [0,1,2,3,4,5,6,7,8,9,10,11,12,13,14,15,16,17,18,19,20,21,22,23,24,25,26,27,28,29,30,31,32] [
 iF 160 3 7,
 iL 161 160,
 iF 162 2 15,
 iL 163 162,
 iP 164 (.ia 1 (.t 161) (.t 163)),
 iL 165 164,
 iM 166 16,
 iF 167 3 7,
 iL 168 167,
 iF 169 2 15,
 iL 170 169,
 iP 171 (.ia 1 (.t 168) (.t 170)),
 iL 172 171,
 iM 173 16,
 iP 174 (.ia 1 (.t 172) (.t 173)),
 iL 175 174,
 iM 176 12,
 iM 177 14,
 iP 178 (.ia 1 (.t 176) (.t 177)),
 iL 179 178,
 iM 180 6,
 iF 181 2 15,
 iL 182 181,
 iP 183 (.ia 1 (.t 180) (.t 182)),
 iL 184 183,
 iM 185 16,
 iP 186 (.ia 1 (.t 184) (.t 185)),
 iL 187 186,
 iP 188 (.bin .mul (.i .i64) (.t 179) (.t 187)),
 iP 189 (.bin .quo (.i .i64) (.t 188) (.c (i64 65536))),
 iP 190 (.bin .add (.i .i64) (.t 175) (.t 189)),
 iP 191 (.ia 1 (.t 165) (.t 166)),
 ⟨none,none,.e (.st 1 (.t 191) (.t 190))⟩])
 .skip))))
 (.reg [
 iM 109 16,
 iP 110 (.bin .add (.i .i64) (.t 109) (.c (i64 1))),
 iM 16 110])))
def l33_2:IC:=.keep [2,4,6,7,9,10,11,12,13,14]
 (.seq
 (.seq
 (.reg [
 iM 83 14,
 iF 84 1 2,
 iL 85 84,
 iP 86 (.len (.t 85)),
 iP 87 (.bin .lss (.i .i64) (.t 83) (.t 86))])
 (.cond (.t 87)
 .skip
 (.exit 4)))
 (.seq
 (.blk 5
 (.seq
 (.reg [
 iF 90 1 2,
 iL 91 90,
 iM 92 14,
 iP 93 (.ia 6 (.t 91) (.t 92)),
 iP 94 (.ldn 6 (.t 93)),
 iE 15 (.alc 59 [i64 0,i64 0,i64 0,.val (.slice none 0 0),.val (.slice none 0 0),.val (.slice none 0 0)]),
 ⟨none,none,.e (.st 6 (.t 15) (.t 94))⟩])
 (.seq
 (.seq
 (.reg [
 iF 95 0 15,
 iL 96 95,
 iP 97 (.bin .neq (.i .i64) (.t 96) (.c (i64 2))),
 iM 98 97,
 iG 99 98 false (.fa 1 (.t 15)),
 iG 100 98 false (.ld1 (.t 99)),
 iG 101 98 false (.mov (.t 10)),
 iG 102 98 false (.bin .neq (.i .i64) (.t 100) (.t 101)),
 iP 103 (.pick (.t 98) (.c (bl true)) (.t 102))])
 (.cond (.t 103)
 (.exit 5)
 .skip))
 (.seq
 (.seq
 (.reg [
 iP 16 (.mov (.c (i64 0)))])
 (.blk 6
 (.loop l33_3)))
 (.reg [
 iM 192 13,
 iF 193 2 15,
 iL 194 193,
 iP 195 (.ia 1 (.t 192) (.t 194)),
 ⟨none,none,.e (.st 1 (.t 195) (.c (bl true)))⟩])))))
 (.reg [
 iM 88 14,
 iP 89 (.bin .add (.i .i64) (.t 88) (.c (i64 1))),
 iM 14 89])))
def l33_1:IC:=.keep [2,4,6,7,9,10]
 (.seq
 (.seq
 (.reg [
 iM 65 10,
 iF 66 0 2,
 iL 67 66,
 iP 68 (.bin .lss (.i .i64) (.t 65) (.t 67))])
 (.cond (.t 68)
 .skip
 (.exit 2)))
 (.seq
 (.blk 3
 (.seq
 (.drw [0,1,2,3,4,5,6,7,8,9] [
 iP 71 (.ldn 3 (.t 2)),
 iM 72 6,
 iM 73 10,
 ⟨(some 74),none,.q (.c (.fn (.func 58) [] [])) [(.t 71),(.t 72),(.t 73),(.c (bl false))]⟩,
 iP 75 (.ldn 3 (.t 2)),
 iM 76 6,
 iM 77 10,
 ⟨(some 78),none,.q (.c (.fn (.func 58) [] [])) [(.t 75),(.t 76),(.t 77),(.c (bl true))]⟩,
 iM 11 74,
 iM 12 78])
 (.seq
 (.reg [
 iF 79 2 2,
 iL 80 79,
 iP 81 (.len (.t 80)),
 iE 82 (.mks 4 1 1 [bl false] (.t 81) (.t 81)),
 iM 13 82])
 (.seq
 (.reg [
 iP 14 (.mov (.c (i64 0)))])
 (.blk 4
 (.loop l33_2))))))
 (.reg [
 iM 69 10,
 iP 70 (.bin .add (.i .i64) (.t 69) (.c (i64 1))),
 iM 10 70])))
def i33:IC :=
 (.seq
 (.reg [
 iE 2 (.box 25 (.t 0)),
 iE 3 (.box 28 (.t 1)),
 iE 4 (.alc 28 [i64 0,i64 0,.val (.slice none 0 0),.val (.slice none 0 0)]),
 iP 5 (.mov (.c (i64 0)))])
 (.seq
 (.seq
 (.reg [
 iF 17 0 3,
 iL 18 17,
 iP 19 (.bin .geq (.i .i64) (.t 18) (.c (i64 1000000)))])
 (.cond (.t 19)
 (.seq
 (.reg [
 iP 20 (.bld [i64 0,i64 0,.val (.slice none 0 0),.val (.slice none 0 0)] []),
 ⟨none,none,.e (.st 4 (.t 4) (.t 20))⟩,
 iP 5 (.mov (.c (i64 2)))])
 .ret)
 .skip))
 (.seq
 (.reg [
 iP 21 (.ldn 4 (.t 3)),
 iC 22 56 [.t 21],
 iM 6 22])
 (.seq
 (.drf [28] [10,0,1,2,3,4,5,7,6,8,9,11] [
 iE 7 (.fla 0 28 [i64 0,i64 0,.val (.slice none 0 0),.val (.slice none 0 0)]),
 iF 23 0 3,
 iL 24 23,
 iP 25 (.bin .add (.i .i64) (.t 24) (.c (i64 1))),
 iF 26 1 3,
 iL 27 26,
 iP 28 (.ldn 3 (.t 2)),
 iP 30 (.ldn 3 (.t 2)),
 iE 29 (.calln (.c (.fn (.func 32) [] [])) [(.t 28)]),
 iE 31 (.calln (.c (.fn (.func 32) [] [])) [(.t 30)]),
 iP 32 (.bld [i64 0,i64 0,.val (.slice none 0 0),.val (.slice none 0 0)] [(0,1,(.t 25)),(1,1,(.t 27)),(2,1,(.t 29)),(3,1,(.t 31))]),
 ⟨none,none,.e (.stw [30,28] 4 (.t 7) (.t 32))⟩])
 (.seq
 (.seq
 (.reg [
 iP 8 (.mov (.c (i64 0)))])
 (.blk 0
 (.loop l33_0)))
 (.seq
 (.reg [
 iP 62 (.ldn 3 (.t 2)),
 iM 63 6,
 iC 64 57 [.t 62,.t 63],
 iM 9 64])
 (.seq
 (.seq
 (.reg [
 iP 10 (.mov (.c (i64 0)))])
 (.blk 2
 (.loop l33_1)))
 (.seq
 (.seq
 (.reg [
 iP 196 (.ldn 3 (.t 2)),
 iP 197 (.ldn 4 (.t 7)),
 iC 198 55 [.t 196,.t 197],
 iP 199 (.bin .neq (.i .i64) (.t 198) (.c (i64 0)))])
 (.cond (.t 199)
 (.seq
 (.reg [
 iP 200 (.bld [i64 0,i64 0,.val (.slice none 0 0),.val (.slice none 0 0)] []),
 ⟨none,none,.e (.st 4 (.t 4) (.t 200))⟩,
 iP 5 (.mov (.c (i64 5)))])
 .ret)
 .skip))
 (.seq
 (.reg [
 iP 201 (.ldn 4 (.t 7)),
 ⟨none,none,.e (.st 4 (.t 4) (.t 201))⟩,
 iP 5 (.mov (.c (i64 0)))])
 .ret)))))))))
def r33:List RS:=[.cn 4 4,.t 5]
theorem c33:chkF Try.prog drawB Try.f33 i33 r33=true:=by kernel_rfl
def l36_0:IC:=.keep [1,13,14]
 (.seq
 (.reg [
 iP 15 (.bin .lss (.i .i64) (.t 14) (.t 13))])
 (.seq
 (.cond (.t 15)
 .skip
 (.exit 0))
 (.seq
 (.blk 1
 (.seq
 (.reg [
 iM 16 14,
 iM 4 16])
 (.seq
 (.reg [
 iP 18 (.ldn 3 (.t 1)),
 iM 19 4,
 iC 20 63 [.t 18,.t 19],
 iM 17 20,
 iP 21 (.ext (.t 17) 0),
 iP 22 (.ext (.t 17) 1),
 iM 5 21,
 iM 6 22])
 (.seq
 (.seq
 (.reg [
 iM 23 6,
 iP 24 (.bin .neq (.i .i64) (.t 23) (.c (i64 0)))])
 (.cond (.t 24)
 (.seq
 (.reg [
 iM 25 6,
 iM 2 25])
 .ret)
 .skip))
 (.seq
 (.reg [
 iM 26 5,
 iP 27 (.not (.t 26))])
 (.cond (.t 27)
 (.seq
 (.reg [
 iP 2 (.mov (.c (i64 13)))])
 .ret)
 .skip))))))
 (.reg [
 iP 28 (.bin .add (.i .i64) (.t 14) (.c (i64 1))),
 iM 14 28]))))
def i36:IC :=
 (.seq
 (.reg [
 iE 1 (.box 25 (.t 0)),
 iP 2 (.mov (.c (i64 0)))])
 (.seq
 (.seq
 (.reg [
 iP 7 (.ldn 3 (.t 1)),
 iC 8 62 [.t 7],
 iM 3 8])
 (.seq
 (.reg [
 iM 9 3,
 iP 10 (.bin .neq (.i .i64) (.t 9) (.c (i64 0)))])
 (.cond (.t 10)
 (.seq
 (.reg [
 iM 11 3,
 iM 2 11])
 .ret)
 .skip)))
 (.seq
 (.seq
 (.reg [
 iF 12 0 1,
 iL 13 12,
 iP 14 (.mov (.c (i64 0)))])
 (.blk 0
 (.loop l36_0)))
 (.seq
 (.reg [
 iP 2 (.mov (.c (i64 0)))])
 .ret))))
def r36:List RS:=[.t 2]
theorem c36:chkF Try.prog drawB Try.f36 i36 r36=true:=by kernel_rfl
def l37_0:IC:=.keep [3,11,12,13]
 (.seq
 (.reg [
 iP 14 (.bin .lss (.i .i64) (.t 13) (.t 12))])
 (.seq
 (.cond (.t 14)
 .skip
 (.exit 0))
 (.seq
 (.blk 1
 (.seq
 (.reg [
 iM 15 13,
 iP 16 (.ia 2 (.t 11) (.t 13)),
 iP 17 (.ldn 2 (.t 16)),
 iE 5 (.alc 45 [i64 0,i64 0]),
 iM 4 15,
 ⟨none,none,.e (.st 2 (.t 5) (.t 17))⟩])
 (.reg [
 iM 18 3,
 iM 19 4,
 iF 20 1 5,
 iL 21 20,
 iE 22 (.mks 3 1 8 [i64 0] (.t 21) (.t 21)),
 iP 23 (.ia 1 (.t 18) (.t 19)),
 ⟨none,none,.e (.st 1 (.t 23) (.t 22))⟩])))
 (.reg [
 iP 24 (.bin .add (.i .i64) (.t 13) (.c (i64 1))),
 iM 13 24]))))
def i37:IC :=
 (.seq
 (.reg [
 iE 1 (.box 25 (.t 0)),
 iP 2 (.mov (.c (.val (.slice none 0 0))))])
 (.seq
 (.reg [
 iF 6 2 1,
 iL 7 6,
 iP 8 (.len (.t 7)),
 iE 9 (.mks 36 1 24 [.val (.slice none 0 0)] (.t 8) (.t 8)),
 iM 3 9])
 (.seq
 (.seq
 (.reg [
 iF 10 2 1,
 iL 11 10,
 iP 12 (.len (.t 11)),
 iP 13 (.mov (.c (i64 0)))])
 (.blk 0
 (.loop l37_0)))
 (.seq
 (.reg [
 iM 25 3,
 iM 2 25])
 .ret))))
def r37:List RS:=[.t 2]
theorem c37:chkF Try.prog drawB Try.f37 i37 r37=true:=by kernel_rfl
def l38_0:IC:=.keep [1,2,3,6,15,16,17]
 (.seq
 (.reg [
 iP 18 (.bin .lss (.i .i64) (.t 17) (.t 16))])
 (.seq
 (.cond (.t 18)
 .skip
 (.exit 0))
 (.seq
 (.blk 1
 (.seq
 (.reg [
 iP 19 (.ia 1 (.t 15) (.t 17)),
 iL 20 19,
 iM 8 20])
 (.reg [
 iL 21 6,
 iM 22 8,
 iP 23 (.mm true .i64 (.t 22) (.c (i64 0))),
 iP 24 (.bin .add (.i .i64) (.t 21) (.t 23)),
 ⟨none,none,.e (.st 1 (.t 6) (.t 24))⟩])))
 (.reg [
 iP 25 (.bin .add (.i .i64) (.t 17) (.c (i64 1))),
 iM 17 25]))))
def l38_1:IC:=.keep [1,2,3,6,9,26,27,28]
 (.seq
 (.reg [
 iP 29 (.bin .lss (.i .i64) (.t 28) (.t 27))])
 (.seq
 (.cond (.t 29)
 .skip
 (.exit 2))
 (.seq
 (.blk 3
 (.seq
 (.reg [
 iM 30 28,
 iP 31 (.ia 1 (.t 26) (.t 28)),
 iL 32 31,
 iM 10 30,
 iM 11 32])
 (.seq
 (.blk 4
 (.seq
 (.reg [
 iL 37 6,
 iP 38 (.bin .eql (.i .i64) (.t 37) (.c (i64 0))),
 iM 36 38])
 (.cond (.t 36)
 (.reg [
 iM 39 1,
 iM 40 10,
 iL 41 3,
 iP 42 (.len (.t 41)),
 iP 43 (.bin .quo (.i .i64) (.c (i64 65536)) (.t 42)),
 iP 44 (.ia 1 (.t 39) (.t 40)),
 ⟨none,none,.e (.st 1 (.t 44) (.t 43))⟩])
 (.seq
 (.reg [
 iM 46 11,
 iP 47 (.bin .gtr (.i .i64) (.t 46) (.c (i64 0))),
 iM 45 47])
 (.cond (.t 45)
 (.reg [
 iM 48 1,
 iM 49 10,
 iM 50 11,
 iP 51 (.bin .mul (.i .i64) (.c (i64 65536)) (.t 50)),
 iL 52 6,
 iP 53 (.bin .quo (.i .i64) (.t 51) (.t 52)),
 iP 54 (.ia 1 (.t 48) (.t 49)),
 ⟨none,none,.e (.st 1 (.t 54) (.t 53))⟩])
 (.reg [
 iM 33 1,
 iM 34 10,
 iP 35 (.ia 1 (.t 33) (.t 34)),
 ⟨none,none,.e (.st 1 (.t 35) (.c (i64 0)))⟩]))))))
 (.seq
 (.reg [
 iM 55 9,
 iM 56 1,
 iM 57 10,
 iP 58 (.ia 1 (.t 56) (.t 57)),
 iL 59 58,
 iP 60 (.bin .sub (.i .i64) (.t 55) (.t 59)),
 iM 9 60])
 (.reg [
 iM 61 2,
 iM 62 10,
 iM 63 10,
 iP 64 (.ia 1 (.t 61) (.t 62)),
 ⟨none,none,.e (.st 1 (.t 64) (.t 63))⟩])))))
 (.reg [
 iP 65 (.bin .add (.i .i64) (.t 28) (.c (i64 1))),
 iM 28 65]))))
def l38_2:IC:=.keep [1,78,79,80]
 (.seq
 (.reg [
 iP 81 (.bin .lss (.i .i64) (.t 80) (.t 79))])
 (.seq
 (.cond (.t 81)
 .skip
 (.exit 5))
 (.seq
 (.blk 6
 (.seq
 (.reg [
 iP 82 (.ia 1 (.t 78) (.t 80)),
 iL 83 82,
 iM 14 83])
 (.reg [
 iM 84 1,
 iM 85 14,
 iP 86 (.ia 1 (.t 84) (.t 85)),
 iL 87 86,
 iP 88 (.bin .add (.i .i64) (.t 87) (.c (i64 1))),
 iP 89 (.ia 1 (.t 84) (.t 85)),
 ⟨none,none,.e (.st 1 (.t 89) (.t 88))⟩])))
 (.reg [
 iP 90 (.bin .add (.i .i64) (.t 80) (.c (i64 1))),
 iM 80 90]))))
def i38:IC :=
 (.seq
 (.reg [
 iE 3 (.box 36 (.t 0))])
 (.seq
 (.reg [
 iE 6 (.alc 3 [i64 0]),
 ⟨none,none,.e (.st 1 (.t 6) (.c (i64 0)))⟩])
 (.seq
 (.seq
 (.reg [
 iL 15 3,
 iP 16 (.len (.t 15)),
 iP 17 (.mov (.c (i64 0)))])
 (.blk 0
 (.loop l38_0)))
 (.seq
 (.reg [
 iP 9 (.mov (.c (i64 65536)))])
 (.seq
 (.seq
 (.reg [
 iL 26 3,
 iP 27 (.len (.t 26)),
 iP 28 (.mov (.c (i64 0)))])
 (.blk 2
 (.loop l38_1)))
 (.seq
 (.seq
 (.reg [
 iL 66 6,
 iP 67 (.bin .gtr (.i .i64) (.t 66) (.c (i64 0))),
 iM 68 67,
 iG 69 68 true (.mov (.t 9)),
 iG 70 68 true (.bin .gtr (.i .i64) (.t 69) (.c (i64 0))),
 iP 71 (.pick (.t 68) (.t 70) (.c (bl false)))])
 (.cond (.t 71)
 (.seq
 (.reg [
 iP 72 (.mkf (.func 64) [] [(.t 3),(.t 6)]),
 iE 12 (.alc 83 [.val .nilFunc]),
 ⟨none,none,.e (.st 1 (.t 12) (.t 72))⟩])
 (.reg [
 iM 73 2,
 iP 74 (.mkf (.func 66) [] [(.t 12)]),
 iC 75 65 [.t 73,.t 74]]))
 .skip))
 (.seq
 (.reg [
 iM 76 2,
 iM 77 9,
 iP 78 (.sl 1 (.t 76) none (some (.t 77))),
 iP 79 (.len (.t 78)),
 iP 80 (.mov (.c (i64 0)))])
 (.blk 5
 (.loop l38_2)))))))))
def r38:List RS:=[]
theorem c38:chkF Try.prog drawB Try.f38 i38 r38=true:=by kernel_rfl
def l39_1:IC:=.keep [2,3,17,18,19,33,34,35]
 (.seq
 (.reg [
 iP 36 (.bin .lss (.i .i64) (.t 35) (.t 34))])
 (.seq
 (.cond (.t 36)
 .skip
 (.exit 2))
 (.seq
 (.blk 3
 (.seq
 (.reg [
 iP 37 (.ia 1 (.t 33) (.t 35)),
 iL 38 37,
 iM 10 38])
 (.seq
 (.reg [
 iM 39 10,
 iM 40 2,
 iP 41 (.bin .lss (.i .i64) (.t 39) (.t 40)),
 iM 42 41,
 iG 43 42 false (.mov (.t 10)),
 iG 44 42 false (.bin .gtr (.i .i64) (.t 43) (.c (i64 70368744177664))),
 iP 45 (.pick (.t 42) (.c (bl true)) (.t 44))])
 (.cond (.t 45)
 (.seq
 (.reg [
 iP 6 (.mov (.c (i64 2)))])
 .ret)
 .skip))))
 (.reg [
 iP 46 (.bin .add (.i .i64) (.t 35) (.c (i64 1))),
 iM 35 46]))))
def l39_0:IC:=.keep [2,3,17,18,19]
 (.seq
 (.reg [
 iP 20 (.bin .lss (.i .i64) (.t 19) (.t 18))])
 (.seq
 (.cond (.t 20)
 .skip
 (.exit 0))
 (.seq
 (.blk 1
 (.seq
 (.reg [
 iM 21 19,
 iP 22 (.ia 1 (.t 17) (.t 19)),
 iL 23 22,
 iM 7 21,
 iM 8 23])
 (.seq
 (.seq
 (.reg [
 iM 24 8,
 iP 25 (.len (.t 24)),
 iF 26 2 3,
 iL 27 26,
 iM 28 7,
 iP 29 (.ia 2 (.t 27) (.t 28)),
 iF 30 1 29,
 iL 31 30,
 iP 32 (.bin .neq (.i .i64) (.t 25) (.t 31))])
 (.cond (.t 32)
 (.seq
 (.reg [
 iP 6 (.mov (.c (i64 3)))])
 .ret)
 .skip))
 (.seq
 (.reg [
 iM 33 8,
 iP 34 (.len (.t 33)),
 iP 35 (.mov (.c (i64 0)))])
 (.blk 2
 (.loop l39_1))))))
 (.reg [
 iP 47 (.bin .add (.i .i64) (.t 19) (.c (i64 1))),
 iM 19 47]))))
def i39:IC :=
 (.seq
 (.reg [
 iE 3 (.box 25 (.t 0)),
 iP 6 (.mov (.c (i64 0)))])
 (.seq
 (.seq
 (.reg [
 iM 11 1,
 iP 12 (.len (.t 11)),
 iF 13 2 3,
 iL 14 13,
 iP 15 (.len (.t 14)),
 iP 16 (.bin .neq (.i .i64) (.t 12) (.t 15))])
 (.cond (.t 16)
 (.seq
 (.reg [
 iP 6 (.mov (.c (i64 3)))])
 .ret)
 .skip))
 (.seq
 (.seq
 (.reg [
 iM 17 1,
 iP 18 (.len (.t 17)),
 iP 19 (.mov (.c (i64 0)))])
 (.blk 0
 (.loop l39_0)))
 (.seq
 (.reg [
 iP 6 (.mov (.c (i64 0)))])
 .ret))))
def r39:List RS:=[.t 6]
theorem c39:chkF Try.prog drawB Try.f39 i39 r39=true:=by kernel_rfl
def i46:IC :=
 (.seq
 (.reg [
 iE 6 (.alc 59 [i64 0,i64 0,i64 0,.val (.slice none 0 0),.val (.slice none 0 0),.val (.slice none 0 0)])])
 (.seq
 (.reg [
 iM 7 0,
 iM 8 1,
 iM 9 2,
 iP 10 (.bld [i64 0,i64 0,i64 0,.val (.slice none 0 0),.val (.slice none 0 0),.val (.slice none 0 0)] [(0,1,(.c (i64 2))),(1,1,(.t 7)),(2,1,(.t 8)),(3,1,(.t 9))]),
 ⟨none,none,.e (.st 6 (.t 6) (.t 10))⟩])
 .ret))
def r46:List RS:=[.cn 6 6]
theorem c46:chkF Try.prog drawB Try.f46 i46 r46=true:=by kernel_rfl
def i47:IC :=
 (.seq
 (.reg [
 iE 2 (.alc 59 [i64 0,i64 0,i64 0,.val (.slice none 0 0),.val (.slice none 0 0),.val (.slice none 0 0)])])
 (.seq
 (.reg [
 iM 3 0,
 iM 4 0,
 iP 5 (.neg .i64 (.t 4)),
 iE 6 (.bsl 3 1 2 [i64 0] [(0,(.t 3)),(1,(.t 5))]),
 iP 7 (.bld [i64 0,i64 0,i64 0,.val (.slice none 0 0),.val (.slice none 0 0),.val (.slice none 0 0)] [(0,1,(.c (i64 3))),(5,1,(.t 6))]),
 ⟨none,none,.e (.st 6 (.t 2) (.t 7))⟩])
 .ret))
def r47:List RS:=[.cn 2 6]
theorem c47:chkF Try.prog drawB Try.f47 i47 r47=true:=by kernel_rfl
def l48_0:IC:=.keep [0,1,5]
 (.seq
 (.seq
 (.reg [
 iM 11 5,
 iM 12 0,
 iP 13 (.len (.t 12)),
 iP 14 (.bin .lss (.i .i64) (.t 11) (.t 13))])
 (.cond (.t 14)
 .skip
 (.exit 0)))
 (.seq
 (.blk 1
 (.seq
 (.drw [0,1,2,3,4,5,6,7,8] [
 iM 17 0,
 iM 18 5,
 iP 19 (.ia 1 (.t 17) (.t 18)),
 iL 20 19,
 iM 21 1,
 iM 22 5,
 iP 23 (.ia 1 (.t 21) (.t 22)),
 iL 24 23,
 iP 25 (.bin .neq (.i .i64) (.t 20) (.t 24))])
 (.cond (.t 25)
 (.seq
 (.reg [
 iP 4 (.mov (.c (bl false)))])
 .ret)
 .skip)))
 (.reg [
 iM 15 5,
 iP 16 (.bin .add (.i .i64) (.t 15) (.c (i64 1))),
 iM 5 16])))
def i48:IC :=
 (.seq
 (.reg [
 iP 4 (.mov (.c (bl false)))])
 (.seq
 (.seq
 (.reg [
 iM 6 0,
 iP 7 (.len (.t 6)),
 iM 8 1,
 iP 9 (.len (.t 8)),
 iP 10 (.bin .neq (.i .i64) (.t 7) (.t 9))])
 (.cond (.t 10)
 (.seq
 (.reg [
 iP 4 (.mov (.c (bl false)))])
 .ret)
 .skip))
 (.seq
 (.seq
 (.reg [
 iP 5 (.mov (.c (i64 0)))])
 (.blk 0
 (.loop l48_0)))
 (.seq
 (.reg [
 iP 4 (.mov (.c (bl true)))])
 .ret))))
def r48:List RS:=[.t 4]
theorem c48:chkF Try.prog drawB Try.f48 i48 r48=true:=by kernel_rfl
def i49:IC :=
 (.seq
 (.reg [
 iP 2 (.mov (.c (.val (.slice none 0 0))))])
 (.seq
 (.seq
 (.reg [
 iM 3 0,
 iE 4 (.snil false true (.t 3))])
 (.cond (.t 4)
 (.seq
 (.reg [
 iP 2 (.mov (.c (.val (.slice none 0 0))))])
 .ret)
 .skip))
 (.seq
 (.reg [
 iE 5 (.bsl 3 1 0 [i64 0] []),
 iM 6 0,
 iE 7 (.app 3 1 8 (.t 5) (.t 6)),
 iM 2 7])
 .ret)))
def r49:List RS:=[.t 2]
theorem c49:chkF Try.prog drawB Try.f49 i49 r49=true:=by kernel_rfl
def l50_0:IC:=.keep [0,1,5,31,32,33]
 (.seq
 (.reg [
 iP 34 (.bin .lss (.i .i64) (.t 33) (.t 32))])
 (.seq
 (.cond (.t 34)
 .skip
 (.exit 0))
 (.seq
 (.blk 1
 (.seq
 (.reg [
 iM 35 33,
 iP 36 (.ia 1 (.t 31) (.t 33)),
 iL 37 36,
 iM 6 35,
 iM 7 37])
 (.reg [
 iM 38 6,
 iM 39 7,
 iP 40 (.bin .mul (.i .i64) (.t 39) (.c (i64 1024))),
 iP 41 (.iap 4 1 (.t 5) (.t 38)),
 ⟨none,none,.e (.st 1 (.t 41) (.t 40))⟩])))
 (.reg [
 iP 42 (.bin .add (.i .i64) (.t 33) (.c (i64 1))),
 iM 33 42]))))
def l50_2:IC:=.keep [0,1,5,10,11,12,53,54,55,71,72]
 (.seq
 (.reg [
 iP 73 (.bin .lss (.i .i64) (.t 72) (.t 71))])
 (.seq
 (.cond (.t 73)
 .skip
 (.exit 4))
 (.seq
 (.blk 5
 (.seq
 (.reg [
 iM 74 72,
 iM 13 74])
 (.drw [0,1,2,3,4,5,6,7,8,9,10,11,12,13,14,15,16] [
 iM 75 13,
 iP 76 (.iap 4 1 (.t 5) (.t 75)),
 iL 77 76,
 iM 78 0,
 iP 79 (.nck (.t 78)),
 iF 80 10 79,
 iL 81 80,
 iM 82 10,
 iM 83 13,
 iP 84 (.ia 4 (.t 81) (.t 82)),
 iP 85 (.iap 4 1 (.t 84) (.t 83)),
 iL 86 85,
 iM 87 11,
 iP 88 (.bin .mul (.i .i64) (.t 86) (.t 87)),
 iP 89 (.bin .add (.i .i64) (.t 77) (.t 88)),
 iP 90 (.iap 4 1 (.t 5) (.t 75)),
 ⟨none,none,.e (.st 1 (.t 90) (.t 89))⟩])))
 (.reg [
 iP 91 (.bin .add (.i .i64) (.t 72) (.c (i64 1))),
 iM 72 91]))))
def l50_1:IC:=.keep [0,1,5,8,53,54,55]
 (.seq
 (.reg [
 iP 56 (.bin .lss (.i .i64) (.t 55) (.t 54))])
 (.seq
 (.cond (.t 56)
 .skip
 (.exit 2))
 (.seq
 (.blk 3
 (.seq
 (.reg [
 iM 57 55,
 iP 58 (.ia 1 (.t 53) (.t 55)),
 iL 59 58,
 iM 9 57,
 iM 10 59])
 (.seq
 (.reg [
 iM 61 0,
 iM 62 1,
 iM 63 9,
 iC 64 70 [.t 61,.t 62,.t 63],
 iM 60 64,
 iP 65 (.ext (.t 60) 0),
 iP 66 (.ext (.t 60) 1),
 iM 11 65,
 iM 12 66])
 (.seq
 (.seq
 (.reg [
 iM 67 0,
 iP 68 (.nck (.t 67)),
 iF 69 0 68,
 iF 70 0 69,
 iL 71 70,
 iP 72 (.mov (.c (i64 0)))])
 (.blk 4
 (.loop l50_2)))
 (.reg [
 iM 92 12,
 iM 8 92])))))
 (.reg [
 iP 93 (.bin .add (.i .i64) (.t 55) (.c (i64 1))),
 iM 55 93]))))
def l50_3:IC:=.keep [0,1,5,8,98,99]
 (.seq
 (.reg [
 iP 100 (.bin .lss (.i .i64) (.t 99) (.t 98))])
 (.seq
 (.cond (.t 100)
 .skip
 (.exit 6))
 (.seq
 (.blk 7
 (.seq
 (.reg [
 iM 101 99,
 iM 14 101])
 (.reg [
 iM 102 14,
 iP 103 (.iap 4 1 (.t 5) (.t 102)),
 iL 104 103,
 iM 105 8,
 iP 106 (.bin .quo (.i .i64) (.t 104) (.t 105)),
 iP 107 (.iap 4 1 (.t 5) (.t 102)),
 ⟨none,none,.e (.st 1 (.t 107) (.t 106))⟩])))
 (.reg [
 iP 108 (.bin .add (.i .i64) (.t 99) (.c (i64 1))),
 iM 99 108]))))
def i50:IC :=
 (.seq
 (.reg [
 iM 15 0,
 iP 16 (.nck (.t 15)),
 iF 17 0 16,
 iF 18 1 17,
 iL 19 18,
 iM 20 1,
 iP 21 (.ia 6 (.t 19) (.t 20)),
 iM 4 21])
 (.seq
 (.reg [
 iP 22 (.bld [i64 0,i64 0,i64 0,i64 0] []),
 iE 5 (.alc 101 [i64 0,i64 0,i64 0,i64 0]),
 ⟨none,none,.e (.st 4 (.t 5) (.t 22))⟩])
 (.seq
 (.seq
 (.reg [
 iM 23 4,
 iP 24 (.nck (.t 23)),
 iF 25 0 24,
 iL 26 25,
 iP 27 (.bin .eql (.i .i64) (.t 26) (.c (i64 3)))])
 (.cond (.t 27)
 (.seq
 (.seq
 (.reg [
 iM 28 4,
 iP 29 (.nck (.t 28)),
 iF 30 5 29,
 iL 31 30,
 iP 32 (.len (.t 31)),
 iP 33 (.mov (.c (i64 0)))])
 (.blk 0
 (.loop l50_0)))
 (.seq
 (.drw [0,1,2,3,4,5,6,7] [
 iM 43 0,
 iP 44 (.nck (.t 43)),
 iF 45 10 44,
 iL 46 45,
 iM 47 1,
 iP 48 (.ldn 4 (.t 5)),
 iP 49 (.ia 4 (.t 46) (.t 47)),
 ⟨none,none,.e (.st 4 (.t 49) (.t 48))⟩])
 .ret))
 .skip))
 (.seq
 (.reg [
 iP 8 (.mov (.c (i64 1)))])
 (.seq
 (.seq
 (.reg [
 iM 50 4,
 iP 51 (.nck (.t 50)),
 iF 52 3 51,
 iL 53 52,
 iP 54 (.len (.t 53)),
 iP 55 (.mov (.c (i64 0)))])
 (.blk 2
 (.loop l50_1)))
 (.seq
 (.seq
 (.reg [
 iM 94 0,
 iP 95 (.nck (.t 94)),
 iF 96 0 95,
 iF 97 0 96,
 iL 98 97,
 iP 99 (.mov (.c (i64 0)))])
 (.blk 6
 (.loop l50_3)))
 (.drw [0,1,2,3,4,5,6,7] [
 iM 109 0,
 iP 110 (.nck (.t 109)),
 iF 111 10 110,
 iL 112 111,
 iM 113 1,
 iP 114 (.ldn 4 (.t 5)),
 iP 115 (.ia 4 (.t 112) (.t 113)),
 ⟨none,none,.e (.st 4 (.t 115) (.t 114))⟩])))))))
def r50:List RS:=[]
theorem c50:chkF Try.prog drawB Try.f50 i50 r50=true:=by kernel_rfl
def l51_1:IC:=.keep [0,1,4,6,7,8,20,21,22,64,65]
 (.seq
 (.reg [
 iP 66 (.bin .lss (.i .i64) (.t 65) (.t 64))])
 (.seq
 (.cond (.t 66)
 .skip
 (.exit 2))
 (.seq
 (.blk 3
 (.seq
 (.reg [
 iM 67 65,
 iM 9 67])
 (.seq
 (.reg [
 iM 68 4,
 iP 69 (.nck (.t 68)),
 iF 70 0 69,
 iL 71 70,
 iP 72 (.bin .eql (.i .i64) (.t 71) (.c (i64 2))),
 iM 73 72,
 iG 74 73 true (.mov (.t 4)),
 iG 75 73 true (.nck (.t 74)),
 iG 76 73 true (.fa 1 (.t 75)),
 iG 77 73 true (.ld1 (.t 76)),
 iG 78 73 true (.mov (.t 9)),
 iG 79 73 true (.bin .eql (.i .i64) (.t 77) (.t 78)),
 iP 80 (.pick (.t 73) (.t 79) (.c (bl false)))])
 (.cond (.t 80)
 (.drw [0,1,2,3,4,5,6,7,8,9,10,11,12,13,14,15,16,17,18,19,20,21] [
 iM 81 0,
 iP 82 (.nck (.t 81)),
 iF 83 12 82,
 iL 84 83,
 iM 85 6,
 iM 86 9,
 iM 87 0,
 iP 88 (.nck (.t 87)),
 iF 89 12 88,
 iL 90 89,
 iM 91 1,
 iM 92 9,
 iP 93 (.ia 4 (.t 90) (.t 91)),
 iP 94 (.iap 4 1 (.t 93) (.t 92)),
 iL 95 94,
 iM 96 7,
 iP 97 (.bin .mul (.i .i64) (.t 95) (.t 96)),
 iM 98 8,
 iP 99 (.bin .quo (.i .i64) (.t 97) (.t 98)),
 iP 100 (.ia 4 (.t 84) (.t 85)),
 iP 101 (.iap 4 1 (.t 100) (.t 86)),
 ⟨none,none,.e (.st 1 (.t 101) (.t 99))⟩])
 (.drw [0,1,2,3,4,5,6,7,8,9,10,11,12,13,14,15,16,17,18,19,20,21] [
 iM 102 0,
 iP 103 (.nck (.t 102)),
 iF 104 11 103,
 iL 105 104,
 iM 106 6,
 iM 107 9,
 iM 108 0,
 iP 109 (.nck (.t 108)),
 iF 110 11 109,
 iL 111 110,
 iM 112 1,
 iM 113 9,
 iP 114 (.ia 4 (.t 111) (.t 112)),
 iP 115 (.iap 4 1 (.t 114) (.t 113)),
 iL 116 115,
 iM 117 7,
 iP 118 (.bin .mul (.i .i64) (.t 116) (.t 117)),
 iM 119 8,
 iP 120 (.bin .quo (.i .i64) (.t 118) (.t 119)),
 iP 121 (.ia 4 (.t 105) (.t 106)),
 iP 122 (.iap 4 1 (.t 121) (.t 107)),
 ⟨none,none,.e (.st 1 (.t 122) (.t 120))⟩])))))
 (.reg [
 iP 123 (.bin .add (.i .i64) (.t 65) (.c (i64 1))),
 iM 65 123]))))
def l51_0:IC:=.keep [0,1,4,20,21,22]
 (.seq
 (.reg [
 iP 23 (.bin .lss (.i .i64) (.t 22) (.t 21))])
 (.seq
 (.cond (.t 23)
 .skip
 (.exit 0))
 (.seq
 (.blk 1
 (.seq
 (.reg [
 iM 24 22,
 iP 25 (.ia 1 (.t 20) (.t 22)),
 iL 26 25,
 iM 5 24,
 iM 6 26])
 (.seq
 (.reg [
 iM 28 0,
 iM 29 1,
 iM 30 5,
 iC 31 70 [.t 28,.t 29,.t 30],
 iM 27 31,
 iP 32 (.ext (.t 27) 0),
 iP 33 (.ext (.t 27) 1),
 iM 7 32,
 iM 8 33])
 (.seq
 (.drw [0,1,2,3,4,5,6,7,8,9,10,11,12,13,14,15,16,17,18,19,20,21,22,23,24,25,26,27] [
 iM 34 0,
 iP 35 (.nck (.t 34)),
 iF 36 11 35,
 iL 37 36,
 iM 38 6,
 iM 39 0,
 iP 40 (.nck (.t 39)),
 iF 41 12 40,
 iL 42 41,
 iM 43 6,
 iM 44 0,
 iP 45 (.nck (.t 44)),
 iF 46 11 45,
 iL 47 46,
 iM 48 1,
 iP 49 (.ia 4 (.t 47) (.t 48)),
 iP 50 (.ldn 4 (.t 49)),
 iM 51 0,
 iP 52 (.nck (.t 51)),
 iF 53 12 52,
 iL 54 53,
 iM 55 1,
 iP 56 (.ia 4 (.t 54) (.t 55)),
 iP 57 (.ldn 4 (.t 56)),
 iP 58 (.ia 4 (.t 37) (.t 38)),
 ⟨none,none,.e (.stw [57,54,42] 4 (.t 58) (.t 50))⟩,
 iP 59 (.ia 4 (.t 42) (.t 43)),
 ⟨none,none,.e (.stw [50,47,37] 4 (.t 59) (.t 57))⟩])
 (.seq
 (.reg [
 iM 60 0,
 iP 61 (.nck (.t 60)),
 iF 62 0 61,
 iF 63 0 62,
 iL 64 63,
 iP 65 (.mov (.c (i64 0)))])
 (.blk 2
 (.loop l51_1)))))))
 (.reg [
 iP 124 (.bin .add (.i .i64) (.t 22) (.c (i64 1))),
 iM 22 124]))))
def i51:IC :=
 (.seq
 (.reg [
 iM 10 0,
 iP 11 (.nck (.t 10)),
 iF 12 0 11,
 iF 13 1 12,
 iL 14 13,
 iM 15 1,
 iP 16 (.ia 6 (.t 14) (.t 15)),
 iM 4 16])
 (.seq
 (.reg [
 iM 17 4,
 iP 18 (.nck (.t 17)),
 iF 19 3 18,
 iL 20 19,
 iP 21 (.len (.t 20)),
 iP 22 (.mov (.c (i64 0)))])
 (.blk 0
 (.loop l51_0))))
def r51:List RS:=[]
theorem c51:chkF Try.prog drawB Try.f51 i51 r51=true:=by kernel_rfl
def l52_0:IC:=.keep [0,1,5,6,39,40,41]
 (.seq
 (.reg [
 iP 42 (.bin .lss (.i .i64) (.t 41) (.t 40))])
 (.seq
 (.cond (.t 42)
 .skip
 (.exit 0))
 (.seq
 (.blk 1
 (.seq
 (.reg [
 iM 43 41,
 iP 44 (.ia 1 (.t 39) (.t 41)),
 iL 45 44,
 iM 7 43,
 iM 8 45])
 (.drw [0,1,2,3,4,5,6,7,8,9,10,11,12,13,14,15,16,17,18,19,20,21,22,23,24,25,26,27,28,29,30,31,32,33,34,35,36] [
 iM 46 5,
 iM 47 7,
 iP 48 (.ia 1 (.t 46) (.t 47)),
 iL 49 48,
 iM 50 0,
 iP 51 (.nck (.t 50)),
 iF 52 11 51,
 iL 53 52,
 iM 54 1,
 iM 55 6,
 iP 56 (.ia 4 (.t 53) (.t 54)),
 iP 57 (.iap 4 1 (.t 56) (.t 55)),
 iL 58 57,
 iM 59 0,
 iP 60 (.nck (.t 59)),
 iF 61 10 60,
 iL 62 61,
 iM 63 8,
 iM 64 6,
 iP 65 (.ia 4 (.t 62) (.t 63)),
 iP 66 (.iap 4 1 (.t 65) (.t 64)),
 iL 67 66,
 iM 68 0,
 iP 69 (.nck (.t 68)),
 iF 70 10 69,
 iL 71 70,
 iM 72 1,
 iM 73 6,
 iP 74 (.ia 4 (.t 71) (.t 72)),
 iP 75 (.iap 4 1 (.t 74) (.t 73)),
 iL 76 75,
 iP 77 (.bin .sub (.i .i64) (.t 67) (.t 76)),
 iP 78 (.bin .mul (.i .i64) (.t 58) (.t 77)),
 iP 79 (.bin .quo (.i .i64) (.t 78) (.c (i64 1073741824))),
 iP 80 (.bin .add (.i .i64) (.t 49) (.t 79)),
 iP 81 (.ia 1 (.t 46) (.t 47)),
 ⟨none,none,.e (.st 1 (.t 81) (.t 80))⟩])))
 (.reg [
 iP 82 (.bin .add (.i .i64) (.t 41) (.c (i64 1))),
 iM 41 82]))))
def i52:IC :=
 (.seq
 (.reg [
 iM 9 0,
 iP 10 (.nck (.t 9)),
 iF 11 0 10,
 iF 12 1 11,
 iL 13 12,
 iM 14 1,
 iP 15 (.ia 6 (.t 13) (.t 14)),
 iM 4 15])
 (.seq
 (.seq
 (.reg [
 iM 16 4,
 iP 17 (.nck (.t 16)),
 iF 18 0 17,
 iL 19 18,
 iP 20 (.bin .neq (.i .i64) (.t 19) (.c (i64 2)))])
 (.cond (.t 20)
 .ret
 .skip))
 (.seq
 (.drw [0,1,2,3,4,5,6,7,8,9,10,11,12,13,14,15,16] [
 iM 21 0,
 iP 22 (.nck (.t 21)),
 iF 23 5 22,
 iF 24 2 23,
 iL 25 24,
 iM 26 4,
 iP 27 (.nck (.t 26)),
 iF 28 2 27,
 iL 29 28,
 iP 30 (.ia 1 (.t 25) (.t 29)),
 iL 31 30,
 iM 32 4,
 iP 33 (.nck (.t 32)),
 iF 34 1 33,
 iL 35 34,
 iM 5 31,
 iM 6 35])
 (.seq
 (.reg [
 iM 36 4,
 iP 37 (.nck (.t 36)),
 iF 38 3 37,
 iL 39 38,
 iP 40 (.len (.t 39)),
 iP 41 (.mov (.c (i64 0)))])
 (.blk 0
 (.loop l52_0))))))
def r52:List RS:=[]
theorem c52:chkF Try.prog drawB Try.f52 i52 r52=true:=by kernel_rfl
def l53_1:IC:=.keep [0,2,10,11,21,22,23]
 (.seq
 (.reg [
 iP 24 (.bin .lss (.i .i64) (.t 23) (.t 22))])
 (.seq
 (.cond (.t 24)
 .skip
 (.exit 2))
 (.seq
 (.blk 3
 (.seq
 (.reg [
 iM 25 23,
 iP 26 (.ia 1 (.t 21) (.t 23)),
 iL 27 26,
 iM 3 25,
 iM 4 27])
 (.seq
 (.reg [
 iM 28 4,
 iP 29 (.bin .lss (.i .i64) (.t 28) (.c (i64 (-70368744177664)))),
 iM 30 29,
 iG 31 30 false (.mov (.t 4)),
 iG 32 30 false (.bin .gtr (.i .i64) (.t 31) (.c (i64 70368744177664))),
 iP 33 (.pick (.t 30) (.c (bl true)) (.t 32)),
 iM 34 33,
 iG 35 34 false (.mov (.t 0)),
 iG 36 34 false (.nck (.t 35)),
 iG 37 34 false (.fa 5 (.t 36)),
 iG 38 34 false (.fa 3 (.t 37)),
 iG 39 34 false (.ld1 (.t 38)),
 iG 40 34 false (.mov (.t 2)),
 iG 41 34 false (.ia 1 (.t 39) (.t 40)),
 iG 42 34 false (.ld1 (.t 41)),
 iG 43 34 false (.mov (.t 3)),
 iG 44 34 false (.ia 1 (.t 42) (.t 43)),
 iG 45 34 false (.ld1 (.t 44)),
 iG 46 34 false (.bin .gtr (.i .i64) (.t 45) (.c (i64 70368744177664))),
 iP 47 (.pick (.t 34) (.c (bl true)) (.t 46))])
 (.cond (.t 47)
 (.reg [
 iP 48 (.bld [i64 0] [(0,1,(.c (i64 5)))]),
 iP 49 (.mki 64 (.t 48)),
 ⟨none,none,.e (.pan (.t 49))⟩])
 .skip))))
 (.reg [
 iP 50 (.bin .add (.i .i64) (.t 23) (.c (i64 1))),
 iM 23 50]))))
def l53_0:IC:=.keep [0,10,11]
 (.seq
 (.reg [
 iP 12 (.bin .lss (.i .i64) (.t 11) (.t 10))])
 (.seq
 (.cond (.t 12)
 .skip
 (.exit 0))
 (.seq
 (.blk 1
 (.seq
 (.reg [
 iM 13 11,
 iM 2 13])
 (.seq
 (.reg [
 iM 14 0,
 iP 15 (.nck (.t 14)),
 iF 16 5 15,
 iF 17 2 16,
 iL 18 17,
 iM 19 2,
 iP 20 (.ia 1 (.t 18) (.t 19)),
 iL 21 20,
 iP 22 (.len (.t 21)),
 iP 23 (.mov (.c (i64 0)))])
 (.blk 2
 (.loop l53_1)))))
 (.reg [
 iP 51 (.bin .add (.i .i64) (.t 11) (.c (i64 1))),
 iM 11 51]))))
def i53:IC :=
 (.seq
 (.reg [
 iM 5 0,
 iP 6 (.nck (.t 5)),
 iF 7 5 6,
 iF 8 2 7,
 iL 9 8,
 iP 10 (.len (.t 9)),
 iP 11 (.mov (.c (i64 0)))])
 (.blk 0
 (.loop l53_0)))
def r53:List RS:=[]
theorem c53:chkF Try.prog drawB Try.f53 i53 r53=true:=by kernel_rfl
def i54:IC :=
 (.seq
 (.reg [
 iE 1 (.box 25 (.t 0)),
 iP 2 (.mov (.c (i64 0)))])
 (.seq
 (.seq
 (.reg [
 iP 6 (.ldn 3 (.t 1)),
 iC 7 71 [.t 6],
 iM 3 7])
 (.seq
 (.reg [
 iM 8 3,
 iP 9 (.bin .neq (.i .i64) (.t 8) (.c (i64 0)))])
 (.cond (.t 9)
 (.seq
 (.reg [
 iM 10 3,
 iM 2 10])
 .ret)
 .skip)))
 (.seq
 (.reg [
 iP 12 (.ldn 3 (.t 1)),
 iC 13 72 [.t 12],
 iM 11 13,
 iP 14 (.ext (.t 11) 0),
 iP 15 (.ext (.t 11) 1),
 iM 4 14,
 iM 5 15])
 (.seq
 (.reg [
 iM 16 5,
 iM 2 16])
 .ret))))
def r54:List RS:=[.t 2]
theorem c54:chkF Try.prog drawB Try.f54 i54 r54=true:=by kernel_rfl
def i55:IC :=
 (.seq
 (.reg [
 iE 2 (.box 25 (.t 0)),
 iE 3 (.box 28 (.t 1)),
 iP 4 (.mov (.c (i64 0)))])
 (.seq
 (.seq
 (.reg [
 iF 6 0 3,
 iL 7 6,
 iP 8 (.bin .lss (.i .i64) (.t 7) (.c (i64 0))),
 iM 9 8,
 iG 10 9 false (.fa 0 (.t 3)),
 iG 11 9 false (.ld1 (.t 10)),
 iG 12 9 false (.bin .gtr (.i .i64) (.t 11) (.c (i64 1000000))),
 iP 13 (.pick (.t 9) (.c (bl true)) (.t 12)),
 iM 14 13,
 iG 15 14 false (.fa 1 (.t 3)),
 iG 16 14 false (.ld1 (.t 15)),
 iG 17 14 false (.bin .lss (.i .i64) (.t 16) (.c (i64 0))),
 iP 18 (.pick (.t 14) (.c (bl true)) (.t 17)),
 iM 19 18,
 iG 20 19 false (.fa 1 (.t 3)),
 iG 21 19 false (.ld1 (.t 20)),
 iG 22 19 false (.bin .gtr (.i .i64) (.t 21) (.c (i64 2147483646))),
 iP 23 (.pick (.t 19) (.c (bl true)) (.t 22))])
 (.cond (.t 23)
 (.seq
 (.reg [
 iP 4 (.mov (.c (i64 2)))])
 .ret)
 .skip))
 (.seq
 (.seq
 (.reg [
 iP 24 (.ldn 3 (.t 2)),
 iF 25 2 3,
 iL 26 25,
 iC 27 73 [.t 24,.t 26,(.c (i64 (-70368744177664)))],
 iM 5 27])
 (.seq
 (.reg [
 iM 28 5,
 iP 29 (.bin .neq (.i .i64) (.t 28) (.c (i64 0)))])
 (.cond (.t 29)
 (.seq
 (.reg [
 iM 30 5,
 iM 4 30])
 .ret)
 .skip)))
 (.seq
 (.reg [
 iP 31 (.ldn 3 (.t 2)),
 iF 32 3 3,
 iL 33 32,
 iC 34 73 [.t 31,.t 33,(.c (i64 0))],
 iM 4 34])
 .ret))))
def r55:List RS:=[.t 4]
theorem c55:chkF Try.prog drawB Try.f55 i55 r55=true:=by kernel_rfl
def l56_0:IC:=.keep [1,3,4]
 (.seq
 (.seq
 (.reg [
 iM 5 4,
 iF 6 2 1,
 iL 7 6,
 iP 8 (.len (.t 7)),
 iP 9 (.bin .lss (.i .i64) (.t 5) (.t 8))])
 (.cond (.t 9)
 .skip
 (.exit 0)))
 (.seq
 (.blk 1
 (.reg [
 iM 12 3,
 iF 13 2 1,
 iL 14 13,
 iM 15 4,
 iP 16 (.ia 1 (.t 14) (.t 15)),
 iL 17 16,
 iC 18 74 [.t 17],
 iE 19 (.bsl 36 1 1 [.val (.slice none 0 0)] [(0,(.t 18))]),
 iE 20 (.app 36 1 24 (.t 12) (.t 19)),
 iM 3 20]))
 (.reg [
 iM 10 4,
 iP 11 (.bin .add (.i .i64) (.t 10) (.c (i64 1))),
 iM 4 11])))
def i56:IC :=
 (.seq
 (.reg [
 iE 1 (.box 28 (.t 0)),
 iP 2 (.mov (.c (.val (.slice none 0 0))))])
 (.seq
 (.reg [
 iE 3 (.nil 36 1 (.c (.val (.slice none 0 0))))])
 (.seq
 (.seq
 (.reg [
 iP 4 (.mov (.c (i64 0)))])
 (.blk 0
 (.loop l56_0)))
 (.seq
 (.reg [
 iM 21 3,
 iM 2 21])
 .ret))))
def r56:List RS:=[.t 2]
theorem c56:chkF Try.prog drawB Try.f56 i56 r56=true:=by kernel_rfl
def l57_2:IC:=.keep [1,2,5,6,7,8,9,10,11]
 (.seq
 (.seq
 (.reg [
 iM 63 11,
 iF 64 3 7,
 iL 65 64,
 iP 66 (.len (.t 65)),
 iP 67 (.bin .lss (.i .i64) (.t 63) (.t 66))])
 (.cond (.t 67)
 .skip
 (.exit 4)))
 (.seq
 (.blk 5
 (.seq
 (.reg [
 iP 12 (.mov (.c (i64 0)))])
 (.seq
 (.seq
 (.reg [
 iF 70 0 7,
 iL 71 70,
 iP 72 (.bin .eql (.i .i64) (.t 71) (.c (i64 1)))])
 (.cond (.t 72)
 (.reg [
 iF 73 4 7,
 iL 74 73,
 iM 75 11,
 iP 76 (.ia 1 (.t 74) (.t 75)),
 iL 77 76,
 iM 12 77])
 (.reg [
 iM 78 1,
 iF 79 2 7,
 iL 80 79,
 iP 81 (.ia 1 (.t 78) (.t 80)),
 iL 82 81,
 iM 83 11,
 iP 84 (.ia 1 (.t 82) (.t 83)),
 iL 85 84,
 iM 12 85])))
 (.reg [
 iM 86 9,
 iM 87 5,
 iF 88 3 7,
 iL 89 88,
 iM 90 11,
 iP 91 (.ia 1 (.t 89) (.t 90)),
 iL 92 91,
 iP 93 (.ia 1 (.t 87) (.t 92)),
 iL 94 93,
 iM 95 8,
 iP 96 (.ia 1 (.t 94) (.t 95)),
 iL 97 96,
 iM 98 12,
 iP 99 (.bin .mul (.i .i64) (.t 97) (.t 98)),
 iP 100 (.bin .add (.i .i64) (.t 86) (.t 99)),
 iM 9 100]))))
 (.reg [
 iM 68 11,
 iP 69 (.bin .add (.i .i64) (.t 68) (.c (i64 1))),
 iM 11 69])))
def l57_1:IC:=.keep [1,2,5,6,7,8]
 (.seq
 (.seq
 (.reg [
 iM 36 8,
 iF 37 0 2,
 iL 38 37,
 iP 39 (.bin .lss (.i .i64) (.t 36) (.t 38))])
 (.cond (.t 39)
 .skip
 (.exit 2)))
 (.seq
 (.blk 3
 (.seq
 (.seq
 (.reg [
 iF 42 0 7,
 iL 43 42,
 iP 44 (.bin .eql (.i .i64) (.t 43) (.c (i64 3)))])
 (.cond (.t 44)
 (.seq
 (.drw [0,1,2,3,4,5,6,7,8,9,10,11,12] [
 iM 45 5,
 iM 46 6,
 iP 47 (.ia 1 (.t 45) (.t 46)),
 iL 48 47,
 iM 49 8,
 iF 50 5 7,
 iL 51 50,
 iM 52 8,
 iP 53 (.ia 1 (.t 51) (.t 52)),
 iL 54 53,
 iP 55 (.bin .mul (.i .i64) (.t 54) (.c (i64 1024))),
 iP 56 (.ia 1 (.t 48) (.t 49)),
 ⟨none,none,.e (.st 1 (.t 56) (.t 55))⟩])
 (.exit 3))
 .skip))
 (.seq
 (.reg [
 iP 9 (.mov (.c (i64 0))),
 iP 10 (.mov (.c (i64 65536)))])
 (.seq
 (.seq
 (.reg [
 iF 57 0 7,
 iL 58 57,
 iP 59 (.bin .eql (.i .i64) (.t 58) (.c (i64 1)))])
 (.cond (.t 59)
 (.reg [
 iF 60 4 7,
 iL 61 60,
 iC 62 75 [.t 61],
 iM 10 62])
 .skip))
 (.seq
 (.seq
 (.reg [
 iP 11 (.mov (.c (i64 0)))])
 (.blk 4
 (.loop l57_2)))
 (.drw [0,1,2,3,4,5,6,7,8,9] [
 iM 101 5,
 iM 102 6,
 iP 103 (.ia 1 (.t 101) (.t 102)),
 iL 104 103,
 iM 105 8,
 iM 106 9,
 iM 107 10,
 iP 108 (.bin .quo (.i .i64) (.t 106) (.t 107)),
 iP 109 (.ia 1 (.t 104) (.t 105)),
 ⟨none,none,.e (.st 1 (.t 109) (.t 108))⟩]))))))
 (.reg [
 iM 40 8,
 iP 41 (.bin .add (.i .i64) (.t 40) (.c (i64 1))),
 iM 8 41])))
def l57_0:IC:=.keep [1,2,5,6]
 (.seq
 (.seq
 (.reg [
 iM 21 6,
 iP 22 (.bin .geq (.i .i64) (.t 21) (.c (i64 0)))])
 (.cond (.t 22)
 .skip
 (.exit 0)))
 (.seq
 (.blk 1
 (.seq
 (.reg [
 iF 25 1 2,
 iL 26 25,
 iM 27 6,
 iP 28 (.ia 6 (.t 26) (.t 27)),
 iP 29 (.ldn 6 (.t 28)),
 iE 7 (.alc 59 [i64 0,i64 0,i64 0,.val (.slice none 0 0),.val (.slice none 0 0),.val (.slice none 0 0)]),
 ⟨none,none,.e (.st 6 (.t 7) (.t 29))⟩])
 (.seq
 (.reg [
 iM 30 5,
 iM 31 6,
 iF 32 0 2,
 iL 33 32,
 iE 34 (.mks 3 1 8 [i64 0] (.t 33) (.t 33)),
 iP 35 (.ia 1 (.t 30) (.t 31)),
 ⟨none,none,.e (.st 1 (.t 35) (.t 34))⟩])
 (.seq
 (.reg [
 iP 8 (.mov (.c (i64 0)))])
 (.blk 2
 (.loop l57_1))))))
 (.reg [
 iM 23 6,
 iP 24 (.bin .sub (.i .i64) (.t 23) (.c (i64 1))),
 iM 6 24])))
def i57:IC :=
 (.seq
 (.reg [
 iE 2 (.box 25 (.t 0)),
 iP 4 (.mov (.c (.val (.slice none 0 0))))])
 (.seq
 (.reg [
 iF 13 1 2,
 iL 14 13,
 iP 15 (.len (.t 14)),
 iE 16 (.mks 36 1 24 [.val (.slice none 0 0)] (.t 15) (.t 15)),
 iM 5 16])
 (.seq
 (.seq
 (.reg [
 iF 17 1 2,
 iL 18 17,
 iP 19 (.len (.t 18)),
 iP 20 (.bin .sub (.i .i64) (.t 19) (.c (i64 1))),
 iM 6 20])
 (.blk 0
 (.loop l57_0)))
 (.seq
 (.reg [
 iM 110 5,
 iM 4 110])
 .ret))))
def r57:List RS:=[.t 4]
theorem c57:chkF Try.prog drawB Try.f57 i57 r57=true:=by kernel_rfl
def l58_1:IC:=.keep [1,2,3,4,9,10,11,12,13]
 (.seq
 (.seq
 (.reg [
 iM 41 13,
 iF 42 3 11,
 iL 43 42,
 iP 44 (.len (.t 43)),
 iP 45 (.bin .lss (.i .i64) (.t 41) (.t 44))])
 (.cond (.t 45)
 .skip
 (.exit 2)))
 (.seq
 (.blk 3
 (.blk 4
 (.seq
 (.reg [
 iM 70 12,
 iM 71 3,
 iP 72 (.bin .neq .b (.t 70) (.t 71)),
 iM 69 72])
 (.cond (.t 69)
 (.drw [0,1,2,3,4,5,6,7,8,9,10,11] [
 iM 73 9,
 iF 74 3 11,
 iL 75 74,
 iM 76 13,
 iP 77 (.ia 1 (.t 75) (.t 76)),
 iL 78 77,
 iM 79 9,
 iM 80 10,
 iP 81 (.ia 1 (.t 79) (.t 80)),
 iL 82 81,
 iP 83 (.ia 1 (.t 73) (.t 78)),
 ⟨none,none,.e (.st 1 (.t 83) (.t 82))⟩])
 (.seq
 (.reg [
 iF 85 0 11,
 iL 86 85,
 iP 87 (.bin .eql (.i .i64) (.t 86) (.c (i64 1))),
 iM 84 87])
 (.cond (.t 84)
 (.drw [0,1,2,3,4,5,6,7,8,9,10,11,12,13,14,15,16,17,18,19,20,21] [
 iM 88 9,
 iF 89 3 11,
 iL 90 89,
 iM 91 13,
 iP 92 (.ia 1 (.t 90) (.t 91)),
 iL 93 92,
 iM 94 9,
 iM 95 10,
 iP 96 (.ia 1 (.t 94) (.t 95)),
 iL 97 96,
 iF 98 4 11,
 iL 99 98,
 iM 100 13,
 iP 101 (.ia 1 (.t 99) (.t 100)),
 iL 102 101,
 iP 103 (.bin .mul (.i .i64) (.t 97) (.t 102)),
 iF 104 4 11,
 iL 105 104,
 ⟨(some 106),none,.q (.c (.fn (.func 75) [] [])) [(.t 105)]⟩,
 iP 107 (.bin .quo (.i .i64) (.t 103) (.t 106)),
 iP 108 (.ia 1 (.t 88) (.t 93)),
 ⟨none,none,.e (.st 1 (.t 108) (.t 107))⟩])
 (.drw [0,1,2,3,4,5,6,7,8,9,10,11,12,13,14,15,16,17,18,19,20,21] [
 iM 48 9,
 iF 49 3 11,
 iL 50 49,
 iM 51 13,
 iP 52 (.ia 1 (.t 50) (.t 51)),
 iL 53 52,
 iM 54 9,
 iM 55 10,
 iP 56 (.ia 1 (.t 54) (.t 55)),
 iL 57 56,
 iM 58 1,
 iF 59 2 11,
 iL 60 59,
 iP 61 (.ia 1 (.t 58) (.t 60)),
 iL 62 61,
 iM 63 13,
 iP 64 (.ia 1 (.t 62) (.t 63)),
 iL 65 64,
 iP 66 (.bin .mul (.i .i64) (.t 57) (.t 65)),
 iP 67 (.bin .quo (.i .i64) (.t 66) (.c (i64 65536))),
 iP 68 (.ia 1 (.t 48) (.t 53)),
 ⟨none,none,.e (.st 1 (.t 68) (.t 67))⟩])))))))
 (.reg [
 iM 46 13,
 iP 47 (.bin .add (.i .i64) (.t 46) (.c (i64 1))),
 iM 13 47])))
def l58_0:IC:=.keep [1,2,3,4,9,10]
 (.seq
 (.seq
 (.reg [
 iM 20 10,
 iF 21 1 4,
 iL 22 21,
 iP 23 (.len (.t 22)),
 iP 24 (.bin .lss (.i .i64) (.t 20) (.t 23))])
 (.cond (.t 24)
 .skip
 (.exit 0)))
 (.seq
 (.blk 1
 (.seq
 (.reg [
 iF 27 1 4,
 iL 28 27,
 iM 29 10,
 iP 30 (.ia 6 (.t 28) (.t 29)),
 iP 31 (.ldn 6 (.t 30)),
 iE 11 (.alc 59 [i64 0,i64 0,i64 0,.val (.slice none 0 0),.val (.slice none 0 0),.val (.slice none 0 0)]),
 ⟨none,none,.e (.st 6 (.t 11) (.t 31))⟩])
 (.seq
 (.reg [
 iF 32 0 11,
 iL 33 32,
 iP 34 (.bin .eql (.i .i64) (.t 33) (.c (i64 2))),
 iM 35 34,
 iG 36 35 true (.fa 1 (.t 11)),
 iG 37 35 true (.ld1 (.t 36)),
 iG 38 35 true (.mov (.t 2)),
 iG 39 35 true (.bin .eql (.i .i64) (.t 37) (.t 38)),
 iP 40 (.pick (.t 35) (.t 39) (.c (bl false))),
 iM 12 40])
 (.seq
 (.reg [
 iP 13 (.mov (.c (i64 0)))])
 (.blk 2
 (.loop l58_1))))))
 (.reg [
 iM 25 10,
 iP 26 (.bin .add (.i .i64) (.t 25) (.c (i64 1))),
 iM 10 26])))
def i58:IC :=
 (.seq
 (.reg [
 iE 4 (.box 25 (.t 0)),
 iP 8 (.mov (.c (.val (.slice none 0 0))))])
 (.seq
 (.reg [
 iF 14 1 4,
 iL 15 14,
 iP 16 (.len (.t 15)),
 iE 17 (.mks 3 1 8 [i64 0] (.t 16) (.t 16)),
 iM 9 17])
 (.seq
 (.reg [
 iM 18 9,
 iP 19 (.ia 1 (.t 18) (.c (i64 0))),
 ⟨none,none,.e (.st 1 (.t 19) (.c (i64 1073741824)))⟩])
 (.seq
 (.seq
 (.reg [
 iP 10 (.mov (.c (i64 0)))])
 (.blk 0
 (.loop l58_0)))
 (.seq
 (.reg [
 iM 109 9,
 iM 8 109])
 .ret)))))
def r58:List RS:=[.t 8]
theorem c58:chkF Try.prog drawB Try.f58 i58 r58=true:=by kernel_rfl
def i62:IC :=
 (.seq
 (.reg [
 iE 1 (.box 25 (.t 0)),
 iP 2 (.mov (.c (i64 0)))])
 (.seq
 (.reg [
 iP 6 (.ldn 3 (.t 1)),
 iC 7 76 [.t 6],
 iM 5 7,
 iP 8 (.ext (.t 5) 0),
 iP 9 (.ext (.t 5) 1),
 iM 3 8,
 iM 4 9])
 (.seq
 (.reg [
 iM 10 4,
 iM 2 10])
 .ret)))
def r62:List RS:=[.t 2]
theorem c62:chkF Try.prog drawB Try.f62 i62 r62=true:=by kernel_rfl
def l63_0:IC:=.keep [1,6,9,10,34,35,36]
 (.seq
 (.reg [
 iP 37 (.bin .lss (.i .i64) (.t 36) (.t 35))])
 (.seq
 (.cond (.t 37)
 .skip
 (.exit 0))
 (.seq
 (.blk 1
 (.seq
 (.reg [
 iM 38 36,
 iP 39 (.ia 1 (.t 34) (.t 36)),
 iL 40 39,
 iM 11 38,
 iM 12 40])
 (.seq
 (.reg [
 iM 41 6,
 iP 42 (.nck (.t 41)),
 iF 43 0 42,
 iF 44 2 43,
 iL 45 44,
 iM 46 11,
 iP 47 (.ia 2 (.t 45) (.t 46)),
 iF 48 0 47,
 iL 49 48,
 iM 50 1,
 iP 51 (.bin .eql (.i .i64) (.t 49) (.t 50)),
 iM 52 51,
 iG 53 52 true (.ldn 2 (.t 10)),
 iG 54 52 true (.mov (.t 11)),
 iG 55 52 true (.mov (.t 12)),
 ⟨(some 56),(some (52,true)),.e (.call (.c (.fn (.func 80) [] [])) [(.t 53),(.t 54),(.t 55)])⟩,
 iG 57 52 true (.not (.t 56)),
 iP 58 (.pick (.t 52) (.t 57) (.c (bl false)))])
 (.cond (.t 58)
 (.exit 0)
 .skip))))
 (.reg [
 iP 59 (.bin .add (.i .i64) (.t 36) (.c (i64 1))),
 iM 36 59]))))
def i63:IC :=
 (.seq
 (.reg [
 iE 2 (.box 25 (.t 0)),
 iP 4 (.mov (.c (bl false))),
 iP 5 (.mov (.c (i64 0)))])
 (.seq
 (.reg [
 iP 14 (.ldn 3 (.t 2)),
 iC 15 76 [.t 14],
 iM 13 15,
 iP 16 (.ext (.t 13) 0),
 iP 17 (.ext (.t 13) 1),
 iM 6 16,
 iM 7 17])
 (.seq
 (.seq
 (.reg [
 iM 18 7,
 iP 19 (.bin .neq (.i .i64) (.t 18) (.c (i64 0)))])
 (.cond (.t 19)
 (.seq
 (.reg [
 iM 20 7,
 iP 4 (.mov (.c (bl false))),
 iM 5 20])
 .ret)
 .skip))
 (.seq
 (.seq
 (.reg [
 iF 21 0 2,
 iL 22 21,
 iP 23 (.bin .sub (.i .i64) (.t 22) (.c (i64 1))),
 iM 24 1,
 iE 25 (.bsl 3 1 1 [i64 0] [(0,(.t 24))]),
 iC 26 77 [(.c (i64 0)),.t 23,.t 25],
 iM 8 26])
 (.seq
 (.reg [
 iM 27 8,
 iP 28 (.bin .neq (.i .i64) (.t 27) (.c (i64 0)))])
 (.cond (.t 28)
 (.seq
 (.reg [
 iM 29 8,
 iP 4 (.mov (.c (bl false))),
 iM 5 29])
 .ret)
 .skip)))
 (.seq
 (.reg [
 iE 9 (.alc 4 [bl false]),
 ⟨none,none,.e (.st 1 (.t 9) (.c (bl true)))⟩])
 (.seq
 (.reg [
 iM 30 6,
 iP 31 (.mkf (.func 78) [] [(.t 9)]),
 iP 32 (.bld [.val (.pointer none),.val .nilFunc] [(0,1,(.t 30)),(1,1,(.t 31))]),
 iE 10 (.alc 131 [.val (.pointer none),.val .nilFunc]),
 ⟨none,none,.e (.st 2 (.t 10) (.t 32))⟩])
 (.seq
 (.seq
 (.reg [
 iM 33 6,
 iC 34 79 [.t 33],
 iP 35 (.len (.t 34)),
 iP 36 (.mov (.c (i64 0)))])
 (.blk 0
 (.loop l63_0)))
 (.seq
 (.reg [
 iL 60 9,
 iM 4 60,
 iP 5 (.mov (.c (i64 0)))])
 .ret))))))))
def r63:List RS:=[.t 4,.t 5]
theorem c63:chkF Try.prog drawB Try.f63 i63 r63=true:=by kernel_rfl
def i64x:IC :=
 (.seq
 (.reg [
 iP 4 (.mov (.c (i64 0)))])
 (.seq
 (.drw [0,1,2,3,4,5,6,7,8] [
 iL 5 1,
 iM 6 0,
 iP 7 (.ia 1 (.t 5) (.t 6)),
 iL 8 7,
 iP 9 (.mm true .i64 (.t 8) (.c (i64 0))),
 iP 10 (.bin .mul (.i .i64) (.c (i64 65536)) (.t 9)),
 iL 11 2,
 iP 12 (.bin .rem (.i .i64) (.t 10) (.t 11)),
 iM 4 12])
 .ret))
def r64:List RS:=[.t 4]
theorem c64:chkF Try.prog drawB Try.f64 i64x r64=true:=by kernel_rfl
def i65:IC :=
 (.reg [
 iM 4 0,
 iM 5 0,
 iP 6 (.len (.t 5)),
 iM 7 1,
 iC 8 81 [.t 4,.t 6,.t 7]])
def r65:List RS:=[]
theorem c65:chkF Try.prog drawB Try.f65 i65 r65=true:=by kernel_rfl
def i66:IC :=
 (.seq
 (.reg [
 iP 5 (.mov (.c (i64 0)))])
 (.seq
 (.drw [0,1,3,4,2,5,6,7] [
 iL 6 2,
 iM 7 1,
 iL 9 2,
 iM 10 0,
 iE 8 (.call (.t 6) [(.t 7)]),
 iE 11 (.call (.t 9) [(.t 10)]),
 iP 12 (.bin .sub (.i .i64) (.t 8) (.t 11)),
 iM 5 12])
 .ret))
def r66:List RS:=[.t 5]
theorem c66:chkF Try.prog drawB Try.f66 i66 r66=true:=by kernel_rfl
def i70:IC :=
 (.seq
 (.reg [
 iP 6 (.mov (.c (i64 0))),
 iP 7 (.mov (.c (i64 0)))])
 (.seq
 (.reg [
 iM 9 0,
 iP 10 (.nck (.t 9)),
 iF 11 0 10,
 iF 12 1 11,
 iL 13 12,
 iM 14 1,
 iP 15 (.ia 6 (.t 13) (.t 14)),
 iM 8 15])
 (.seq
 (.seq
 (.reg [
 iM 16 8,
 iP 17 (.nck (.t 16)),
 iF 18 0 17,
 iL 19 18,
 iP 20 (.bin .eql (.i .i64) (.t 19) (.c (i64 1)))])
 (.cond (.t 20)
 (.seq
 (.drw [0,1,2,3,4,5,6,7,8,9,10,11,12,13,14,15] [
 iM 21 8,
 iP 22 (.nck (.t 21)),
 iF 23 4 22,
 iL 24 23,
 iM 25 2,
 iP 26 (.ia 1 (.t 24) (.t 25)),
 iL 27 26,
 iM 28 0,
 iP 29 (.nck (.t 28)),
 iF 30 3 29,
 iL 31 30,
 iM 32 1,
 iP 33 (.ia 1 (.t 31) (.t 32)),
 iL 34 33,
 iM 6 27,
 iM 7 34])
 .ret)
 .skip))
 (.seq
 (.drw [0,1,2,3,4,5,6,7,8,9,10,11,12,13,14] [
 iM 35 0,
 iP 36 (.nck (.t 35)),
 iF 37 9 36,
 iL 38 37,
 iM 39 8,
 iP 40 (.nck (.t 39)),
 iF 41 2 40,
 iL 42 41,
 iP 43 (.ia 1 (.t 38) (.t 42)),
 iL 44 43,
 iM 45 2,
 iP 46 (.ia 1 (.t 44) (.t 45)),
 iL 47 46,
 iM 6 47,
 iP 7 (.mov (.c (i64 65536)))])
 .ret))))
def r70:List RS:=[.t 6,.t 7]
theorem c70:chkF Try.prog drawB Try.f70 i70 r70=true:=by kernel_rfl
def l71_0:IC:=.keep [1,3]
 (.seq
 (.seq
 (.reg [
 iM 37 3,
 iF 38 1 1,
 iL 39 38,
 iP 40 (.len (.t 39)),
 iP 41 (.bin .lss (.i .i64) (.t 37) (.t 40))])
 (.cond (.t 41)
 .skip
 (.exit 0)))
 (.seq
 (.blk 1
 (.seq
 (.drw [0,1,2,3,4,5,6,7] [
 iP 44 (.ldn 3 (.t 1)),
 iF 45 1 1,
 iL 46 45,
 iM 47 3,
 iP 48 (.ia 6 (.t 46) (.t 47)),
 iP 49 (.ldn 6 (.t 48)),
 ⟨(some 50),none,.q (.c (.fn (.func 83) [] [])) [(.t 44),(.t 49)]⟩,
 iM 4 50])
 (.seq
 (.reg [
 iM 51 4,
 iP 52 (.bin .neq (.i .i64) (.t 51) (.c (i64 0)))])
 (.cond (.t 52)
 (.seq
 (.reg [
 iM 53 4,
 iM 2 53])
 .ret)
 .skip))))
 (.reg [
 iM 42 3,
 iP 43 (.bin .add (.i .i64) (.t 42) (.c (i64 1))),
 iM 3 43])))
def l71_1:IC:=.keep [1,6]
 (.seq
 (.seq
 (.reg [
 iM 62 6,
 iF 63 1 1,
 iL 64 63,
 iP 65 (.len (.t 64)),
 iP 66 (.bin .lss (.i .i64) (.t 62) (.t 65))])
 (.cond (.t 66)
 .skip
 (.exit 2)))
 (.seq
 (.blk 3
 (.seq
 (.reg [
 iF 69 1 1,
 iL 70 69,
 iM 71 6,
 iP 72 (.ia 6 (.t 70) (.t 71)),
 iP 73 (.ldn 6 (.t 72)),
 iE 7 (.alc 59 [i64 0,i64 0,i64 0,.val (.slice none 0 0),.val (.slice none 0 0),.val (.slice none 0 0)]),
 ⟨none,none,.e (.st 6 (.t 7) (.t 73))⟩])
 (.seq
 (.drw [0,1,2,3,4,5,6,7,8,9,10,11,12,13,14,15,16,17,18,19,20,21,22,23,24,25,26,27] [
 iF 74 0 7,
 iL 75 74,
 iP 76 (.bin .eql (.i .i64) (.t 75) (.c (i64 2))),
 iM 77 76,
 iG 78 77 true (.fa 2 (.t 1)),
 iG 79 77 true (.ld1 (.t 78)),
 iG 80 77 true (.fa 2 (.t 7)),
 iG 81 77 true (.ld1 (.t 80)),
 iG 82 77 true (.ia 2 (.t 79) (.t 81)),
 iG 83 77 true (.fa 0 (.t 82)),
 iG 84 77 true (.ld1 (.t 83)),
 iG 85 77 true (.fa 1 (.t 7)),
 iG 86 77 true (.ld1 (.t 85)),
 iG 87 77 true (.bin .neq (.i .i64) (.t 84) (.t 86)),
 iG 88 77 true (.mov (.t 87)),
 iG 89 88 false (.fa 2 (.t 1)),
 iG 90 88 false (.ld1 (.t 89)),
 iG 91 88 false (.fa 2 (.t 7)),
 iG 92 88 false (.ld1 (.t 91)),
 iG 93 88 false (.ia 2 (.t 90) (.t 92)),
 iG 94 88 false (.fa 1 (.t 93)),
 iG 95 88 false (.ld1 (.t 94)),
 iG 96 88 false (.fa 3 (.t 7)),
 iG 97 88 false (.ld1 (.t 96)),
 iG 98 88 false (.len (.t 97)),
 iG 99 88 false (.bin .neq (.i .i64) (.t 95) (.t 98)),
 iG 100 77 true (.pick (.t 88) (.c (bl true)) (.t 99)),
 iP 101 (.pick (.t 77) (.t 100) (.c (bl false)))])
 (.cond (.t 101)
 (.seq
 (.reg [
 iP 2 (.mov (.c (i64 10)))])
 .ret)
 .skip))))
 (.reg [
 iM 67 6,
 iP 68 (.bin .add (.i .i64) (.t 67) (.c (i64 1))),
 iM 6 68])))
def l71_2:IC:=.keep [8,9]
 (.seq
 (.seq
 (.reg [
 iM 104 9,
 iM 105 8,
 iP 106 (.len (.t 105)),
 iP 107 (.bin .lss (.i .i64) (.t 104) (.t 106))])
 (.cond (.t 107)
 .skip
 (.exit 4)))
 (.seq
 (.blk 5
 (.seq
 (.reg [
 iM 110 8,
 iM 111 9,
 iP 112 (.ia 1 (.t 110) (.t 111)),
 iL 113 112,
 iP 114 (.len (.t 113)),
 iP 115 (.bin .eql (.i .i64) (.t 114) (.c (i64 0)))])
 (.cond (.t 115)
 (.seq
 (.reg [
 iP 2 (.mov (.c (i64 18)))])
 .ret)
 .skip)))
 (.reg [
 iM 108 9,
 iP 109 (.bin .add (.i .i64) (.t 108) (.c (i64 1))),
 iM 9 109])))
def l71_3:IC:=.keep [8,10]
 (.seq
 (.seq
 (.reg [
 iM 116 10,
 iM 117 8,
 iP 118 (.len (.t 117)),
 iP 119 (.bin .lss (.i .i64) (.t 116) (.t 118))])
 (.cond (.t 119)
 .skip
 (.exit 6)))
 (.seq
 (.blk 7
 (.seq
 (.drw [0,1,2,3,4,5,6,7,8,9,10,11,12,13] [
 iM 122 8,
 iM 123 10,
 iP 124 (.ia 1 (.t 122) (.t 123)),
 iL 125 124,
 iP 126 (.ia 1 (.t 125) (.c (i64 0))),
 iL 127 126,
 iM 128 8,
 iM 129 10,
 iP 130 (.bin .sub (.i .i64) (.t 129) (.c (i64 1))),
 iP 131 (.ia 1 (.t 128) (.t 130)),
 iL 132 131,
 iP 133 (.ia 1 (.t 132) (.c (i64 0))),
 iL 134 133,
 iP 135 (.bin .lss (.i .i64) (.t 127) (.t 134))])
 (.cond (.t 135)
 (.seq
 (.reg [
 iP 2 (.mov (.c (i64 9)))])
 .ret)
 .skip)))
 (.reg [
 iM 120 10,
 iP 121 (.bin .add (.i .i64) (.t 120) (.c (i64 1))),
 iM 10 121])))
def i71:IC :=
 (.seq
 (.reg [
 iE 1 (.box 25 (.t 0)),
 iP 2 (.mov (.c (i64 0)))])
 (.seq
 (.seq
 (.reg [
 iF 11 0 1,
 iL 12 11,
 iP 13 (.bin .lss (.i .i64) (.t 12) (.c (i64 1))),
 iM 14 13,
 iG 15 14 false (.fa 0 (.t 1)),
 iG 16 14 false (.ld1 (.t 15)),
 iG 17 14 false (.bin .gtr (.i .i64) (.t 16) (.c (i64 4))),
 iP 18 (.pick (.t 14) (.c (bl true)) (.t 17)),
 iM 19 18,
 iG 20 19 false (.fa 1 (.t 1)),
 iG 21 19 false (.ld1 (.t 20)),
 iG 22 19 false (.len (.t 21)),
 iG 23 19 false (.bin .lss (.i .i64) (.t 22) (.c (i64 1))),
 iP 24 (.pick (.t 19) (.c (bl true)) (.t 23)),
 iM 25 24,
 iG 26 25 false (.fa 1 (.t 1)),
 iG 27 25 false (.ld1 (.t 26)),
 iG 28 25 false (.len (.t 27)),
 iG 29 25 false (.bin .gtr (.i .i64) (.t 28) (.c (i64 2000))),
 iP 30 (.pick (.t 25) (.c (bl true)) (.t 29)),
 iM 31 30,
 iG 32 31 false (.fa 2 (.t 1)),
 iG 33 31 false (.ld1 (.t 32)),
 iG 34 31 false (.len (.t 33)),
 iG 35 31 false (.bin .gtr (.i .i64) (.t 34) (.c (i64 200))),
 iP 36 (.pick (.t 31) (.c (bl true)) (.t 35))])
 (.cond (.t 36)
 (.seq
 (.reg [
 iP 2 (.mov (.c (i64 2)))])
 .ret)
 .skip))
 (.seq
 (.seq
 (.reg [
 iP 3 (.mov (.c (i64 0)))])
 (.blk 0
 (.loop l71_0)))
 (.seq
 (.reg [
 iE 5 (.alc 3 [i64 0]),
 ⟨none,none,.e (.st 1 (.t 5) (.c (i64 0)))⟩])
 (.seq
 (.seq
 (.drw [0,2,3,4,1,5] [
 iP 54 (.ldn 3 (.t 1)),
 iF 56 1 1,
 iL 57 56,
 iP 58 (.len (.t 57)),
 iC 55 84 [.t 54,(.c (i64 0)),(.c (i64 0)),.t 5],
 iP 59 (.bin .neq (.i .i64) (.t 55) (.t 58))])
 (.cond (.t 59)
 (.seq
 (.reg [
 iP 2 (.mov (.c (i64 9)))])
 .ret)
 .skip))
 (.seq
 (.seq
 (.reg [
 iL 60 5,
 iP 61 (.bin .gtr (.i .i64) (.t 60) (.c (i64 40)))])
 (.cond (.t 61)
 (.seq
 (.reg [
 iP 2 (.mov (.c (i64 5)))])
 .ret)
 .skip))
 (.seq
 (.seq
 (.reg [
 iP 6 (.mov (.c (i64 0)))])
 (.blk 2
 (.loop l71_1)))
 (.seq
 (.reg [
 iP 102 (.ldn 3 (.t 1)),
 iC 103 85 [.t 102],
 iM 8 103])
 (.seq
 (.seq
 (.reg [
 iP 9 (.mov (.c (i64 0)))])
 (.blk 4
 (.loop l71_2)))
 (.seq
 (.seq
 (.reg [
 iP 10 (.mov (.c (i64 1)))])
 (.blk 6
 (.loop l71_3)))
 (.seq
 (.reg [
 iP 2 (.mov (.c (i64 0)))])
 .ret)))))))))))
def r71:List RS:=[.t 2]
theorem c71:chkF Try.prog drawB Try.f71 i71 r71=true:=by kernel_rfl
def l72_0:IC:=.keep [1,4]
 (.seq
 (.seq
 (.reg [
 iM 10 4,
 iF 11 0 1,
 iL 12 11,
 iP 13 (.bin .lss (.i .i64) (.t 10) (.t 12))])
 (.cond (.t 13)
 .skip
 (.exit 0)))
 (.seq
 (.blk 1
 (.seq
 (.reg [
 iP 16 (.ldn 3 (.t 1)),
 iM 17 4,
 iC 18 86 [.t 16,.t 17],
 iP 19 (.not (.t 18))])
 (.cond (.t 19)
 (.seq
 (.reg [
 iP 2 (.mov (.c (.val (.slice none 0 0)))),
 iP 3 (.mov (.c (i64 13)))])
 .ret)
 .skip)))
 (.reg [
 iM 14 4,
 iP 15 (.bin .add (.i .i64) (.t 14) (.c (i64 1))),
 iM 4 15])))
def l72_1:IC:=.keep [1,5,6,7]
 (.seq
 (.seq
 (.reg [
 iM 22 7,
 iF 23 2 1,
 iL 24 23,
 iP 25 (.len (.t 24)),
 iP 26 (.bin .lss (.i .i64) (.t 22) (.t 25))])
 (.cond (.t 26)
 .skip
 (.exit 2)))
 (.seq
 (.blk 3
 (.seq
 (.drw [0,1,2,3,4,5,6,7,8,9,10,11,12,13,14] [
 iP 29 (.ldn 3 (.t 1)),
 iM 30 5,
 iM 31 7,
 iP 32 (.ia 1 (.t 30) (.t 31)),
 iL 33 32,
 iP 34 (.ia 1 (.t 33) (.c (i64 0))),
 iL 35 34,
 iF 36 2 1,
 iL 37 36,
 iM 38 7,
 iP 39 (.ia 2 (.t 37) (.t 38)),
 iF 40 0 39,
 iL 41 40,
 ⟨(some 42),none,.q (.c (.fn (.func 87) [] [])) [(.t 29),(.t 35),(.t 41)]⟩,
 iM 8 42])
 (.seq
 (.reg [
 iP 43 (.bld [i64 0,i64 0] [(0,1,(.c (i64 (-1)))),(1,1,(.c (i64 (-1))))]),
 iE 9 (.alc 145 [i64 0,i64 0]),
 ⟨none,none,.e (.st 2 (.t 9) (.t 43))⟩])
 (.seq
 (.seq
 (.reg [
 iM 44 8,
 iP 45 (.len (.t 44)),
 iP 46 (.bin .gtr (.i .i64) (.t 45) (.c (i64 0)))])
 (.cond (.t 46)
 (.drw [0,1,2,3,4,5,6,7,8,9,10,11,12,13,14,15] [
 iM 47 8,
 iM 48 8,
 iP 49 (.len (.t 48)),
 iP 50 (.bin .sub (.i .i64) (.t 49) (.c (i64 1))),
 iP 51 (.ia 2 (.t 47) (.t 50)),
 iP 52 (.iap 2 1 (.t 51) (.c (i64 0))),
 iL 53 52,
 iM 54 8,
 iM 55 8,
 iP 56 (.len (.t 55)),
 iP 57 (.bin .sub (.i .i64) (.t 56) (.c (i64 1))),
 iP 58 (.ia 2 (.t 54) (.t 57)),
 iP 59 (.iap 2 1 (.t 58) (.c (i64 1))),
 iL 60 59,
 iP 61 (.bld [i64 0,i64 0] [(0,1,(.t 53)),(1,1,(.t 60))]),
 ⟨none,none,.e (.st 2 (.t 9) (.t 61))⟩])
 .skip))
 (.reg [
 iM 62 6,
 iP 63 (.ldn 2 (.t 9)),
 iE 64 (.bsl 145 2 1 [i64 0,i64 0] [(0,(.t 63))]),
 iE 65 (.app 145 2 16 (.t 62) (.t 64)),
 iM 6 65])))))
 (.reg [
 iM 27 7,
 iP 28 (.bin .add (.i .i64) (.t 27) (.c (i64 1))),
 iM 7 28])))
def i72:IC :=
 (.seq
 (.reg [
 iE 1 (.box 25 (.t 0)),
 iP 2 (.mov (.c (.val (.slice none 0 0)))),
 iP 3 (.mov (.c (i64 0)))])
 (.seq
 (.seq
 (.reg [
 iP 4 (.mov (.c (i64 0)))])
 (.blk 0
 (.loop l72_0)))
 (.seq
 (.reg [
 iP 20 (.ldn 3 (.t 1)),
 iC 21 85 [.t 20],
 iM 5 21])
 (.seq
 (.reg [
 iE 6 (.nil 145 2 (.c (.val (.slice none 0 0))))])
 (.seq
 (.seq
 (.reg [
 iP 7 (.mov (.c (i64 0)))])
 (.blk 2
 (.loop l72_1)))
 (.seq
 (.reg [
 iM 66 6,
 iM 2 66,
 iP 3 (.mov (.c (i64 0)))])
 .ret))))))
def r72:List RS:=[.t 2,.t 3]
theorem c72:chkF Try.prog drawB Try.f72 i72 r72=true:=by kernel_rfl
def l73_1:IC:=.keep [1,2,3,7,8]
 (.seq
 (.seq
 (.reg [
 iM 33 8,
 iM 34 1,
 iM 35 7,
 iP 36 (.ia 1 (.t 34) (.t 35)),
 iL 37 36,
 iP 38 (.len (.t 37)),
 iP 39 (.bin .lss (.i .i64) (.t 33) (.t 38))])
 (.cond (.t 39)
 .skip
 (.exit 2)))
 (.seq
 (.blk 3
 (.seq
 (.reg [
 iM 42 1,
 iM 43 7,
 iP 44 (.ia 1 (.t 42) (.t 43)),
 iL 45 44,
 iM 46 8,
 iP 47 (.ia 1 (.t 45) (.t 46)),
 iL 48 47,
 iM 49 2,
 iP 50 (.bin .lss (.i .i64) (.t 48) (.t 49)),
 iM 51 50,
 iG 52 51 false (.mov (.t 1)),
 iG 53 51 false (.mov (.t 7)),
 iG 54 51 false (.ia 1 (.t 52) (.t 53)),
 iG 55 51 false (.ld1 (.t 54)),
 iG 56 51 false (.mov (.t 8)),
 iG 57 51 false (.ia 1 (.t 55) (.t 56)),
 iG 58 51 false (.ld1 (.t 57)),
 iG 59 51 false (.bin .gtr (.i .i64) (.t 58) (.c (i64 70368744177664))),
 iP 60 (.pick (.t 51) (.c (bl true)) (.t 59))])
 (.cond (.t 60)
 (.seq
 (.reg [
 iP 6 (.mov (.c (i64 2)))])
 .ret)
 .skip)))
 (.reg [
 iM 40 8,
 iP 41 (.bin .add (.i .i64) (.t 40) (.c (i64 1))),
 iM 8 41])))
def l73_0:IC:=.keep [1,2,3,7]
 (.seq
 (.seq
 (.reg [
 iM 15 7,
 iM 16 1,
 iP 17 (.len (.t 16)),
 iP 18 (.bin .lss (.i .i64) (.t 15) (.t 17))])
 (.cond (.t 18)
 .skip
 (.exit 0)))
 (.seq
 (.blk 1
 (.seq
 (.seq
 (.drw [0,1,2,3,4,5,6,7,8,9,10,11] [
 iM 21 1,
 iM 22 7,
 iP 23 (.ia 1 (.t 21) (.t 22)),
 iL 24 23,
 iP 25 (.len (.t 24)),
 iF 26 2 3,
 iL 27 26,
 iM 28 7,
 iP 29 (.ia 2 (.t 27) (.t 28)),
 iF 30 1 29,
 iL 31 30,
 iP 32 (.bin .neq (.i .i64) (.t 25) (.t 31))])
 (.cond (.t 32)
 (.seq
 (.reg [
 iP 6 (.mov (.c (i64 3)))])
 .ret)
 .skip))
 (.seq
 (.reg [
 iP 8 (.mov (.c (i64 0)))])
 (.blk 2
 (.loop l73_1)))))
 (.reg [
 iM 19 7,
 iP 20 (.bin .add (.i .i64) (.t 19) (.c (i64 1))),
 iM 7 20])))
def i73:IC :=
 (.seq
 (.reg [
 iE 3 (.box 25 (.t 0)),
 iP 6 (.mov (.c (i64 0)))])
 (.seq
 (.seq
 (.reg [
 iM 9 1,
 iP 10 (.len (.t 9)),
 iF 11 2 3,
 iL 12 11,
 iP 13 (.len (.t 12)),
 iP 14 (.bin .neq (.i .i64) (.t 10) (.t 13))])
 (.cond (.t 14)
 (.seq
 (.reg [
 iP 6 (.mov (.c (i64 3)))])
 .ret)
 .skip))
 (.seq
 (.seq
 (.reg [
 iP 7 (.mov (.c (i64 0)))])
 (.blk 0
 (.loop l73_0)))
 (.seq
 (.reg [
 iP 6 (.mov (.c (i64 0)))])
 .ret))))
def r73:List RS:=[.t 6]
theorem c73:chkF Try.prog drawB Try.f73 i73 r73=true:=by kernel_rfl
def l74_0:IC:=.keep [0,3,4,5]
 (.seq
 (.seq
 (.reg [
 iM 15 5,
 iM 16 3,
 iP 17 (.bin .lss (.i .i64) (.t 15) (.t 16))])
 (.cond (.t 17)
 .skip
 (.exit 0)))
 (.seq
 (.blk 1
 (.reg [
 iM 20 4,
 iM 21 0,
 iM 22 5,
 iP 23 (.ia 1 (.t 21) (.t 22)),
 iL 24 23,
 iP 25 (.mm true .i64 (.c (i64 0)) (.t 24)),
 iP 26 (.bin .add (.i .i64) (.t 20) (.t 25)),
 iM 4 26]))
 (.reg [
 iM 18 5,
 iP 19 (.bin .add (.i .i64) (.t 18) (.c (i64 1))),
 iM 5 19])))
def l74_1:IC:=.keep [0,3,4,6,7,8,9]
 (.seq
 (.seq
 (.reg [
 iM 31 9,
 iM 32 3,
 iP 33 (.bin .lss (.i .i64) (.t 31) (.t 32))])
 (.cond (.t 33)
 .skip
 (.exit 2)))
 (.seq
 (.blk 3
 (.seq
 (.seq
 (.reg [
 iM 36 4,
 iP 37 (.bin .eql (.i .i64) (.t 36) (.c (i64 0)))])
 (.cond (.t 37)
 (.reg [
 iM 38 6,
 iM 39 9,
 iM 40 7,
 iM 41 9,
 iM 42 3,
 iP 43 (.bin .quo (.i .i64) (.c (i64 65536)) (.t 42)),
 iP 44 (.ia 1 (.t 38) (.t 39)),
 ⟨none,none,.e (.st 1 (.t 44) (.t 43))⟩,
 iP 45 (.ia 1 (.t 40) (.t 41)),
 ⟨none,none,.e (.st 1 (.t 45) (.c (i64 1)))⟩])
 (.seq
 (.reg [
 iM 46 0,
 iM 47 9,
 iP 48 (.ia 1 (.t 46) (.t 47)),
 iL 49 48,
 iP 50 (.mm true .i64 (.c (i64 0)) (.t 49)),
 iP 51 (.bin .mul (.i .i64) (.c (i64 65536)) (.t 50)),
 iM 10 51])
 (.drw [0,1,2,3,4,5,6,7,8,9,10,11,12,13] [
 iM 52 6,
 iM 53 9,
 iM 54 7,
 iM 55 9,
 iM 56 10,
 iM 57 4,
 iP 58 (.bin .quo (.i .i64) (.t 56) (.t 57)),
 iM 59 10,
 iM 60 4,
 iP 61 (.bin .rem (.i .i64) (.t 59) (.t 60)),
 iP 62 (.ia 1 (.t 52) (.t 53)),
 ⟨none,none,.e (.st 1 (.t 62) (.t 58))⟩,
 iP 63 (.ia 1 (.t 54) (.t 55)),
 ⟨none,none,.e (.st 1 (.t 63) (.t 61))⟩]))))
 (.reg [
 iM 64 8,
 iM 65 6,
 iM 66 9,
 iP 67 (.ia 1 (.t 65) (.t 66)),
 iL 68 67,
 iP 69 (.bin .sub (.i .i64) (.t 64) (.t 68)),
 iM 8 69])))
 (.reg [
 iM 34 9,
 iP 35 (.bin .add (.i .i64) (.t 34) (.c (i64 1))),
 iM 9 35])))
def l74_3:IC:=.keep [3,6,7,8,11,12]
 (.seq
 (.seq
 (.reg [
 iM 74 12,
 iM 75 3,
 iP 76 (.bin .lss (.i .i64) (.t 74) (.t 75))])
 (.cond (.t 76)
 .skip
 (.exit 6)))
 (.seq
 (.blk 7
 (.seq
 (.drw [0,1,2,3,4,5,6,7,8] [
 iM 79 7,
 iM 80 12,
 iP 81 (.ia 1 (.t 79) (.t 80)),
 iL 82 81,
 iM 83 7,
 iM 84 11,
 iP 85 (.ia 1 (.t 83) (.t 84)),
 iL 86 85,
 iP 87 (.bin .gtr (.i .i64) (.t 82) (.t 86))])
 (.cond (.t 87)
 (.reg [
 iM 88 12,
 iM 11 88])
 .skip)))
 (.reg [
 iM 77 12,
 iP 78 (.bin .add (.i .i64) (.t 77) (.c (i64 1))),
 iM 12 78])))
def l74_2:IC:=.keep [3,6,7,8]
 (.seq
 (.seq
 (.reg [
 iM 70 8,
 iP 71 (.bin .gtr (.i .i64) (.t 70) (.c (i64 0)))])
 (.cond (.t 71)
 .skip
 (.exit 4)))
 (.seq
 (.blk 5
 (.seq
 (.reg [
 iP 11 (.mov (.c (i64 0)))])
 (.seq
 (.seq
 (.reg [
 iP 12 (.mov (.c (i64 1)))])
 (.blk 6
 (.loop l74_3)))
 (.seq
 (.reg [
 iM 89 6,
 iM 90 11,
 iP 91 (.ia 1 (.t 89) (.t 90)),
 iL 92 91,
 iP 93 (.bin .add (.i .i64) (.t 92) (.c (i64 1))),
 iP 94 (.ia 1 (.t 89) (.t 90)),
 ⟨none,none,.e (.st 1 (.t 94) (.t 93))⟩])
 (.reg [
 iM 95 7,
 iM 96 11,
 iP 97 (.ia 1 (.t 95) (.t 96)),
 ⟨none,none,.e (.st 1 (.t 97) (.c (i64 (-1))))⟩])))))
 (.reg [
 iM 72 8,
 iP 73 (.bin .sub (.i .i64) (.t 72) (.c (i64 1))),
 iM 8 73])))
def i74:IC :=
 (.seq
 (.reg [
 iP 2 (.mov (.c (.val (.slice none 0 0))))])
 (.seq
 (.reg [
 iM 13 0,
 iP 14 (.len (.t 13)),
 iM 3 14,
 iP 4 (.mov (.c (i64 0)))])
 (.seq
 (.seq
 (.reg [
 iP 5 (.mov (.c (i64 0)))])
 (.blk 0
 (.loop l74_0)))
 (.seq
 (.drf [3,3] [0,1,2,3,4,5] [
 iM 27 3,
 iE 28 (.flo 0 3 1 8 [i64 0] (.t 27) (.t 27)),
 iM 29 3,
 iE 30 (.flo 1 3 1 8 [i64 0] (.t 29) (.t 29)),
 iM 6 28,
 iM 7 30])
 (.seq
 (.reg [
 iP 8 (.mov (.c (i64 65536)))])
 (.seq
 (.seq
 (.reg [
 iP 9 (.mov (.c (i64 0)))])
 (.blk 2
 (.loop l74_1)))
 (.seq
 (.blk 4
 (.loop l74_2))
 (.seq
 (.reg [
 iM 98 6,
 iM 2 98])
 .ret))))))))
def r74:List RS:=[.t 2]
theorem c74:chkF Try.prog drawB Try.f74 i74 r74=true:=by kernel_rfl
def l75_0:IC:=.keep [0,3,4]
 (.seq
 (.seq
 (.reg [
 iM 5 4,
 iM 6 0,
 iP 7 (.len (.t 6)),
 iP 8 (.bin .lss (.i .i64) (.t 5) (.t 7))])
 (.cond (.t 8)
 .skip
 (.exit 0)))
 (.seq
 (.blk 1
 (.reg [
 iM 11 3,
 iM 12 0,
 iM 13 4,
 iP 14 (.ia 1 (.t 12) (.t 13)),
 iL 15 14,
 iP 16 (.bin .add (.i .i64) (.t 11) (.t 15)),
 iM 3 16]))
 (.reg [
 iM 9 4,
 iP 10 (.bin .add (.i .i64) (.t 9) (.c (i64 1))),
 iM 4 10])))
def i75:IC :=
 (.seq
 (.reg [
 iP 2 (.mov (.c (i64 0)))])
 (.seq
 (.reg [
 iP 3 (.mov (.c (i64 0)))])
 (.seq
 (.seq
 (.reg [
 iP 4 (.mov (.c (i64 0)))])
 (.blk 0
 (.loop l75_0)))
 (.seq
 (.reg [
 iM 17 3,
 iM 2 17])
 .ret))))
def r75:List RS:=[.t 2]
theorem c75:chkF Try.prog drawB Try.f75 i75 r75=true:=by kernel_rfl
def l76_0:IC:=.keep [1,4,40,41,42]
 (.seq
 (.reg [
 iP 43 (.bin .lss (.i .i64) (.t 42) (.t 41))])
 (.seq
 (.cond (.t 43)
 .skip
 (.exit 0))
 (.seq
 (.blk 1
 (.seq
 (.reg [
 iP 44 (.ia 6 (.t 40) (.t 42)),
 iP 45 (.ldn 6 (.t 44)),
 iE 6 (.alc 59 [i64 0,i64 0,i64 0,.val (.slice none 0 0),.val (.slice none 0 0),.val (.slice none 0 0)]),
 ⟨none,none,.e (.st 6 (.t 6) (.t 45))⟩])
 (.seq
 (.reg [
 iM 46 4,
 iP 47 (.ldn 6 (.t 6)),
 iC 48 88 [.t 46,.t 47],
 iM 7 48])
 (.seq
 (.reg [
 iM 49 7,
 iP 50 (.bin .neq (.i .i64) (.t 49) (.c (i64 0)))])
 (.cond (.t 50)
 (.seq
 (.reg [
 iM 51 7,
 iP 2 (.mov (.c (.val (.pointer none)))),
 iM 3 51])
 .ret)
 .skip)))))
 (.reg [
 iP 52 (.bin .add (.i .i64) (.t 42) (.c (i64 1))),
 iM 42 52]))))
def i76:IC :=
 (.seq
 (.reg [
 iE 1 (.box 25 (.t 0)),
 iP 2 (.mov (.c (.val (.pointer none)))),
 iP 3 (.mov (.c (i64 0)))])
 (.seq
 (.seq
 (.reg [
 iF 10 0 1,
 iL 11 10,
 iP 12 (.bin .lss (.i .i64) (.t 11) (.c (i64 1))),
 iM 13 12,
 iG 14 13 false (.fa 0 (.t 1)),
 iG 15 13 false (.ld1 (.t 14)),
 iG 16 13 false (.bin .gtr (.i .i64) (.t 15) (.c (i64 4))),
 iP 17 (.pick (.t 13) (.c (bl true)) (.t 16)),
 iM 18 17,
 iG 19 18 false (.fa 1 (.t 1)),
 iG 20 18 false (.ld1 (.t 19)),
 iG 21 18 false (.len (.t 20)),
 iG 22 18 false (.bin .lss (.i .i64) (.t 21) (.c (i64 1))),
 iP 23 (.pick (.t 18) (.c (bl true)) (.t 22)),
 iM 24 23,
 iG 25 24 false (.fa 1 (.t 1)),
 iG 26 24 false (.ld1 (.t 25)),
 iG 27 24 false (.len (.t 26)),
 iG 28 24 false (.bin .gtr (.i .i64) (.t 27) (.c (i64 2000))),
 iP 29 (.pick (.t 24) (.c (bl true)) (.t 28)),
 iM 30 29,
 iG 31 30 false (.fa 2 (.t 1)),
 iG 32 30 false (.ld1 (.t 31)),
 iG 33 30 false (.len (.t 32)),
 iG 34 30 false (.bin .gtr (.i .i64) (.t 33) (.c (i64 200))),
 iP 35 (.pick (.t 30) (.c (bl true)) (.t 34))])
 (.cond (.t 35)
 (.seq
 (.reg [
 iP 2 (.mov (.c (.val (.pointer none)))),
 iP 3 (.mov (.c (i64 2)))])
 .ret)
 .skip))
 (.seq
 (.reg [
 iP 36 (.ldn 3 (.t 1)),
 iP 37 (.bld [i64 0,.val (.slice none 0 0),.val (.slice none 0 0),.val (.slice none 0 0),.val (.slice none 0 0),.val (.slice none 0 0)] [(0,3,(.t 36))]),
 iE 38 (.box 134 (.t 37)),
 iM 4 38])
 (.seq
 (.seq
 (.reg [
 iF 39 1 1,
 iL 40 39,
 iP 41 (.len (.t 40)),
 iP 42 (.mov (.c (i64 0)))])
 (.blk 0
 (.loop l76_0)))
 (.seq
 (.drf [3,3,3] [3,4,5,6,7,8,9,10,11,12,13,14,0,1,2,15,16,17,18,19,20,21,22,23] [
 iF 56 1 1,
 iL 57 56,
 iP 58 (.len (.t 57)),
 iE 59 (.flo 0 3 1 8 [i64 0] (.t 58) (.t 58)),
 iF 60 1 1,
 iL 61 60,
 iP 62 (.len (.t 61)),
 iE 63 (.flo 1 3 1 8 [i64 0] (.t 62) (.t 62)),
 iF 64 1 1,
 iL 65 64,
 iP 66 (.len (.t 65)),
 iE 67 (.flo 2 3 1 8 [i64 0] (.t 66) (.t 66)),
 iM 53 4,
 iM 54 4,
 iM 55 4,
 iP 68 (.nck (.t 53)),
 iF 69 3 68,
 ⟨none,none,.e (.stw [57] 1 (.t 69) (.t 59))⟩,
 iP 70 (.nck (.t 54)),
 iF 71 4 70,
 ⟨none,none,.e (.stw [61,57] 1 (.t 71) (.t 63))⟩,
 iP 72 (.nck (.t 55)),
 iF 73 5 72,
 ⟨none,none,.e (.stw [65,61,57] 1 (.t 73) (.t 67))⟩])
 (.seq
 (.seq
 (.reg [
 iM 75 4,
 iF 76 1 1,
 iL 77 76,
 iC 78 89 [.t 75,(.c (i64 (-1))),(.c (i64 0)),.t 77],
 iM 74 78,
 iP 79 (.ext (.t 74) 0),
 iP 80 (.ext (.t 74) 1),
 iM 8 79,
 iM 9 80])
 (.seq
 (.reg [
 iM 81 9,
 iP 82 (.not (.t 81)),
 iM 83 82,
 iG 84 83 false (.mov (.t 8)),
 iG 85 83 false (.len (.t 84)),
 iG 86 83 false (.bin .gtr (.i .i64) (.t 85) (.c (i64 0))),
 iP 87 (.pick (.t 83) (.c (bl true)) (.t 86))])
 (.cond (.t 87)
 (.seq
 (.reg [
 iP 2 (.mov (.c (.val (.pointer none)))),
 iP 3 (.mov (.c (i64 9)))])
 .ret)
 .skip)))
 (.seq
 (.seq
 (.reg [
 iM 88 4,
 iP 89 (.nck (.t 88)),
 iF 90 4 89,
 iL 91 90,
 iC 92 90 [.t 91],
 iP 93 (.bin .gtr (.i .i64) (.t 92) (.c (i64 40)))])
 (.cond (.t 93)
 (.seq
 (.reg [
 iP 2 (.mov (.c (.val (.pointer none)))),
 iP 3 (.mov (.c (i64 5)))])
 .ret)
 .skip))
 (.seq
 (.reg [
 iM 94 4,
 iM 95 4,
 iC 96 91 [.t 95],
 iM 2 94,
 iM 3 96])
 .ret))))))))
def r76:List RS:=[.t 2,.t 3]
theorem c76:chkF Try.prog drawB Try.f76 i76 r76=true:=by kernel_rfl
def i77:IC :=
 (.seq
 (.reg [
 iE 3 (.box 3 (.t 0)),
 iE 4 (.box 3 (.t 1)),
 iP 6 (.mov (.c (i64 0)))])
 (.seq
 (.seq
 (.reg [
 iM 7 2,
 iP 8 (.mkf (.func 93) [] [(.t 3),(.t 4)]),
 iC 9 92 [.t 7,.t 8]])
 (.cond (.t 9)
 (.seq
 (.reg [
 iP 6 (.mov (.c (i64 2)))])
 .ret)
 .skip))
 (.seq
 (.reg [
 iP 6 (.mov (.c (i64 0)))])
 .ret)))
def r77:List RS:=[.t 6]
theorem c77:chkF Try.prog drawB Try.f77 i77 r77=true:=by kernel_rfl
def i78:IC :=
 (.seq
 (.reg [
 iE 2 (.box 128 (.t 0)),
 iP 3 (.mov (.c (bl false)))])
 (.seq
 (.reg [
 iF 4 0 2,
 iL 5 4,
 iP 6 (.bin .neq (.i .i64) (.t 5) (.c (i64 2))),
 ⟨none,none,.e (.st 1 (.t 1) (.t 6))⟩])
 (.seq
 (.reg [
 iL 7 1,
 iM 3 7])
 .ret)))
def r78:List RS:=[.t 3]
theorem c78:chkF Try.prog drawB Try.f78 i78 r78=true:=by kernel_rfl
def l79_0:IC:=.keep [3,17,18,19]
 (.seq
 (.reg [
 iP 20 (.bin .lss (.i .i64) (.t 19) (.t 18))])
 (.seq
 (.cond (.t 20)
 .skip
 (.exit 0))
 (.seq
 (.blk 1
 (.seq
 (.reg [
 iM 21 19,
 iP 22 (.ia 6 (.t 17) (.t 19)),
 iP 23 (.ldn 6 (.t 22)),
 iE 5 (.alc 59 [i64 0,i64 0,i64 0,.val (.slice none 0 0),.val (.slice none 0 0),.val (.slice none 0 0)]),
 iM 4 21,
 ⟨none,none,.e (.st 6 (.t 5) (.t 23))⟩])
 (.seq
 (.reg [
 iF 24 0 5,
 iL 25 24,
 iP 26 (.bin .eql (.i .i64) (.t 25) (.c (i64 2)))])
 (.cond (.t 26)
 (.drw [0,1,2,3,4,5,6,7,8,9,10,11,12] [
 iM 27 3,
 iF 28 2 5,
 iL 29 28,
 iM 30 3,
 iF 31 2 5,
 iL 32 31,
 iP 33 (.ia 1 (.t 30) (.t 32)),
 iL 34 33,
 iM 35 4,
 iE 36 (.bsl 3 1 1 [i64 0] [(0,(.t 35))]),
 iE 37 (.app 3 1 8 (.t 34) (.t 36)),
 iP 38 (.ia 1 (.t 27) (.t 29)),
 ⟨none,none,.e (.stw [34,32] 1 (.t 38) (.t 37))⟩])
 .skip))))
 (.reg [
 iP 39 (.bin .add (.i .i64) (.t 19) (.c (i64 1))),
 iM 19 39]))))
def i79:IC :=
 (.seq
 (.reg [
 iP 2 (.mov (.c (.val (.slice none 0 0))))])
 (.seq
 (.reg [
 iM 6 0,
 iP 7 (.nck (.t 6)),
 iF 8 0 7,
 iF 9 2 8,
 iL 10 9,
 iP 11 (.len (.t 10)),
 iE 12 (.mks 36 1 24 [.val (.slice none 0 0)] (.t 11) (.t 11)),
 iM 3 12])
 (.seq
 (.seq
 (.reg [
 iM 13 0,
 iP 14 (.nck (.t 13)),
 iF 15 0 14,
 iF 16 1 15,
 iL 17 16,
 iP 18 (.len (.t 17)),
 iP 19 (.mov (.c (i64 0)))])
 (.blk 0
 (.loop l79_0)))
 (.seq
 (.reg [
 iM 40 3,
 iM 2 40])
 .ret))))
def r79:List RS:=[.t 2]
theorem c79:chkF Try.prog drawB Try.f79 i79 r79=true:=by kernel_rfl
def l80_0:IC:=.keep [2,3,4,7,8,29,30,31]
 (.seq
 (.reg [
 iP 32 (.bin .lss (.i .i64) (.t 31) (.t 30))])
 (.seq
 (.cond (.t 32)
 .skip
 (.exit 0))
 (.seq
 (.blk 1
 (.seq
 (.reg [
 iP 33 (.ia 1 (.t 29) (.t 31)),
 iL 34 33,
 iM 10 34])
 (.seq
 (.reg [
 iE 11 (.alc 3 [i64 0]),
 ⟨none,none,.e (.st 1 (.t 11) (.c (i64 (-1))))⟩])
 (.seq
 (.reg [
 iF 35 0 3,
 iL 36 35,
 iM 37 10,
 iM 38 7,
 iP 39 (.mkf (.func 96) [] [(.t 3),(.t 4),(.t 11)]),
 iC 40 95 [.t 36,.t 37,.t 38,.t 39]])
 (.seq
 (.seq
 (.reg [
 iL 41 11,
 iP 42 (.bin .geq (.i .i64) (.t 41) (.c (i64 0))),
 iM 43 42,
 iG 44 43 true (.fa 1 (.t 3)),
 iG 45 43 true (.ld1 (.t 44)),
 iG 46 43 true (.mov (.t 10)),
 iG 47 43 true (.ld1 (.t 4)),
 iG 48 43 true (.ld1 (.t 11)),
 iG 49 43 true (.bld [i64 0,i64 0,i64 0,i64 0] [(0,1,(.c (i64 1))),(1,1,(.t 46)),(2,1,(.t 47)),(3,1,(.t 48))]),
 ⟨(some 50),(some (43,true)),.e (.call (.t 45) [(.t 49)])⟩,
 iG 51 43 true (.not (.t 50)),
 iP 52 (.pick (.t 43) (.t 51) (.c (bl false)))])
 (.cond (.t 52)
 (.seq
 (.reg [
 iP 6 (.mov (.c (bl false)))])
 .ret)
 .skip))
 (.seq
 (.seq
 (.reg [
 iF 53 0 3,
 iL 54 53,
 iM 55 10,
 iM 56 7,
 iC 57 94 [.t 54,.t 55,.t 56],
 iM 58 8,
 iC 59 97 [.t 57,.t 58]])
 (.cond (.t 59)
 (.exit 1)
 .skip))
 (.seq
 (.drw [0,1,2,3,4,5,6,7,8,9] [
 iF 60 1 3,
 iL 61 60,
 iM 62 10,
 iL 63 4,
 iM 64 2,
 iP 65 (.ia 1 (.t 64) (.c (i64 0))),
 iL 66 65,
 iP 67 (.bld [i64 0,i64 0,i64 0,i64 0] [(0,1,(.c (i64 2))),(1,1,(.t 62)),(2,1,(.t 63)),(3,1,(.t 66))]),
 iE 68 (.call (.t 61) [(.t 67)]),
 iP 69 (.not (.t 68))])
 (.cond (.t 69)
 (.seq
 (.reg [
 iP 6 (.mov (.c (bl false)))])
 .ret)
 .skip))))))))
 (.reg [
 iP 70 (.bin .add (.i .i64) (.t 31) (.c (i64 1))),
 iM 31 70]))))
def i80:IC :=
 (.seq
 (.reg [
 iE 3 (.box 131 (.t 0)),
 iE 4 (.box 3 (.t 1)),
 iP 6 (.mov (.c (bl false)))])
 (.seq
 (.drw [0,1,2,3,4,5,6,7,8,9,10] [
 iF 12 0 3,
 iL 13 12,
 iP 14 (.nck (.t 13)),
 iF 15 0 14,
 iF 16 2 15,
 iL 17 16,
 iL 18 4,
 iP 19 (.ia 2 (.t 17) (.t 18)),
 iF 20 0 19,
 iL 21 20,
 iM 7 21])
 (.seq
 (.drw [0,1,2,3,4,5,6,7] [
 iF 22 0 3,
 iL 23 22,
 iM 24 2,
 iP 25 (.ia 1 (.t 24) (.c (i64 0))),
 iL 26 25,
 iM 27 7,
 ⟨(some 28),none,.q (.c (.fn (.func 94) [] [])) [(.t 23),(.t 26),(.t 27)]⟩,
 iM 8 28])
 (.seq
 (.seq
 (.reg [
 iM 29 2,
 iP 30 (.len (.t 29)),
 iP 31 (.mov (.c (i64 0)))])
 (.blk 0
 (.loop l80_0)))
 (.seq
 (.reg [
 iP 6 (.mov (.c (bl true)))])
 .ret)))))
def r80:List RS:=[.t 6]
theorem c80:chkF Try.prog drawB Try.f80 i80 r80=true:=by kernel_rfl
def l81_0:IC:=.keep [0,1,2,6,7,8]
 (.seq
 (.seq
 (.reg [
 iM 11 8,
 iM 12 1,
 iP 13 (.bin .leq (.i .i64) (.t 11) (.t 12))])
 (.cond (.t 13)
 .skip
 (.exit 0)))
 (.blk 1
 (.seq
 (.reg [
 iM 14 0,
 iM 15 7,
 iM 16 8,
 iM 17 2,
 iC 18 98 [.t 14,.t 15,.t 16,.t 17]])
 (.seq
 (.reg [
 iM 19 8,
 iM 7 19])
 (.reg [
 iM 20 8,
 iM 21 6,
 iP 22 (.bin .add (.i .i64) (.t 20) (.t 21)),
 iM 8 22])))))
def l81_2:IC:=.keep [0,1,2,6,7,8]
 (.seq
 (.seq
 (.reg [
 iM 33 8,
 iM 34 1,
 iP 35 (.bin .leq (.i .i64) (.t 33) (.t 34))])
 (.cond (.t 35)
 .skip
 (.exit 4)))
 (.blk 5
 (.seq
 (.reg [
 iM 36 0,
 iM 37 7,
 iM 38 7,
 iM 39 6,
 iP 40 (.bin .add (.i .i64) (.t 38) (.t 39)),
 iM 41 8,
 iM 42 2,
 iC 43 99 [.t 36,.t 37,.t 40,.t 41,.t 42]])
 (.seq
 (.reg [
 iM 44 8,
 iM 7 44])
 (.reg [
 iM 45 8,
 iM 46 6,
 iP 47 (.bin .mul (.i .i64) (.c (i64 2)) (.t 46)),
 iP 48 (.bin .add (.i .i64) (.t 45) (.t 47)),
 iM 8 48])))))
def l81_1:IC:=.keep [0,1,2,6]
 (.seq
 (.seq
 (.reg [
 iM 28 6,
 iM 29 1,
 iP 30 (.bin .lss (.i .i64) (.t 28) (.t 29))])
 (.cond (.t 30)
 .skip
 (.exit 2)))
 (.blk 3
 (.seq
 (.reg [
 iM 31 6,
 iP 32 (.bin .mul (.i .i64) (.c (i64 2)) (.t 31)),
 iP 7 (.mov (.c (i64 0))),
 iM 8 32])
 (.seq
 (.blk 4
 (.loop l81_2))
 (.seq
 (.seq
 (.reg [
 iM 49 7,
 iM 50 6,
 iP 51 (.bin .add (.i .i64) (.t 49) (.t 50)),
 iM 9 51])
 (.seq
 (.reg [
 iM 52 9,
 iM 53 1,
 iP 54 (.bin .lss (.i .i64) (.t 52) (.t 53))])
 (.cond (.t 54)
 (.reg [
 iM 55 0,
 iM 56 7,
 iM 57 9,
 iM 58 1,
 iM 59 2,
 iC 60 99 [.t 55,.t 56,.t 57,.t 58,.t 59]])
 .skip)))
 (.reg [
 iM 61 6,
 iP 62 (.bin .mul (.i .i64) (.t 61) (.c (i64 2))),
 iM 6 62]))))))
def i81:IC :=
 (.seq
 (.reg [
 iP 6 (.mov (.c (i64 20)))])
 (.seq
 (.reg [
 iM 10 6,
 iP 7 (.mov (.c (i64 0))),
 iM 8 10])
 (.seq
 (.blk 0
 (.loop l81_0))
 (.seq
 (.reg [
 iM 23 0,
 iM 24 7,
 iM 25 1,
 iM 26 2,
 iC 27 98 [.t 23,.t 24,.t 25,.t 26]])
 (.blk 2
 (.loop l81_1))))))
def r81:List RS:=[]
theorem c81:chkF Try.prog drawB Try.f81 i81 r81=true:=by kernel_rfl
def l83_0:IC:=.keep [3,5]
 (.seq
 (.seq
 (.reg [
 iM 46 5,
 iF 47 4 3,
 iL 48 47,
 iP 49 (.len (.t 48)),
 iP 50 (.bin .lss (.i .i64) (.t 46) (.t 49))])
 (.cond (.t 50)
 .skip
 (.exit 1)))
 (.seq
 (.blk 2
 (.seq
 (.reg [
 iF 53 4 3,
 iL 54 53,
 iM 55 5,
 iP 56 (.ia 1 (.t 54) (.t 55)),
 iL 57 56,
 iP 58 (.bin .lss (.i .i64) (.t 57) (.c (i64 1))),
 iM 59 58,
 iG 60 59 false (.fa 4 (.t 3)),
 iG 61 59 false (.ld1 (.t 60)),
 iG 62 59 false (.mov (.t 5)),
 iG 63 59 false (.ia 1 (.t 61) (.t 62)),
 iG 64 59 false (.ld1 (.t 63)),
 iG 65 59 false (.bin .gtr (.i .i64) (.t 64) (.c (i64 1000))),
 iP 66 (.pick (.t 59) (.c (bl true)) (.t 65))])
 (.cond (.t 66)
 (.seq
 (.reg [
 iP 4 (.mov (.c (i64 2)))])
 .ret)
 .skip)))
 (.reg [
 iM 51 5,
 iP 52 (.bin .add (.i .i64) (.t 51) (.c (i64 1))),
 iM 5 52])))
def l83_1:IC:=.keep [3,6]
 (.seq
 (.seq
 (.reg [
 iM 144 6,
 iF 145 5 3,
 iL 146 145,
 iP 147 (.len (.t 146)),
 iP 148 (.bin .lss (.i .i64) (.t 144) (.t 147))])
 (.cond (.t 148)
 .skip
 (.exit 3)))
 (.seq
 (.blk 4
 (.seq
 (.reg [
 iF 151 5 3,
 iL 152 151,
 iM 153 6,
 iP 154 (.ia 1 (.t 152) (.t 153)),
 iL 155 154,
 iP 156 (.bin .lss (.i .i64) (.t 155) (.c (i64 (-1000000)))),
 iM 157 156,
 iG 158 157 false (.fa 5 (.t 3)),
 iG 159 157 false (.ld1 (.t 158)),
 iG 160 157 false (.mov (.t 6)),
 iG 161 157 false (.ia 1 (.t 159) (.t 160)),
 iG 162 157 false (.ld1 (.t 161)),
 iG 163 157 false (.bin .gtr (.i .i64) (.t 162) (.c (i64 1000000))),
 iP 164 (.pick (.t 157) (.c (bl true)) (.t 163))])
 (.cond (.t 164)
 (.seq
 (.reg [
 iP 4 (.mov (.c (i64 2)))])
 .ret)
 .skip)))
 (.reg [
 iM 149 6,
 iP 150 (.bin .add (.i .i64) (.t 149) (.c (i64 1))),
 iM 6 150])))
def i83:IC :=
 (.seq
 (.reg [
 iE 2 (.box 25 (.t 0)),
 iE 3 (.box 59 (.t 1)),
 iP 4 (.mov (.c (i64 0)))])
 (.seq
 (.seq
 (.reg [
 iF 7 0 3,
 iL 8 7])
 (.blk 0
 (.seq
 (.reg [
 iP 10 (.bin .eql (.i .i64) (.t 8) (.c (i64 1))),
 iM 9 10])
 (.cond (.t 9)
 (.seq
 (.seq
 (.reg [
 iF 11 1 3,
 iL 12 11,
 iP 13 (.bin .neq (.i .i64) (.t 12) (.c (i64 0))),
 iM 14 13,
 iG 15 14 false (.fa 2 (.t 3)),
 iG 16 14 false (.ld1 (.t 15)),
 iG 17 14 false (.bin .neq (.i .i64) (.t 16) (.c (i64 0))),
 iP 18 (.pick (.t 14) (.c (bl true)) (.t 17)),
 iM 19 18,
 iG 20 19 false (.fa 5 (.t 3)),
 iG 21 19 false (.ld1 (.t 20)),
 iG 22 19 false (.len (.t 21)),
 iG 23 19 false (.bin .gtr (.i .i64) (.t 22) (.c (i64 0))),
 iP 24 (.pick (.t 19) (.c (bl true)) (.t 23)),
 iM 25 24,
 iG 26 25 false (.fa 3 (.t 3)),
 iG 27 25 false (.ld1 (.t 26)),
 iG 28 25 false (.len (.t 27)),
 iG 29 25 false (.bin .lss (.i .i64) (.t 28) (.c (i64 1))),
 iP 30 (.pick (.t 25) (.c (bl true)) (.t 29)),
 iM 31 30,
 iG 32 31 false (.fa 3 (.t 3)),
 iG 33 31 false (.ld1 (.t 32)),
 iG 34 31 false (.len (.t 33)),
 iG 35 31 false (.bin .gtr (.i .i64) (.t 34) (.c (i64 60))),
 iP 36 (.pick (.t 31) (.c (bl true)) (.t 35)),
 iM 37 36,
 iG 38 37 false (.fa 4 (.t 3)),
 iG 39 37 false (.ld1 (.t 38)),
 iG 40 37 false (.len (.t 39)),
 iG 41 37 false (.fa 3 (.t 3)),
 iG 42 37 false (.ld1 (.t 41)),
 iG 43 37 false (.len (.t 42)),
 iG 44 37 false (.bin .neq (.i .i64) (.t 40) (.t 43)),
 iP 45 (.pick (.t 37) (.c (bl true)) (.t 44))])
 (.cond (.t 45)
 (.seq
 (.reg [
 iP 4 (.mov (.c (i64 3)))])
 .ret)
 .skip))
 (.seq
 (.reg [
 iP 5 (.mov (.c (i64 0)))])
 (.blk 1
 (.loop l83_0))))
 (.seq
 (.reg [
 iP 68 (.bin .eql (.i .i64) (.t 8) (.c (i64 2))),
 iM 67 68])
 (.cond (.t 67)
 (.seq
 (.seq
 (.reg [
 iF 69 5 3,
 iL 70 69,
 iP 71 (.len (.t 70)),
 iP 72 (.bin .gtr (.i .i64) (.t 71) (.c (i64 0))),
 iM 73 72,
 iG 74 73 false (.fa 4 (.t 3)),
 iG 75 73 false (.ld1 (.t 74)),
 iG 76 73 false (.len (.t 75)),
 iG 77 73 false (.bin .gtr (.i .i64) (.t 76) (.c (i64 0))),
 iP 78 (.pick (.t 73) (.c (bl true)) (.t 77)),
 iM 79 78,
 iG 80 79 false (.fa 3 (.t 3)),
 iG 81 79 false (.ld1 (.t 80)),
 iG 82 79 false (.len (.t 81)),
 iG 83 79 false (.bin .lss (.i .i64) (.t 82) (.c (i64 1))),
 iP 84 (.pick (.t 79) (.c (bl true)) (.t 83)),
 iM 85 84,
 iG 86 85 false (.fa 3 (.t 3)),
 iG 87 85 false (.ld1 (.t 86)),
 iG 88 85 false (.len (.t 87)),
 iG 89 85 false (.bin .gtr (.i .i64) (.t 88) (.c (i64 10))),
 iP 90 (.pick (.t 85) (.c (bl true)) (.t 89))])
 (.cond (.t 90)
 (.seq
 (.reg [
 iP 4 (.mov (.c (i64 3)))])
 .ret)
 .skip))
 (.seq
 (.reg [
 iF 91 1 3,
 iL 92 91,
 iP 93 (.bin .lss (.i .i64) (.t 92) (.c (i64 0))),
 iM 94 93,
 iG 95 94 false (.fa 1 (.t 3)),
 iG 96 94 false (.ld1 (.t 95)),
 iG 97 94 false (.fa 0 (.t 2)),
 iG 98 94 false (.ld1 (.t 97)),
 iG 99 94 false (.bin .geq (.i .i64) (.t 96) (.t 98)),
 iP 100 (.pick (.t 94) (.c (bl true)) (.t 99)),
 iM 101 100,
 iG 102 101 false (.fa 2 (.t 3)),
 iG 103 101 false (.ld1 (.t 102)),
 iG 104 101 false (.bin .lss (.i .i64) (.t 103) (.c (i64 0))),
 iP 105 (.pick (.t 101) (.c (bl true)) (.t 104)),
 iM 106 105,
 iG 107 106 false (.fa 2 (.t 3)),
 iG 108 106 false (.ld1 (.t 107)),
 iG 109 106 false (.fa 2 (.t 2)),
 iG 110 106 false (.ld1 (.t 109)),
 iG 111 106 false (.len (.t 110)),
 iG 112 106 false (.bin .geq (.i .i64) (.t 108) (.t 111)),
 iP 113 (.pick (.t 106) (.c (bl true)) (.t 112))])
 (.cond (.t 113)
 (.seq
 (.reg [
 iP 4 (.mov (.c (i64 2)))])
 .ret)
 .skip)))
 (.seq
 (.reg [
 iP 115 (.bin .eql (.i .i64) (.t 8) (.c (i64 3))),
 iM 114 115])
 (.cond (.t 114)
 (.seq
 (.seq
 (.reg [
 iF 116 1 3,
 iL 117 116,
 iP 118 (.bin .neq (.i .i64) (.t 117) (.c (i64 0))),
 iM 119 118,
 iG 120 119 false (.fa 2 (.t 3)),
 iG 121 119 false (.ld1 (.t 120)),
 iG 122 119 false (.bin .neq (.i .i64) (.t 121) (.c (i64 0))),
 iP 123 (.pick (.t 119) (.c (bl true)) (.t 122)),
 iM 124 123,
 iG 125 124 false (.fa 3 (.t 3)),
 iG 126 124 false (.ld1 (.t 125)),
 iG 127 124 false (.len (.t 126)),
 iG 128 124 false (.bin .gtr (.i .i64) (.t 127) (.c (i64 0))),
 iP 129 (.pick (.t 124) (.c (bl true)) (.t 128)),
 iM 130 129,
 iG 131 130 false (.fa 4 (.t 3)),
 iG 132 130 false (.ld1 (.t 131)),
 iG 133 130 false (.len (.t 132)),
 iG 134 130 false (.bin .gtr (.i .i64) (.t 133) (.c (i64 0))),
 iP 135 (.pick (.t 130) (.c (bl true)) (.t 134)),
 iM 136 135,
 iG 137 136 false (.fa 5 (.t 3)),
 iG 138 136 false (.ld1 (.t 137)),
 iG 139 136 false (.len (.t 138)),
 iG 140 136 false (.fa 0 (.t 2)),
 iG 141 136 false (.ld1 (.t 140)),
 iG 142 136 false (.bin .neq (.i .i64) (.t 139) (.t 141)),
 iP 143 (.pick (.t 136) (.c (bl true)) (.t 142))])
 (.cond (.t 143)
 (.seq
 (.reg [
 iP 4 (.mov (.c (i64 3)))])
 .ret)
 .skip))
 (.seq
 (.reg [
 iP 6 (.mov (.c (i64 0)))])
 (.blk 3
 (.loop l83_1))))
 (.seq
 (.reg [
 iP 4 (.mov (.c (i64 3)))])
 .ret)))))))))
 (.seq
 (.reg [
 iP 4 (.mov (.c (i64 0)))])
 .ret)))
def r83:List RS:=[.t 4]
theorem c83:chkF Try.prog drawB Try.f83 i83 r83=true:=by kernel_rfl
def l84_0:IC:=.keep [1,2,3,4,9,10]
 (.seq
 (.seq
 (.reg [
 iM 25 10,
 iF 26 1 4,
 iL 27 26,
 iM 28 1,
 iP 29 (.ia 6 (.t 27) (.t 28)),
 iF 30 3 29,
 iL 31 30,
 iP 32 (.len (.t 31)),
 iP 33 (.bin .lss (.i .i64) (.t 25) (.t 32))])
 (.cond (.t 33)
 .skip
 (.exit 0)))
 (.seq
 (.blk 1
 (.seq
 (.seq
 (.reg [
 iF 36 1 4,
 iL 37 36,
 iM 38 1,
 iP 39 (.ia 6 (.t 37) (.t 38)),
 iF 40 3 39,
 iL 41 40,
 iM 42 10,
 iP 43 (.ia 1 (.t 41) (.t 42)),
 iL 44 43,
 iM 45 9,
 iP 46 (.bin .neq (.i .i64) (.t 44) (.t 45))])
 (.cond (.t 46)
 (.seq
 (.reg [
 iP 8 (.mov (.c (i64 (-1))))])
 .ret)
 .skip))
 (.seq
 (.reg [
 iP 47 (.ldn 3 (.t 4)),
 iM 48 9,
 iM 49 2,
 iP 50 (.bin .add (.i .i64) (.t 49) (.c (i64 1))),
 iM 51 3,
 iC 52 84 [.t 47,.t 48,.t 50,.t 51],
 iM 9 52])
 (.seq
 (.reg [
 iM 53 9,
 iP 54 (.bin .lss (.i .i64) (.t 53) (.c (i64 0)))])
 (.cond (.t 54)
 (.seq
 (.reg [
 iP 8 (.mov (.c (i64 (-1))))])
 .ret)
 .skip)))))
 (.reg [
 iM 34 10,
 iP 35 (.bin .add (.i .i64) (.t 34) (.c (i64 1))),
 iM 10 35])))
def i84:IC :=
 (.seq
 (.reg [
 iE 4 (.box 25 (.t 0)),
 iP 8 (.mov (.c (i64 0)))])
 (.seq
 (.seq
 (.reg [
 iM 11 1,
 iF 12 1 4,
 iL 13 12,
 iP 14 (.len (.t 13)),
 iP 15 (.bin .geq (.i .i64) (.t 11) (.t 14))])
 (.cond (.t 15)
 (.seq
 (.reg [
 iP 8 (.mov (.c (i64 (-1))))])
 .ret)
 .skip))
 (.seq
 (.reg [
 iM 16 3,
 iM 17 3,
 iP 18 (.nck (.t 17)),
 iL 19 18,
 iM 20 2,
 iP 21 (.mm true .i64 (.t 19) (.t 20)),
 iP 22 (.nck (.t 16)),
 ⟨none,none,.e (.st 1 (.t 22) (.t 21))⟩])
 (.seq
 (.reg [
 iM 23 1,
 iP 24 (.bin .add (.i .i64) (.t 23) (.c (i64 1))),
 iM 9 24])
 (.seq
 (.seq
 (.reg [
 iP 10 (.mov (.c (i64 0)))])
 (.blk 0
 (.loop l84_0)))
 (.seq
 (.reg [
 iM 55 9,
 iM 8 55])
 .ret))))))
def r84:List RS:=[.t 8]
theorem c84:chkF Try.prog drawB Try.f84 i84 r84=true:=by kernel_rfl
def l85_0:IC:=.keep [1,3,4]
 (.seq
 (.seq
 (.reg [
 iM 10 4,
 iF 11 1 1,
 iL 12 11,
 iP 13 (.len (.t 12)),
 iP 14 (.bin .lss (.i .i64) (.t 10) (.t 13))])
 (.cond (.t 14)
 .skip
 (.exit 0)))
 (.seq
 (.blk 1
 (.seq
 (.reg [
 iF 17 1 1,
 iL 18 17,
 iM 19 4,
 iP 20 (.ia 6 (.t 18) (.t 19)),
 iP 21 (.ldn 6 (.t 20)),
 iE 5 (.alc 59 [i64 0,i64 0,i64 0,.val (.slice none 0 0),.val (.slice none 0 0),.val (.slice none 0 0)]),
 ⟨none,none,.e (.st 6 (.t 5) (.t 21))⟩])
 (.seq
 (.reg [
 iF 22 0 5,
 iL 23 22,
 iP 24 (.bin .eql (.i .i64) (.t 23) (.c (i64 2)))])
 (.cond (.t 24)
 (.drw [0,1,2,3,4,5,6,7,8,9,10,11,12] [
 iM 25 3,
 iF 26 2 5,
 iL 27 26,
 iM 28 3,
 iF 29 2 5,
 iL 30 29,
 iP 31 (.ia 1 (.t 28) (.t 30)),
 iL 32 31,
 iM 33 4,
 iE 34 (.bsl 3 1 1 [i64 0] [(0,(.t 33))]),
 iE 35 (.app 3 1 8 (.t 32) (.t 34)),
 iP 36 (.ia 1 (.t 25) (.t 27)),
 ⟨none,none,.e (.stw [32,30] 1 (.t 36) (.t 35))⟩])
 .skip))))
 (.reg [
 iM 15 4,
 iP 16 (.bin .add (.i .i64) (.t 15) (.c (i64 1))),
 iM 4 16])))
def i85:IC :=
 (.seq
 (.reg [
 iE 1 (.box 25 (.t 0)),
 iP 2 (.mov (.c (.val (.slice none 0 0))))])
 (.seq
 (.reg [
 iF 6 2 1,
 iL 7 6,
 iP 8 (.len (.t 7)),
 iE 9 (.mks 36 1 24 [.val (.slice none 0 0)] (.t 8) (.t 8)),
 iM 3 9])
 (.seq
 (.seq
 (.reg [
 iP 4 (.mov (.c (i64 0)))])
 (.blk 0
 (.loop l85_0)))
 (.seq
 (.reg [
 iM 37 3,
 iM 2 37])
 .ret))))
def r85:List RS:=[.t 2]
theorem c85:chkF Try.prog drawB Try.f85 i85 r85=true:=by kernel_rfl
def l86_0:IC:=.keep [1,2,5,6]
 (.seq
 (.seq
 (.reg [
 iM 9 6,
 iM 10 5,
 iP 11 (.len (.t 10)),
 iP 12 (.bin .lss (.i .i64) (.t 9) (.t 11))])
 (.cond (.t 12)
 .skip
 (.exit 0)))
 (.seq
 (.blk 1
 (.seq
 (.drw [0,1,2,3,4,5,6,7,8,9,10,11] [
 iF 15 2 2,
 iL 16 15,
 iM 17 5,
 iM 18 6,
 iP 19 (.ia 4 (.t 17) (.t 18)),
 iF 20 2 19,
 iL 21 20,
 iP 22 (.ia 2 (.t 16) (.t 21)),
 iF 23 0 22,
 iL 24 23,
 iM 25 1,
 iP 26 (.bin .eql (.i .i64) (.t 24) (.t 25))])
 (.cond (.t 26)
 (.seq
 (.reg [
 iP 4 (.mov (.c (bl false)))])
 .ret)
 .skip)))
 (.reg [
 iM 13 6,
 iP 14 (.bin .add (.i .i64) (.t 13) (.c (i64 1))),
 iM 6 14])))
def i86:IC :=
 (.seq
 (.reg [
 iE 2 (.box 25 (.t 0)),
 iP 4 (.mov (.c (bl false)))])
 (.seq
 (.reg [
 iP 7 (.ldn 3 (.t 2)),
 iC 8 100 [.t 7],
 iM 5 8])
 (.seq
 (.seq
 (.reg [
 iP 6 (.mov (.c (i64 0)))])
 (.blk 0
 (.loop l86_0)))
 (.seq
 (.reg [
 iP 4 (.mov (.c (bl true)))])
 .ret))))
def r86:List RS:=[.t 4]
theorem c86:chkF Try.prog drawB Try.f86 i86 r86=true:=by kernel_rfl
def l87_1:IC:=.keep [2,3,7,8,9,10,11]
 (.seq
 (.seq
 (.reg [
 iM 34 11,
 iF 35 3 10,
 iL 36 35,
 iP 37 (.len (.t 36)),
 iP 38 (.bin .lss (.i .i64) (.t 34) (.t 37)),
 iM 39 38,
 iG 40 39 true (.fa 0 (.t 10)),
 iG 41 39 true (.ld1 (.t 40)),
 iG 42 39 true (.bin .eql (.i .i64) (.t 41) (.c (i64 2))),
 iP 43 (.pick (.t 39) (.t 42) (.c (bl false))),
 iM 44 43,
 iG 45 44 true (.fa 1 (.t 10)),
 iG 46 44 true (.ld1 (.t 45)),
 iG 47 44 true (.mov (.t 2)),
 iG 48 44 true (.bin .eql (.i .i64) (.t 46) (.t 47)),
 iP 49 (.pick (.t 44) (.t 48) (.c (bl false)))])
 (.cond (.t 49)
 .skip
 (.exit 2)))
 (.seq
 (.blk 3
 (.seq
 (.reg [
 iF 52 3 10,
 iL 53 52,
 iM 54 11,
 iP 55 (.ia 1 (.t 53) (.t 54)),
 iL 56 55,
 iM 57 9,
 iP 58 (.bin .eql (.i .i64) (.t 56) (.t 57))])
 (.cond (.t 58)
 (.reg [
 iM 59 8,
 iF 60 2 10,
 iL 61 60,
 iM 62 11,
 iP 63 (.bld [i64 0,i64 0] [(0,1,(.t 61)),(1,1,(.t 62))]),
 iE 64 (.bsl 146 2 1 [i64 0,i64 0] [(0,(.t 63))]),
 iE 65 (.app 146 2 16 (.t 59) (.t 64)),
 iM 8 65])
 .skip)))
 (.reg [
 iM 50 11,
 iP 51 (.bin .add (.i .i64) (.t 50) (.c (i64 1))),
 iM 11 51])))
def l87_0:IC:=.keep [2,3,7,8,9]
 (.seq
 (.seq
 (.reg [
 iM 17 7,
 iM 18 9,
 iP 19 (.ia 1 (.t 17) (.t 18)),
 iL 20 19,
 iP 21 (.bin .geq (.i .i64) (.t 20) (.c (i64 0)))])
 (.cond (.t 21)
 .skip
 (.exit 0)))
 (.seq
 (.blk 1
 (.seq
 (.drw [0,1,2,3,4,5,6,7,8,9] [
 iF 26 1 3,
 iL 27 26,
 iM 28 7,
 iM 29 9,
 iP 30 (.ia 1 (.t 28) (.t 29)),
 iL 31 30,
 iP 32 (.ia 6 (.t 27) (.t 31)),
 iP 33 (.ldn 6 (.t 32)),
 iE 10 (.alc 59 [i64 0,i64 0,i64 0,.val (.slice none 0 0),.val (.slice none 0 0),.val (.slice none 0 0)]),
 ⟨none,none,.e (.st 6 (.t 10) (.t 33))⟩])
 (.seq
 (.reg [
 iP 11 (.mov (.c (i64 0)))])
 (.blk 2
 (.loop l87_1)))))
 (.reg [
 iM 22 7,
 iM 23 9,
 iP 24 (.ia 1 (.t 22) (.t 23)),
 iL 25 24,
 iM 9 25])))
def l87_2:IC:=.keep [8,12,13]
 (.seq
 (.seq
 (.reg [
 iM 69 13,
 iP 70 (.bin .geq (.i .i64) (.t 69) (.c (i64 0)))])
 (.cond (.t 70)
 .skip
 (.exit 4)))
 (.seq
 (.blk 5
 (.reg [
 iM 73 12,
 iM 74 8,
 iM 75 13,
 iP 76 (.ia 2 (.t 74) (.t 75)),
 iP 77 (.ldn 2 (.t 76)),
 iE 78 (.bsl 146 2 1 [i64 0,i64 0] [(0,(.t 77))]),
 iE 79 (.app 146 2 16 (.t 73) (.t 78)),
 iM 12 79]))
 (.reg [
 iM 71 13,
 iP 72 (.bin .sub (.i .i64) (.t 71) (.c (i64 1))),
 iM 13 72])))
def i87:IC :=
 (.seq
 (.reg [
 iE 3 (.box 25 (.t 0)),
 iP 6 (.mov (.c (.val (.slice none 0 0))))])
 (.seq
 (.reg [
 iP 14 (.ldn 3 (.t 3)),
 iC 15 101 [.t 14],
 iM 7 15])
 (.seq
 (.reg [
 iE 8 (.nil 146 2 (.c (.val (.slice none 0 0))))])
 (.seq
 (.seq
 (.reg [
 iM 16 1,
 iM 9 16])
 (.blk 0
 (.loop l87_0)))
 (.seq
 (.reg [
 iE 12 (.nil 146 2 (.c (.val (.slice none 0 0))))])
 (.seq
 (.seq
 (.reg [
 iM 66 8,
 iP 67 (.len (.t 66)),
 iP 68 (.bin .sub (.i .i64) (.t 67) (.c (i64 1))),
 iM 13 68])
 (.blk 4
 (.loop l87_2)))
 (.seq
 (.reg [
 iM 80 12,
 iM 6 80])
 .ret)))))))
def r87:List RS:=[.t 6]
theorem c87:chkF Try.prog drawB Try.f87 i87 r87=true:=by kernel_rfl
def i88:IC :=
 (.seq
 (.reg [
 iE 3 (.box 59 (.t 1)),
 iP 4 (.mov (.c (i64 0)))])
 (.seq
 (.reg [
 iP 6 (.bld [.val .nilFunc,.val .nilFunc,.val .nilFunc,.val .nilFunc] [(1,1,(.c (.fn (.func 102) [] []))),(2,1,(.c (.fn (.func 103) [] []))),(3,1,(.c (.fn (.func 104) [] [])))]),
 iE 5 (.alc 163 [.val .nilFunc,.val .nilFunc,.val .nilFunc,.val .nilFunc]),
 ⟨none,none,.e (.st 4 (.t 5) (.t 6))⟩])
 (.seq
 (.seq
 (.reg [
 iF 7 0 3,
 iL 8 7,
 iP 9 (.bin .lss (.i .i64) (.t 8) (.c (i64 1))),
 iM 10 9,
 iG 11 10 false (.fa 0 (.t 3)),
 iG 12 10 false (.ld1 (.t 11)),
 iG 13 10 false (.bin .gtr (.i .i64) (.t 12) (.c (i64 3))),
 iP 14 (.pick (.t 10) (.c (bl true)) (.t 13))])
 (.cond (.t 14)
 (.seq
 (.reg [
 iP 4 (.mov (.c (i64 3)))])
 .ret)
 .skip))
 (.seq
 (.drw [0,1,2,3,4,5,6,7] [
 iF 15 0 3,
 iL 16 15,
 iP 17 (.iap 4 1 (.t 5) (.t 16)),
 iL 18 17,
 iM 19 0,
 iP 20 (.ldn 6 (.t 3)),
 iE 21 (.call (.t 18) [(.t 19),(.t 20)]),
 iM 4 21])
 .ret))))
def r88:List RS:=[.t 4]
theorem c88:chkF Try.prog drawB Try.f88 i88 r88=true:=by kernel_rfl
def l89_0:IC:=.keep [0,2,10,11,46,47,48]
 (.seq
 (.reg [
 iP 49 (.bin .lss (.i .i64) (.t 48) (.t 47))])
 (.seq
 (.cond (.t 49)
 .skip
 (.exit 0))
 (.seq
 (.blk 1
 (.seq
 (.reg [
 iP 50 (.ia 1 (.t 46) (.t 48)),
 iL 51 50,
 iM 14 51])
 (.seq
 (.seq
 (.reg [
 iM 52 14,
 iM 53 0,
 iP 54 (.nck (.t 53)),
 iF 55 0 54,
 iF 56 1 55,
 iL 57 56,
 iP 58 (.len (.t 57)),
 iM 59 11,
 iP 60 (.len (.t 59)),
 iP 61 (.bin .sub (.i .i64) (.t 58) (.t 60)),
 iP 62 (.bin .neq (.i .i64) (.t 52) (.t 61))])
 (.cond (.t 62)
 (.seq
 (.reg [
 iP 8 (.mov (.c (.val (.slice none 0 0)))),
 iP 9 (.mov (.c (bl false)))])
 .ret)
 .skip))
 (.seq
 (.reg [
 iM 64 0,
 iM 65 10,
 iM 66 2,
 iP 67 (.bin .add (.i .i64) (.t 66) (.c (i64 1))),
 iM 68 11,
 iC 69 89 [.t 64,.t 65,.t 67,.t 68],
 iM 63 69,
 iP 70 (.ext (.t 63) 0),
 iP 71 (.ext (.t 63) 1),
 iM 11 70,
 iM 12 71])
 (.seq
 (.reg [
 iM 72 12,
 iP 73 (.not (.t 72))])
 (.cond (.t 73)
 (.seq
 (.reg [
 iP 8 (.mov (.c (.val (.slice none 0 0)))),
 iP 9 (.mov (.c (bl false)))])
 .ret)
 .skip))))))
 (.reg [
 iP 74 (.bin .add (.i .i64) (.t 48) (.c (i64 1))),
 iM 48 74]))))
def i89:IC :=
 (.seq
 (.reg [
 iP 8 (.mov (.c (.val (.slice none 0 0)))),
 iP 9 (.mov (.c (bl false)))])
 (.seq
 (.seq
 (.reg [
 iM 15 3,
 iP 16 (.len (.t 15)),
 iP 17 (.bin .eql (.i .i64) (.t 16) (.c (i64 0)))])
 (.cond (.t 17)
 (.seq
 (.reg [
 iP 8 (.mov (.c (.val (.slice none 0 0)))),
 iP 9 (.mov (.c (bl false)))])
 .ret)
 .skip))
 (.seq
 (.reg [
 iM 18 0,
 iP 19 (.nck (.t 18)),
 iF 20 0 19,
 iF 21 1 20,
 iL 22 21,
 iP 23 (.len (.t 22)),
 iM 24 3,
 iP 25 (.len (.t 24)),
 iP 26 (.bin .sub (.i .i64) (.t 23) (.t 25)),
 iM 10 26])
 (.seq
 (.drw [0,1,2,3,4,5,6,7,8,9,10,11,12,13,14,15] [
 iM 27 0,
 iP 28 (.nck (.t 27)),
 iF 29 3 28,
 iL 30 29,
 iM 31 10,
 iM 32 0,
 iP 33 (.nck (.t 32)),
 iF 34 4 33,
 iL 35 34,
 iM 36 10,
 iM 37 1,
 iM 38 2,
 iP 39 (.ia 1 (.t 30) (.t 31)),
 ⟨none,none,.e (.stw [35] 1 (.t 39) (.t 37))⟩,
 iP 40 (.ia 1 (.t 35) (.t 36)),
 ⟨none,none,.e (.stw [30] 1 (.t 40) (.t 38))⟩])
 (.seq
 (.reg [
 iM 41 3,
 iP 42 (.sl 6 (.t 41) (some (.c (i64 1))) none),
 iM 11 42,
 iP 12 (.mov (.c (bl true)))])
 (.seq
 (.seq
 (.reg [
 iM 43 3,
 iP 44 (.ia 6 (.t 43) (.c (i64 0))),
 iF 45 3 44,
 iL 46 45,
 iP 47 (.len (.t 46)),
 iP 48 (.mov (.c (i64 0)))])
 (.blk 0
 (.loop l89_0)))
 (.seq
 (.drw [0,1,2,3,4,5,6,7,8,9,10,11,12,13,14,15,16] [
 iM 75 0,
 iP 76 (.nck (.t 75)),
 iF 77 5 76,
 iL 78 77,
 iM 79 10,
 iM 80 0,
 iP 81 (.nck (.t 80)),
 iF 82 0 81,
 iF 83 1 82,
 iL 84 83,
 iP 85 (.len (.t 84)),
 iM 86 11,
 iP 87 (.len (.t 86)),
 iP 88 (.bin .sub (.i .i64) (.t 85) (.t 87)),
 iP 89 (.bin .sub (.i .i64) (.t 88) (.c (i64 1))),
 iP 90 (.ia 1 (.t 78) (.t 79)),
 ⟨none,none,.e (.st 1 (.t 90) (.t 89))⟩])
 (.seq
 (.reg [
 iM 91 11,
 iM 8 91,
 iP 9 (.mov (.c (bl true)))])
 .ret))))))))
def r89:List RS:=[.t 8,.t 9]
theorem c89:chkF Try.prog drawB Try.f89 i89 r89=true:=by kernel_rfl
def l90_0:IC:=.keep [0,3,4]
 (.seq
 (.seq
 (.reg [
 iM 12 4,
 iM 13 0,
 iP 14 (.len (.t 13)),
 iP 15 (.bin .lss (.i .i64) (.t 12) (.t 14))])
 (.cond (.t 15)
 .skip
 (.exit 0)))
 (.seq
 (.blk 1
 (.reg [
 iM 18 3,
 iM 19 0,
 iM 20 4,
 iP 21 (.ia 1 (.t 19) (.t 20)),
 iL 22 21,
 iP 23 (.mm true .i64 (.t 18) (.t 22)),
 iM 3 23]))
 (.reg [
 iM 16 4,
 iP 17 (.bin .add (.i .i64) (.t 16) (.c (i64 1))),
 iM 4 17])))
def i90:IC :=
 (.seq
 (.reg [
 iP 2 (.mov (.c (i64 0)))])
 (.seq
 (.seq
 (.reg [
 iM 5 0,
 iP 6 (.len (.t 5)),
 iP 7 (.bin .lss (.i .i64) (.t 6) (.c (i64 1)))])
 (.cond (.t 7)
 (.reg [
 iP 8 (.mki 9 (.c (st ⟨#[115,108,105,99,101,115,46,77,97,120,58,32,101,109,112,116,121,32,108,105,115,116]⟩))),
 ⟨none,none,.e (.pan (.t 8))⟩])
 .skip))
 (.seq
 (.reg [
 iM 9 0,
 iP 10 (.ia 1 (.t 9) (.c (i64 0))),
 iL 11 10,
 iM 3 11])
 (.seq
 (.seq
 (.reg [
 iP 4 (.mov (.c (i64 1)))])
 (.blk 0
 (.loop l90_0)))
 (.seq
 (.reg [
 iM 24 3,
 iM 2 24])
 .ret)))))
def r90:List RS:=[.t 2]
theorem c90:chkF Try.prog drawB Try.f90 i90 r90=true:=by kernel_rfl
def l91_0:IC:=.keep [0,3,4]
 (.seq
 (.seq
 (.reg [
 iM 22 4,
 iP 23 (.bin .geq (.i .i64) (.t 22) (.c (i64 0)))])
 (.cond (.t 23)
 .skip
 (.exit 0)))
 (.seq
 (.blk 1
 (.seq
 (.reg [
 iM 26 0,
 iP 27 (.nck (.t 26)),
 iF 28 0 27,
 iF 29 1 28,
 iL 30 29,
 iM 31 4,
 iP 32 (.ia 6 (.t 30) (.t 31)),
 iP 33 (.ldn 6 (.t 32)),
 iE 5 (.alc 59 [i64 0,i64 0,i64 0,.val (.slice none 0 0),.val (.slice none 0 0),.val (.slice none 0 0)]),
 ⟨none,none,.e (.st 6 (.t 5) (.t 33))⟩])
 (.seq
 (.reg [
 iF 34 0 5,
 iL 35 34,
 iP 36 (.bin .eql (.i .i64) (.t 35) (.c (i64 2)))])
 (.cond (.t 36)
 (.reg [
 iM 37 3,
 iF 38 2 5,
 iL 39 38,
 iM 40 4,
 iP 41 (.bin .add (.i .i64) (.t 40) (.c (i64 1))),
 iP 42 (.ia 1 (.t 37) (.t 39)),
 ⟨none,none,.e (.st 1 (.t 42) (.t 41))⟩])
 .skip))))
 (.reg [
 iM 24 4,
 iP 25 (.bin .sub (.i .i64) (.t 24) (.c (i64 1))),
 iM 4 25])))
def l91_1:IC:=.keep [0,3,47,48,49]
 (.seq
 (.reg [
 iP 50 (.bin .lss (.i .i64) (.t 49) (.t 48))])
 (.seq
 (.cond (.t 50)
 .skip
 (.exit 2))
 (.seq
 (.blk 3
 (.seq
 (.reg [
 iP 51 (.ia 6 (.t 47) (.t 49)),
 iP 52 (.ldn 6 (.t 51)),
 iE 7 (.alc 59 [i64 0,i64 0,i64 0,.val (.slice none 0 0),.val (.slice none 0 0),.val (.slice none 0 0)]),
 ⟨none,none,.e (.st 6 (.t 7) (.t 52))⟩])
 (.seq
 (.drw [0,1,2,3,4,5,6,7,8,9,10,11,12,13,14,15,16,17,18,19,20] [
 iF 53 0 7,
 iL 54 53,
 iP 55 (.bin .eql (.i .i64) (.t 54) (.c (i64 2))),
 iM 56 55,
 iG 57 56 true (.mov (.t 0)),
 iG 58 56 true (.nck (.t 57)),
 iG 59 56 true (.fa 0 (.t 58)),
 iG 60 56 true (.fa 2 (.t 59)),
 iG 61 56 true (.ld1 (.t 60)),
 iG 62 56 true (.fa 2 (.t 7)),
 iG 63 56 true (.ld1 (.t 62)),
 iG 64 56 true (.ia 2 (.t 61) (.t 63)),
 iG 65 56 true (.ldn 2 (.t 64)),
 iG 66 56 true (.fa 1 (.t 7)),
 iG 67 56 true (.ld1 (.t 66)),
 iG 68 56 true (.fa 3 (.t 7)),
 iG 69 56 true (.ld1 (.t 68)),
 iG 70 56 true (.len (.t 69)),
 iG 71 56 true (.bld [i64 0,i64 0] [(0,1,(.t 67)),(1,1,(.t 70))]),
 iG 72 56 true (.eqf true [.i .i64,.i .i64] (.t 65) (.t 71)),
 iP 73 (.pick (.t 56) (.t 72) (.c (bl false)))])
 (.cond (.t 73)
 (.seq
 (.reg [
 iP 2 (.mov (.c (i64 10)))])
 .ret)
 .skip))))
 (.reg [
 iP 74 (.bin .add (.i .i64) (.t 49) (.c (i64 1))),
 iM 49 74]))))
def i91:IC :=
 (.seq
 (.reg [
 iP 2 (.mov (.c (i64 0)))])
 (.seq
 (.reg [
 iM 8 0,
 iP 9 (.nck (.t 8)),
 iF 10 0 9,
 iF 11 2 10,
 iL 12 11,
 iP 13 (.len (.t 12)),
 iE 14 (.mks 3 1 8 [i64 0] (.t 13) (.t 13)),
 iM 3 14])
 (.seq
 (.seq
 (.reg [
 iM 15 0,
 iP 16 (.nck (.t 15)),
 iF 17 0 16,
 iF 18 1 17,
 iL 19 18,
 iP 20 (.len (.t 19)),
 iP 21 (.bin .sub (.i .i64) (.t 20) (.c (i64 1))),
 iM 4 21])
 (.blk 0
 (.loop l91_0)))
 (.seq
 (.seq
 (.reg [
 iM 43 0,
 iP 44 (.nck (.t 43)),
 iF 45 0 44,
 iF 46 1 45,
 iL 47 46,
 iP 48 (.len (.t 47)),
 iP 49 (.mov (.c (i64 0)))])
 (.blk 2
 (.loop l91_1)))
 (.seq
 (.seq
 (.reg [
 iM 75 3,
 iC 76 105 [.t 75,(.c (i64 0))]])
 (.cond (.t 76)
 (.seq
 (.reg [
 iP 2 (.mov (.c (i64 18)))])
 .ret)
 .skip))
 (.seq
 (.seq
 (.reg [
 iM 77 3,
 iC 78 106 [.t 77],
 iP 79 (.not (.t 78))])
 (.cond (.t 79)
 (.seq
 (.reg [
 iP 2 (.mov (.c (i64 9)))])
 .ret)
 .skip))
 (.seq
 (.reg [
 iP 2 (.mov (.c (i64 0)))])
 .ret)))))))
def r91:List RS:=[.t 2]
theorem c91:chkF Try.prog drawB Try.f91 i91 r91=true:=by kernel_rfl
def i92:IC :=
 (.seq
 (.reg [
 iP 4 (.mov (.c (bl false)))])
 (.seq
 (.reg [
 iM 5 0,
 iM 6 1,
 iC 7 107 [.t 5,.t 6],
 iP 8 (.bin .geq (.i .i64) (.t 7) (.c (i64 0))),
 iM 4 8])
 .ret))
def r92:List RS:=[.t 4]
theorem c92:chkF Try.prog drawB Try.f92 i92 r92=true:=by kernel_rfl
def i93:IC :=
 (.seq
 (.reg [
 iP 4 (.mov (.c (bl false)))])
 (.seq
 (.reg [
 iM 5 0,
 iL 6 1,
 iP 7 (.bin .lss (.i .i64) (.t 5) (.t 6)),
 iM 8 7,
 iG 9 8 false (.mov (.t 0)),
 iG 10 8 false (.ld1 (.t 2)),
 iG 11 8 false (.bin .gtr (.i .i64) (.t 9) (.t 10)),
 iP 12 (.pick (.t 8) (.c (bl true)) (.t 11)),
 iM 4 12])
 .ret))
def r93:List RS:=[.t 4]
theorem c93:chkF Try.prog drawB Try.f93 i93 r93=true:=by kernel_rfl
def i94:IC :=
 (.seq
 (.reg [
 iE 3 (.box 123 (.t 0)),
 iP 6 (.mov (.c (.val (.slice none 0 0))))])
 (.seq
 (.reg [
 iE 7 (.alc 142 [.val (.slice none 0 0)])])
 (.seq
 (.reg [
 iL 8 3,
 iM 9 1,
 iM 10 2,
 iP 11 (.mkf (.func 108) [] [(.t 7),(.t 3)]),
 iC 12 95 [.t 8,.t 9,.t 10,.t 11]])
 (.seq
 (.reg [
 iL 13 7,
 iC 14 109 [.t 13]])
 (.seq
 (.reg [
 iL 15 7,
 iM 6 15])
 .ret)))))
def r94:List RS:=[.t 6]
theorem c94:chkF Try.prog drawB Try.f94 i94 r94=true:=by kernel_rfl
def l95_0:IC:=.keep [0,1,2,3,8]
 (.seq
 (.seq
 (.reg [
 iM 17 8,
 iP 18 (.bin .geq (.i .i64) (.t 17) (.c (i64 0)))])
 (.cond (.t 18)
 .skip
 (.exit 0)))
 (.seq
 (.blk 1
 (.seq
 (.reg [
 iM 27 0,
 iP 28 (.nck (.t 27)),
 iF 29 0 28,
 iF 30 1 29,
 iL 31 30,
 iM 32 8,
 iP 33 (.ia 6 (.t 31) (.t 32)),
 iP 34 (.ldn 6 (.t 33)),
 iE 9 (.alc 59 [i64 0,i64 0,i64 0,.val (.slice none 0 0),.val (.slice none 0 0),.val (.slice none 0 0)]),
 ⟨none,none,.e (.st 6 (.t 9) (.t 34))⟩])
 (.seq
 (.reg [
 iF 35 0 9,
 iL 36 35,
 iP 37 (.bin .eql (.i .i64) (.t 36) (.c (i64 2))),
 iM 38 37,
 iG 39 38 true (.fa 1 (.t 9)),
 iG 40 38 true (.ld1 (.t 39)),
 iG 41 38 true (.mov (.t 2)),
 iG 42 38 true (.bin .eql (.i .i64) (.t 40) (.t 41)),
 iP 43 (.pick (.t 38) (.t 42) (.c (bl false))),
 iM 44 43,
 iG 45 44 true (.mov (.t 3)),
 iG 46 44 true (.mov (.t 8)),
 iG 47 44 true (.fa 3 (.t 9)),
 iG 48 44 true (.ld1 (.t 47)),
 iG 49 44 true (.mov (.t 1)),
 ⟨(some 50),(some (44,true)),.q (.c (.fn (.func 110) [] [])) [(.t 48),(.t 49)]⟩,
 ⟨(some 51),(some (44,true)),.e (.call (.t 45) [(.t 46),(.t 50)])⟩,
 iG 52 44 true (.not (.t 51)),
 iP 53 (.pick (.t 44) (.t 52) (.c (bl false)))])
 (.cond (.t 53)
 .ret
 .skip))))
 (.drt 9 [0,1,2,3,4,5,6,7,8] [
 iM 19 8,
 iM 20 0,
 iP 21 (.nck (.t 20)),
 iF 22 3 21,
 iL 23 22,
 iM 24 8,
 iP 25 (.ia 1 (.t 23) (.t 24)),
 iL 26 25,
 iM 1 19] [
 iM 8 26])))
def i95:IC :=
 (.seq
 (.reg [
 iM 10 0,
 iP 11 (.nck (.t 10)),
 iF 12 3 11,
 iL 13 12,
 iM 14 1,
 iP 15 (.ia 1 (.t 13) (.t 14)),
 iL 16 15,
 iM 8 16])
 (.blk 0
 (.loop l95_0)))
def r95:List RS:=[]
theorem c95:chkF Try.prog drawB Try.f95 i95 r95=true:=by kernel_rfl
def i96:IC :=
 (.seq
 (.reg [
 iP 7 (.mov (.c (bl false)))])
 (.seq
 (.seq
 (.drw [0,1,2,3,4,5,6,7,8,9,10,11] [
 iF 8 0 2,
 iL 9 8,
 iP 10 (.nck (.t 9)),
 iF 11 0 10,
 iF 12 1 11,
 iL 13 12,
 iM 14 0,
 iP 15 (.ia 6 (.t 13) (.t 14)),
 iF 16 2 15,
 iL 17 16,
 iL 18 3,
 iP 19 (.bin .eql (.i .i64) (.t 17) (.t 18))])
 (.cond (.t 19)
 (.reg [
 iM 20 0,
 ⟨none,none,.e (.st 1 (.t 4) (.t 20))⟩])
 .skip))
 (.seq
 (.reg [
 iL 21 4,
 iP 22 (.bin .lss (.i .i64) (.t 21) (.c (i64 0))),
 iM 7 22])
 .ret)))
def r96:List RS:=[.t 7]
theorem c96:chkF Try.prog drawB Try.f96 i96 r96=true:=by kernel_rfl
def i97:IC :=
 (.seq
 (.reg [
 iP 4 (.mov (.c (bl false)))])
 (.seq
 (.reg [
 iM 5 0,
 iM 6 1,
 iC 7 111 [.t 5,.t 6],
 iM 4 7])
 .ret))
def r97:List RS:=[.t 4]
theorem c97:chkF Try.prog drawB Try.f97 i97 r97=true:=by kernel_rfl
def l98_1:IC:=.keep [0,1,2,3,8,9]
 (.seq
 (.seq
 (.drw [0,1,2,3,4,5,6,7,8,9,10,11,12,13,14,15,16] [
 iM 18 9,
 iM 19 1,
 iP 20 (.bin .gtr (.i .i64) (.t 18) (.t 19)),
 iM 21 20,
 iG 22 21 true (.mov (.t 3)),
 iG 23 21 true (.mov (.t 0)),
 iG 24 21 true (.mov (.t 9)),
 iG 25 21 true (.ia 1 (.t 23) (.t 24)),
 iG 26 21 true (.ld1 (.t 25)),
 iG 27 21 true (.mov (.t 0)),
 iG 28 21 true (.mov (.t 9)),
 iG 29 21 true (.bin .sub (.i .i64) (.t 28) (.c (i64 1))),
 iG 30 21 true (.ia 1 (.t 27) (.t 29)),
 iG 31 21 true (.ld1 (.t 30)),
 ⟨(some 32),(some (21,true)),.e (.call (.t 22) [(.t 26),(.t 31)])⟩,
 iG 33 21 true (.bin .lss (.i .i64) (.t 32) (.c (i64 0))),
 iP 34 (.pick (.t 21) (.t 33) (.c (bl false)))])
 (.cond (.t 34)
 .skip
 (.exit 2)))
 (.seq
 (.blk 3
 (.drw [0,1,2,3,4,5,6,7,8,9,10,11,12,13,14,15,16,17] [
 iM 37 0,
 iM 38 9,
 iM 39 0,
 iM 40 9,
 iP 41 (.bin .sub (.i .i64) (.t 40) (.c (i64 1))),
 iM 42 0,
 iM 43 9,
 iP 44 (.bin .sub (.i .i64) (.t 43) (.c (i64 1))),
 iP 45 (.ia 1 (.t 42) (.t 44)),
 iL 46 45,
 iM 47 0,
 iM 48 9,
 iP 49 (.ia 1 (.t 47) (.t 48)),
 iL 50 49,
 iP 51 (.ia 1 (.t 37) (.t 38)),
 ⟨none,none,.e (.stw [50] 1 (.t 51) (.t 46))⟩,
 iP 52 (.ia 1 (.t 39) (.t 41)),
 ⟨none,none,.e (.stw [46] 1 (.t 52) (.t 50))⟩]))
 (.reg [
 iM 35 9,
 iP 36 (.bin .sub (.i .i64) (.t 35) (.c (i64 1))),
 iM 9 36])))
def l98_0:IC:=.keep [0,1,2,3,8]
 (.seq
 (.seq
 (.reg [
 iM 12 8,
 iM 13 2,
 iP 14 (.bin .lss (.i .i64) (.t 12) (.t 13))])
 (.cond (.t 14)
 .skip
 (.exit 0)))
 (.seq
 (.blk 1
 (.seq
 (.reg [
 iM 17 8,
 iM 9 17])
 (.blk 2
 (.loop l98_1))))
 (.reg [
 iM 15 8,
 iP 16 (.bin .add (.i .i64) (.t 15) (.c (i64 1))),
 iM 8 16])))
def i98:IC :=
 (.seq
 (.reg [
 iM 10 1,
 iP 11 (.bin .add (.i .i64) (.t 10) (.c (i64 1))),
 iM 8 11])
 (.blk 0
 (.loop l98_0)))
def r98:List RS:=[]
theorem c98:chkF Try.prog drawB Try.f98 i98 r98=true:=by kernel_rfl
def l100_2:IC:=.keep [1,3,4,5,6,7,8,9,10]
 (.seq
 (.seq
 (.reg [
 iM 47 10,
 iP 48 (.bin .geq (.i .i64) (.t 47) (.c (i64 0)))])
 (.cond (.t 48)
 .skip
 (.exit 4)))
 (.seq
 (.blk 5
 (.seq
 (.reg [
 iF 53 1 1,
 iL 54 53,
 iM 55 10,
 iP 56 (.ia 6 (.t 54) (.t 55)),
 iF 57 0 56,
 iL 58 57,
 iP 59 (.bin .eql (.i .i64) (.t 58) (.c (i64 2))),
 iM 60 59,
 iG 61 60 true (.fa 1 (.t 1)),
 iG 62 60 true (.ld1 (.t 61)),
 iG 63 60 true (.mov (.t 10)),
 iG 64 60 true (.ia 6 (.t 62) (.t 63)),
 iG 65 60 true (.fa 2 (.t 64)),
 iG 66 60 true (.ld1 (.t 65)),
 iG 67 60 true (.mov (.t 6)),
 iG 68 60 true (.bin .eql (.i .i64) (.t 66) (.t 67)),
 iP 69 (.pick (.t 60) (.t 68) (.c (bl false)))])
 (.cond (.t 69)
 (.seq
 (.reg [
 iM 70 3,
 iM 71 9,
 iM 72 6,
 iM 73 10,
 iP 74 (.bld [i64 0,i64 0,i64 0,i64 0] [(0,1,(.c (i64 1))),(1,1,(.t 71)),(2,1,(.t 72)),(3,1,(.t 73))]),
 iE 75 (.bsl 128 4 1 [i64 0,i64 0,i64 0,i64 0] [(0,(.t 74))]),
 iE 76 (.app 128 4 32 (.t 70) (.t 75)),
 iM 3 76])
 (.exit 4))
 .skip)))
 (.reg [
 iM 49 4,
 iM 50 10,
 iP 51 (.ia 1 (.t 49) (.t 50)),
 iL 52 51,
 iM 10 52])))
def l100_1:IC:=.keep [1,3,4,5,6,7,8]
 (.seq
 (.seq
 (.reg [
 iM 27 8,
 iM 28 5,
 iM 29 6,
 iP 30 (.ia 1 (.t 28) (.t 29)),
 iL 31 30,
 iP 32 (.len (.t 31)),
 iP 33 (.bin .lss (.i .i64) (.t 27) (.t 32))])
 (.cond (.t 33)
 .skip
 (.exit 2)))
 (.seq
 (.blk 3
 (.seq
 (.reg [
 iM 36 5,
 iM 37 6,
 iP 38 (.ia 1 (.t 36) (.t 37)),
 iL 39 38,
 iM 40 8,
 iP 41 (.ia 1 (.t 39) (.t 40)),
 iL 42 41,
 iM 9 42])
 (.seq
 (.seq
 (.reg [
 iM 43 4,
 iM 44 9,
 iP 45 (.ia 1 (.t 43) (.t 44)),
 iL 46 45,
 iM 10 46])
 (.blk 4
 (.loop l100_2)))
 (.seq
 (.drw [0,1,2,3,4,5,6,7,8,9,10,11,12,13,14] [
 iP 77 (.ldn 3 (.t 1)),
 iM 78 9,
 iM 79 7,
 ⟨(some 80),none,.q (.c (.fn (.func 87) [] [])) [(.t 77),(.t 78),(.t 79)]⟩,
 iP 81 (.ldn 3 (.t 1)),
 iM 82 5,
 iM 83 6,
 iP 84 (.ia 1 (.t 82) (.t 83)),
 iL 85 84,
 iP 86 (.ia 1 (.t 85) (.c (i64 0))),
 iL 87 86,
 iM 88 7,
 ⟨(some 89),none,.q (.c (.fn (.func 87) [] [])) [(.t 81),(.t 87),(.t 88)]⟩,
 ⟨(some 90),none,.q (.c (.fn (.func 113) [] [])) [(.t 80),(.t 89)]⟩,
 iP 91 (.not (.t 90))])
 (.cond (.t 91)
 (.reg [
 iM 92 3,
 iM 93 9,
 iM 94 6,
 iM 95 5,
 iM 96 6,
 iP 97 (.ia 1 (.t 95) (.t 96)),
 iL 98 97,
 iP 99 (.ia 1 (.t 98) (.c (i64 0))),
 iL 100 99,
 iP 101 (.bld [i64 0,i64 0,i64 0,i64 0] [(0,1,(.c (i64 2))),(1,1,(.t 93)),(2,1,(.t 94)),(3,1,(.t 100))]),
 iE 102 (.bsl 128 4 1 [i64 0,i64 0,i64 0,i64 0] [(0,(.t 101))]),
 iE 103 (.app 128 4 32 (.t 92) (.t 102)),
 iM 3 103])
 .skip)))))
 (.reg [
 iM 34 8,
 iP 35 (.bin .add (.i .i64) (.t 34) (.c (i64 1))),
 iM 8 35])))
def l100_0:IC:=.keep [1,3,4,5,6]
 (.seq
 (.seq
 (.reg [
 iM 15 6,
 iM 16 5,
 iP 17 (.len (.t 16)),
 iP 18 (.bin .lss (.i .i64) (.t 15) (.t 17))])
 (.cond (.t 18)
 .skip
 (.exit 0)))
 (.seq
 (.blk 1
 (.seq
 (.reg [
 iF 21 2 1,
 iL 22 21,
 iM 23 6,
 iP 24 (.ia 2 (.t 22) (.t 23)),
 iF 25 0 24,
 iL 26 25,
 iM 7 26])
 (.seq
 (.reg [
 iP 8 (.mov (.c (i64 0)))])
 (.blk 2
 (.loop l100_1)))))
 (.reg [
 iM 19 6,
 iP 20 (.bin .add (.i .i64) (.t 19) (.c (i64 1))),
 iM 6 20])))
def i100:IC :=
 (.seq
 (.reg [
 iE 1 (.box 25 (.t 0)),
 iP 2 (.mov (.c (.val (.slice none 0 0))))])
 (.seq
 (.reg [
 iE 3 (.nil 128 4 (.c (.val (.slice none 0 0))))])
 (.seq
 (.reg [
 iP 11 (.ldn 3 (.t 1)),
 iC 12 101 [.t 11],
 iM 4 12])
 (.seq
 (.reg [
 iP 13 (.ldn 3 (.t 1)),
 iC 14 85 [.t 13],
 iM 5 14])
 (.seq
 (.seq
 (.reg [
 iP 6 (.mov (.c (i64 0)))])
 (.blk 0
 (.loop l100_0)))
 (.seq
 (.reg [
 iM 104 3,
 iM 2 104])
 .ret))))))
def r100:List RS:=[.t 2]
theorem c100:chkF Try.prog drawB Try.f100 i100 r100=true:=by kernel_rfl
def l101_1:IC:=.keep [1,3,4,5]
 (.seq
 (.seq
 (.reg [
 iM 19 5,
 iF 20 1 1,
 iL 21 20,
 iM 22 4,
 iP 23 (.ia 6 (.t 21) (.t 22)),
 iF 24 3 23,
 iL 25 24,
 iP 26 (.len (.t 25)),
 iP 27 (.bin .lss (.i .i64) (.t 19) (.t 26))])
 (.cond (.t 27)
 .skip
 (.exit 2)))
 (.seq
 (.blk 3
 (.reg [
 iM 30 3,
 iF 31 1 1,
 iL 32 31,
 iM 33 4,
 iP 34 (.ia 6 (.t 32) (.t 33)),
 iF 35 3 34,
 iL 36 35,
 iM 37 5,
 iP 38 (.ia 1 (.t 36) (.t 37)),
 iL 39 38,
 iM 40 4,
 iP 41 (.ia 1 (.t 30) (.t 39)),
 ⟨none,none,.e (.st 1 (.t 41) (.t 40))⟩]))
 (.reg [
 iM 28 5,
 iP 29 (.bin .add (.i .i64) (.t 28) (.c (i64 1))),
 iM 5 29])))
def l101_0:IC:=.keep [1,3,4]
 (.seq
 (.seq
 (.reg [
 iM 12 4,
 iF 13 1 1,
 iL 14 13,
 iP 15 (.len (.t 14)),
 iP 16 (.bin .lss (.i .i64) (.t 12) (.t 15))])
 (.cond (.t 16)
 .skip
 (.exit 0)))
 (.seq
 (.blk 1
 (.seq
 (.reg [
 iP 5 (.mov (.c (i64 0)))])
 (.blk 2
 (.loop l101_1))))
 (.reg [
 iM 17 4,
 iP 18 (.bin .add (.i .i64) (.t 17) (.c (i64 1))),
 iM 4 18])))
def i101:IC :=
 (.seq
 (.reg [
 iE 1 (.box 25 (.t 0)),
 iP 2 (.mov (.c (.val (.slice none 0 0))))])
 (.seq
 (.reg [
 iF 6 1 1,
 iL 7 6,
 iP 8 (.len (.t 7)),
 iE 9 (.mks 3 1 8 [i64 0] (.t 8) (.t 8)),
 iM 3 9])
 (.seq
 (.reg [
 iM 10 3,
 iP 11 (.ia 1 (.t 10) (.c (i64 0))),
 ⟨none,none,.e (.st 1 (.t 11) (.c (i64 (-1))))⟩])
 (.seq
 (.seq
 (.reg [
 iP 4 (.mov (.c (i64 0)))])
 (.blk 0
 (.loop l101_0)))
 (.seq
 (.reg [
 iM 42 3,
 iM 2 42])
 .ret)))))
def r101:List RS:=[.t 2]
theorem c101:chkF Try.prog drawB Try.f101 i101 r101=true:=by kernel_rfl
def i102:IC :=
 (.seq
 (.reg [
 iE 3 (.box 59 (.t 1)),
 iP 4 (.mov (.c (i64 0)))])
 (.seq
 (.seq
 (.reg [
 iF 5 1 3,
 iL 6 5,
 iP 7 (.bin .neq (.i .i64) (.t 6) (.c (i64 0))),
 iM 8 7,
 iG 9 8 false (.fa 2 (.t 3)),
 iG 10 8 false (.ld1 (.t 9)),
 iG 11 8 false (.bin .neq (.i .i64) (.t 10) (.c (i64 0))),
 iP 12 (.pick (.t 8) (.c (bl true)) (.t 11)),
 iM 13 12,
 iG 14 13 false (.fa 5 (.t 3)),
 iG 15 13 false (.ld1 (.t 14)),
 iG 16 13 false (.len (.t 15)),
 iG 17 13 false (.bin .gtr (.i .i64) (.t 16) (.c (i64 0))),
 iP 18 (.pick (.t 13) (.c (bl true)) (.t 17)),
 iM 19 18,
 iG 20 19 false (.fa 3 (.t 3)),
 iG 21 19 false (.ld1 (.t 20)),
 iG 22 19 false (.len (.t 21)),
 iG 23 19 false (.bin .lss (.i .i64) (.t 22) (.c (i64 1))),
 iP 24 (.pick (.t 19) (.c (bl true)) (.t 23)),
 iM 25 24,
 iG 26 25 false (.fa 3 (.t 3)),
 iG 27 25 false (.ld1 (.t 26)),
 iG 28 25 false (.len (.t 27)),
 iG 29 25 false (.bin .gtr (.i .i64) (.t 28) (.c (i64 60))),
 iP 30 (.pick (.t 25) (.c (bl true)) (.t 29)),
 iM 31 30,
 iG 32 31 false (.fa 4 (.t 3)),
 iG 33 31 false (.ld1 (.t 32)),
 iG 34 31 false (.len (.t 33)),
 iG 35 31 false (.fa 3 (.t 3)),
 iG 36 31 false (.ld1 (.t 35)),
 iG 37 31 false (.len (.t 36)),
 iG 38 31 false (.bin .neq (.i .i64) (.t 34) (.t 37)),
 iP 39 (.pick (.t 31) (.c (bl true)) (.t 38))])
 (.cond (.t 39)
 (.seq
 (.reg [
 iP 4 (.mov (.c (i64 3)))])
 .ret)
 .skip))
 (.seq
 (.reg [
 iF 40 4 3,
 iL 41 40,
 iC 42 77 [(.c (i64 1)),(.c (i64 1000)),.t 41],
 iM 4 42])
 .ret)))
def r102:List RS:=[.t 4]
theorem c102:chkF Try.prog drawB Try.f102 i102 r102=true:=by kernel_rfl
def i103:IC :=
 (.seq
 (.reg [
 iE 3 (.box 59 (.t 1)),
 iP 4 (.mov (.c (i64 0)))])
 (.seq
 (.seq
 (.reg [
 iF 6 4 3,
 iL 7 6,
 iP 8 (.len (.t 7)),
 iP 9 (.bin .gtr (.i .i64) (.t 8) (.c (i64 0))),
 iM 10 9,
 iG 11 10 false (.fa 5 (.t 3)),
 iG 12 10 false (.ld1 (.t 11)),
 iG 13 10 false (.len (.t 12)),
 iG 14 10 false (.bin .gtr (.i .i64) (.t 13) (.c (i64 0))),
 iP 15 (.pick (.t 10) (.c (bl true)) (.t 14)),
 iM 16 15,
 iG 17 16 false (.fa 3 (.t 3)),
 iG 18 16 false (.ld1 (.t 17)),
 iG 19 16 false (.len (.t 18)),
 iG 20 16 false (.bin .lss (.i .i64) (.t 19) (.c (i64 1))),
 iP 21 (.pick (.t 16) (.c (bl true)) (.t 20)),
 iM 22 21,
 iG 23 22 false (.fa 3 (.t 3)),
 iG 24 22 false (.ld1 (.t 23)),
 iG 25 22 false (.len (.t 24)),
 iG 26 22 false (.bin .gtr (.i .i64) (.t 25) (.c (i64 10))),
 iP 27 (.pick (.t 22) (.c (bl true)) (.t 26))])
 (.cond (.t 27)
 (.seq
 (.reg [
 iP 4 (.mov (.c (i64 3)))])
 .ret)
 .skip))
 (.seq
 (.seq
 (.drw [0,1,2,3,4,5,6,7,8,9,10] [
 iM 28 0,
 iP 29 (.nck (.t 28)),
 iF 30 0 29,
 iF 31 0 30,
 iL 32 31,
 iP 33 (.bin .sub (.i .i64) (.t 32) (.c (i64 1))),
 iF 34 1 3,
 iL 35 34,
 iE 36 (.bsl 3 1 1 [i64 0] [(0,(.t 35))]),
 ⟨(some 37),none,.q (.c (.fn (.func 77) [] [])) [(.c (i64 0)),(.t 33),(.t 36)]⟩,
 iM 5 37])
 (.seq
 (.reg [
 iM 38 5,
 iP 39 (.bin .neq (.i .i64) (.t 38) (.c (i64 0)))])
 (.cond (.t 39)
 (.seq
 (.reg [
 iM 40 5,
 iM 4 40])
 .ret)
 .skip)))
 (.seq
 (.drw [0,1,2,3,4,5,6,7,8,9,10,11] [
 iM 41 0,
 iP 42 (.nck (.t 41)),
 iF 43 0 42,
 iF 44 2 43,
 iL 45 44,
 iP 46 (.len (.t 45)),
 iP 47 (.bin .sub (.i .i64) (.t 46) (.c (i64 1))),
 iF 48 2 3,
 iL 49 48,
 iE 50 (.bsl 3 1 1 [i64 0] [(0,(.t 49))]),
 ⟨(some 51),none,.q (.c (.fn (.func 77) [] [])) [(.c (i64 0)),(.t 47),(.t 50)]⟩,
 iM 4 51])
 .ret))))
def r103:List RS:=[.t 4]
theorem c103:chkF Try.prog drawB Try.f103 i103 r103=true:=by kernel_rfl
def i104:IC :=
 (.seq
 (.reg [
 iE 3 (.box 59 (.t 1)),
 iP 4 (.mov (.c (i64 0)))])
 (.seq
 (.seq
 (.drw [0,1,2,3,4,5,6,7,8,9,10,11,12,13,14,15,16,17,18,19,20,21,22,23,24,25,26,27,28,29,30] [
 iF 5 1 3,
 iL 6 5,
 iP 7 (.bin .neq (.i .i64) (.t 6) (.c (i64 0))),
 iM 8 7,
 iG 9 8 false (.fa 2 (.t 3)),
 iG 10 8 false (.ld1 (.t 9)),
 iG 11 8 false (.bin .neq (.i .i64) (.t 10) (.c (i64 0))),
 iP 12 (.pick (.t 8) (.c (bl true)) (.t 11)),
 iM 13 12,
 iG 14 13 false (.fa 3 (.t 3)),
 iG 15 13 false (.ld1 (.t 14)),
 iG 16 13 false (.len (.t 15)),
 iG 17 13 false (.bin .gtr (.i .i64) (.t 16) (.c (i64 0))),
 iP 18 (.pick (.t 13) (.c (bl true)) (.t 17)),
 iM 19 18,
 iG 20 19 false (.fa 4 (.t 3)),
 iG 21 19 false (.ld1 (.t 20)),
 iG 22 19 false (.len (.t 21)),
 iG 23 19 false (.bin .gtr (.i .i64) (.t 22) (.c (i64 0))),
 iP 24 (.pick (.t 19) (.c (bl true)) (.t 23)),
 iM 25 24,
 iG 26 25 false (.fa 5 (.t 3)),
 iG 27 25 false (.ld1 (.t 26)),
 iG 28 25 false (.len (.t 27)),
 iG 29 25 false (.mov (.t 0)),
 iG 30 25 false (.nck (.t 29)),
 iG 31 25 false (.fa 0 (.t 30)),
 iG 32 25 false (.fa 0 (.t 31)),
 iG 33 25 false (.ld1 (.t 32)),
 iG 34 25 false (.bin .neq (.i .i64) (.t 28) (.t 33)),
 iP 35 (.pick (.t 25) (.c (bl true)) (.t 34))])
 (.cond (.t 35)
 (.seq
 (.reg [
 iP 4 (.mov (.c (i64 3)))])
 .ret)
 .skip))
 (.seq
 (.reg [
 iF 36 5 3,
 iL 37 36,
 iC 38 77 [(.c (i64 (-1000000))),(.c (i64 1000000)),.t 37],
 iM 4 38])
 .ret)))
def r104:List RS:=[.t 4]
theorem c104:chkF Try.prog drawB Try.f104 i104 r104=true:=by kernel_rfl
def i105:IC :=
 (.seq
 (.reg [
 iP 4 (.mov (.c (bl false)))])
 (.seq
 (.reg [
 iM 5 0,
 iM 6 1,
 iC 7 110 [.t 5,.t 6],
 iP 8 (.bin .geq (.i .i64) (.t 7) (.c (i64 0))),
 iM 4 8])
 .ret))
def r105:List RS:=[.t 4]
theorem c105:chkF Try.prog drawB Try.f105 i105 r105=true:=by kernel_rfl
def l106_0:IC:=.keep [0,3]
 (.seq
 (.seq
 (.reg [
 iM 7 3,
 iP 8 (.bin .gtr (.i .i64) (.t 7) (.c (i64 0)))])
 (.cond (.t 8)
 .skip
 (.exit 0)))
 (.seq
 (.blk 1
 (.seq
 (.drw [0,1,2,3,4,5,6,7,8,9] [
 iM 11 0,
 iM 12 3,
 iP 13 (.ia 1 (.t 11) (.t 12)),
 iL 14 13,
 iM 15 0,
 iM 16 3,
 iP 17 (.bin .sub (.i .i64) (.t 16) (.c (i64 1))),
 iP 18 (.ia 1 (.t 15) (.t 17)),
 iL 19 18,
 ⟨(some 20),none,.q (.c (.fn (.func 114) [] [])) [(.t 14),(.t 19)]⟩])
 (.cond (.t 20)
 (.seq
 (.reg [
 iP 2 (.mov (.c (bl false)))])
 .ret)
 .skip)))
 (.reg [
 iM 9 3,
 iP 10 (.bin .sub (.i .i64) (.t 9) (.c (i64 1))),
 iM 3 10])))
def i106:IC :=
 (.seq
 (.reg [
 iP 2 (.mov (.c (bl false)))])
 (.seq
 (.seq
 (.reg [
 iM 4 0,
 iP 5 (.len (.t 4)),
 iP 6 (.bin .sub (.i .i64) (.t 5) (.c (i64 1))),
 iM 3 6])
 (.blk 0
 (.loop l106_0)))
 (.seq
 (.reg [
 iP 2 (.mov (.c (bl true)))])
 .ret)))
def r106:List RS:=[.t 2]
theorem c106:chkF Try.prog drawB Try.f106 i106 r106=true:=by kernel_rfl
def l107_0:IC:=.keep [0,1,7,8]
 (.seq
 (.reg [
 iP 9 (.bin .lss (.i .i64) (.t 8) (.t 7))])
 (.seq
 (.cond (.t 9)
 .skip
 (.exit 0))
 (.seq
 (.blk 1
 (.seq
 (.reg [
 iM 10 8,
 iM 5 10])
 (.seq
 (.reg [
 iM 11 1,
 iM 12 0,
 iM 13 5,
 iP 14 (.ia 1 (.t 12) (.t 13)),
 iL 15 14,
 iE 16 (.call (.t 11) [(.t 15)])])
 (.cond (.t 16)
 (.seq
 (.reg [
 iM 17 5,
 iM 4 17])
 .ret)
 .skip))))
 (.reg [
 iP 18 (.bin .add (.i .i64) (.t 8) (.c (i64 1))),
 iM 8 18]))))
def i107:IC :=
 (.seq
 (.reg [
 iP 4 (.mov (.c (i64 0)))])
 (.seq
 (.seq
 (.reg [
 iM 6 0,
 iP 7 (.len (.t 6)),
 iP 8 (.mov (.c (i64 0)))])
 (.blk 0
 (.loop l107_0)))
 (.seq
 (.reg [
 iP 4 (.mov (.c (i64 (-1))))])
 .ret)))
def r107:List RS:=[.t 4]
theorem c107:chkF Try.prog drawB Try.f107 i107 r107=true:=by kernel_rfl
def i108:IC :=
 (.seq
 (.reg [
 iP 6 (.mov (.c (bl false)))])
 (.seq
 (.drw [0,1,2,3,4,5,6,7,8,9,10,11,12,13,14] [
 iL 7 2,
 iL 8 3,
 iP 9 (.nck (.t 8)),
 iF 10 0 9,
 iF 11 1 10,
 iL 12 11,
 iM 13 0,
 iP 14 (.ia 6 (.t 12) (.t 13)),
 iF 15 2 14,
 iL 16 15,
 iM 17 1,
 iP 18 (.bld [i64 0,i64 0] [(0,1,(.t 16)),(1,1,(.t 17))]),
 iE 19 (.bsl 146 2 1 [i64 0,i64 0] [(0,(.t 18))]),
 iE 20 (.app 146 2 16 (.t 7) (.t 19)),
 ⟨none,none,.e (.stw [16,12,8,7] 1 (.t 2) (.t 20))⟩])
 (.seq
 (.reg [
 iP 6 (.mov (.c (bl true)))])
 .ret)))
def r108:List RS:=[.t 6]
theorem c108:chkF Try.prog drawB Try.f108 i108 r108=true:=by kernel_rfl
def l109_0:IC:=.keep [0,2,3]
 (.seq
 (.seq
 (.reg [
 iM 7 2,
 iM 8 3,
 iP 9 (.bin .lss (.i .i64) (.t 7) (.t 8))])
 (.cond (.t 9)
 .skip
 (.exit 0)))
 (.seq
 (.blk 1
 (.drw [0,1,2,3,4,5,6,7,8,9,10,11,12,13,14,15] [
 iM 14 0,
 iM 15 2,
 iM 16 0,
 iM 17 3,
 iM 18 0,
 iM 19 3,
 iP 20 (.ia 2 (.t 18) (.t 19)),
 iP 21 (.ldn 2 (.t 20)),
 iM 22 0,
 iM 23 2,
 iP 24 (.ia 2 (.t 22) (.t 23)),
 iP 25 (.ldn 2 (.t 24)),
 iP 26 (.ia 2 (.t 14) (.t 15)),
 ⟨none,none,.e (.stw [25] 2 (.t 26) (.t 21))⟩,
 iP 27 (.ia 2 (.t 16) (.t 17)),
 ⟨none,none,.e (.stw [21] 2 (.t 27) (.t 25))⟩]))
 (.reg [
 iM 10 2,
 iP 11 (.bin .add (.i .i64) (.t 10) (.c (i64 1))),
 iM 12 3,
 iP 13 (.bin .sub (.i .i64) (.t 12) (.c (i64 1))),
 iM 2 11,
 iM 3 13])))
def i109:IC :=
 (.seq
 (.reg [
 iM 4 0,
 iP 5 (.len (.t 4)),
 iP 6 (.bin .sub (.i .i64) (.t 5) (.c (i64 1))),
 iP 2 (.mov (.c (i64 0))),
 iM 3 6])
 (.blk 0
 (.loop l109_0)))
def r109:List RS:=[]
theorem c109:chkF Try.prog drawB Try.f109 i109 r109=true:=by kernel_rfl
def l110_0:IC:=.keep [0,1,7,8]
 (.seq
 (.reg [
 iP 9 (.bin .lss (.i .i64) (.t 8) (.t 7))])
 (.seq
 (.cond (.t 9)
 .skip
 (.exit 0))
 (.seq
 (.blk 1
 (.seq
 (.reg [
 iM 10 8,
 iM 5 10])
 (.seq
 (.reg [
 iM 11 1,
 iM 12 0,
 iM 13 5,
 iP 14 (.ia 1 (.t 12) (.t 13)),
 iL 15 14,
 iP 16 (.bin .eql (.i .i64) (.t 11) (.t 15))])
 (.cond (.t 16)
 (.seq
 (.reg [
 iM 17 5,
 iM 4 17])
 .ret)
 .skip))))
 (.reg [
 iP 18 (.bin .add (.i .i64) (.t 8) (.c (i64 1))),
 iM 8 18]))))
def i110:IC :=
 (.seq
 (.reg [
 iP 4 (.mov (.c (i64 0)))])
 (.seq
 (.seq
 (.reg [
 iM 6 0,
 iP 7 (.len (.t 6)),
 iP 8 (.mov (.c (i64 0)))])
 (.blk 0
 (.loop l110_0)))
 (.seq
 (.reg [
 iP 4 (.mov (.c (i64 (-1))))])
 .ret)))
def r110:List RS:=[.t 4]
theorem c110:chkF Try.prog drawB Try.f110 i110 r110=true:=by kernel_rfl
def l111_0:IC:=.keep [0,1,12,13]
 (.seq
 (.reg [
 iP 14 (.bin .lss (.i .i64) (.t 13) (.t 12))])
 (.seq
 (.cond (.t 14)
 .skip
 (.exit 0))
 (.seq
 (.blk 1
 (.seq
 (.reg [
 iM 15 13,
 iM 5 15])
 (.seq
 (.drw [0,1,2,3,4,5,6,7,8] [
 iM 16 0,
 iM 17 5,
 iP 18 (.ia 2 (.t 16) (.t 17)),
 iP 19 (.ldn 2 (.t 18)),
 iM 20 1,
 iM 21 5,
 iP 22 (.ia 2 (.t 20) (.t 21)),
 iP 23 (.ldn 2 (.t 22)),
 iP 24 (.eqf true [.i .i64,.i .i64] (.t 19) (.t 23))])
 (.cond (.t 24)
 (.seq
 (.reg [
 iP 4 (.mov (.c (bl false)))])
 .ret)
 .skip))))
 (.reg [
 iP 25 (.bin .add (.i .i64) (.t 13) (.c (i64 1))),
 iM 13 25]))))
def i111:IC :=
 (.seq
 (.reg [
 iP 4 (.mov (.c (bl false)))])
 (.seq
 (.seq
 (.reg [
 iM 6 0,
 iP 7 (.len (.t 6)),
 iM 8 1,
 iP 9 (.len (.t 8)),
 iP 10 (.bin .neq (.i .i64) (.t 7) (.t 9))])
 (.cond (.t 10)
 (.seq
 (.reg [
 iP 4 (.mov (.c (bl false)))])
 .ret)
 .skip))
 (.seq
 (.seq
 (.reg [
 iM 11 0,
 iP 12 (.len (.t 11)),
 iP 13 (.mov (.c (i64 0)))])
 (.blk 0
 (.loop l111_0)))
 (.seq
 (.reg [
 iP 4 (.mov (.c (bl true)))])
 .ret))))
def r111:List RS:=[.t 4]
theorem c111:chkF Try.prog drawB Try.f111 i111 r111=true:=by kernel_rfl
def l113_0:IC:=.keep [0,1,5]
 (.seq
 (.seq
 (.reg [
 iM 11 5,
 iM 12 0,
 iP 13 (.len (.t 12)),
 iP 14 (.bin .lss (.i .i64) (.t 11) (.t 13))])
 (.cond (.t 14)
 .skip
 (.exit 0)))
 (.seq
 (.blk 1
 (.seq
 (.drw [0,1,2,3,4,5,6,7,8] [
 iM 17 0,
 iM 18 5,
 iP 19 (.ia 2 (.t 17) (.t 18)),
 iP 20 (.ldn 2 (.t 19)),
 iM 21 1,
 iM 22 5,
 iP 23 (.ia 2 (.t 21) (.t 22)),
 iP 24 (.ldn 2 (.t 23)),
 iP 25 (.eqf true [.i .i64,.i .i64] (.t 20) (.t 24))])
 (.cond (.t 25)
 (.seq
 (.reg [
 iP 4 (.mov (.c (bl false)))])
 .ret)
 .skip)))
 (.reg [
 iM 15 5,
 iP 16 (.bin .add (.i .i64) (.t 15) (.c (i64 1))),
 iM 5 16])))
def i113:IC :=
 (.seq
 (.reg [
 iP 4 (.mov (.c (bl false)))])
 (.seq
 (.seq
 (.reg [
 iM 6 0,
 iP 7 (.len (.t 6)),
 iM 8 1,
 iP 9 (.len (.t 8)),
 iP 10 (.bin .neq (.i .i64) (.t 7) (.t 9))])
 (.cond (.t 10)
 (.seq
 (.reg [
 iP 4 (.mov (.c (bl false)))])
 .ret)
 .skip))
 (.seq
 (.seq
 (.reg [
 iP 5 (.mov (.c (i64 0)))])
 (.blk 0
 (.loop l113_0)))
 (.seq
 (.reg [
 iP 4 (.mov (.c (bl true)))])
 .ret))))
def r113:List RS:=[.t 4]
theorem c113:chkF Try.prog drawB Try.f113 i113 r113=true:=by kernel_rfl
def i114:IC :=
 (.seq
 (.reg [
 iP 4 (.mov (.c (bl false)))])
 (.seq
 (.reg [
 iM 5 0,
 iC 6 116 [.t 5],
 iM 7 6,
 iG 8 7 true (.mov (.t 1)),
 ⟨(some 9),(some (7,true)),.q (.c (.fn (.func 116) [] [])) [(.t 8)]⟩,
 iG 10 7 true (.not (.t 9)),
 iP 11 (.pick (.t 7) (.t 10) (.c (bl false))),
 iM 12 11,
 iG 13 12 false (.mov (.t 0)),
 iG 14 12 false (.mov (.t 1)),
 iG 15 12 false (.bin .lss (.i .i64) (.t 13) (.t 14)),
 iP 16 (.pick (.t 12) (.c (bl true)) (.t 15)),
 iM 4 16])
 .ret))
def r114:List RS:=[.t 4]
theorem c114:chkF Try.prog drawB Try.f114 i114 r114=true:=by kernel_rfl
def i116:IC :=
 (.seq
 (.reg [
 iP 2 (.mov (.c (bl false)))])
 (.seq
 (.reg [
 iM 3 0,
 iM 4 0,
 iP 5 (.bin .neq (.i .i64) (.t 3) (.t 4)),
 iM 2 5])
 .ret))
def r116:List RS:=[.t 2]
theorem c116:chkF Try.prog drawB Try.f116 i116 r116=true:=by kernel_rfl
end Go.Proofs.Ytogjmpkehjfecaa
