/-
  Steps of the proof: contracts of functions and plain facts that the statement rests on.
-/
import Derived.Test.YtmkdpmfhlfhjkaaGreatDoorP0
set_option linter.all false
namespace Go.Proofs.YtmkdpmfhlfhjkaaGreatDoor
open Go.Ab
abbrev iP (n:Nat) (i:I):Ins:=⟨some n,none,.p i⟩
abbrev iM (n m:Nat):Ins:=⟨some n,none,.p (.mov (.t m))⟩
abbrev iF (n k m:Nat):Ins:=⟨some n,none,.p (.fa k (.t m))⟩
abbrev iL (n m:Nat):Ins:=⟨some n,none,.p (.ld1 (.t m))⟩
abbrev iC (n f:Nat) (l:List Od):Ins:=⟨some n,none,.e (.call (.c (.fn (.func f) [] [])) l)⟩
abbrev iE (n:Nat) (e:E):Ins:=⟨some n,none,.e e⟩
abbrev iG (n g:Nat) (b:Bool) (i:I):Ins:=⟨some n,some (g,b),.p i⟩
def i4:IC :=
 (.seq
 (.reg [
 iP 2 (.mov (.c (bl false)))])
 (.seq
 (.seq
 (.reg [
 iM 7 0,
 iP 8 (.lens (.t 7)),
 iP 9 (.bin .gtr (.i .i64) (.t 8) (.c (i64 2000)))])
 (.cond (.t 9)
 (.seq
 (.reg [
 iC 10 10 [],
 iM 2 10])
 .ret)
 .skip))
 (.seq
 (.reg [
 iM 12 0,
 iC 13 14 [.t 12],
 iM 11 13,
 iP 14 (.ext (.t 11) 0),
 iP 15 (.ext (.t 11) 1),
 iE 3 (.alc 36 [st ⟨#[]⟩,i64 0,.val (.slice none 0 0),.val (.slice none 0 0)]),
 iE 4 (.alc 28 [i64 0,i64 0]),
 ⟨none,none,.e (.st 4 (.t 3) (.t 14))⟩,
 ⟨none,none,.e (.st 2 (.t 4) (.t 15))⟩])
 (.seq
 (.reg [
 iM 17 0,
 iC 18 15 [.t 17],
 iM 16 18,
 iP 19 (.ext (.t 16) 0),
 iP 20 (.ext (.t 16) 1),
 iE 5 (.alc 36 [st ⟨#[]⟩,i64 0,.val (.slice none 0 0),.val (.slice none 0 0)]),
 iE 6 (.alc 28 [i64 0,i64 0]),
 ⟨none,none,.e (.st 4 (.t 5) (.t 19))⟩,
 ⟨none,none,.e (.st 2 (.t 6) (.t 20))⟩])
 (.seq
 (.reg [
 iP 21 (.ldn 4 (.t 3)),
 iP 22 (.ldn 4 (.t 5)),
 iC 23 16 [.t 21,.t 22],
 iM 24 23,
 iG 25 24 true (.ldn 2 (.t 4)),
 iG 26 24 true (.ldn 2 (.t 6)),
 iG 27 24 true (.eqf false [.i .i64,.i .i64] (.t 25) (.t 26)),
 iP 28 (.pick (.t 24) (.t 27) (.c (bl false))),
 iM 29 28,
 ⟨(some 30),(some (29,true)),.q (.c (.fn (.func 10) [] [])) []⟩,
 iP 31 (.pick (.t 29) (.t 30) (.c (bl false))),
 iM 2 31])
 .ret)))))
def r4:List RS:=[.t 2]
theorem c4:chkF Tryz.prog drawB Tryz.f4 i4 r4=true:=by kernel_rfl
def i10:IC :=
 (.seq
 (.reg [
 iP 0 (.mov (.c (bl false)))])
 (.seq
 (.reg [
 iC 5 11 [(.c (st ⟨#[49,32,43,32,50,32,42,32,120]⟩))],
 iM 4 5,
 iP 6 (.ext (.t 4) 0),
 iP 7 (.ext (.t 4) 1),
 iE 1 (.alc 25 [i64 0,i64 0,st ⟨#[]⟩,.val (.slice none 0 0),i64 0]),
 iE 2 (.alc 28 [i64 0,i64 0]),
 ⟨none,none,.e (.st 5 (.t 1) (.t 6))⟩,
 ⟨none,none,.e (.st 2 (.t 2) (.t 7))⟩])
 (.seq
 (.reg [
 iP 8 (.bld [i64 0,i64 0,st ⟨#[]⟩,.val (.slice none 0 0),i64 0] [(0,1,(.c (i64 1))),(1,1,(.c (i64 1)))]),
 iP 9 (.bld [i64 0,i64 0,st ⟨#[]⟩,.val (.slice none 0 0),i64 0] [(0,1,(.c (i64 1))),(1,1,(.c (i64 2))),(4,1,(.c (i64 4)))]),
 iP 10 (.bld [i64 0,i64 0,st ⟨#[]⟩,.val (.slice none 0 0),i64 0] [(0,1,(.c (i64 2))),(2,1,(.c (st ⟨#[120]⟩))),(4,1,(.c (i64 8)))]),
 iE 11 (.bsl 25 5 2 [i64 0,i64 0,st ⟨#[]⟩,.val (.slice none 0 0),i64 0] [(0,(.t 9)),(1,(.t 10))]),
 iP 12 (.bld [i64 0,i64 0,st ⟨#[]⟩,.val (.slice none 0 0),i64 0] [(0,1,(.c (i64 5))),(4,1,(.c (i64 6))),(3,1,(.t 11))]),
 iE 13 (.bsl 25 5 2 [i64 0,i64 0,st ⟨#[]⟩,.val (.slice none 0 0),i64 0] [(0,(.t 8)),(1,(.t 12))]),
 iP 14 (.bld [i64 0,i64 0,st ⟨#[]⟩,.val (.slice none 0 0),i64 0] [(0,1,(.c (i64 8))),(4,1,(.c (i64 2))),(3,1,(.t 13))]),
 iE 3 (.alc 25 [i64 0,i64 0,st ⟨#[]⟩,.val (.slice none 0 0),i64 0]),
 ⟨none,none,.e (.st 5 (.t 3) (.t 14))⟩])
 (.seq
 (.reg [
 iP 15 (.ldn 2 (.t 2)),
 iP 16 (.bld [i64 0,i64 0] []),
 iP 17 (.eqf false [.i .i64,.i .i64] (.t 15) (.t 16)),
 iM 18 17,
 iG 19 18 true (.ldn 5 (.t 1)),
 iG 20 18 true (.ldn 5 (.t 3)),
 ⟨(some 21),(some (18,true)),.q (.c (.fn (.func 13) [] [])) [(.t 19),(.t 20)]⟩,
 iP 22 (.pick (.t 18) (.t 21) (.c (bl false))),
 iM 23 22,
 ⟨(some 24),(some (23,true)),.q (.c (.fn (.func 17) [] [])) [(.c (st ⟨#[97,32,45,32,98,32,45,32,99]⟩)),(.c (st ⟨#[40,97,32,45,32,98,41,32,45,32,99]⟩))]⟩,
 iP 25 (.pick (.t 23) (.t 24) (.c (bl false))),
 iM 0 25])
 .ret))))
def r10:List RS:=[.t 0]
theorem c10:chkF Tryz.prog drawB Tryz.f10 i10 r10=true:=by kernel_rfl
def i11:IC :=
 (.seq
 (.reg [
 iE 2 (.alc 25 [i64 0,i64 0,st ⟨#[]⟩,.val (.slice none 0 0),i64 0]),
 iE 3 (.alc 28 [i64 0,i64 0])])
 (.seq
 (.reg [
 iM 4 0,
 iC 5 31 [.t 4,(.c (.fn (.func 32) [] []))],
 iP 6 (.ext (.t 5) 0),
 iP 7 (.ext (.t 5) 1),
 ⟨none,none,.e (.st 5 (.t 2) (.t 6))⟩,
 ⟨none,none,.e (.st 2 (.t 3) (.t 7))⟩])
 .ret))
def r11:List RS:=[.cn 2 5,.cn 3 2]
theorem c11:chkF Tryz.prog drawB Tryz.f11 i11 r11=true:=by kernel_rfl
def i13:IC :=
 (.seq
 (.reg [
 iE 2 (.box 25 (.t 0)),
 iE 3 (.box 25 (.t 1)),
 iP 4 (.mov (.c (bl false)))])
 (.seq
 (.reg [
 iF 5 0 2,
 iL 6 5,
 iF 7 0 3,
 iL 8 7,
 iP 9 (.bin .eql (.i .i64) (.t 6) (.t 8)),
 iM 10 9,
 iG 11 10 true (.fa 1 (.t 2)),
 iG 12 10 true (.ld1 (.t 11)),
 iG 13 10 true (.fa 1 (.t 3)),
 iG 14 10 true (.ld1 (.t 13)),
 iG 15 10 true (.bin .eql (.i .i64) (.t 12) (.t 14)),
 iP 16 (.pick (.t 10) (.t 15) (.c (bl false))),
 iM 17 16,
 iG 18 17 true (.fa 2 (.t 2)),
 iG 19 17 true (.ld1 (.t 18)),
 iG 20 17 true (.fa 2 (.t 3)),
 iG 21 17 true (.ld1 (.t 20)),
 iG 22 17 true (.bin .eql .s (.t 19) (.t 21)),
 iP 23 (.pick (.t 17) (.t 22) (.c (bl false))),
 iM 24 23,
 iG 25 24 true (.fa 4 (.t 2)),
 iG 26 24 true (.ld1 (.t 25)),
 iG 27 24 true (.fa 4 (.t 3)),
 iG 28 24 true (.ld1 (.t 27)),
 iG 29 24 true (.bin .eql (.i .i64) (.t 26) (.t 28)),
 iP 30 (.pick (.t 24) (.t 29) (.c (bl false))),
 iM 31 30,
 iG 32 31 true (.fa 3 (.t 2)),
 iG 33 31 true (.ld1 (.t 32)),
 iG 34 31 true (.fa 3 (.t 3)),
 iG 35 31 true (.ld1 (.t 34)),
 ⟨(some 36),(some (31,true)),.q (.c (.fn (.func 37) [] [])) [(.t 33),(.t 35)]⟩,
 iP 37 (.pick (.t 31) (.t 36) (.c (bl false))),
 iM 4 37])
 .ret))
def r13:List RS:=[.t 4]
theorem c13:chkF Tryz.prog drawB Tryz.f13 i13 r13=true:=by kernel_rfl
def i14:IC :=
 (.seq
 (.reg [
 iE 2 (.alc 36 [st ⟨#[]⟩,i64 0,.val (.slice none 0 0),.val (.slice none 0 0)]),
 iE 3 (.alc 28 [i64 0,i64 0])])
 (.seq
 (.reg [
 iM 4 0,
 iC 5 38 [.t 4,(.c (.fn (.func 39) [] []))],
 iP 6 (.ext (.t 5) 0),
 iP 7 (.ext (.t 5) 1),
 ⟨none,none,.e (.st 4 (.t 2) (.t 6))⟩,
 ⟨none,none,.e (.st 2 (.t 3) (.t 7))⟩])
 .ret))
def r14:List RS:=[.cn 2 4,.cn 3 2]
theorem c14:chkF Tryz.prog drawB Tryz.f14 i14 r14=true:=by kernel_rfl
def l15_0:IC:=.keep [2,3,6,7]
 (.seq
 (.seq
 (.reg [
 iM 39 6,
 iC 40 43 [.t 39,(.c (st ⟨#[118,97,114]⟩))]])
 (.cond (.t 40)
 .skip
 (.exit 0)))
 (.blk 1
 (.seq
 (.reg [
 iM 41 6,
 iC 42 40 [.t 41,(.c (st ⟨#[118,97,114]⟩))]])
 (.seq
 (.seq
 (.reg [
 iF 43 2 7,
 iL 44 43,
 iP 45 (.len (.t 44)),
 iP 46 (.bin .eql (.i .i64) (.t 45) (.c (i64 40))),
 iM 47 46,
 iG 48 47 true (.mov (.t 6)),
 ⟨(some 49),(some (47,true)),.q (.c (.fn (.func 44) [] [])) [(.t 48)]⟩,
 iP 50 (.pick (.t 47) (.t 49) (.c (bl false)))])
 (.cond (.t 50)
 (.reg [
 iM 51 6,
 iC 52 35 [.t 51,(.c (i64 12))]])
 .skip))
 (.seq
 (.reg [
 iM 53 6,
 iC 54 45 [.t 53],
 iP 55 (.bld [st ⟨#[]⟩,i64 0,i64 0] [(2,1,(.t 54))]),
 iE 8 (.alc 75 [st ⟨#[]⟩,i64 0,i64 0]),
 ⟨none,none,.e (.st 3 (.t 8) (.t 55))⟩])
 (.seq
 (.reg [
 iM 56 6,
 iC 57 41 [.t 56],
 iF 58 0 8,
 ⟨none,none,.e (.st 1 (.t 58) (.t 57))⟩])
 (.seq
 (.reg [
 iM 59 6,
 iC 60 40 [.t 59,(.c (st ⟨#[61]⟩))]])
 (.seq
 (.reg [
 iP 9 (.mov (.c (i64 1)))])
 (.seq
 (.seq
 (.reg [
 iM 61 6,
 iC 62 43 [.t 61,(.c (st ⟨#[45]⟩))]])
 (.cond (.t 62)
 (.seq
 (.reg [
 iM 63 6,
 iC 64 40 [.t 63,(.c (st ⟨#[45]⟩))]])
 (.reg [
 iP 9 (.mov (.c (i64 (-1))))]))
 .skip))
 (.seq
 (.reg [
 iM 65 9,
 iM 66 6,
 iC 67 42 [.t 66],
 iP 68 (.bin .mul (.i .i64) (.t 65) (.t 67)),
 iF 69 1 8,
 ⟨none,none,.e (.st 1 (.t 69) (.t 68))⟩])
 (.seq
 (.reg [
 iM 70 6,
 iC 71 40 [.t 70,(.c (st ⟨#[59]⟩))]])
 (.reg [
 iF 72 2 7,
 iL 73 72,
 iP 74 (.ldn 3 (.t 8)),
 iE 75 (.bsl 75 3 1 [st ⟨#[]⟩,i64 0,i64 0] [(0,(.t 74))]),
 iE 76 (.app 75 3 32 (.t 73) (.t 75)),
 iF 77 2 7,
 ⟨none,none,.e (.st 1 (.t 77) (.t 76))⟩]))))))))))))
def l15_1:IC:=.keep [2,3,6,7]
 (.seq
 (.seq
 (.drw [0,1,2,3,4,5,6,7,8,9,10,11,12,13,14,15,16,17,18,19,20] [
 iM 78 6,
 ⟨(some 79),none,.q (.c (.fn (.func 36) [] [])) [(.t 78)]⟩,
 iP 80 (.not (.t 79)),
 iM 81 80,
 iG 82 81 true (.fa 3 (.t 7)),
 iG 83 81 true (.ld1 (.t 82)),
 iG 84 81 true (.len (.t 83)),
 iG 85 81 true (.bin .eql (.i .i64) (.t 84) (.c (i64 0))),
 iG 86 81 true (.mov (.t 85)),
 iG 87 86 false (.mov (.t 6)),
 iG 88 86 false (.nck (.t 87)),
 iG 89 86 false (.fa 2 (.t 88)),
 iG 90 86 false (.ld1 (.t 89)),
 iG 91 86 false (.mov (.t 6)),
 iG 92 86 false (.nck (.t 91)),
 iG 93 86 false (.fa 0 (.t 92)),
 iG 94 86 false (.ld1 (.t 93)),
 iG 95 86 false (.len (.t 94)),
 iG 96 86 false (.bin .lss (.i .i64) (.t 90) (.t 95)),
 iG 97 81 true (.pick (.t 86) (.c (bl true)) (.t 96)),
 iP 98 (.pick (.t 81) (.t 97) (.c (bl false)))])
 (.cond (.t 98)
 .skip
 (.exit 2)))
 (.blk 3
 (.seq
 (.seq
 (.reg [
 iF 99 3 7,
 iL 100 99,
 iP 101 (.len (.t 100)),
 iP 102 (.bin .eql (.i .i64) (.t 101) (.c (i64 100))),
 iM 103 102,
 iG 104 103 true (.mov (.t 6)),
 ⟨(some 105),(some (103,true)),.q (.c (.fn (.func 44) [] [])) [(.t 104)]⟩,
 iG 106 103 true (.mov (.t 105)),
 iG 107 106 false (.mov (.t 6)),
 ⟨(some 108),(some (106,false)),.q (.c (.fn (.func 43) [] [])) [(.t 107),(.c (st ⟨#[100,101,97,108]⟩))]⟩,
 iG 109 103 true (.pick (.t 106) (.c (bl true)) (.t 108)),
 iG 110 103 true (.mov (.t 109)),
 iG 111 110 false (.mov (.t 6)),
 ⟨(some 112),(some (110,false)),.q (.c (.fn (.func 43) [] [])) [(.t 111),(.c (st ⟨#[116,117,114,110]⟩))]⟩,
 iG 113 103 true (.pick (.t 110) (.c (bl true)) (.t 112)),
 iG 114 103 true (.mov (.t 113)),
 iG 115 114 false (.mov (.t 6)),
 ⟨(some 116),(some (114,false)),.q (.c (.fn (.func 43) [] [])) [(.t 115),(.c (st ⟨#[101,110,100]⟩))]⟩,
 iG 117 103 true (.pick (.t 114) (.c (bl true)) (.t 116)),
 iP 118 (.pick (.t 103) (.t 117) (.c (bl false)))])
 (.cond (.t 118)
 (.reg [
 iM 119 6,
 iC 120 35 [.t 119,(.c (i64 12))]])
 .skip))
 (.drw [0,1,2,3,4,5,6,7] [
 iF 121 3 7,
 iL 122 121,
 iM 123 6,
 iC 124 46 [.t 123],
 iE 125 (.bsl 78 12 1 [i64 0,st ⟨#[]⟩,st ⟨#[]⟩,i64 0,i64 0,.val (.slice none 0 0),bl false,.val (.slice none 0 0),.val (.slice none 0 0),.val (.slice none 0 0),.val (.slice none 0 0),i64 0] [(0,(.t 124))]),
 iE 126 (.app 78 12 192 (.t 122) (.t 125)),
 iF 127 3 7,
 ⟨none,none,.e (.stw [122] 1 (.t 127) (.t 126))⟩]))))
def i15:IC :=
 (.seq
 (.reg [
 iE 2 (.alc 36 [st ⟨#[]⟩,i64 0,.val (.slice none 0 0),.val (.slice none 0 0)]),
 iE 3 (.alc 28 [i64 0,i64 0])])
 (.seq
 (.reg [
 iM 11 0,
 iC 12 33 [.t 11],
 iM 10 12,
 iP 13 (.ext (.t 10) 0),
 iP 14 (.ext (.t 10) 1),
 iE 5 (.alc 28 [i64 0,i64 0]),
 iM 4 13,
 ⟨none,none,.e (.st 2 (.t 5) (.t 14))⟩])
 (.seq
 (.seq
 (.reg [
 iF 15 0 5,
 iL 16 15,
 iP 17 (.bin .neq (.i .i64) (.t 16) (.c (i64 0)))])
 (.cond (.t 17)
 (.seq
 (.drw [0,1,2,3] [
 iP 18 (.bld [st ⟨#[]⟩,i64 0,.val (.slice none 0 0),.val (.slice none 0 0)] []),
 iP 19 (.ldn 2 (.t 5)),
 ⟨none,none,.e (.st 4 (.t 2) (.t 18))⟩,
 ⟨none,none,.e (.st 2 (.t 3) (.t 19))⟩])
 .ret)
 .skip))
 (.seq
 (.reg [
 iM 20 4,
 iM 21 0,
 iP 22 (.lens (.t 21)),
 iP 23 (.bld [.val (.slice none 0 0),i64 0,i64 0,i64 0,i64 0,i64 0] [(0,1,(.t 20)),(1,1,(.t 22))]),
 iE 24 (.box 65 (.t 23)),
 iM 6 24])
 (.seq
 (.reg [
 iE 7 (.alc 36 [st ⟨#[]⟩,i64 0,.val (.slice none 0 0),.val (.slice none 0 0)])])
 (.seq
 (.reg [
 iM 25 6,
 iC 26 40 [.t 25,(.c (st ⟨#[103,97,109,101]⟩))]])
 (.seq
 (.reg [
 iM 27 6,
 iC 28 41 [.t 27],
 iF 29 0 7,
 ⟨none,none,.e (.st 1 (.t 29) (.t 28))⟩])
 (.seq
 (.reg [
 iM 30 6,
 iC 31 40 [.t 30,(.c (st ⟨#[59]⟩))]])
 (.seq
 (.reg [
 iM 32 6,
 iC 33 40 [.t 32,(.c (st ⟨#[112,108,97,121,101,114,115]⟩))]])
 (.seq
 (.reg [
 iM 34 6,
 iC 35 42 [.t 34],
 iF 36 1 7,
 ⟨none,none,.e (.st 1 (.t 36) (.t 35))⟩])
 (.seq
 (.reg [
 iM 37 6,
 iC 38 40 [.t 37,(.c (st ⟨#[59]⟩))]])
 (.seq
 (.blk 0
 (.loop l15_0))
 (.seq
 (.blk 2
 (.loop l15_1))
 (.seq
 (.seq
 (.reg [
 iM 128 6,
 iC 129 36 [.t 128]])
 (.cond (.t 129)
 (.seq
 (.drw [0,1,2,3,4,5,6] [
 iP 130 (.bld [st ⟨#[]⟩,i64 0,.val (.slice none 0 0),.val (.slice none 0 0)] []),
 iM 131 6,
 iP 132 (.nck (.t 131)),
 iF 133 4 132,
 iP 134 (.ldn 2 (.t 133)),
 ⟨none,none,.e (.st 4 (.t 2) (.t 130))⟩,
 ⟨none,none,.e (.st 2 (.t 3) (.t 134))⟩])
 .ret)
 .skip))
 (.seq
 (.reg [
 iP 135 (.ldn 4 (.t 7)),
 iP 136 (.bld [i64 0,i64 0] []),
 ⟨none,none,.e (.st 4 (.t 2) (.t 135))⟩,
 ⟨none,none,.e (.st 2 (.t 3) (.t 136))⟩])
 .ret)))))))))))))))
def r15:List RS:=[.cn 2 4,.cn 3 2]
theorem c15:chkF Tryz.prog drawB Tryz.f15 i15 r15=true:=by kernel_rfl
def l16_0:IC:=.keep [2,3,5]
 (.seq
 (.seq
 (.reg [
 iM 35 5,
 iF 36 3 2,
 iL 37 36,
 iP 38 (.len (.t 37)),
 iP 39 (.bin .lss (.i .i64) (.t 35) (.t 38))])
 (.cond (.t 39)
 .skip
 (.exit 0)))
 (.seq
 (.blk 1
 (.seq
 (.drw [0,1,2,3,4,5,6,7,8,9,10,11] [
 iF 42 3 2,
 iL 43 42,
 iM 44 5,
 iP 45 (.ia 12 (.t 43) (.t 44)),
 iP 46 (.ldn 12 (.t 45)),
 iF 47 3 3,
 iL 48 47,
 iM 49 5,
 iP 50 (.ia 12 (.t 48) (.t 49)),
 iP 51 (.ldn 12 (.t 50)),
 ⟨(some 52),none,.q (.c (.fn (.func 48) [] [])) [(.t 46),(.t 51)]⟩,
 iP 53 (.not (.t 52))])
 (.cond (.t 53)
 (.seq
 (.reg [
 iP 4 (.mov (.c (bl false)))])
 .ret)
 .skip)))
 (.reg [
 iM 40 5,
 iP 41 (.bin .add (.i .i64) (.t 40) (.c (i64 1))),
 iM 5 41])))
def i16:IC :=
 (.seq
 (.reg [
 iE 2 (.box 36 (.t 0)),
 iE 3 (.box 36 (.t 1)),
 iP 4 (.mov (.c (bl false)))])
 (.seq
 (.seq
 (.reg [
 iF 6 0 2,
 iL 7 6,
 iF 8 0 3,
 iL 9 8,
 iP 10 (.bin .neq .s (.t 7) (.t 9)),
 iM 11 10,
 iG 12 11 false (.fa 1 (.t 2)),
 iG 13 11 false (.ld1 (.t 12)),
 iG 14 11 false (.fa 1 (.t 3)),
 iG 15 11 false (.ld1 (.t 14)),
 iG 16 11 false (.bin .neq (.i .i64) (.t 13) (.t 15)),
 iP 17 (.pick (.t 11) (.c (bl true)) (.t 16)),
 iM 18 17,
 iG 19 18 false (.fa 2 (.t 2)),
 iG 20 18 false (.ld1 (.t 19)),
 iG 21 18 false (.fa 2 (.t 3)),
 iG 22 18 false (.ld1 (.t 21)),
 ⟨(some 23),(some (18,false)),.q (.c (.fn (.func 47) [] [])) [(.t 20),(.t 22)]⟩,
 iG 24 18 false (.not (.t 23)),
 iP 25 (.pick (.t 18) (.c (bl true)) (.t 24)),
 iM 26 25,
 iG 27 26 false (.fa 3 (.t 2)),
 iG 28 26 false (.ld1 (.t 27)),
 iG 29 26 false (.len (.t 28)),
 iG 30 26 false (.fa 3 (.t 3)),
 iG 31 26 false (.ld1 (.t 30)),
 iG 32 26 false (.len (.t 31)),
 iG 33 26 false (.bin .neq (.i .i64) (.t 29) (.t 32)),
 iP 34 (.pick (.t 26) (.c (bl true)) (.t 33))])
 (.cond (.t 34)
 (.seq
 (.reg [
 iP 4 (.mov (.c (bl false)))])
 .ret)
 .skip))
 (.seq
 (.seq
 (.reg [
 iP 5 (.mov (.c (i64 0)))])
 (.blk 0
 (.loop l16_0)))
 (.seq
 (.reg [
 iP 4 (.mov (.c (bl true)))])
 .ret))))
def r16:List RS:=[.t 4]
theorem c16:chkF Tryz.prog drawB Tryz.f16 i16 r16=true:=by kernel_rfl
def i17:IC :=
 (.seq
 (.reg [
 iP 4 (.mov (.c (bl false)))])
 (.seq
 (.reg [
 iM 10 0,
 iC 11 11 [.t 10],
 iM 9 11,
 iP 12 (.ext (.t 9) 0),
 iP 13 (.ext (.t 9) 1),
 iE 5 (.alc 25 [i64 0,i64 0,st ⟨#[]⟩,.val (.slice none 0 0),i64 0]),
 iE 6 (.alc 28 [i64 0,i64 0]),
 ⟨none,none,.e (.st 5 (.t 5) (.t 12))⟩,
 ⟨none,none,.e (.st 2 (.t 6) (.t 13))⟩])
 (.seq
 (.reg [
 iP 15 (.ldn 5 (.t 5)),
 iC 16 28 [.t 15],
 iM 14 16,
 iP 17 (.ext (.t 14) 0),
 iP 18 (.ext (.t 14) 1),
 iM 7 17,
 iM 8 18])
 (.seq
 (.reg [
 iP 19 (.ldn 2 (.t 6)),
 iP 20 (.bld [i64 0,i64 0] []),
 iP 21 (.eqf false [.i .i64,.i .i64] (.t 19) (.t 20)),
 iM 22 21,
 iG 23 22 true (.mov (.t 8)),
 iG 24 22 true (.bin .eql (.i .i64) (.t 23) (.c (i64 0))),
 iP 25 (.pick (.t 22) (.t 24) (.c (bl false))),
 iM 26 25,
 iG 27 26 true (.mov (.t 7)),
 iG 28 26 true (.mov (.t 1)),
 iG 29 26 true (.bin .eql .s (.t 27) (.t 28)),
 iP 30 (.pick (.t 26) (.t 29) (.c (bl false))),
 iM 4 30])
 .ret))))
def r17:List RS:=[.t 4]
theorem c17:chkF Tryz.prog drawB Tryz.f17 i17 r17=true:=by kernel_rfl
def ya26_0:IC :=
 (.seq
 (.reg [
 iE 5 (.alc 52 [i64 0,st ⟨#[]⟩,i64 0,i64 0]),
 ⟨none,none,.e (.st 4 (.t 5) (.t 13))⟩])
 (.reg [
 iM 6 14]))
def yb26_0:IC :=
 (.blk 1
 (.seq
 (.seq
 (.reg [
 iM 15 6,
 iP 16 (.ifn false true (.t 15)),
 iM 17 16,
 iG 18 17 true (.ld1 (.t 4)),
 iG 19 17 true (.len (.t 18)),
 iG 20 17 true (.bin .eql (.i .i64) (.t 19) (.c (i64 5000))),
 iP 21 (.pick (.t 17) (.t 20) (.c (bl false)))])
 (.cond (.t 21)
 (.reg [
 iF 22 3 5,
 iL 23 22,
 iP 24 (.bld [i64 0,i64 0] [(0,1,(.c (i64 12))),(1,1,(.t 23))]),
 iP 25 (.bld [i64 0,i64 0] [(0,2,(.t 24))]),
 iP 26 (.mki 115 (.t 25)),
 iM 6 26])
 .skip))
 (.seq
 (.seq
 (.reg [
 iM 27 6,
 iP 28 (.ifn true true (.t 27))])
 (.cond (.t 28)
 (.seq
 (.reg [
 iM 29 6,
 iC 30 71 [.t 29],
 ⟨none,none,.e (.st 1 (.t 2) (.c (.val (.slice none 0 0))))⟩,
 ⟨none,none,.e (.st 2 (.t 3) (.t 30))⟩])
 .ret)
 .skip))
 (.reg [
 iL 31 4,
 iP 32 (.ldn 4 (.t 5)),
 iE 33 (.bsl 52 4 1 [i64 0,st ⟨#[]⟩,i64 0,i64 0] [(0,(.t 32))]),
 iE 34 (.app 52 4 40 (.t 31) (.t 33)),
 ⟨none,none,.e (.st 1 (.t 4) (.t 34))⟩]))))
def i26:IC :=
 (.seq
 (.reg [
 iE 2 (.alc 48 [.val (.slice none 0 0)]),
 iE 3 (.alc 28 [i64 0,i64 0])])
 (.seq
 (.seq
 (.reg [
 iM 7 0,
 iP 8 (.lens (.t 7)),
 iP 9 (.bin .gtr (.i .i64) (.t 8) (.c (i64 20000)))])
 (.cond (.t 9)
 (.seq
 (.reg [
 iP 10 (.bld [i64 0,i64 0] [(0,1,(.c (i64 4))),(1,1,(.c (i64 20000)))]),
 ⟨none,none,.e (.st 1 (.t 2) (.c (.val (.slice none 0 0))))⟩,
 ⟨none,none,.e (.st 2 (.t 3) (.t 10))⟩])
 .ret)
 .skip))
 (.seq
 (.reg [
 iE 4 (.alc 48 [.val (.slice none 0 0)])])
 (.seq
 (.seq
 (.reg [
 iM 11 0,
 iC 12 70 [.t 11]])
 (.blk 0
 (.keep [2,3,4,12] (.rng 0 (.t 12) [13,14] ya26_0 yb26_0))))
 (.seq
 (.reg [
 iL 35 4,
 iP 36 (.bld [i64 0,i64 0] []),
 ⟨none,none,.e (.st 1 (.t 2) (.t 35))⟩,
 ⟨none,none,.e (.st 2 (.t 3) (.t 36))⟩])
 .ret)))))
def r26:List RS:=[.c1 2,.cn 3 2]
theorem c26:chkF Tryz.prog drawB Tryz.f26 i26 r26=true:=by kernel_rfl
def i28:IC :=
 (.seq
 (.reg [
 iE 1 (.box 25 (.t 0)),
 iP 2 (.mov (.c (st ⟨#[]⟩))),
 iP 3 (.mov (.c (i64 0)))])
 (.seq
 (.seq
 (.reg [
 iP 8 (.ldn 5 (.t 1)),
 iE 9 (.bsl 25 5 1 [i64 0,i64 0,st ⟨#[]⟩,.val (.slice none 0 0),i64 0] [(0,(.t 8))]),
 iC 10 72 [.t 9],
 iP 11 (.not (.t 10))])
 (.cond (.t 11)
 (.seq
 (.reg [
 iP 2 (.mov (.c (st ⟨#[]⟩))),
 iP 3 (.mov (.c (i64 3)))])
 .ret)
 .skip))
 (.seq
 (.reg [
 iE 4 (.alc 85 [.val (.slice none 0 0)])])
 (.seq
 (.reg [
 iP 12 (.ldn 5 (.t 1)),
 iC 13 73 [.t 4,.t 12]])
 (.seq
 (.seq
 (.reg [
 iC 14 51 [.t 4]])
 (.cond (.t 14)
 (.seq
 (.reg [
 iP 2 (.mov (.c (st ⟨#[]⟩))),
 iP 3 (.mov (.c (i64 4)))])
 .ret)
 .skip))
 (.seq
 (.reg [
 iF 15 0 4,
 iL 16 15,
 iP 17 (.bys (.t 16)),
 iM 5 17])
 (.seq
 (.seq
 (.reg [
 iM 19 5,
 iC 20 11 [.t 19],
 iM 18 20,
 iP 21 (.ext (.t 18) 0),
 iP 22 (.ext (.t 18) 1),
 iE 6 (.alc 25 [i64 0,i64 0,st ⟨#[]⟩,.val (.slice none 0 0),i64 0]),
 iE 7 (.alc 28 [i64 0,i64 0]),
 ⟨none,none,.e (.st 5 (.t 6) (.t 21))⟩,
 ⟨none,none,.e (.st 2 (.t 7) (.t 22))⟩])
 (.seq
 (.reg [
 iF 23 0 7,
 iL 24 23,
 iP 25 (.bin .neq (.i .i64) (.t 24) (.c (i64 0)))])
 (.cond (.t 25)
 (.seq
 (.drw [0,1,2,3] [
 iF 26 0 7,
 iL 27 26,
 iP 2 (.mov (.c (st ⟨#[]⟩))),
 iM 3 27])
 .ret)
 .skip)))
 (.seq
 (.reg [
 iM 28 5,
 iM 2 28,
 iP 3 (.mov (.c (i64 0)))])
 .ret))))))))
def r28:List RS:=[.t 2,.t 3]
theorem c28:chkF Tryz.prog drawB Tryz.f28 i28 r28=true:=by kernel_rfl
def i31a0:IC :=
 (.reg [
 iE 4 (.alc 25 [i64 0,i64 0,st ⟨#[]⟩,.val (.slice none 0 0),i64 0]),
 iE 5 (.alc 28 [i64 0,i64 0])])
def i31a1:IC :=
 (.reg [
 iM 9 0,
 iC 10 26 [.t 9],
 iM 8 10,
 iP 11 (.ext (.t 8) 0),
 iP 12 (.ext (.t 8) 1),
 iM 6 11,
 ⟨none,none,.e (.st 2 (.t 5) (.t 12))⟩])
def i31a2:IC :=
 (.seq
 (.reg [
 iF 13 0 5,
 iL 14 13,
 iP 15 (.bin .neq (.i .i64) (.t 14) (.c (i64 0)))])
 (.cond (.t 15)
 (.seq
 (.drw [0,1,2,3] [
 iP 16 (.ldn 5 (.t 4)),
 iP 17 (.ldn 2 (.t 5)),
 ⟨none,none,.e (.st 5 (.t 4) (.t 16))⟩,
 ⟨none,none,.e (.stw [16] 2 (.t 5) (.t 17))⟩])
 .ret)
 .skip))
def i31p:List IC:=[i31a0,i31a1,i31a2]
def i31s:Ins:=⟨(some 18),none,.p (.mkf (.func 76) [] [(.t 4),(.t 5)])⟩
def i31f:Od:=.t 18
def i31:IC :=
 (.seq
 (.reg [
 iM 19 6,
 iM 20 0,
 iP 21 (.lens (.t 20)),
 iP 22 (.bld [.val (.slice none 0 0),i64 0,i64 0] [(0,1,(.t 19)),(2,1,(.t 21))]),
 iC 23 78 [],
 iP 24 (.bld [.val (.slice none 0 0),i64 0,i64 0,.val (.map none),.val (.map none),.val (.map none),.val (.map none),.val (.map none),i64 0] [(0,3,(.t 22)),(3,5,(.t 23))]),
 iE 25 (.box 127 (.t 24)),
 iM 7 25])
 (.seq
 (.reg [
 iM 26 1,
 iM 27 7,
 iE 28 (.call (.t 26) [(.t 27)]),
 ⟨none,none,.e (.st 5 (.t 4) (.t 28))⟩])
 (.seq
 (.seq
 (.drw [0,1,2,3,4,5,6,7,8,9,10,11] [
 iM 29 7,
 iP 30 (.nck (.t 29)),
 iF 31 0 30,
 iF 32 1 31,
 iL 33 32,
 iM 34 7,
 iP 35 (.nck (.t 34)),
 iF 36 0 35,
 iF 37 0 36,
 iL 38 37,
 iP 39 (.len (.t 38)),
 iP 40 (.bin .lss (.i .i64) (.t 33) (.t 39))])
 (.cond (.t 40)
 (.reg [
 iM 41 7,
 iP 42 (.nck (.t 41)),
 iF 43 0 42,
 iC 44 79 [.t 43,(.c (i64 11))]])
 .skip))
 (.seq
 (.reg [
 iP 45 (.ldn 5 (.t 4)),
 iP 46 (.bld [i64 0,i64 0] []),
 ⟨none,none,.e (.st 5 (.t 4) (.t 45))⟩,
 ⟨none,none,.e (.st 2 (.t 5) (.t 46))⟩])
 .ret))))
def r31:List RS:=[.cn 4 5,.cn 5 2]
theorem c31:chkDs Tryz.prog drawB Tryz.f31 i31p i31s i31f i31 r31=true:=by kernel_rfl
def i32:IC :=
 (.seq
 (.reg [
 iE 2 (.alc 25 [i64 0,i64 0,st ⟨#[]⟩,.val (.slice none 0 0),i64 0])])
 (.seq
 (.reg [
 iM 3 0,
 iC 4 80 [.t 3,(.c (i64 0))],
 ⟨none,none,.e (.st 5 (.t 2) (.t 4))⟩])
 .ret))
def r32:List RS:=[.cn 2 5]
theorem c32:chkF Tryz.prog drawB Tryz.f32 i32 r32=true:=by kernel_rfl
def l33_1:IC:=.keep [0,3,4,5]
 (.seq
 (.seq
 (.reg [
 iM 27 5,
 iM 28 0,
 iP 29 (.lens (.t 28)),
 iP 30 (.bin .lss (.i .i64) (.t 27) (.t 29)),
 iM 31 30,
 iG 32 31 true (.mov (.t 0)),
 iG 33 31 true (.mov (.t 5)),
 iG 34 31 true (.ixs (.t 32) (.t 33)),
 iG 35 31 true (.bin .neq (.i .u8) (.t 34) (.c (.val (.int .u8 10)))),
 iP 36 (.pick (.t 31) (.t 35) (.c (bl false)))])
 (.cond (.t 36)
 .skip
 (.exit 2)))
 (.blk 3
 (.reg [
 iM 37 5,
 iP 38 (.bin .add (.i .i64) (.t 37) (.c (i64 1))),
 iM 5 38])))
def l33_0:IC:=.keep [0,3,4,5]
 (.seq
 (.seq
 (.reg [
 iM 13 5,
 iM 14 0,
 iP 15 (.lens (.t 14)),
 iP 16 (.bin .lss (.i .i64) (.t 13) (.t 15))])
 (.cond (.t 16)
 .skip
 (.exit 0)))
 (.blk 1
 (.seq
 (.seq
 (.reg [
 iM 17 0,
 iM 18 5,
 iP 19 (.ixs (.t 17) (.t 18)),
 iC 20 81 [.t 19]])
 (.cond (.t 20)
 (.seq
 (.reg [
 iM 21 5,
 iP 22 (.bin .add (.i .i64) (.t 21) (.c (i64 1))),
 iM 5 22])
 (.exit 1))
 .skip))
 (.seq
 (.seq
 (.reg [
 iM 23 0,
 iM 24 5,
 iP 25 (.ixs (.t 23) (.t 24)),
 iP 26 (.bin .eql (.i .u8) (.t 25) (.c (.val (.int .u8 35))))])
 (.cond (.t 26)
 (.seq
 (.blk 2
 (.loop l33_1))
 (.exit 1))
 .skip))
 (.seq
 (.reg [
 iM 40 0,
 iM 41 5,
 iC 42 82 [.t 40,.t 41],
 iM 39 42,
 iP 43 (.ext (.t 39) 0),
 iP 44 (.ext (.t 39) 1),
 iP 45 (.ext (.t 39) 2),
 iE 6 (.alc 52 [i64 0,st ⟨#[]⟩,i64 0,i64 0]),
 iE 8 (.alc 28 [i64 0,i64 0]),
 ⟨none,none,.e (.st 4 (.t 6) (.t 43))⟩,
 iM 7 44,
 ⟨none,none,.e (.st 2 (.t 8) (.t 45))⟩])
 (.seq
 (.seq
 (.reg [
 iF 46 0 8,
 iL 47 46,
 iP 48 (.bin .neq (.i .i64) (.t 47) (.c (i64 0)))])
 (.cond (.t 48)
 (.seq
 (.drw [0,1,2] [
 iP 49 (.ldn 2 (.t 8)),
 iP 2 (.mov (.c (.val (.slice none 0 0)))),
 ⟨none,none,.e (.st 2 (.t 3) (.t 49))⟩])
 .ret)
 .skip))
 (.seq
 (.seq
 (.reg [
 iM 50 4,
 iP 51 (.len (.t 50)),
 iP 52 (.bin .eql (.i .i64) (.t 51) (.c (i64 5000)))])
 (.cond (.t 52)
 (.seq
 (.reg [
 iM 53 5,
 iP 54 (.bld [i64 0,i64 0] [(0,1,(.c (i64 12))),(1,1,(.t 53))]),
 iP 2 (.mov (.c (.val (.slice none 0 0)))),
 ⟨none,none,.e (.st 2 (.t 3) (.t 54))⟩])
 .ret)
 .skip))
 (.seq
 (.seq
 (.reg [
 iF 55 0 6,
 iL 56 55,
 iP 57 (.bin .eql (.i .i64) (.t 56) (.c (i64 2))),
 iM 58 57,
 iG 59 58 true (.mov (.t 7)),
 iG 60 58 true (.mov (.t 0)),
 iG 61 58 true (.lens (.t 60)),
 iG 62 58 true (.bin .lss (.i .i64) (.t 59) (.t 61)),
 iP 63 (.pick (.t 58) (.t 62) (.c (bl false))),
 iM 64 63,
 iG 65 64 true (.mov (.t 0)),
 iG 66 64 true (.mov (.t 7)),
 iG 67 64 true (.ixs (.t 65) (.t 66)),
 ⟨(some 68),(some (64,true)),.q (.c (.fn (.func 83) [] [])) [(.t 67)]⟩,
 iP 69 (.pick (.t 64) (.t 68) (.c (bl false)))])
 (.cond (.t 69)
 (.seq
 (.reg [
 iM 70 7,
 iP 71 (.bld [i64 0,i64 0] [(0,1,(.c (i64 11))),(1,1,(.t 70))]),
 iP 2 (.mov (.c (.val (.slice none 0 0)))),
 ⟨none,none,.e (.st 2 (.t 3) (.t 71))⟩])
 .ret)
 .skip))
 (.seq
 (.reg [
 iM 72 4,
 iP 73 (.ldn 4 (.t 6)),
 iE 74 (.bsl 52 4 1 [i64 0,st ⟨#[]⟩,i64 0,i64 0] [(0,(.t 73))]),
 iE 75 (.app 52 4 40 (.t 72) (.t 74)),
 iM 4 75])
 (.reg [
 iM 76 7,
 iM 5 76]))))))))))
def i33:IC :=
 (.seq
 (.reg [
 iP 2 (.mov (.c (.val (.slice none 0 0)))),
 iE 3 (.alc 28 [i64 0,i64 0])])
 (.seq
 (.seq
 (.reg [
 iM 9 0,
 iP 10 (.lens (.t 9)),
 iP 11 (.bin .gtr (.i .i64) (.t 10) (.c (i64 20000)))])
 (.cond (.t 11)
 (.seq
 (.reg [
 iP 12 (.bld [i64 0,i64 0] [(0,1,(.c (i64 4))),(1,1,(.c (i64 20000)))]),
 iP 2 (.mov (.c (.val (.slice none 0 0)))),
 ⟨none,none,.e (.st 2 (.t 3) (.t 12))⟩])
 .ret)
 .skip))
 (.seq
 (.reg [
 iE 4 (.nil 52 4 (.c (.val (.slice none 0 0))))])
 (.seq
 (.reg [
 iP 5 (.mov (.c (i64 0)))])
 (.seq
 (.blk 0
 (.loop l33_0))
 (.seq
 (.reg [
 iM 77 4,
 iP 78 (.bld [i64 0,i64 0] []),
 iM 2 77,
 ⟨none,none,.e (.st 2 (.t 3) (.t 78))⟩])
 .ret))))))
def r33:List RS:=[.t 2,.cn 3 2]
theorem c33:chkF Tryz.prog drawB Tryz.f33 i33 r33=true:=by kernel_rfl
def l34_0:IC:=.keep [0,2,3]
 (.seq
 (.seq
 (.reg [
 iM 7 0,
 iC 8 43 [.t 7,(.c (st ⟨#[111,114]⟩))]])
 (.cond (.t 8)
 .skip
 (.exit 0)))
 (.blk 1
 (.seq
 (.reg [
 iM 9 0,
 iC 10 40 [.t 9,(.c (st ⟨#[111,114]⟩))],
 iM 4 10])
 (.drw [0,1,2,3,4,5] [
 iM 11 4,
 iP 12 (.ldn 5 (.t 3)),
 iM 13 0,
 iC 14 84 [.t 13],
 ⟨(some 15),none,.q (.c (.fn (.func 85) [] [])) [(.c (i64 17)),(.t 11),(.t 12),(.t 14)]⟩,
 ⟨none,none,.e (.st 5 (.t 3) (.t 15))⟩]))))
def i34:IC :=
 (.seq
 (.reg [
 iE 2 (.alc 25 [i64 0,i64 0,st ⟨#[]⟩,.val (.slice none 0 0),i64 0])])
 (.seq
 (.reg [
 iM 5 0,
 iC 6 84 [.t 5],
 iE 3 (.alc 25 [i64 0,i64 0,st ⟨#[]⟩,.val (.slice none 0 0),i64 0]),
 ⟨none,none,.e (.st 5 (.t 3) (.t 6))⟩])
 (.seq
 (.blk 0
 (.loop l34_0))
 (.seq
 (.reg [
 iP 16 (.ldn 5 (.t 3)),
 ⟨none,none,.e (.st 5 (.t 2) (.t 16))⟩])
 .ret))))
def r34:List RS:=[.cn 2 5]
theorem c34:chkF Tryz.prog drawB Tryz.f34 i34 r34=true:=by kernel_rfl
def i35:IC :=
 (.seq
 (.reg [
 iM 4 0,
 iC 5 36 [.t 4],
 iP 6 (.not (.t 5))])
 (.cond (.t 6)
 (.reg [
 iM 7 0,
 iM 8 1,
 iM 9 0,
 iC 10 45 [.t 9],
 iP 11 (.bld [i64 0,i64 0] [(0,1,(.t 8)),(1,1,(.t 10))]),
 iP 12 (.nck (.t 7)),
 iF 13 4 12,
 ⟨none,none,.e (.st 2 (.t 13) (.t 11))⟩])
 .skip))
def r35:List RS:=[]
theorem c35:chkF Tryz.prog drawB Tryz.f35 i35 r35=true:=by kernel_rfl
def i36:IC :=
 (.seq
 (.reg [
 iP 2 (.mov (.c (bl false)))])
 (.seq
 (.reg [
 iM 3 0,
 iP 4 (.nck (.t 3)),
 iF 5 4 4,
 iF 6 0 5,
 iL 7 6,
 iP 8 (.bin .neq (.i .i64) (.t 7) (.c (i64 0))),
 iM 2 8])
 .ret))
def r36:List RS:=[.t 2]
theorem c36:chkF Tryz.prog drawB Tryz.f36 i36 r36=true:=by kernel_rfl
def l37_0:IC:=.keep [0,1,5]
 (.seq
 (.seq
 (.reg [
 iM 11 5,
 iM 12 0,
 iP 13 (.len (.t 12)),
 iP 14 (.bin .lss (.i .i64) (.t 11) (.t 13))])
 (.cond (.t 14)
 .skip
 (.exit 0)))
 (.seq
 (.blk 1
 (.seq
 (.drw [0,1,2,3,4,5,6,7,8,9] [
 iM 17 0,
 iM 18 5,
 iP 19 (.ia 5 (.t 17) (.t 18)),
 iP 20 (.ldn 5 (.t 19)),
 iM 21 1,
 iM 22 5,
 iP 23 (.ia 5 (.t 21) (.t 22)),
 iP 24 (.ldn 5 (.t 23)),
 ⟨(some 25),none,.q (.c (.fn (.func 13) [] [])) [(.t 20),(.t 24)]⟩,
 iP 26 (.not (.t 25))])
 (.cond (.t 26)
 (.seq
 (.reg [
 iP 4 (.mov (.c (bl false)))])
 .ret)
 .skip)))
 (.reg [
 iM 15 5,
 iP 16 (.bin .add (.i .i64) (.t 15) (.c (i64 1))),
 iM 5 16])))
def i37:IC :=
 (.seq
 (.reg [
 iP 4 (.mov (.c (bl false)))])
 (.seq
 (.seq
 (.reg [
 iM 6 0,
 iP 7 (.len (.t 6)),
 iM 8 1,
 iP 9 (.len (.t 8)),
 iP 10 (.bin .neq (.i .i64) (.t 7) (.t 9))])
 (.cond (.t 10)
 (.seq
 (.reg [
 iP 4 (.mov (.c (bl false)))])
 .ret)
 .skip))
 (.seq
 (.seq
 (.reg [
 iP 5 (.mov (.c (i64 0)))])
 (.blk 0
 (.loop l37_0)))
 (.seq
 (.reg [
 iP 4 (.mov (.c (bl true)))])
 .ret))))
def r37:List RS:=[.t 4]
theorem c37:chkF Tryz.prog drawB Tryz.f37 i37 r37=true:=by kernel_rfl
def i38a0:IC :=
 (.reg [
 iE 4 (.alc 36 [st ⟨#[]⟩,i64 0,.val (.slice none 0 0),.val (.slice none 0 0)]),
 iE 5 (.alc 28 [i64 0,i64 0])])
def i38a1:IC :=
 (.reg [
 iM 9 0,
 iC 10 26 [.t 9],
 iM 8 10,
 iP 11 (.ext (.t 8) 0),
 iP 12 (.ext (.t 8) 1),
 iM 6 11,
 ⟨none,none,.e (.st 2 (.t 5) (.t 12))⟩])
def i38a2:IC :=
 (.seq
 (.reg [
 iF 13 0 5,
 iL 14 13,
 iP 15 (.bin .neq (.i .i64) (.t 14) (.c (i64 0)))])
 (.cond (.t 15)
 (.seq
 (.drw [0,1,2,3] [
 iP 16 (.ldn 4 (.t 4)),
 iP 17 (.ldn 2 (.t 5)),
 ⟨none,none,.e (.st 4 (.t 4) (.t 16))⟩,
 ⟨none,none,.e (.stw [16] 2 (.t 5) (.t 17))⟩])
 .ret)
 .skip))
def i38p:List IC:=[i38a0,i38a1,i38a2]
def i38s:Ins:=⟨(some 18),none,.p (.mkf (.func 86) [] [(.t 4),(.t 5)])⟩
def i38f:Od:=.t 18
def i38:IC :=
 (.seq
 (.reg [
 iM 19 6,
 iM 20 0,
 iP 21 (.lens (.t 20)),
 iP 22 (.bld [.val (.slice none 0 0),i64 0,i64 0] [(0,1,(.t 19)),(2,1,(.t 21))]),
 iC 23 78 [],
 iP 24 (.bld [.val (.slice none 0 0),i64 0,i64 0,.val (.map none),.val (.map none),.val (.map none),.val (.map none),.val (.map none),i64 0] [(0,3,(.t 22)),(3,5,(.t 23))]),
 iE 25 (.box 127 (.t 24)),
 iM 7 25])
 (.seq
 (.reg [
 iM 26 1,
 iM 27 7,
 iE 28 (.call (.t 26) [(.t 27)]),
 ⟨none,none,.e (.st 4 (.t 4) (.t 28))⟩])
 (.seq
 (.seq
 (.drw [0,1,2,3,4,5,6,7,8,9,10,11] [
 iM 29 7,
 iP 30 (.nck (.t 29)),
 iF 31 0 30,
 iF 32 1 31,
 iL 33 32,
 iM 34 7,
 iP 35 (.nck (.t 34)),
 iF 36 0 35,
 iF 37 0 36,
 iL 38 37,
 iP 39 (.len (.t 38)),
 iP 40 (.bin .lss (.i .i64) (.t 33) (.t 39))])
 (.cond (.t 40)
 (.reg [
 iM 41 7,
 iP 42 (.nck (.t 41)),
 iF 43 0 42,
 iC 44 79 [.t 43,(.c (i64 11))]])
 .skip))
 (.seq
 (.reg [
 iP 45 (.ldn 4 (.t 4)),
 iP 46 (.bld [i64 0,i64 0] []),
 ⟨none,none,.e (.st 4 (.t 4) (.t 45))⟩,
 ⟨none,none,.e (.st 2 (.t 5) (.t 46))⟩])
 .ret))))
def r38:List RS:=[.cn 4 4,.cn 5 2]
theorem c38:chkDs Tryz.prog drawB Tryz.f38 i38p i38s i38f i38 r38=true:=by kernel_rfl
def l39_0:IC:=.keep [0,2,3]
 (.seq
 (.seq
 (.reg [
 iM 31 0,
 iP 32 (.nck (.t 31)),
 iF 33 0 32,
 iC 34 90 [.t 33,(.c (st ⟨#[118,97,114]⟩))]])
 (.cond (.t 34)
 .skip
 (.exit 0)))
 (.blk 1
 (.seq
 (.reg [
 iM 35 0,
 iP 36 (.nck (.t 35)),
 iF 37 0 36,
 iC 38 91 [.t 37],
 iP 39 (.bld [st ⟨#[]⟩,i64 0,i64 0] [(2,1,(.t 38))]),
 iE 4 (.alc 75 [st ⟨#[]⟩,i64 0,i64 0]),
 ⟨none,none,.e (.st 3 (.t 4) (.t 39))⟩])
 (.seq
 (.drw [0,1,2,3,4,5,6,7,8,9] [
 iM 40 0,
 iP 41 (.nck (.t 40)),
 iF 42 0 41,
 iF 43 2 3,
 iL 44 43,
 iP 45 (.len (.t 44)),
 iP 46 (.bin .eql (.i .i64) (.t 45) (.c (i64 40))),
 iC 47 88 [.t 42,.t 46],
 iF 48 0 4,
 ⟨none,none,.e (.stw [44] 1 (.t 48) (.t 47))⟩])
 (.seq
 (.reg [
 iM 49 0,
 iP 50 (.nck (.t 49)),
 iF 51 0 50,
 iE 52 (.bsl 9 1 1 [st ⟨#[]⟩] [(0,(.c (st ⟨#[61]⟩)))]),
 iC 53 87 [.t 51,.t 52]])
 (.seq
 (.reg [
 iM 54 0,
 iP 55 (.nck (.t 54)),
 iF 56 0 55,
 iC 57 90 [.t 56,(.c (st ⟨#[45]⟩))],
 iM 5 57])
 (.seq
 (.reg [
 iM 58 0,
 iP 59 (.nck (.t 58)),
 iF 60 0 59,
 iC 61 89 [.t 60,(.c (bl false))],
 iF 62 1 4,
 ⟨none,none,.e (.st 1 (.t 62) (.t 61))⟩])
 (.seq
 (.seq
 (.reg [
 iM 63 5])
 (.cond (.t 63)
 (.reg [
 iF 64 1 4,
 iL 65 64,
 iP 66 (.neg .i64 (.t 65)),
 iF 67 1 4,
 ⟨none,none,.e (.st 1 (.t 67) (.t 66))⟩])
 .skip))
 (.seq
 (.reg [
 iM 68 0,
 iP 69 (.nck (.t 68)),
 iF 70 0 69,
 iE 71 (.bsl 9 1 1 [st ⟨#[]⟩] [(0,(.c (st ⟨#[59]⟩)))]),
 iC 72 87 [.t 70,.t 71]])
 (.reg [
 iF 73 2 3,
 iL 74 73,
 iP 75 (.ldn 3 (.t 4)),
 iE 76 (.bsl 75 3 1 [st ⟨#[]⟩,i64 0,i64 0] [(0,(.t 75))]),
 iE 77 (.app 75 3 32 (.t 74) (.t 76)),
 iF 78 2 3,
 ⟨none,none,.e (.st 1 (.t 78) (.t 77))⟩]))))))))))
def l39_1:IC:=.keep [0,2,3]
 (.seq
 (.seq
 (.drw [0,1,2,3,4,5,6,7,8,9,10,11,12,13,14,15,16,17] [
 iF 79 3 3,
 iL 80 79,
 iP 81 (.len (.t 80)),
 iP 82 (.bin .eql (.i .i64) (.t 81) (.c (i64 0))),
 iM 83 82,
 iG 84 83 false (.mov (.t 0)),
 iG 85 83 false (.nck (.t 84)),
 iG 86 83 false (.fa 0 (.t 85)),
 iG 87 83 false (.fa 1 (.t 86)),
 iG 88 83 false (.ld1 (.t 87)),
 iG 89 83 false (.mov (.t 0)),
 iG 90 83 false (.nck (.t 89)),
 iG 91 83 false (.fa 0 (.t 90)),
 iG 92 83 false (.fa 0 (.t 91)),
 iG 93 83 false (.ld1 (.t 92)),
 iG 94 83 false (.len (.t 93)),
 iG 95 83 false (.bin .lss (.i .i64) (.t 88) (.t 94)),
 iP 96 (.pick (.t 83) (.c (bl true)) (.t 95))])
 (.cond (.t 96)
 .skip
 (.exit 2)))
 (.blk 3
 (.seq
 (.seq
 (.reg [
 iM 97 0,
 iP 98 (.nck (.t 97)),
 iF 99 0 98,
 iC 100 92 [.t 99],
 iP 101 (.not (.t 100)),
 iM 102 101,
 iG 103 102 true (.mov (.t 0)),
 iG 104 102 true (.nck (.t 103)),
 iG 105 102 true (.fa 0 (.t 104)),
 ⟨(some 106),(some (102,true)),.e (.bsl 9 1 3 [st ⟨#[]⟩] [(0,(.c (st ⟨#[100,101,97,108]⟩))),(1,(.c (st ⟨#[116,117,114,110]⟩))),(2,(.c (st ⟨#[101,110,100]⟩)))])⟩,
 ⟨(some 107),(some (102,true)),.q (.c (.fn (.func 93) [] [])) [(.t 105),(.t 106)]⟩,
 iG 108 102 true (.not (.t 107)),
 iP 109 (.pick (.t 102) (.t 108) (.c (bl false)))])
 (.cond (.t 109)
 (.reg [
 iM 110 0,
 iP 111 (.nck (.t 110)),
 iF 112 0 111,
 iC 113 79 [.t 112,(.c (i64 11))]])
 .skip))
 (.seq
 (.seq
 (.reg [
 iF 114 3 3,
 iL 115 114,
 iP 116 (.len (.t 115)),
 iP 117 (.bin .eql (.i .i64) (.t 116) (.c (i64 100)))])
 (.cond (.t 117)
 (.reg [
 iM 118 0,
 iP 119 (.nck (.t 118)),
 iF 120 0 119,
 iC 121 79 [.t 120,(.c (i64 12))]])
 .skip))
 (.drw [0,1,2,3,4,5,6,7] [
 iF 122 3 3,
 iL 123 122,
 iM 124 0,
 iC 125 94 [.t 124],
 iE 126 (.bsl 78 12 1 [i64 0,st ⟨#[]⟩,st ⟨#[]⟩,i64 0,i64 0,.val (.slice none 0 0),bl false,.val (.slice none 0 0),.val (.slice none 0 0),.val (.slice none 0 0),.val (.slice none 0 0),i64 0] [(0,(.t 125))]),
 iE 127 (.app 78 12 192 (.t 123) (.t 126)),
 iF 128 3 3,
 ⟨none,none,.e (.stw [123] 1 (.t 128) (.t 127))⟩])))))
def i39:IC :=
 (.seq
 (.reg [
 iE 2 (.alc 36 [st ⟨#[]⟩,i64 0,.val (.slice none 0 0),.val (.slice none 0 0)])])
 (.seq
 (.reg [
 iE 3 (.alc 36 [st ⟨#[]⟩,i64 0,.val (.slice none 0 0),.val (.slice none 0 0)])])
 (.seq
 (.reg [
 iM 6 0,
 iP 7 (.nck (.t 6)),
 iF 8 0 7,
 iE 9 (.bsl 9 1 1 [st ⟨#[]⟩] [(0,(.c (st ⟨#[103,97,109,101]⟩)))]),
 iC 10 87 [.t 8,.t 9]])
 (.seq
 (.reg [
 iM 11 0,
 iP 12 (.nck (.t 11)),
 iF 13 0 12,
 iC 14 88 [.t 13,(.c (bl false))],
 iF 15 0 3,
 ⟨none,none,.e (.st 1 (.t 15) (.t 14))⟩])
 (.seq
 (.reg [
 iM 16 0,
 iP 17 (.nck (.t 16)),
 iF 18 0 17,
 iE 19 (.bsl 9 1 2 [st ⟨#[]⟩] [(0,(.c (st ⟨#[59]⟩))),(1,(.c (st ⟨#[112,108,97,121,101,114,115]⟩)))]),
 iC 20 87 [.t 18,.t 19]])
 (.seq
 (.reg [
 iM 21 0,
 iP 22 (.nck (.t 21)),
 iF 23 0 22,
 iC 24 89 [.t 23,(.c (bl false))],
 iF 25 1 3,
 ⟨none,none,.e (.st 1 (.t 25) (.t 24))⟩])
 (.seq
 (.reg [
 iM 26 0,
 iP 27 (.nck (.t 26)),
 iF 28 0 27,
 iE 29 (.bsl 9 1 1 [st ⟨#[]⟩] [(0,(.c (st ⟨#[59]⟩)))]),
 iC 30 87 [.t 28,.t 29]])
 (.seq
 (.blk 0
 (.loop l39_0))
 (.seq
 (.blk 2
 (.loop l39_1))
 (.seq
 (.reg [
 iP 129 (.ldn 4 (.t 3)),
 ⟨none,none,.e (.st 4 (.t 2) (.t 129))⟩])
 .ret))))))))))
def r39:List RS:=[.cn 2 4]
theorem c39:chkF Tryz.prog drawB Tryz.f39 i39 r39=true:=by kernel_rfl
def i40:IC :=
 (.seq
 (.reg [
 iP 4 (.mov (.c (i64 0)))])
 (.seq
 (.reg [
 iM 6 0,
 iC 7 45 [.t 6],
 iM 5 7])
 (.seq
 (.seq
 (.reg [
 iM 8 0,
 iM 9 1,
 iC 10 43 [.t 8,.t 9],
 iP 11 (.not (.t 10))])
 (.cond (.t 11)
 (.seq
 (.reg [
 iM 12 0,
 iC 13 35 [.t 12,(.c (i64 11))]])
 (.seq
 (.reg [
 iM 14 5,
 iM 4 14])
 .ret))
 .skip))
 (.seq
 (.reg [
 iM 15 0,
 iP 16 (.nck (.t 15)),
 iF 17 2 16,
 iL 18 17,
 iP 19 (.bin .add (.i .i64) (.t 18) (.c (i64 1))),
 iP 20 (.nck (.t 15)),
 iF 21 2 20,
 ⟨none,none,.e (.st 1 (.t 21) (.t 19))⟩])
 (.seq
 (.reg [
 iM 22 5,
 iM 4 22])
 .ret)))))
def r40:List RS:=[.t 4]
theorem c40:chkF Tryz.prog drawB Tryz.f40 i40 r40=true:=by kernel_rfl
def i41:IC :=
 (.seq
 (.reg [
 iP 2 (.mov (.c (st ⟨#[]⟩)))])
 (.seq
 (.seq
 (.reg [
 iM 3 0,
 iC 4 44 [.t 3],
 iP 5 (.not (.t 4))])
 (.cond (.t 5)
 (.seq
 (.reg [
 iM 6 0,
 iC 7 35 [.t 6,(.c (i64 11))]])
 (.seq
 (.reg [
 iP 2 (.mov (.c (st ⟨#[]⟩)))])
 .ret))
 .skip))
 (.seq
 (.reg [
 iM 8 0,
 iP 9 (.nck (.t 8)),
 iF 10 2 9,
 iL 11 10,
 iP 12 (.bin .add (.i .i64) (.t 11) (.c (i64 1))),
 iP 13 (.nck (.t 8)),
 iF 14 2 13,
 ⟨none,none,.e (.st 1 (.t 14) (.t 12))⟩])
 (.seq
 (.drw [0,1,2,3,4,5,6,7,8,9,10,11,12] [
 iM 15 0,
 iP 16 (.nck (.t 15)),
 iF 17 0 16,
 iL 18 17,
 iM 19 0,
 iP 20 (.nck (.t 19)),
 iF 21 2 20,
 iL 22 21,
 iP 23 (.bin .sub (.i .i64) (.t 22) (.c (i64 1))),
 iP 24 (.ia 4 (.t 18) (.t 23)),
 iF 25 1 24,
 iL 26 25,
 iM 2 26])
 .ret))))
def r41:List RS:=[.t 2]
theorem c41:chkF Tryz.prog drawB Tryz.f41 i41 r41=true:=by kernel_rfl
def i42:IC :=
 (.seq
 (.reg [
 iP 2 (.mov (.c (i64 0)))])
 (.seq
 (.seq
 (.drw [0,1,2,3,4,5,6,7,8,9,10,11,12,13,14,15,16,17,18,19,20,21,22,23,24,25,26,27] [
 iM 3 0,
 ⟨(some 4),none,.q (.c (.fn (.func 36) [] [])) [(.t 3)]⟩,
 iM 5 4,
 iG 6 5 false (.mov (.t 0)),
 iG 7 5 false (.nck (.t 6)),
 iG 8 5 false (.fa 2 (.t 7)),
 iG 9 5 false (.ld1 (.t 8)),
 iG 10 5 false (.mov (.t 0)),
 iG 11 5 false (.nck (.t 10)),
 iG 12 5 false (.fa 0 (.t 11)),
 iG 13 5 false (.ld1 (.t 12)),
 iG 14 5 false (.len (.t 13)),
 iG 15 5 false (.bin .geq (.i .i64) (.t 9) (.t 14)),
 iP 16 (.pick (.t 5) (.c (bl true)) (.t 15)),
 iM 17 16,
 iG 18 17 false (.mov (.t 0)),
 iG 19 17 false (.nck (.t 18)),
 iG 20 17 false (.fa 0 (.t 19)),
 iG 21 17 false (.ld1 (.t 20)),
 iG 22 17 false (.mov (.t 0)),
 iG 23 17 false (.nck (.t 22)),
 iG 24 17 false (.fa 2 (.t 23)),
 iG 25 17 false (.ld1 (.t 24)),
 iG 26 17 false (.ia 4 (.t 21) (.t 25)),
 iG 27 17 false (.fa 0 (.t 26)),
 iG 28 17 false (.ld1 (.t 27)),
 iG 29 17 false (.bin .neq (.i .i64) (.t 28) (.c (i64 2))),
 iP 30 (.pick (.t 17) (.c (bl true)) (.t 29))])
 (.cond (.t 30)
 (.seq
 (.reg [
 iM 31 0,
 iC 32 35 [.t 31,(.c (i64 11))]])
 (.seq
 (.reg [
 iP 2 (.mov (.c (i64 0)))])
 .ret))
 .skip))
 (.seq
 (.reg [
 iM 33 0,
 iP 34 (.nck (.t 33)),
 iF 35 2 34,
 iL 36 35,
 iP 37 (.bin .add (.i .i64) (.t 36) (.c (i64 1))),
 iP 38 (.nck (.t 33)),
 iF 39 2 38,
 ⟨none,none,.e (.st 1 (.t 39) (.t 37))⟩])
 (.seq
 (.drw [0,1,2,3,4,5,6,7,8,9,10,11,12] [
 iM 40 0,
 iP 41 (.nck (.t 40)),
 iF 42 0 41,
 iL 43 42,
 iM 44 0,
 iP 45 (.nck (.t 44)),
 iF 46 2 45,
 iL 47 46,
 iP 48 (.bin .sub (.i .i64) (.t 47) (.c (i64 1))),
 iP 49 (.ia 4 (.t 43) (.t 48)),
 iF 50 2 49,
 iL 51 50,
 iM 2 51])
 .ret))))
def r42:List RS:=[.t 2]
theorem c42:chkF Tryz.prog drawB Tryz.f42 i42 r42=true:=by kernel_rfl
def i43:IC :=
 (.seq
 (.reg [
 iP 4 (.mov (.c (bl false)))])
 (.seq
 (.drw [0,1,2,3,4,5,6,7,8,9,10,11,12,13,14,15,16,17,18,19,20,21,22,23,24,25,26,27,28,29,30,31,32,33,34,35,36,37,38,39,40,41,42,43,44] [
 iM 5 0,
 ⟨(some 6),none,.q (.c (.fn (.func 36) [] [])) [(.t 5)]⟩,
 iP 7 (.not (.t 6)),
 iM 8 7,
 iG 9 8 true (.mov (.t 0)),
 iG 10 8 true (.nck (.t 9)),
 iG 11 8 true (.fa 2 (.t 10)),
 iG 12 8 true (.ld1 (.t 11)),
 iG 13 8 true (.mov (.t 0)),
 iG 14 8 true (.nck (.t 13)),
 iG 15 8 true (.fa 0 (.t 14)),
 iG 16 8 true (.ld1 (.t 15)),
 iG 17 8 true (.len (.t 16)),
 iG 18 8 true (.bin .lss (.i .i64) (.t 12) (.t 17)),
 iP 19 (.pick (.t 8) (.t 18) (.c (bl false))),
 iM 20 19,
 iG 21 20 true (.mov (.t 0)),
 iG 22 20 true (.nck (.t 21)),
 iG 23 20 true (.fa 0 (.t 22)),
 iG 24 20 true (.ld1 (.t 23)),
 iG 25 20 true (.mov (.t 0)),
 iG 26 20 true (.nck (.t 25)),
 iG 27 20 true (.fa 2 (.t 26)),
 iG 28 20 true (.ld1 (.t 27)),
 iG 29 20 true (.ia 4 (.t 24) (.t 28)),
 iG 30 20 true (.fa 0 (.t 29)),
 iG 31 20 true (.ld1 (.t 30)),
 iG 32 20 true (.bin .neq (.i .i64) (.t 31) (.c (i64 2))),
 iP 33 (.pick (.t 20) (.t 32) (.c (bl false))),
 iM 34 33,
 iG 35 34 true (.mov (.t 0)),
 iG 36 34 true (.nck (.t 35)),
 iG 37 34 true (.fa 0 (.t 36)),
 iG 38 34 true (.ld1 (.t 37)),
 iG 39 34 true (.mov (.t 0)),
 iG 40 34 true (.nck (.t 39)),
 iG 41 34 true (.fa 2 (.t 40)),
 iG 42 34 true (.ld1 (.t 41)),
 iG 43 34 true (.ia 4 (.t 38) (.t 42)),
 iG 44 34 true (.fa 1 (.t 43)),
 iG 45 34 true (.ld1 (.t 44)),
 iG 46 34 true (.mov (.t 1)),
 iG 47 34 true (.bin .eql .s (.t 45) (.t 46)),
 iP 48 (.pick (.t 34) (.t 47) (.c (bl false))),
 iM 4 48])
 .ret))
def r43:List RS:=[.t 4]
theorem c43:chkF Tryz.prog drawB Tryz.f43 i43 r43=true:=by kernel_rfl
def i44:IC :=
 (.seq
 (.reg [
 iP 2 (.mov (.c (bl false)))])
 (.seq
 (.drw [0,1,2,3,4,5,6,7,8,9,10,11,12,13,14,15,16,17,18,19,20,21,22,23,24,25,26,27,28,29,30,31,32,33,34,35,36,37,38,39,40,41,42,43,44] [
 iM 3 0,
 ⟨(some 4),none,.q (.c (.fn (.func 36) [] [])) [(.t 3)]⟩,
 iP 5 (.not (.t 4)),
 iM 6 5,
 iG 7 6 true (.mov (.t 0)),
 iG 8 6 true (.nck (.t 7)),
 iG 9 6 true (.fa 2 (.t 8)),
 iG 10 6 true (.ld1 (.t 9)),
 iG 11 6 true (.mov (.t 0)),
 iG 12 6 true (.nck (.t 11)),
 iG 13 6 true (.fa 0 (.t 12)),
 iG 14 6 true (.ld1 (.t 13)),
 iG 15 6 true (.len (.t 14)),
 iG 16 6 true (.bin .lss (.i .i64) (.t 10) (.t 15)),
 iP 17 (.pick (.t 6) (.t 16) (.c (bl false))),
 iM 18 17,
 iG 19 18 true (.mov (.t 0)),
 iG 20 18 true (.nck (.t 19)),
 iG 21 18 true (.fa 0 (.t 20)),
 iG 22 18 true (.ld1 (.t 21)),
 iG 23 18 true (.mov (.t 0)),
 iG 24 18 true (.nck (.t 23)),
 iG 25 18 true (.fa 2 (.t 24)),
 iG 26 18 true (.ld1 (.t 25)),
 iG 27 18 true (.ia 4 (.t 22) (.t 26)),
 iG 28 18 true (.fa 0 (.t 27)),
 iG 29 18 true (.ld1 (.t 28)),
 iG 30 18 true (.bin .eql (.i .i64) (.t 29) (.c (i64 1))),
 iP 31 (.pick (.t 18) (.t 30) (.c (bl false))),
 iM 32 31,
 iG 33 32 true (.mov (.t 0)),
 iG 34 32 true (.nck (.t 33)),
 iG 35 32 true (.fa 0 (.t 34)),
 iG 36 32 true (.ld1 (.t 35)),
 iG 37 32 true (.mov (.t 0)),
 iG 38 32 true (.nck (.t 37)),
 iG 39 32 true (.fa 2 (.t 38)),
 iG 40 32 true (.ld1 (.t 39)),
 iG 41 32 true (.ia 4 (.t 36) (.t 40)),
 iG 42 32 true (.fa 1 (.t 41)),
 iG 43 32 true (.ld1 (.t 42)),
 ⟨(some 44),(some (32,true)),.q (.c (.fn (.func 95) [] [])) [(.t 43)]⟩,
 iG 45 32 true (.not (.t 44)),
 iP 46 (.pick (.t 32) (.t 45) (.c (bl false))),
 iM 2 46])
 .ret))
def r44:List RS:=[.t 2]
theorem c44:chkF Tryz.prog drawB Tryz.f44 i44 r44=true:=by kernel_rfl
def i45:IC :=
 (.seq
 (.reg [
 iP 2 (.mov (.c (i64 0)))])
 (.seq
 (.seq
 (.drw [0,1,2,3,4,5,6,7,8,9] [
 iM 3 0,
 iP 4 (.nck (.t 3)),
 iF 5 2 4,
 iL 6 5,
 iM 7 0,
 iP 8 (.nck (.t 7)),
 iF 9 0 8,
 iL 10 9,
 iP 11 (.len (.t 10)),
 iP 12 (.bin .lss (.i .i64) (.t 6) (.t 11))])
 (.cond (.t 12)
 (.seq
 (.drw [0,1,2,3,4,5,6,7,8,9,10,11] [
 iM 13 0,
 iP 14 (.nck (.t 13)),
 iF 15 0 14,
 iL 16 15,
 iM 17 0,
 iP 18 (.nck (.t 17)),
 iF 19 2 18,
 iL 20 19,
 iP 21 (.ia 4 (.t 16) (.t 20)),
 iF 22 3 21,
 iL 23 22,
 iM 2 23])
 .ret)
 .skip))
 (.seq
 (.reg [
 iM 24 0,
 iP 25 (.nck (.t 24)),
 iF 26 1 25,
 iL 27 26,
 iM 2 27])
 .ret)))
def r45:List RS:=[.t 2]
theorem c45:chkF Tryz.prog drawB Tryz.f45 i45 r45=true:=by kernel_rfl
def i46:IC :=
 (.seq
 (.reg [
 iE 2 (.alc 78 [i64 0,st ⟨#[]⟩,st ⟨#[]⟩,i64 0,i64 0,.val (.slice none 0 0),bl false,.val (.slice none 0 0),.val (.slice none 0 0),.val (.slice none 0 0),.val (.slice none 0 0),i64 0])])
 (.seq
 (.reg [
 iE 3 (.alc 78 [i64 0,st ⟨#[]⟩,st ⟨#[]⟩,i64 0,i64 0,.val (.slice none 0 0),bl false,.val (.slice none 0 0),.val (.slice none 0 0),.val (.slice none 0 0),.val (.slice none 0 0),i64 0])])
 (.seq
 (.seq
 (.reg [
 iM 4 0,
 iC 5 44 [.t 4]])
 (.cond (.t 5)
 (.seq
 (.reg [
 iM 6 0,
 iC 7 41 [.t 6],
 iF 8 1 3,
 ⟨none,none,.e (.st 1 (.t 8) (.t 7))⟩])
 (.reg [
 iM 9 0,
 iC 10 40 [.t 9,(.c (st ⟨#[58]⟩))]]))
 .skip))
 (.seq
 (.seq
 (.reg [
 iM 11 0,
 iC 12 43 [.t 11,(.c (st ⟨#[100,101,97,108]⟩))]])
 (.cond (.t 12)
 (.seq
 (.reg [
 iM 13 0,
 iP 14 (.ldn 12 (.t 3)),
 iC 15 96 [.t 13,.t 14],
 ⟨none,none,.e (.st 12 (.t 2) (.t 15))⟩])
 .ret)
 .skip))
 (.seq
 (.seq
 (.reg [
 iM 16 0,
 iC 17 43 [.t 16,(.c (st ⟨#[116,117,114,110]⟩))]])
 (.cond (.t 17)
 (.seq
 (.reg [
 iM 18 0,
 iP 19 (.ldn 12 (.t 3)),
 iC 20 97 [.t 18,.t 19],
 ⟨none,none,.e (.st 12 (.t 2) (.t 20))⟩])
 .ret)
 .skip))
 (.seq
 (.reg [
 iF 21 0 3,
 ⟨none,none,.e (.st 1 (.t 21) (.c (i64 3)))⟩])
 (.seq
 (.reg [
 iM 22 0,
 iC 23 40 [.t 22,(.c (st ⟨#[101,110,100]⟩))],
 iF 24 11 3,
 ⟨none,none,.e (.st 1 (.t 24) (.t 23))⟩])
 (.seq
 (.reg [
 iM 25 0,
 iC 26 40 [.t 25,(.c (st ⟨#[123]⟩))]])
 (.seq
 (.reg [
 iM 27 0,
 iC 28 40 [.t 27,(.c (st ⟨#[112,97,121]⟩))]])
 (.seq
 (.reg [
 iM 29 0,
 iC 30 98 [.t 29],
 iF 31 10 3,
 ⟨none,none,.e (.st 1 (.t 31) (.t 30))⟩])
 (.seq
 (.reg [
 iM 32 0,
 iC 33 40 [.t 32,(.c (st ⟨#[59]⟩))]])
 (.seq
 (.reg [
 iM 34 0,
 iC 35 40 [.t 34,(.c (st ⟨#[125]⟩))]])
 (.seq
 (.reg [
 iP 36 (.ldn 12 (.t 3)),
 ⟨none,none,.e (.st 12 (.t 2) (.t 36))⟩])
 .ret)))))))))))))
def r46:List RS:=[.cn 2 12]
theorem c46:chkF Tryz.prog drawB Tryz.f46 i46 r46=true:=by kernel_rfl
def l47_0:IC:=.keep [0,1,5]
 (.seq
 (.seq
 (.reg [
 iM 11 5,
 iM 12 0,
 iP 13 (.len (.t 12)),
 iP 14 (.bin .lss (.i .i64) (.t 11) (.t 13))])
 (.cond (.t 14)
 .skip
 (.exit 0)))
 (.seq
 (.blk 1
 (.seq
 (.drw [0,1,2,3,4,5,6,7,8] [
 iM 17 0,
 iM 18 5,
 iP 19 (.ia 3 (.t 17) (.t 18)),
 iP 20 (.ldn 3 (.t 19)),
 iM 21 1,
 iM 22 5,
 iP 23 (.ia 3 (.t 21) (.t 22)),
 iP 24 (.ldn 3 (.t 23)),
 iP 25 (.eqf true [.s,.i .i64,.i .i64] (.t 20) (.t 24))])
 (.cond (.t 25)
 (.seq
 (.reg [
 iP 4 (.mov (.c (bl false)))])
 .ret)
 .skip)))
 (.reg [
 iM 15 5,
 iP 16 (.bin .add (.i .i64) (.t 15) (.c (i64 1))),
 iM 5 16])))
def i47:IC :=
 (.seq
 (.reg [
 iP 4 (.mov (.c (bl false)))])
 (.seq
 (.seq
 (.reg [
 iM 6 0,
 iP 7 (.len (.t 6)),
 iM 8 1,
 iP 9 (.len (.t 8)),
 iP 10 (.bin .neq (.i .i64) (.t 7) (.t 9))])
 (.cond (.t 10)
 (.seq
 (.reg [
 iP 4 (.mov (.c (bl false)))])
 .ret)
 .skip))
 (.seq
 (.seq
 (.reg [
 iP 5 (.mov (.c (i64 0)))])
 (.blk 0
 (.loop l47_0)))
 (.seq
 (.reg [
 iP 4 (.mov (.c (bl true)))])
 .ret))))
def r47:List RS:=[.t 4]
theorem c47:chkF Tryz.prog drawB Tryz.f47 i47 r47=true:=by kernel_rfl
def l48_0:IC:=.keep [2,3,5]
 (.seq
 (.seq
 (.reg [
 iM 70 5,
 iF 71 9 2,
 iL 72 71,
 iP 73 (.len (.t 72)),
 iP 74 (.bin .lss (.i .i64) (.t 70) (.t 73))])
 (.cond (.t 74)
 .skip
 (.exit 0)))
 (.seq
 (.blk 1
 (.seq
 (.drw [0,1,2,3,4,5,6,7,8,9,10,11] [
 iF 77 9 2,
 iL 78 77,
 iM 79 5,
 iP 80 (.ia 6 (.t 78) (.t 79)),
 iP 81 (.ldn 6 (.t 80)),
 iF 82 9 3,
 iL 83 82,
 iM 84 5,
 iP 85 (.ia 6 (.t 83) (.t 84)),
 iP 86 (.ldn 6 (.t 85)),
 ⟨(some 87),none,.q (.c (.fn (.func 100) [] [])) [(.t 81),(.t 86)]⟩,
 iP 88 (.not (.t 87))])
 (.cond (.t 88)
 (.seq
 (.reg [
 iP 4 (.mov (.c (bl false)))])
 .ret)
 .skip)))
 (.reg [
 iM 75 5,
 iP 76 (.bin .add (.i .i64) (.t 75) (.c (i64 1))),
 iM 5 76])))
def i48:IC :=
 (.seq
 (.reg [
 iE 2 (.box 78 (.t 0)),
 iE 3 (.box 78 (.t 1)),
 iP 4 (.mov (.c (bl false)))])
 (.seq
 (.seq
 (.reg [
 iF 6 0 2,
 iL 7 6,
 iF 8 0 3,
 iL 9 8,
 iP 10 (.bin .neq (.i .i64) (.t 7) (.t 9)),
 iM 11 10,
 iG 12 11 false (.fa 1 (.t 2)),
 iG 13 11 false (.ld1 (.t 12)),
 iG 14 11 false (.fa 1 (.t 3)),
 iG 15 11 false (.ld1 (.t 14)),
 iG 16 11 false (.bin .neq .s (.t 13) (.t 15)),
 iP 17 (.pick (.t 11) (.c (bl true)) (.t 16)),
 iM 18 17,
 iG 19 18 false (.fa 2 (.t 2)),
 iG 20 18 false (.ld1 (.t 19)),
 iG 21 18 false (.fa 2 (.t 3)),
 iG 22 18 false (.ld1 (.t 21)),
 iG 23 18 false (.bin .neq .s (.t 20) (.t 22)),
 iP 24 (.pick (.t 18) (.c (bl true)) (.t 23)),
 iM 25 24,
 iG 26 25 false (.fa 3 (.t 2)),
 iG 27 25 false (.ld1 (.t 26)),
 iG 28 25 false (.fa 3 (.t 3)),
 iG 29 25 false (.ld1 (.t 28)),
 iG 30 25 false (.bin .neq (.i .i64) (.t 27) (.t 29)),
 iP 31 (.pick (.t 25) (.c (bl true)) (.t 30)),
 iM 32 31,
 iG 33 32 false (.fa 4 (.t 2)),
 iG 34 32 false (.ld1 (.t 33)),
 iG 35 32 false (.fa 4 (.t 3)),
 iG 36 32 false (.ld1 (.t 35)),
 iG 37 32 false (.bin .neq (.i .i64) (.t 34) (.t 36)),
 iP 38 (.pick (.t 32) (.c (bl true)) (.t 37)),
 iM 39 38,
 iG 40 39 false (.fa 6 (.t 2)),
 iG 41 39 false (.ld1 (.t 40)),
 iG 42 39 false (.fa 6 (.t 3)),
 iG 43 39 false (.ld1 (.t 42)),
 iG 44 39 false (.bin .neq .b (.t 41) (.t 43)),
 iP 45 (.pick (.t 39) (.c (bl true)) (.t 44)),
 iM 46 45,
 iG 47 46 false (.fa 11 (.t 2)),
 iG 48 46 false (.ld1 (.t 47)),
 iG 49 46 false (.fa 11 (.t 3)),
 iG 50 46 false (.ld1 (.t 49)),
 iG 51 46 false (.bin .neq (.i .i64) (.t 48) (.t 50)),
 iP 52 (.pick (.t 46) (.c (bl true)) (.t 51)),
 iM 53 52,
 iG 54 53 false (.fa 7 (.t 2)),
 iG 55 53 false (.ld1 (.t 54)),
 iG 56 53 false (.fa 7 (.t 3)),
 iG 57 53 false (.ld1 (.t 56)),
 ⟨(some 58),(some (53,false)),.q (.c (.fn (.func 99) [] [])) [(.t 55),(.t 57)]⟩,
 iG 59 53 false (.not (.t 58)),
 iP 60 (.pick (.t 53) (.c (bl true)) (.t 59)),
 iM 61 60,
 iG 62 61 false (.fa 9 (.t 2)),
 iG 63 61 false (.ld1 (.t 62)),
 iG 64 61 false (.len (.t 63)),
 iG 65 61 false (.fa 9 (.t 3)),
 iG 66 61 false (.ld1 (.t 65)),
 iG 67 61 false (.len (.t 66)),
 iG 68 61 false (.bin .neq (.i .i64) (.t 64) (.t 67)),
 iP 69 (.pick (.t 61) (.c (bl true)) (.t 68))])
 (.cond (.t 69)
 (.seq
 (.reg [
 iP 4 (.mov (.c (bl false)))])
 .ret)
 .skip))
 (.seq
 (.seq
 (.reg [
 iP 5 (.mov (.c (i64 0)))])
 (.blk 0
 (.loop l48_0)))
 (.seq
 (.reg [
 iF 89 5 2,
 iL 90 89,
 iF 91 5 3,
 iL 92 91,
 iC 93 37 [.t 90,.t 92],
 iM 94 93,
 iG 95 94 true (.fa 8 (.t 2)),
 iG 96 94 true (.ld1 (.t 95)),
 iG 97 94 true (.fa 8 (.t 3)),
 iG 98 94 true (.ld1 (.t 97)),
 ⟨(some 99),(some (94,true)),.q (.c (.fn (.func 37) [] [])) [(.t 96),(.t 98)]⟩,
 iP 100 (.pick (.t 94) (.t 99) (.c (bl false))),
 iM 101 100,
 iG 102 101 true (.fa 10 (.t 2)),
 iG 103 101 true (.ld1 (.t 102)),
 iG 104 101 true (.fa 10 (.t 3)),
 iG 105 101 true (.ld1 (.t 104)),
 ⟨(some 106),(some (101,true)),.q (.c (.fn (.func 37) [] [])) [(.t 103),(.t 105)]⟩,
 iP 107 (.pick (.t 101) (.t 106) (.c (bl false))),
 iM 4 107])
 .ret))))
def r48:List RS:=[.t 4]
theorem c48:chkF Tryz.prog drawB Tryz.f48 i48 r48=true:=by kernel_rfl
def i51:IC :=
 (.seq
 (.reg [
 iP 2 (.mov (.c (bl false)))])
 (.seq
 (.reg [
 iM 3 0,
 iP 4 (.nck (.t 3)),
 iF 5 0 4,
 iL 6 5,
 iP 7 (.len (.t 6)),
 iP 8 (.bin .gtr (.i .i64) (.t 7) (.c (i64 20000))),
 iM 2 8])
 .ret))
def r51:List RS:=[.t 2]
theorem c51:chkF Tryz.prog drawB Tryz.f51 i51 r51=true:=by kernel_rfl
def i70:IC :=
 (.seq
 (.reg [
 iE 1 (.box 9 (.t 0)),
 iP 2 (.mov (.c (.val .nilFunc)))])
 (.seq
 (.reg [
 iP 3 (.mkf (.func 123) [] [(.t 1)]),
 iM 2 3])
 .ret))
def r70:List RS:=[.t 2]
theorem c70:chkF Tryz.prog drawB Tryz.f70 i70 r70=true:=by kernel_rfl
def i71:IC :=
 (.seq
 (.reg [
 iE 2 (.alc 28 [i64 0,i64 0])])
 (.seq
 (.reg [
 iE 3 (.alc 115 [i64 0,i64 0])])
 (.seq
 (.seq
 (.reg [
 iM 4 0,
 iP 5 (.mki 161 (.t 3)),
 iC 6 129 [.t 4,.t 5]])
 (.cond (.t 6)
 (.seq
 (.reg [
 iF 7 0 3,
 iP 8 (.ldn 2 (.t 7)),
 ⟨none,none,.e (.st 2 (.t 2) (.t 8))⟩])
 .ret)
 .skip))
 (.seq
 (.reg [
 iP 9 (.bld [i64 0,i64 0] []),
 ⟨none,none,.e (.st 2 (.t 2) (.t 9))⟩])
 .ret))))
def r71:List RS:=[.cn 2 2]
theorem c71:chkF Tryz.prog drawB Tryz.f71 i71 r71=true:=by kernel_rfl
def l72_1:IC:=.keep [3,4,42,43,44]
 (.seq
 (.reg [
 iP 45 (.bin .lss (.i .i64) (.t 44) (.t 43))])
 (.seq
 (.cond (.t 45)
 .skip
 (.exit 2))
 (.seq
 (.blk 3
 (.seq
 (.reg [
 iP 46 (.ia 5 (.t 42) (.t 44)),
 iP 47 (.ldn 5 (.t 46)),
 iE 7 (.alc 25 [i64 0,i64 0,st ⟨#[]⟩,.val (.slice none 0 0),i64 0]),
 ⟨none,none,.e (.st 5 (.t 7) (.t 47))⟩])
 (.seq
 (.seq
 (.reg [
 iP 48 (.ldn 5 (.t 7)),
 iC 49 130 [.t 48],
 iP 50 (.not (.t 49))])
 (.cond (.t 50)
 (.seq
 (.reg [
 iP 2 (.mov (.c (bl false)))])
 .ret)
 .skip))
 (.reg [
 iM 51 3,
 iF 52 3 7,
 iL 53 52,
 iE 54 (.bsl 23 1 1 [.val (.slice none 0 0)] [(0,(.t 53))]),
 iE 55 (.app 23 1 24 (.t 51) (.t 54)),
 iM 3 55]))))
 (.reg [
 iP 56 (.bin .add (.i .i64) (.t 44) (.c (i64 1))),
 iM 44 56]))))
def r72:List RS:=[.t 2]
def i73:IC :=
 (.seq
 (.reg [
 iE 3 (.box 25 (.t 1))])
 (.seq
 (.seq
 (.reg [
 iM 6 0,
 iC 7 51 [.t 6]])
 (.cond (.t 7)
 .ret
 .skip))
 (.seq
 (.reg [
 iF 9 0 3,
 iL 10 9,
 iC 11 131 [.t 10],
 iM 8 11,
 iP 12 (.ext (.t 8) 0),
 iP 13 (.ext (.t 8) 1),
 iM 4 12,
 iM 5 13])
 (.blk 0
 (.seq
 (.reg [
 iF 31 0 3,
 iL 32 31,
 iP 33 (.bin .eql (.i .i64) (.t 32) (.c (i64 1))),
 iM 30 33])
 (.cond (.t 30)
 (.reg [
 iM 34 0,
 iF 35 1 3,
 iL 36 35,
 iC 37 106 [.t 36],
 iE 38 (.bsl 9 1 1 [st ⟨#[]⟩] [(0,(.t 37))]),
 iC 39 105 [.t 34,.t 38]])
 (.seq
 (.reg [
 iF 41 0 3,
 iL 42 41,
 iP 43 (.bin .eql (.i .i64) (.t 42) (.c (i64 2))),
 iM 40 43])
 (.cond (.t 40)
 (.reg [
 iM 44 0,
 iF 45 2 3,
 iL 46 45,
 iE 47 (.bsl 9 1 1 [st ⟨#[]⟩] [(0,(.t 46))]),
 iC 48 105 [.t 44,.t 47]])
 (.seq
 (.reg [
 iF 50 0 3,
 iL 51 50,
 iC 52 132 [.t 51],
 iM 49 52])
 (.cond (.t 49)
 (.seq
 (.reg [
 iM 53 0,
 iM 54 4,
 iE 55 (.bsl 9 1 2 [st ⟨#[]⟩] [(0,(.t 54)),(1,(.c (st ⟨#[40]⟩)))]),
 iC 56 105 [.t 53,.t 55]])
 (.seq
 (.reg [
 iM 57 0,
 iF 58 3 3,
 iL 59 58,
 iC 60 109 [.t 57,.t 59]])
 (.reg [
 iM 61 0,
 iE 62 (.bsl 9 1 1 [st ⟨#[]⟩] [(0,(.c (st ⟨#[41]⟩)))]),
 iC 63 105 [.t 61,.t 62]])))
 (.seq
 (.reg [
 iM 65 5,
 iP 66 (.bin .eql (.i .i64) (.t 65) (.c (i64 1))),
 iM 64 66])
 (.cond (.t 64)
 (.seq
 (.reg [
 iM 67 0,
 iM 68 4,
 iE 69 (.bsl 9 1 2 [st ⟨#[]⟩] [(0,(.t 68)),(1,(.c (st ⟨#[32]⟩)))]),
 iC 70 105 [.t 67,.t 69]])
 (.reg [
 iM 71 0,
 iF 72 3 3,
 iL 73 72,
 iP 74 (.ia 5 (.t 73) (.c (i64 0))),
 iP 75 (.ldn 5 (.t 74)),
 iC 76 133 [.t 71,.t 75]]))
 (.seq
 (.reg [
 iM 14 0,
 iF 15 3 3,
 iL 16 15,
 iP 17 (.ia 5 (.t 16) (.c (i64 0))),
 iP 18 (.ldn 5 (.t 17)),
 iC 19 133 [.t 14,.t 18]])
 (.seq
 (.reg [
 iM 20 0,
 iM 21 4,
 iE 22 (.bsl 9 1 3 [st ⟨#[]⟩] [(0,(.c (st ⟨#[32]⟩))),(1,(.t 21)),(2,(.c (st ⟨#[32]⟩)))]),
 iC 23 105 [.t 20,.t 22]])
 (.reg [
 iM 24 0,
 iF 25 3 3,
 iL 26 25,
 iP 27 (.ia 5 (.t 26) (.c (i64 1))),
 iP 28 (.ldn 5 (.t 27)),
 iC 29 133 [.t 24,.t 28]])))))))))))))))
def r73:List RS:=[]
theorem c73:chkF Tryz.prog drawB Tryz.f73 i73 r73=true:=by kernel_rfl
def i76s:List Ins:=[iM 2 4]
def i76:IC :=
 (.seq
 (.reg [
 iM 5 2,
 iP 6 (.ifn true true (.t 5))])
 (.cond (.t 6)
 (.seq
 (.reg [
 iE 3 (.alc 25 [i64 0,i64 0,st ⟨#[]⟩,.val (.slice none 0 0),i64 0])])
 (.drw [0,1,2,3,4] [
 iP 7 (.ldn 5 (.t 3)),
 iM 8 2,
 ⟨(some 9),none,.q (.c (.fn (.func 77) [] [])) [(.t 8)]⟩,
 ⟨none,none,.e (.st 5 (.t 0) (.t 7))⟩,
 ⟨none,none,.e (.stw [7] 2 (.t 1) (.t 9))⟩]))
 .skip))
theorem c76:chkRc Tryz.prog drawB Tryz.f76 4 i76s i76=true:=by kernel_rfl
def i77:IC :=
 (.seq
 (.reg [
 iE 2 (.alc 28 [i64 0,i64 0])])
 (.seq
 (.seq
 (.reg [
 iM 6 0,
 iP 7 (.tas 28 true (.agg [i64 0,i64 0]) (.t 6)),
 iM 5 7,
 iP 8 (.ext (.t 5) 0),
 iP 9 (.ext (.t 5) 1),
 iE 3 (.alc 28 [i64 0,i64 0]),
 ⟨none,none,.e (.st 2 (.t 3) (.t 8))⟩,
 iM 4 9])
 (.seq
 (.reg [
 iM 10 4])
 (.cond (.t 10)
 (.seq
 (.reg [
 iP 11 (.ldn 2 (.t 3)),
 ⟨none,none,.e (.st 2 (.t 2) (.t 11))⟩])
 .ret)
 .skip)))
 (.seq
 (.reg [
 iP 12 (.bld [i64 0,i64 0] [(0,1,(.c (i64 11)))]),
 ⟨none,none,.e (.st 2 (.t 2) (.t 12))⟩])
 .ret)))
def r77:List RS:=[.cn 2 2]
theorem c77:chkF Tryz.prog drawB Tryz.f77 i77 r77=true:=by kernel_rfl
def i78:IC :=
 (.seq
 (.reg [
 iE 0 (.alc 124 [.val (.map none),.val (.map none),.val (.map none),.val (.map none),.val (.map none)])])
 (.seq
 (.reg [
 iE 1 (.mkm 123),
 ⟨none,none,.e (.mup .s (.t 1) (.c (st ⟨#[111,114]⟩)) (.c (i64 17)))⟩,
 iM 2 1,
 iE 3 (.mkm 123),
 ⟨none,none,.e (.mup .s (.t 3) (.c (st ⟨#[97,110,100]⟩)) (.c (i64 16)))⟩,
 iM 4 3,
 iE 5 (.mkm 123),
 ⟨none,none,.e (.mup .s (.t 5) (.c (st ⟨#[61,61]⟩)) (.c (i64 10)))⟩,
 ⟨none,none,.e (.mup .s (.t 5) (.c (st ⟨#[33,61]⟩)) (.c (i64 11)))⟩,
 ⟨none,none,.e (.mup .s (.t 5) (.c (st ⟨#[60]⟩)) (.c (i64 12)))⟩,
 ⟨none,none,.e (.mup .s (.t 5) (.c (st ⟨#[60,61]⟩)) (.c (i64 13)))⟩,
 ⟨none,none,.e (.mup .s (.t 5) (.c (st ⟨#[62]⟩)) (.c (i64 14)))⟩,
 ⟨none,none,.e (.mup .s (.t 5) (.c (st ⟨#[62,61]⟩)) (.c (i64 15)))⟩,
 iM 6 5,
 iE 7 (.mkm 123),
 ⟨none,none,.e (.mup .s (.t 7) (.c (st ⟨#[43]⟩)) (.c (i64 8)))⟩,
 ⟨none,none,.e (.mup .s (.t 7) (.c (st ⟨#[45]⟩)) (.c (i64 9)))⟩,
 iM 8 7,
 iE 9 (.mkm 123),
 ⟨none,none,.e (.mup .s (.t 9) (.c (st ⟨#[42]⟩)) (.c (i64 5)))⟩,
 ⟨none,none,.e (.mup .s (.t 9) (.c (st ⟨#[47]⟩)) (.c (i64 6)))⟩,
 ⟨none,none,.e (.mup .s (.t 9) (.c (st ⟨#[37]⟩)) (.c (i64 7)))⟩,
 iM 10 9,
 iP 11 (.bld [.val (.map none),.val (.map none),.val (.map none),.val (.map none),.val (.map none)] [(0,1,(.t 2)),(1,1,(.t 4)),(2,1,(.t 6)),(3,1,(.t 8)),(4,1,(.t 10))]),
 ⟨none,none,.e (.st 5 (.t 0) (.t 11))⟩])
 .ret))
def r78:List RS:=[.cn 0 5]
theorem c78:chkF Tryz.prog drawB Tryz.f78 i78 r78=true:=by kernel_rfl
def i79:IC :=
 (.reg [
 iM 4 1,
 iM 5 0,
 iC 6 91 [.t 5],
 iP 7 (.bld [i64 0,i64 0] [(0,1,(.t 4)),(1,1,(.t 6))]),
 iP 8 (.mki 28 (.t 7)),
 ⟨none,none,.e (.pan (.t 8))⟩])
def r79:List RS:=[]
theorem c79:chkF Tryz.prog drawB Tryz.f79 i79 r79=true:=by kernel_rfl
def l80_0:IC:=.keep [1,2,4,5]
 (.blk 1
 (.seq
 (.drw [0,1,2,3,4,5,6,7,8,9,10,11,12,13,14,15,16] [
 iL 30 2,
 iM 31 1,
 iP 32 (.nck (.t 30)),
 iF 33 3 32,
 iP 34 (.iap 5 1 (.t 33) (.t 31)),
 iL 35 34,
 iL 36 2,
 iP 37 (.nck (.t 36)),
 iF 38 0 37,
 ⟨(some 39),none,.q (.c (.fn (.func 139) [] [])) [(.t 38)]⟩,
 iP 40 (.fld1 1 (.t 39)),
 iP 41 (.lkp .s true (i64 0) (.t 35) (.t 40)),
 iM 29 41,
 iP 42 (.ext (.t 29) 0),
 iP 43 (.ext (.t 29) 1),
 iM 6 42,
 iM 7 43])
 (.seq
 (.seq
 (.reg [
 iM 44 7,
 iP 45 (.not (.t 44))])
 (.cond (.t 45)
 (.seq
 (.reg [
 iP 46 (.ldn 5 (.t 5)),
 ⟨none,none,.e (.st 5 (.t 4) (.t 46))⟩])
 .ret)
 .skip))
 (.seq
 (.reg [
 iL 47 2,
 iP 48 (.nck (.t 47)),
 iF 49 0 48,
 iC 50 91 [.t 49],
 iM 8 50])
 (.seq
 (.reg [
 iL 51 2,
 iP 52 (.nck (.t 51)),
 iF 53 0 52,
 iC 54 140 [.t 53]])
 (.seq
 (.drw [0,1,2,3,4,7,5,6,8,9] [
 iM 55 6,
 iP 56 (.ldn 5 (.t 5)),
 iL 57 2,
 iM 58 1,
 iP 59 (.bin .add (.i .i64) (.t 58) (.c (i64 1))),
 iM 62 8,
 iC 60 80 [.t 57,.t 59],
 iE 61 (.bsl 25 5 2 [i64 0,i64 0,st ⟨#[]⟩,.val (.slice none 0 0),i64 0] [(0,(.t 56)),(1,(.t 60))]),
 iP 63 (.bld [i64 0,i64 0,st ⟨#[]⟩,.val (.slice none 0 0),i64 0] [(0,1,(.t 55)),(3,1,(.t 61)),(4,1,(.t 62))]),
 ⟨none,none,.e (.stw [57,56] 5 (.t 5) (.t 63))⟩])
 (.seq
 (.reg [
 iM 64 1,
 iP 65 (.bin .eql (.i .i64) (.t 64) (.c (i64 2)))])
 (.cond (.t 65)
 (.seq
 (.reg [
 iP 66 (.ldn 5 (.t 5)),
 ⟨none,none,.e (.st 5 (.t 4) (.t 66))⟩])
 .ret)
 .skip))))))))
def i80:IC :=
 (.seq
 (.reg [
 iE 2 (.box 62 (.t 0)),
 iE 4 (.alc 25 [i64 0,i64 0,st ⟨#[]⟩,.val (.slice none 0 0),i64 0])])
 (.seq
 (.seq
 (.reg [
 iM 9 1,
 iP 10 (.bin .eql (.i .i64) (.t 9) (.c (i64 5)))])
 (.cond (.t 10)
 (.seq
 (.reg [
 iL 11 2,
 iC 12 136 [.t 11],
 ⟨none,none,.e (.st 5 (.t 4) (.t 12))⟩])
 .ret)
 .skip))
 (.seq
 (.seq
 (.reg [
 iM 13 1,
 iP 14 (.bin .eql (.i .i64) (.t 13) (.c (i64 2))),
 iM 15 14,
 iG 16 15 true (.ld1 (.t 2)),
 iG 17 15 true (.nck (.t 16)),
 iG 18 15 true (.fa 0 (.t 17)),
 ⟨(some 19),(some (15,true)),.e (.bsl 9 1 1 [st ⟨#[]⟩] [(0,(.c (st ⟨#[110,111,116]⟩)))])⟩,
 ⟨(some 20),(some (15,true)),.q (.c (.fn (.func 93) [] [])) [(.t 18),(.t 19)]⟩,
 iP 21 (.pick (.t 15) (.t 20) (.c (bl false)))])
 (.cond (.t 21)
 (.seq
 (.reg [
 iL 22 2,
 iP 23 (.mkf (.func 138) [] [(.t 2)]),
 iC 24 137 [.t 22,(.c (i64 4)),.t 23],
 ⟨none,none,.e (.st 5 (.t 4) (.t 24))⟩])
 .ret)
 .skip))
 (.seq
 (.reg [
 iL 25 2,
 iM 26 1,
 iP 27 (.bin .add (.i .i64) (.t 26) (.c (i64 1))),
 iC 28 80 [.t 25,.t 27],
 iE 5 (.alc 25 [i64 0,i64 0,st ⟨#[]⟩,.val (.slice none 0 0),i64 0]),
 ⟨none,none,.e (.st 5 (.t 5) (.t 28))⟩])
 (.blk 0
 (.loop l80_0))))))
def r80:List RS:=[.cn 4 5]
theorem c80:chkF Tryz.prog drawB Tryz.f80 i80 r80=true:=by kernel_rfl
def i81:IC :=
 (.seq
 (.reg [
 iP 2 (.mov (.c (bl false)))])
 (.seq
 (.reg [
 iM 3 0,
 iP 4 (.bin .eql (.i .u8) (.t 3) (.c (.val (.int .u8 32)))),
 iM 5 4,
 iG 6 5 false (.mov (.t 0)),
 iG 7 5 false (.bin .eql (.i .u8) (.t 6) (.c (.val (.int .u8 9)))),
 iP 8 (.pick (.t 5) (.c (bl true)) (.t 7)),
 iM 9 8,
 iG 10 9 false (.mov (.t 0)),
 iG 11 9 false (.bin .eql (.i .u8) (.t 10) (.c (.val (.int .u8 10)))),
 iP 12 (.pick (.t 9) (.c (bl true)) (.t 11)),
 iM 2 12])
 .ret))
def r81:List RS:=[.t 2]
theorem c81:chkF Tryz.prog drawB Tryz.f81 i81 r81=true:=by kernel_rfl
def l82_0:IC:=.keep [0,1,4,6,7]
 (.seq
 (.seq
 (.reg [
 iM 17 7,
 iM 18 0,
 iP 19 (.lens (.t 18)),
 iP 20 (.bin .lss (.i .i64) (.t 17) (.t 19)),
 iM 21 20,
 iG 22 21 true (.mov (.t 0)),
 iG 23 21 true (.mov (.t 7)),
 iG 24 21 true (.ixs (.t 22) (.t 23)),
 ⟨(some 25),(some (21,true)),.q (.c (.fn (.func 83) [] [])) [(.t 24)]⟩,
 iG 26 21 true (.mov (.t 25)),
 iG 27 26 false (.mov (.t 0)),
 iG 28 26 false (.mov (.t 7)),
 iG 29 26 false (.ixs (.t 27) (.t 28)),
 ⟨(some 30),(some (26,false)),.q (.c (.fn (.func 141) [] [])) [(.t 29)]⟩,
 iG 31 21 true (.pick (.t 26) (.c (bl true)) (.t 30)),
 iP 32 (.pick (.t 21) (.t 31) (.c (bl false)))])
 (.cond (.t 32)
 .skip
 (.exit 0)))
 (.blk 1
 (.reg [
 iM 33 7,
 iP 34 (.bin .add (.i .i64) (.t 33) (.c (i64 1))),
 iM 7 34])))
def l82_1:IC:=.keep [0,1,4,6,7]
 (.seq
 (.seq
 (.reg [
 iM 53 7,
 iM 54 0,
 iP 55 (.lens (.t 54)),
 iP 56 (.bin .lss (.i .i64) (.t 53) (.t 55)),
 iM 57 56,
 iG 58 57 true (.mov (.t 0)),
 iG 59 57 true (.mov (.t 7)),
 iG 60 57 true (.ixs (.t 58) (.t 59)),
 ⟨(some 61),(some (57,true)),.q (.c (.fn (.func 141) [] [])) [(.t 60)]⟩,
 iP 62 (.pick (.t 57) (.t 61) (.c (bl false)))])
 (.cond (.t 62)
 .skip
 (.exit 2)))
 (.blk 3
 (.reg [
 iM 63 7,
 iP 64 (.bin .add (.i .i64) (.t 63) (.c (i64 1))),
 iM 7 64])))
def i82:IC :=
 (.seq
 (.reg [
 iE 4 (.alc 52 [i64 0,st ⟨#[]⟩,i64 0,i64 0]),
 iP 5 (.mov (.c (i64 0))),
 iE 6 (.alc 28 [i64 0,i64 0])])
 (.seq
 (.reg [
 iM 11 1,
 iM 7 11])
 (.seq
 (.reg [
 iM 12 0,
 iM 13 1,
 iP 14 (.ixs (.t 12) (.t 13)),
 iM 8 14])
 (.seq
 (.seq
 (.reg [
 iM 15 8,
 iC 16 83 [.t 15]])
 (.cond (.t 16)
 (.seq
 (.blk 0
 (.loop l82_0))
 (.seq
 (.seq
 (.reg [
 iM 35 7,
 iM 36 1,
 iP 37 (.bin .sub (.i .i64) (.t 35) (.t 36)),
 iP 38 (.bin .gtr (.i .i64) (.t 37) (.c (i64 40)))])
 (.cond (.t 38)
 (.seq
 (.reg [
 iP 39 (.bld [i64 0,st ⟨#[]⟩,i64 0,i64 0] []),
 iM 40 1,
 iM 41 1,
 iP 42 (.bld [i64 0,i64 0] [(0,1,(.c (i64 4))),(1,1,(.t 41))]),
 ⟨none,none,.e (.st 4 (.t 4) (.t 39))⟩,
 iM 5 40,
 ⟨none,none,.e (.st 2 (.t 6) (.t 42))⟩])
 .ret)
 .skip))
 (.seq
 (.reg [
 iM 43 0,
 iM 44 1,
 iM 45 7,
 iP 46 (.sls (.t 43) (some (.t 44)) (some (.t 45))),
 iM 47 1,
 iP 48 (.bld [i64 0,st ⟨#[]⟩,i64 0,i64 0] [(0,1,(.c (i64 1))),(1,1,(.t 46)),(3,1,(.t 47))]),
 iM 49 7,
 iP 50 (.bld [i64 0,i64 0] []),
 ⟨none,none,.e (.st 4 (.t 4) (.t 48))⟩,
 iM 5 49,
 ⟨none,none,.e (.st 2 (.t 6) (.t 50))⟩])
 .ret)))
 .skip))
 (.seq
 (.seq
 (.reg [
 iM 51 8,
 iC 52 141 [.t 51]])
 (.cond (.t 52)
 (.seq
 (.blk 2
 (.loop l82_1))
 (.seq
 (.reg [
 iM 66 0,
 iM 67 1,
 iM 68 7,
 iP 69 (.sls (.t 66) (some (.t 67)) (some (.t 68))),
 iC 70 142 [.t 69],
 iM 65 70,
 iP 71 (.ext (.t 65) 0),
 iP 72 (.ext (.t 65) 1),
 iM 9 71,
 iM 10 72])
 (.seq
 (.seq
 (.reg [
 iM 73 10,
 iP 74 (.bin .neq (.i .i64) (.t 73) (.c (i64 0)))])
 (.cond (.t 74)
 (.seq
 (.reg [
 iP 75 (.bld [i64 0,st ⟨#[]⟩,i64 0,i64 0] []),
 iM 76 1,
 iM 77 10,
 iM 78 1,
 iP 79 (.bld [i64 0,i64 0] [(0,1,(.t 77)),(1,1,(.t 78))]),
 ⟨none,none,.e (.st 4 (.t 4) (.t 75))⟩,
 iM 5 76,
 ⟨none,none,.e (.st 2 (.t 6) (.t 79))⟩])
 .ret)
 .skip))
 (.seq
 (.reg [
 iM 80 0,
 iM 81 1,
 iM 82 7,
 iP 83 (.sls (.t 80) (some (.t 81)) (some (.t 82))),
 iM 84 9,
 iM 85 1,
 iP 86 (.bld [i64 0,st ⟨#[]⟩,i64 0,i64 0] [(0,1,(.c (i64 2))),(1,1,(.t 83)),(2,1,(.t 84)),(3,1,(.t 85))]),
 iM 87 7,
 iP 88 (.bld [i64 0,i64 0] []),
 ⟨none,none,.e (.st 4 (.t 4) (.t 86))⟩,
 iM 5 87,
 ⟨none,none,.e (.st 2 (.t 6) (.t 88))⟩])
 .ret))))
 .skip))
 (.seq
 (.seq
 (.reg [
 iM 89 1,
 iP 90 (.bin .add (.i .i64) (.t 89) (.c (i64 2))),
 iM 91 0,
 iP 92 (.lens (.t 91)),
 iP 93 (.bin .leq (.i .i64) (.t 90) (.t 92)),
 iM 94 93,
 iG 95 94 true (.mov (.t 0)),
 iG 96 94 true (.mov (.t 1)),
 iG 97 94 true (.mov (.t 1)),
 iG 98 94 true (.bin .add (.i .i64) (.t 97) (.c (i64 2))),
 iG 99 94 true (.sls (.t 95) (some (.t 96)) (some (.t 98))),
 ⟨(some 100),(some (94,true)),.q (.c (.fn (.func 143) [] [])) [(.t 99)]⟩,
 iP 101 (.pick (.t 94) (.t 100) (.c (bl false)))])
 (.cond (.t 101)
 (.seq
 (.reg [
 iM 102 0,
 iM 103 1,
 iM 104 1,
 iP 105 (.bin .add (.i .i64) (.t 104) (.c (i64 2))),
 iP 106 (.sls (.t 102) (some (.t 103)) (some (.t 105))),
 iM 107 1,
 iP 108 (.bld [i64 0,st ⟨#[]⟩,i64 0,i64 0] [(0,1,(.c (i64 3))),(1,1,(.t 106)),(3,1,(.t 107))]),
 iM 109 1,
 iP 110 (.bin .add (.i .i64) (.t 109) (.c (i64 2))),
 iP 111 (.bld [i64 0,i64 0] []),
 ⟨none,none,.e (.st 4 (.t 4) (.t 108))⟩,
 iM 5 110,
 ⟨none,none,.e (.st 2 (.t 6) (.t 111))⟩])
 .ret)
 .skip))
 (.seq
 (.seq
 (.reg [
 iM 112 8,
 iC 113 144 [.t 112]])
 (.cond (.t 113)
 (.seq
 (.reg [
 iM 114 0,
 iM 115 1,
 iM 116 1,
 iP 117 (.bin .add (.i .i64) (.t 116) (.c (i64 1))),
 iP 118 (.sls (.t 114) (some (.t 115)) (some (.t 117))),
 iM 119 1,
 iP 120 (.bld [i64 0,st ⟨#[]⟩,i64 0,i64 0] [(0,1,(.c (i64 3))),(1,1,(.t 118)),(3,1,(.t 119))]),
 iM 121 1,
 iP 122 (.bin .add (.i .i64) (.t 121) (.c (i64 1))),
 iP 123 (.bld [i64 0,i64 0] []),
 ⟨none,none,.e (.st 4 (.t 4) (.t 120))⟩,
 iM 5 122,
 ⟨none,none,.e (.st 2 (.t 6) (.t 123))⟩])
 .ret)
 .skip))
 (.seq
 (.reg [
 iP 124 (.bld [i64 0,st ⟨#[]⟩,i64 0,i64 0] []),
 iM 125 1,
 iM 126 1,
 iP 127 (.bld [i64 0,i64 0] [(0,1,(.c (i64 11))),(1,1,(.t 126))]),
 ⟨none,none,.e (.st 4 (.t 4) (.t 124))⟩,
 iM 5 125,
 ⟨none,none,.e (.st 2 (.t 6) (.t 127))⟩])
 .ret))))))))
def r82:List RS:=[.cn 4 4,.t 5,.cn 6 2]
theorem c82:chkF Tryz.prog drawB Tryz.f82 i82 r82=true:=by kernel_rfl
def i83:IC :=
 (.seq
 (.reg [
 iP 2 (.mov (.c (bl false)))])
 (.seq
 (.reg [
 iM 3 0,
 iP 4 (.bin .geq (.i .u8) (.t 3) (.c (.val (.int .u8 65)))),
 iM 5 4,
 iG 6 5 true (.mov (.t 0)),
 iG 7 5 true (.bin .leq (.i .u8) (.t 6) (.c (.val (.int .u8 90)))),
 iP 8 (.pick (.t 5) (.t 7) (.c (bl false))),
 iM 9 8,
 iG 10 9 false (.mov (.t 0)),
 iG 11 9 false (.bin .geq (.i .u8) (.t 10) (.c (.val (.int .u8 97)))),
 iG 12 9 false (.mov (.t 11)),
 iG 13 12 true (.mov (.t 0)),
 iG 14 12 true (.bin .leq (.i .u8) (.t 13) (.c (.val (.int .u8 122)))),
 iG 15 9 false (.pick (.t 12) (.t 14) (.c (bl false))),
 iP 16 (.pick (.t 9) (.c (bl true)) (.t 15)),
 iM 17 16,
 iG 18 17 false (.mov (.t 0)),
 iG 19 17 false (.bin .eql (.i .u8) (.t 18) (.c (.val (.int .u8 95)))),
 iP 20 (.pick (.t 17) (.c (bl true)) (.t 19)),
 iM 2 20])
 .ret))
def r83:List RS:=[.t 2]
theorem c83:chkF Tryz.prog drawB Tryz.f83 i83 r83=true:=by kernel_rfl
def l84_0:IC:=.keep [0,2,3]
 (.seq
 (.seq
 (.reg [
 iM 7 0,
 iC 8 43 [.t 7,(.c (st ⟨#[97,110,100]⟩))]])
 (.cond (.t 8)
 .skip
 (.exit 0)))
 (.blk 1
 (.seq
 (.reg [
 iM 9 0,
 iC 10 40 [.t 9,(.c (st ⟨#[97,110,100]⟩))],
 iM 4 10])
 (.drw [0,1,2,3,4,5] [
 iM 11 4,
 iP 12 (.ldn 5 (.t 3)),
 iM 13 0,
 iC 14 145 [.t 13],
 ⟨(some 15),none,.q (.c (.fn (.func 85) [] [])) [(.c (i64 16)),(.t 11),(.t 12),(.t 14)]⟩,
 ⟨none,none,.e (.st 5 (.t 3) (.t 15))⟩]))))
def i84:IC :=
 (.seq
 (.reg [
 iE 2 (.alc 25 [i64 0,i64 0,st ⟨#[]⟩,.val (.slice none 0 0),i64 0])])
 (.seq
 (.reg [
 iM 5 0,
 iC 6 145 [.t 5],
 iE 3 (.alc 25 [i64 0,i64 0,st ⟨#[]⟩,.val (.slice none 0 0),i64 0]),
 ⟨none,none,.e (.st 5 (.t 3) (.t 6))⟩])
 (.seq
 (.blk 0
 (.loop l84_0))
 (.seq
 (.reg [
 iP 16 (.ldn 5 (.t 3)),
 ⟨none,none,.e (.st 5 (.t 2) (.t 16))⟩])
 .ret))))
def r84:List RS:=[.cn 2 5]
theorem c84:chkF Tryz.prog drawB Tryz.f84 i84 r84=true:=by kernel_rfl
def i85:IC :=
 (.seq
 (.reg [
 iE 6 (.box 25 (.t 2)),
 iE 7 (.box 25 (.t 3)),
 iE 8 (.alc 25 [i64 0,i64 0,st ⟨#[]⟩,.val (.slice none 0 0),i64 0])])
 (.seq
 (.reg [
 iM 9 0,
 iP 10 (.ldn 5 (.t 6)),
 iP 11 (.ldn 5 (.t 7)),
 iE 12 (.bsl 25 5 2 [i64 0,i64 0,st ⟨#[]⟩,.val (.slice none 0 0),i64 0] [(0,(.t 10)),(1,(.t 11))]),
 iM 13 1,
 iP 14 (.bld [i64 0,i64 0,st ⟨#[]⟩,.val (.slice none 0 0),i64 0] [(0,1,(.t 9)),(3,1,(.t 12)),(4,1,(.t 13))]),
 ⟨none,none,.e (.st 5 (.t 8) (.t 14))⟩])
 .ret))
def r85:List RS:=[.cn 8 5]
theorem c85:chkF Tryz.prog drawB Tryz.f85 i85 r85=true:=by kernel_rfl
def i86s:List Ins:=[iM 2 4]
def i86:IC :=
 (.seq
 (.reg [
 iM 5 2,
 iP 6 (.ifn true true (.t 5))])
 (.cond (.t 6)
 (.seq
 (.reg [
 iE 3 (.alc 36 [st ⟨#[]⟩,i64 0,.val (.slice none 0 0),.val (.slice none 0 0)])])
 (.drw [0,1,2,3,4] [
 iP 7 (.ldn 4 (.t 3)),
 iM 8 2,
 ⟨(some 9),none,.q (.c (.fn (.func 77) [] [])) [(.t 8)]⟩,
 ⟨none,none,.e (.st 4 (.t 0) (.t 7))⟩,
 ⟨none,none,.e (.stw [7] 2 (.t 1) (.t 9))⟩]))
 .skip))
theorem c86:chkRc Tryz.prog drawB Tryz.f86 4 i86s i86=true:=by kernel_rfl
def l87_0:IC:=.keep [0,6,7,8]
 (.seq
 (.reg [
 iP 9 (.bin .lss (.i .i64) (.t 8) (.t 7))])
 (.seq
 (.cond (.t 9)
 .skip
 (.exit 0))
 (.seq
 (.blk 1
 (.seq
 (.reg [
 iP 10 (.ia 1 (.t 6) (.t 8)),
 iL 11 10,
 iM 5 11])
 (.seq
 (.reg [
 iM 12 0,
 iM 13 5,
 iC 14 90 [.t 12,.t 13],
 iP 15 (.not (.t 14))])
 (.cond (.t 15)
 (.reg [
 iM 16 0,
 iC 17 79 [.t 16,(.c (i64 11))]])
 .skip))))
 (.reg [
 iP 18 (.bin .add (.i .i64) (.t 8) (.c (i64 1))),
 iM 8 18]))))
def i87:IC :=
 (.seq
 (.reg [
 iM 6 1,
 iP 7 (.len (.t 6)),
 iP 8 (.mov (.c (i64 0)))])
 (.blk 0
 (.loop l87_0)))
def r87:List RS:=[]
theorem c87:chkF Tryz.prog drawB Tryz.f87 i87 r87=true:=by kernel_rfl
def i88:IC :=
 (.seq
 (.reg [
 iP 4 (.mov (.c (st ⟨#[]⟩)))])
 (.seq
 (.seq
 (.reg [
 iM 5 0,
 iC 6 92 [.t 5],
 iP 7 (.not (.t 6))])
 (.cond (.t 7)
 (.reg [
 iM 8 0,
 iC 9 79 [.t 8,(.c (i64 11))]])
 .skip))
 (.seq
 (.seq
 (.reg [
 iM 10 1])
 (.cond (.t 10)
 (.reg [
 iM 11 0,
 iC 12 79 [.t 11,(.c (i64 12))]])
 .skip))
 (.seq
 (.reg [
 iM 13 0,
 iC 14 140 [.t 13],
 iP 15 (.fld1 1 (.t 14)),
 iM 4 15])
 .ret))))
def r88:List RS:=[.t 4]
theorem c88:chkF Tryz.prog drawB Tryz.f88 i88 r88=true:=by kernel_rfl
def i89:IC :=
 (.seq
 (.reg [
 iP 4 (.mov (.c (i64 0)))])
 (.seq
 (.seq
 (.reg [
 iM 5 0,
 iC 6 139 [.t 5],
 iP 7 (.fld1 0 (.t 6)),
 iP 8 (.bin .neq (.i .i64) (.t 7) (.c (i64 2)))])
 (.cond (.t 8)
 (.reg [
 iM 9 0,
 iC 10 79 [.t 9,(.c (i64 11))]])
 .skip))
 (.seq
 (.seq
 (.reg [
 iM 11 1])
 (.cond (.t 11)
 (.reg [
 iM 12 0,
 iC 13 79 [.t 12,(.c (i64 12))]])
 .skip))
 (.seq
 (.reg [
 iM 14 0,
 iC 15 140 [.t 14],
 iP 16 (.fld1 2 (.t 15)),
 iM 4 16])
 .ret))))
def r89:List RS:=[.t 4]
theorem c89:chkF Tryz.prog drawB Tryz.f89 i89 r89=true:=by kernel_rfl
def i90:IC :=
 (.seq
 (.reg [
 iP 4 (.mov (.c (bl false)))])
 (.seq
 (.seq
 (.reg [
 iM 5 0,
 iM 6 1,
 iE 7 (.bsl 9 1 1 [st ⟨#[]⟩] [(0,(.t 6))]),
 iC 8 93 [.t 5,.t 7],
 iP 9 (.not (.t 8))])
 (.cond (.t 9)
 (.seq
 (.reg [
 iP 4 (.mov (.c (bl false)))])
 .ret)
 .skip))
 (.seq
 (.reg [
 iM 10 0,
 iP 11 (.nck (.t 10)),
 iF 12 1 11,
 iL 13 12,
 iP 14 (.bin .add (.i .i64) (.t 13) (.c (i64 1))),
 iP 15 (.nck (.t 10)),
 iF 16 1 15,
 ⟨none,none,.e (.st 1 (.t 16) (.t 14))⟩])
 (.seq
 (.reg [
 iP 4 (.mov (.c (bl true)))])
 .ret))))
def r90:List RS:=[.t 4]
theorem c90:chkF Tryz.prog drawB Tryz.f90 i90 r90=true:=by kernel_rfl
def i91:IC :=
 (.seq
 (.reg [
 iP 2 (.mov (.c (i64 0)))])
 (.seq
 (.seq
 (.drw [0,1,2,3,4,5,6,7,8,9] [
 iM 3 0,
 iP 4 (.nck (.t 3)),
 iF 5 1 4,
 iL 6 5,
 iM 7 0,
 iP 8 (.nck (.t 7)),
 iF 9 0 8,
 iL 10 9,
 iP 11 (.len (.t 10)),
 iP 12 (.bin .lss (.i .i64) (.t 6) (.t 11))])
 (.cond (.t 12)
 (.seq
 (.drw [0,1,2,3,4,5,6,7,8,9,10,11] [
 iM 13 0,
 iP 14 (.nck (.t 13)),
 iF 15 0 14,
 iL 16 15,
 iM 17 0,
 iP 18 (.nck (.t 17)),
 iF 19 1 18,
 iL 20 19,
 iP 21 (.ia 4 (.t 16) (.t 20)),
 iF 22 3 21,
 iL 23 22,
 iM 2 23])
 .ret)
 .skip))
 (.seq
 (.reg [
 iM 24 0,
 iP 25 (.nck (.t 24)),
 iF 26 2 25,
 iL 27 26,
 iM 2 27])
 .ret)))
def r91:List RS:=[.t 2]
theorem c91:chkF Tryz.prog drawB Tryz.f91 i91 r91=true:=by kernel_rfl
def i92:IC :=
 (.seq
 (.reg [
 iP 2 (.mov (.c (bl false)))])
 (.seq
 (.reg [
 iM 4 0,
 iC 5 139 [.t 4],
 iE 3 (.alc 52 [i64 0,st ⟨#[]⟩,i64 0,i64 0]),
 ⟨none,none,.e (.st 4 (.t 3) (.t 5))⟩])
 (.seq
 (.reg [
 iF 6 0 3,
 iL 7 6,
 iP 8 (.bin .eql (.i .i64) (.t 7) (.c (i64 1))),
 iM 9 8,
 iG 10 9 true (.fa 1 (.t 3)),
 iG 11 9 true (.ld1 (.t 10)),
 ⟨(some 12),(some (9,true)),.q (.c (.fn (.func 146) [] [])) [(.t 11)]⟩,
 iG 13 9 true (.not (.t 12)),
 iP 14 (.pick (.t 9) (.t 13) (.c (bl false))),
 iM 2 14])
 .ret)))
def r92:List RS:=[.t 2]
theorem c92:chkF Tryz.prog drawB Tryz.f92 i92 r92=true:=by kernel_rfl
def l93_0:IC:=.keep [5,10,11,12]
 (.seq
 (.reg [
 iP 13 (.bin .lss (.i .i64) (.t 12) (.t 11))])
 (.seq
 (.cond (.t 13)
 .skip
 (.exit 0))
 (.seq
 (.blk 1
 (.seq
 (.reg [
 iP 14 (.ia 1 (.t 10) (.t 12)),
 iL 15 14,
 iM 7 15])
 (.seq
 (.reg [
 iF 16 1 5,
 iL 17 16,
 iM 18 7,
 iP 19 (.bin .eql .s (.t 17) (.t 18))])
 (.cond (.t 19)
 (.seq
 (.reg [
 iP 4 (.mov (.c (bl true)))])
 .ret)
 .skip))))
 (.reg [
 iP 20 (.bin .add (.i .i64) (.t 12) (.c (i64 1))),
 iM 12 20]))))
def i93:IC :=
 (.seq
 (.reg [
 iP 4 (.mov (.c (bl false)))])
 (.seq
 (.reg [
 iM 8 0,
 iC 9 139 [.t 8],
 iE 5 (.alc 52 [i64 0,st ⟨#[]⟩,i64 0,i64 0]),
 ⟨none,none,.e (.st 4 (.t 5) (.t 9))⟩])
 (.seq
 (.seq
 (.reg [
 iM 10 1,
 iP 11 (.len (.t 10)),
 iP 12 (.mov (.c (i64 0)))])
 (.blk 0
 (.loop l93_0)))
 (.seq
 (.reg [
 iP 4 (.mov (.c (bl false)))])
 .ret))))
def r93:List RS:=[.t 4]
theorem c93:chkF Tryz.prog drawB Tryz.f93 i93 r93=true:=by kernel_rfl
def i94:IC :=
 (.seq
 (.reg [
 iE 2 (.alc 78 [i64 0,st ⟨#[]⟩,st ⟨#[]⟩,i64 0,i64 0,.val (.slice none 0 0),bl false,.val (.slice none 0 0),.val (.slice none 0 0),.val (.slice none 0 0),.val (.slice none 0 0),i64 0])])
 (.seq
 (.reg [
 iE 3 (.alc 78 [i64 0,st ⟨#[]⟩,st ⟨#[]⟩,i64 0,i64 0,.val (.slice none 0 0),bl false,.val (.slice none 0 0),.val (.slice none 0 0),.val (.slice none 0 0),.val (.slice none 0 0),i64 0])])
 (.seq
 (.seq
 (.reg [
 iM 7 0,
 iP 8 (.nck (.t 7)),
 iF 9 0 8,
 iC 10 92 [.t 9]])
 (.cond (.t 10)
 (.seq
 (.reg [
 iM 11 0,
 iP 12 (.nck (.t 11)),
 iF 13 0 12,
 iC 14 88 [.t 13,(.c (bl false))],
 iF 15 1 3,
 ⟨none,none,.e (.st 1 (.t 15) (.t 14))⟩])
 (.reg [
 iM 16 0,
 iP 17 (.nck (.t 16)),
 iF 18 0 17,
 iE 19 (.bsl 9 1 1 [st ⟨#[]⟩] [(0,(.c (st ⟨#[58]⟩)))]),
 iC 20 87 [.t 18,.t 19]]))
 .skip))
 (.seq
 (.reg [
 iE 21 (.mkm 184),
 ⟨none,none,.e (.mup .s (.t 21) (.c (st ⟨#[100,101,97,108]⟩)) (.c (.fn (.func 147) [] [])))⟩,
 ⟨none,none,.e (.mup .s (.t 21) (.c (st ⟨#[116,117,114,110]⟩)) (.c (.fn (.func 148) [] [])))⟩,
 ⟨none,none,.e (.mup .s (.t 21) (.c (st ⟨#[101,110,100]⟩)) (.c (.fn (.func 149) [] [])))⟩,
 iM 22 21,
 iM 4 22])
 (.seq
 (.reg [
 iM 24 4,
 iM 25 0,
 iP 26 (.nck (.t 25)),
 iF 27 0 26,
 iC 28 139 [.t 27],
 iP 29 (.fld1 1 (.t 28)),
 iP 30 (.lkp .s true (.val .nilFunc) (.t 24) (.t 29)),
 iM 23 30,
 iP 31 (.ext (.t 23) 0),
 iP 32 (.ext (.t 23) 1),
 iM 5 31,
 iM 6 32])
 (.seq
 (.seq
 (.reg [
 iM 33 6,
 iP 34 (.not (.t 33))])
 (.cond (.t 34)
 (.reg [
 iM 35 0,
 iP 36 (.nck (.t 35)),
 iF 37 0 36,
 iC 38 79 [.t 37,(.c (i64 11))]])
 .skip))
 (.seq
 (.reg [
 iM 39 0,
 iP 40 (.nck (.t 39)),
 iF 41 0 40,
 iC 42 91 [.t 41],
 iF 43 11 3,
 ⟨none,none,.e (.st 1 (.t 43) (.t 42))⟩])
 (.seq
 (.reg [
 iM 44 0,
 iP 45 (.nck (.t 44)),
 iF 46 0 45,
 iC 47 140 [.t 46]])
 (.seq
 (.reg [
 iM 48 5,
 iM 49 0,
 iE 50 (.call (.t 48) [(.t 49),(.t 3)])])
 (.seq
 (.reg [
 iP 51 (.ldn 12 (.t 3)),
 ⟨none,none,.e (.st 12 (.t 2) (.t 51))⟩])
 .ret))))))))))
def r94:List RS:=[.cn 2 12]
theorem c94:chkF Tryz.prog drawB Tryz.f94 i94 r94=true:=by kernel_rfl
def l95_0:IC:=.keep [0,3,4]
 (.seq
 (.seq
 (.reg [
 iM 6 4,
 iM 7 3,
 iP 8 (.len (.t 7)),
 iP 9 (.bin .lss (.i .i64) (.t 6) (.t 8))])
 (.cond (.t 9)
 .skip
 (.exit 0)))
 (.seq
 (.blk 1
 (.seq
 (.reg [
 iM 12 3,
 iM 13 4,
 iP 14 (.ia 1 (.t 12) (.t 13)),
 iL 15 14,
 iM 16 0,
 iP 17 (.bin .eql .s (.t 15) (.t 16))])
 (.cond (.t 17)
 (.seq
 (.reg [
 iP 2 (.mov (.c (bl true)))])
 .ret)
 .skip)))
 (.reg [
 iM 10 4,
 iP 11 (.bin .add (.i .i64) (.t 10) (.c (i64 1))),
 iM 4 11])))
def i95:IC :=
 (.seq
 (.reg [
 iP 2 (.mov (.c (bl false)))])
 (.seq
 (.reg [
 iE 5 (.bsl 9 1 22 [st ⟨#[]⟩] [(0,(.c (st ⟨#[103,97,109,101]⟩))),(1,(.c (st ⟨#[112,108,97,121,101,114,115]⟩))),(2,(.c (st ⟨#[118,97,114]⟩))),(3,(.c (st ⟨#[100,101,97,108]⟩))),(4,(.c (st ⟨#[105,110]⟩))),(5,(.c (st ⟨#[119,101,105,103,104,116]⟩))),(6,(.c (st ⟨#[115,101,101,110]⟩))),(7,(.c (st ⟨#[98,121]⟩))),(8,(.c (st ⟨#[97,108,108]⟩))),(9,(.c (st ⟨#[116,117,114,110]⟩))),(10,(.c (st ⟨#[97,99,116,105,111,110]⟩))),(11,(.c (st ⟨#[119,104,101,110]⟩))),(12,(.c (st ⟨#[104,105,100,100,101,110]⟩))),(13,(.c (st ⟨#[103,111,116,111]⟩))),(14,(.c (st ⟨#[101,110,100]⟩))),(15,(.c (st ⟨#[112,97,121]⟩))),(16,(.c (st ⟨#[111,114]⟩))),(17,(.c (st ⟨#[97,110,100]⟩))),(18,(.c (st ⟨#[110,111,116]⟩))),(19,(.c (st ⟨#[109,105,110]⟩))),(20,(.c (st ⟨#[109,97,120]⟩))),(21,(.c (st ⟨#[105,102]⟩)))]),
 iM 3 5])
 (.seq
 (.seq
 (.reg [
 iP 4 (.mov (.c (i64 0)))])
 (.blk 0
 (.loop l95_0)))
 (.seq
 (.reg [
 iP 2 (.mov (.c (bl false)))])
 .ret))))
def r95:List RS:=[.t 2]
theorem c95:chkF Tryz.prog drawB Tryz.f95 i95 r95=true:=by kernel_rfl
def l96_0:IC:=.keep [0,3,4]
 (.seq
 (.seq
 (.reg [
 iM 45 0,
 iC 46 43 [.t 45,(.c (st ⟨#[44]⟩))]])
 (.cond (.t 46)
 .skip
 (.exit 0)))
 (.blk 1
 (.seq
 (.reg [
 iM 47 0,
 iC 48 40 [.t 47,(.c (st ⟨#[44]⟩))]])
 (.seq
 (.seq
 (.drw [0,1,2,3,4,5,6,7,8,9,10,11,12,13,14,15,16,17,18,19,20,21,22,23,24,25,26,27,28,29] [
 iF 49 7 3,
 iL 50 49,
 iP 51 (.len (.t 50)),
 iP 52 (.bin .eql (.i .i64) (.t 51) (.c (i64 32))),
 iM 53 52,
 iG 54 53 true (.mov (.t 0)),
 iG 55 53 true (.nck (.t 54)),
 iG 56 53 true (.fa 2 (.t 55)),
 iG 57 53 true (.ld1 (.t 56)),
 iG 58 53 true (.mov (.t 0)),
 iG 59 53 true (.nck (.t 58)),
 iG 60 53 true (.fa 0 (.t 59)),
 iG 61 53 true (.ld1 (.t 60)),
 iG 62 53 true (.len (.t 61)),
 iG 63 53 true (.bin .lss (.i .i64) (.t 57) (.t 62)),
 iP 64 (.pick (.t 53) (.t 63) (.c (bl false))),
 iM 65 64,
 iG 66 65 true (.mov (.t 0)),
 iG 67 65 true (.nck (.t 66)),
 iG 68 65 true (.fa 0 (.t 67)),
 iG 69 65 true (.ld1 (.t 68)),
 iG 70 65 true (.mov (.t 0)),
 iG 71 65 true (.nck (.t 70)),
 iG 72 65 true (.fa 2 (.t 71)),
 iG 73 65 true (.ld1 (.t 72)),
 iG 74 65 true (.ia 4 (.t 69) (.t 73)),
 iG 75 65 true (.fa 0 (.t 74)),
 iG 76 65 true (.ld1 (.t 75)),
 iG 77 65 true (.bin .eql (.i .i64) (.t 76) (.c (i64 2))),
 iP 78 (.pick (.t 65) (.t 77) (.c (bl false)))])
 (.cond (.t 78)
 (.reg [
 iM 79 0,
 iC 80 35 [.t 79,(.c (i64 12))]])
 .skip))
 (.drw [0,1,2,3,4,5,6,7] [
 iF 81 7 3,
 iL 82 81,
 iM 83 0,
 iC 84 42 [.t 83],
 iE 85 (.bsl 3 1 1 [i64 0] [(0,(.t 84))]),
 iE 86 (.app 3 1 8 (.t 82) (.t 85)),
 iF 87 7 3,
 ⟨none,none,.e (.stw [82] 1 (.t 87) (.t 86))⟩])))))
def i96:IC :=
 (.seq
 (.reg [
 iE 3 (.box 78 (.t 1)),
 iE 4 (.alc 78 [i64 0,st ⟨#[]⟩,st ⟨#[]⟩,i64 0,i64 0,.val (.slice none 0 0),bl false,.val (.slice none 0 0),.val (.slice none 0 0),.val (.slice none 0 0),.val (.slice none 0 0),i64 0])])
 (.seq
 (.reg [
 iF 5 0 3,
 ⟨none,none,.e (.st 1 (.t 5) (.c (i64 1)))⟩])
 (.seq
 (.reg [
 iM 6 0,
 iC 7 40 [.t 6,(.c (st ⟨#[100,101,97,108]⟩))],
 iF 8 11 3,
 ⟨none,none,.e (.st 1 (.t 8) (.t 7))⟩])
 (.seq
 (.reg [
 iM 9 0,
 iC 10 41 [.t 9],
 iF 11 2 3,
 ⟨none,none,.e (.st 1 (.t 11) (.t 10))⟩])
 (.seq
 (.reg [
 iM 12 0,
 iC 13 40 [.t 12,(.c (st ⟨#[105,110]⟩))]])
 (.seq
 (.reg [
 iM 14 0,
 iC 15 42 [.t 14],
 iF 16 3 3,
 ⟨none,none,.e (.st 1 (.t 16) (.t 15))⟩])
 (.seq
 (.reg [
 iM 17 0,
 iC 18 40 [.t 17,(.c (st ⟨#[46,46]⟩))]])
 (.seq
 (.reg [
 iM 19 0,
 iC 20 42 [.t 19],
 iF 21 4 3,
 ⟨none,none,.e (.st 1 (.t 21) (.t 20))⟩])
 (.seq
 (.seq
 (.reg [
 iM 22 0,
 iC 23 43 [.t 22,(.c (st ⟨#[119,101,105,103,104,116]⟩))]])
 (.cond (.t 23)
 (.seq
 (.reg [
 iM 24 0,
 iC 25 40 [.t 24,(.c (st ⟨#[119,101,105,103,104,116]⟩))]])
 (.reg [
 iM 26 0,
 iC 27 34 [.t 26],
 iE 28 (.bsl 25 5 1 [i64 0,i64 0,st ⟨#[]⟩,.val (.slice none 0 0),i64 0] [(0,(.t 27))]),
 iF 29 5 3,
 ⟨none,none,.e (.st 1 (.t 29) (.t 28))⟩]))
 .skip))
 (.seq
 (.seq
 (.reg [
 iM 30 0,
 iC 31 43 [.t 30,(.c (st ⟨#[115,101,101,110]⟩))]])
 (.cond (.t 31)
 (.seq
 (.reg [
 iM 32 0,
 iC 33 40 [.t 32,(.c (st ⟨#[115,101,101,110]⟩))]])
 (.seq
 (.reg [
 iM 34 0,
 iC 35 40 [.t 34,(.c (st ⟨#[98,121]⟩))]])
 (.seq
 (.reg [
 iM 36 0,
 iC 37 43 [.t 36,(.c (st ⟨#[97,108,108]⟩))]])
 (.cond (.t 37)
 (.seq
 (.reg [
 iM 38 0,
 iC 39 40 [.t 38,(.c (st ⟨#[97,108,108]⟩))]])
 (.reg [
 iF 40 6 3,
 ⟨none,none,.e (.st 1 (.t 40) (.c (bl true)))⟩]))
 (.seq
 (.reg [
 iM 41 0,
 iC 42 42 [.t 41],
 iE 43 (.bsl 3 1 1 [i64 0] [(0,(.t 42))]),
 iF 44 7 3,
 ⟨none,none,.e (.st 1 (.t 44) (.t 43))⟩])
 (.blk 0
 (.loop l96_0)))))))
 .skip))
 (.seq
 (.reg [
 iM 88 0,
 iC 89 40 [.t 88,(.c (st ⟨#[59]⟩))]])
 (.seq
 (.reg [
 iP 90 (.ldn 12 (.t 3)),
 ⟨none,none,.e (.st 12 (.t 4) (.t 90))⟩])
 .ret))))))))))))
def r96:List RS:=[.cn 4 12]
theorem c96:chkF Tryz.prog drawB Tryz.f96 i96 r96=true:=by kernel_rfl
def l97_0:IC:=.keep [0,3,4]
 (.seq
 (.seq
 (.reg [
 iM 19 0,
 iC 20 43 [.t 19,(.c (st ⟨#[97,99,116,105,111,110]⟩))]])
 (.cond (.t 20)
 .skip
 (.exit 0)))
 (.blk 1
 (.seq
 (.seq
 (.reg [
 iF 21 9 3,
 iL 22 21,
 iP 23 (.len (.t 22)),
 iP 24 (.bin .eql (.i .i64) (.t 23) (.c (i64 10)))])
 (.cond (.t 24)
 (.reg [
 iM 25 0,
 iC 26 35 [.t 25,(.c (i64 12))]])
 .skip))
 (.drw [0,1,2,3,4,5,6,7] [
 iF 27 9 3,
 iL 28 27,
 iM 29 0,
 iC 30 150 [.t 29],
 iE 31 (.bsl 89 6 1 [st ⟨#[]⟩,.val (.slice none 0 0),bl false,.val (.slice none 0 0),st ⟨#[]⟩,i64 0] [(0,(.t 30))]),
 iE 32 (.app 89 6 96 (.t 28) (.t 31)),
 iF 33 9 3,
 ⟨none,none,.e (.stw [28] 1 (.t 33) (.t 32))⟩]))))
def i97:IC :=
 (.seq
 (.reg [
 iE 3 (.box 78 (.t 1)),
 iE 4 (.alc 78 [i64 0,st ⟨#[]⟩,st ⟨#[]⟩,i64 0,i64 0,.val (.slice none 0 0),bl false,.val (.slice none 0 0),.val (.slice none 0 0),.val (.slice none 0 0),.val (.slice none 0 0),i64 0])])
 (.seq
 (.reg [
 iF 5 0 3,
 ⟨none,none,.e (.st 1 (.t 5) (.c (i64 2)))⟩])
 (.seq
 (.reg [
 iM 6 0,
 iC 7 40 [.t 6,(.c (st ⟨#[116,117,114,110]⟩))],
 iF 8 11 3,
 ⟨none,none,.e (.st 1 (.t 8) (.t 7))⟩])
 (.seq
 (.reg [
 iM 9 0,
 iC 10 34 [.t 9],
 iE 11 (.bsl 25 5 1 [i64 0,i64 0,st ⟨#[]⟩,.val (.slice none 0 0),i64 0] [(0,(.t 10))]),
 iF 12 8 3,
 ⟨none,none,.e (.st 1 (.t 12) (.t 11))⟩])
 (.seq
 (.reg [
 iM 13 0,
 iC 14 40 [.t 13,(.c (st ⟨#[123]⟩))]])
 (.seq
 (.reg [
 iM 15 0,
 iC 16 150 [.t 15],
 iE 17 (.bsl 89 6 1 [st ⟨#[]⟩,.val (.slice none 0 0),bl false,.val (.slice none 0 0),st ⟨#[]⟩,i64 0] [(0,(.t 16))]),
 iF 18 9 3,
 ⟨none,none,.e (.st 1 (.t 18) (.t 17))⟩])
 (.seq
 (.blk 0
 (.loop l97_0))
 (.seq
 (.reg [
 iM 34 0,
 iC 35 40 [.t 34,(.c (st ⟨#[125]⟩))]])
 (.seq
 (.reg [
 iP 36 (.ldn 12 (.t 3)),
 ⟨none,none,.e (.st 12 (.t 4) (.t 36))⟩])
 .ret)))))))))
def r97:List RS:=[.cn 4 12]
theorem c97:chkF Tryz.prog drawB Tryz.f97 i97 r97=true:=by kernel_rfl
def l98_0:IC:=.keep [0,3]
 (.seq
 (.seq
 (.reg [
 iM 7 0,
 iC 8 43 [.t 7,(.c (st ⟨#[44]⟩))]])
 (.cond (.t 8)
 .skip
 (.exit 0)))
 (.blk 1
 (.seq
 (.reg [
 iM 9 0,
 iC 10 40 [.t 9,(.c (st ⟨#[44]⟩))]])
 (.seq
 (.seq
 (.reg [
 iM 11 3,
 iP 12 (.len (.t 11)),
 iP 13 (.bin .eql (.i .i64) (.t 12) (.c (i64 32))),
 iM 14 13,
 iG 15 14 true (.mov (.t 0)),
 ⟨(some 16),(some (14,true)),.q (.c (.fn (.func 151) [] [])) [(.t 15)]⟩,
 iP 17 (.pick (.t 14) (.t 16) (.c (bl false)))])
 (.cond (.t 17)
 (.reg [
 iM 18 0,
 iC 19 35 [.t 18,(.c (i64 12))]])
 .skip))
 (.reg [
 iM 20 3,
 iM 21 0,
 iC 22 34 [.t 21],
 iE 23 (.bsl 25 5 1 [i64 0,i64 0,st ⟨#[]⟩,.val (.slice none 0 0),i64 0] [(0,(.t 22))]),
 iE 24 (.app 25 5 64 (.t 20) (.t 23)),
 iM 3 24])))))
def i98:IC :=
 (.seq
 (.reg [
 iP 2 (.mov (.c (.val (.slice none 0 0))))])
 (.seq
 (.reg [
 iM 4 0,
 iC 5 34 [.t 4],
 iE 6 (.bsl 25 5 1 [i64 0,i64 0,st ⟨#[]⟩,.val (.slice none 0 0),i64 0] [(0,(.t 5))]),
 iM 3 6])
 (.seq
 (.blk 0
 (.loop l98_0))
 (.seq
 (.reg [
 iM 25 3,
 iM 2 25])
 .ret))))
def r98:List RS:=[.t 2]
theorem c98:chkF Tryz.prog drawB Tryz.f98 i98 r98=true:=by kernel_rfl
def l99_0:IC:=.keep [0,1,5]
 (.seq
 (.seq
 (.reg [
 iM 11 5,
 iM 12 0,
 iP 13 (.len (.t 12)),
 iP 14 (.bin .lss (.i .i64) (.t 11) (.t 13))])
 (.cond (.t 14)
 .skip
 (.exit 0)))
 (.seq
 (.blk 1
 (.seq
 (.drw [0,1,2,3,4,5,6,7,8] [
 iM 17 0,
 iM 18 5,
 iP 19 (.ia 1 (.t 17) (.t 18)),
 iL 20 19,
 iM 21 1,
 iM 22 5,
 iP 23 (.ia 1 (.t 21) (.t 22)),
 iL 24 23,
 iP 25 (.bin .neq (.i .i64) (.t 20) (.t 24))])
 (.cond (.t 25)
 (.seq
 (.reg [
 iP 4 (.mov (.c (bl false)))])
 .ret)
 .skip)))
 (.reg [
 iM 15 5,
 iP 16 (.bin .add (.i .i64) (.t 15) (.c (i64 1))),
 iM 5 16])))
def i99:IC :=
 (.seq
 (.reg [
 iP 4 (.mov (.c (bl false)))])
 (.seq
 (.seq
 (.reg [
 iM 6 0,
 iP 7 (.len (.t 6)),
 iM 8 1,
 iP 9 (.len (.t 8)),
 iP 10 (.bin .neq (.i .i64) (.t 7) (.t 9))])
 (.cond (.t 10)
 (.seq
 (.reg [
 iP 4 (.mov (.c (bl false)))])
 .ret)
 .skip))
 (.seq
 (.seq
 (.reg [
 iP 5 (.mov (.c (i64 0)))])
 (.blk 0
 (.loop l99_0)))
 (.seq
 (.reg [
 iP 4 (.mov (.c (bl true)))])
 .ret))))
def r99:List RS:=[.t 4]
theorem c99:chkF Tryz.prog drawB Tryz.f99 i99 r99=true:=by kernel_rfl
def l100_0:IC:=.keep [2,3,5]
 (.seq
 (.seq
 (.reg [
 iM 49 5,
 iF 50 3 2,
 iL 51 50,
 iP 52 (.len (.t 51)),
 iP 53 (.bin .lss (.i .i64) (.t 49) (.t 52))])
 (.cond (.t 53)
 .skip
 (.exit 0)))
 (.seq
 (.blk 1
 (.seq
 (.drw [0,1,2,3,4,5,6,7,8,9,10,11,12,13,14,15,16,17,18,19,20,21,22,23,24,25,26,27,28,29,30,31,32,33,34,35,36,37,38,39,40,41,42,43] [
 iF 56 3 2,
 iL 57 56,
 iM 58 5,
 iP 59 (.ia 7 (.t 57) (.t 58)),
 iF 60 0 59,
 iL 61 60,
 iF 62 3 3,
 iL 63 62,
 iM 64 5,
 iP 65 (.ia 7 (.t 63) (.t 64)),
 iF 66 0 65,
 iL 67 66,
 iP 68 (.bin .neq .s (.t 61) (.t 67)),
 iM 69 68,
 iG 70 69 false (.fa 3 (.t 2)),
 iG 71 69 false (.ld1 (.t 70)),
 iG 72 69 false (.mov (.t 5)),
 iG 73 69 false (.ia 7 (.t 71) (.t 72)),
 iG 74 69 false (.fa 6 (.t 73)),
 iG 75 69 false (.ld1 (.t 74)),
 iG 76 69 false (.fa 3 (.t 3)),
 iG 77 69 false (.ld1 (.t 76)),
 iG 78 69 false (.mov (.t 5)),
 iG 79 69 false (.ia 7 (.t 77) (.t 78)),
 iG 80 69 false (.fa 6 (.t 79)),
 iG 81 69 false (.ld1 (.t 80)),
 iG 82 69 false (.bin .neq (.i .i64) (.t 75) (.t 81)),
 iP 83 (.pick (.t 69) (.c (bl true)) (.t 82)),
 iM 84 83,
 iG 85 84 false (.fa 3 (.t 2)),
 iG 86 84 false (.ld1 (.t 85)),
 iG 87 84 false (.mov (.t 5)),
 iG 88 84 false (.ia 7 (.t 86) (.t 87)),
 iG 89 84 false (.fa 1 (.t 88)),
 iG 90 84 false (.ldn 5 (.t 89)),
 iG 91 84 false (.fa 3 (.t 3)),
 iG 92 84 false (.ld1 (.t 91)),
 iG 93 84 false (.mov (.t 5)),
 iG 94 84 false (.ia 7 (.t 92) (.t 93)),
 iG 95 84 false (.fa 1 (.t 94)),
 iG 96 84 false (.ldn 5 (.t 95)),
 ⟨(some 97),(some (84,false)),.q (.c (.fn (.func 13) [] [])) [(.t 90),(.t 96)]⟩,
 iG 98 84 false (.not (.t 97)),
 iP 99 (.pick (.t 84) (.c (bl true)) (.t 98))])
 (.cond (.t 99)
 (.seq
 (.reg [
 iP 4 (.mov (.c (bl false)))])
 .ret)
 .skip)))
 (.reg [
 iM 54 5,
 iP 55 (.bin .add (.i .i64) (.t 54) (.c (i64 1))),
 iM 5 55])))
def i100:IC :=
 (.seq
 (.reg [
 iE 2 (.box 89 (.t 0)),
 iE 3 (.box 89 (.t 1)),
 iP 4 (.mov (.c (bl false)))])
 (.seq
 (.seq
 (.reg [
 iF 6 0 2,
 iL 7 6,
 iF 8 0 3,
 iL 9 8,
 iP 10 (.bin .neq .s (.t 7) (.t 9)),
 iM 11 10,
 iG 12 11 false (.fa 2 (.t 2)),
 iG 13 11 false (.ld1 (.t 12)),
 iG 14 11 false (.fa 2 (.t 3)),
 iG 15 11 false (.ld1 (.t 14)),
 iG 16 11 false (.bin .neq .b (.t 13) (.t 15)),
 iP 17 (.pick (.t 11) (.c (bl true)) (.t 16)),
 iM 18 17,
 iG 19 18 false (.fa 4 (.t 2)),
 iG 20 18 false (.ld1 (.t 19)),
 iG 21 18 false (.fa 4 (.t 3)),
 iG 22 18 false (.ld1 (.t 21)),
 iG 23 18 false (.bin .neq .s (.t 20) (.t 22)),
 iP 24 (.pick (.t 18) (.c (bl true)) (.t 23)),
 iM 25 24,
 iG 26 25 false (.fa 5 (.t 2)),
 iG 27 25 false (.ld1 (.t 26)),
 iG 28 25 false (.fa 5 (.t 3)),
 iG 29 25 false (.ld1 (.t 28)),
 iG 30 25 false (.bin .neq (.i .i64) (.t 27) (.t 29)),
 iP 31 (.pick (.t 25) (.c (bl true)) (.t 30)),
 iM 32 31,
 iG 33 32 false (.fa 1 (.t 2)),
 iG 34 32 false (.ld1 (.t 33)),
 iG 35 32 false (.fa 1 (.t 3)),
 iG 36 32 false (.ld1 (.t 35)),
 ⟨(some 37),(some (32,false)),.q (.c (.fn (.func 37) [] [])) [(.t 34),(.t 36)]⟩,
 iG 38 32 false (.not (.t 37)),
 iP 39 (.pick (.t 32) (.c (bl true)) (.t 38)),
 iM 40 39,
 iG 41 40 false (.fa 3 (.t 2)),
 iG 42 40 false (.ld1 (.t 41)),
 iG 43 40 false (.len (.t 42)),
 iG 44 40 false (.fa 3 (.t 3)),
 iG 45 40 false (.ld1 (.t 44)),
 iG 46 40 false (.len (.t 45)),
 iG 47 40 false (.bin .neq (.i .i64) (.t 43) (.t 46)),
 iP 48 (.pick (.t 40) (.c (bl true)) (.t 47))])
 (.cond (.t 48)
 (.seq
 (.reg [
 iP 4 (.mov (.c (bl false)))])
 .ret)
 .skip))
 (.seq
 (.seq
 (.reg [
 iP 5 (.mov (.c (i64 0)))])
 (.blk 0
 (.loop l100_0)))
 (.seq
 (.reg [
 iP 4 (.mov (.c (bl true)))])
 .ret))))
def r100:List RS:=[.t 4]
theorem c100:chkF Tryz.prog drawB Tryz.f100 i100 r100=true:=by kernel_rfl
def i101:IC :=
 (.seq
 (.reg [
 iP 2 (.mov (.c (bl false)))])
 (.seq
 (.reg [
 iM 3 0,
 iP 4 (.bld [i64 0,st ⟨#[]⟩,i64 0,i64 0] [(0,1,(.c (i64 1))),(1,1,(.t 3))]),
 iC 5 134 [.t 4],
 iP 6 (.bin .eql (.i .i64) (.t 5) (.c (i64 0))),
 iM 7 6,
 iG 8 7 true (.mov (.t 0)),
 ⟨(some 9),(some (7,true)),.q (.c (.fn (.func 146) [] [])) [(.t 8)]⟩,
 iG 10 7 true (.not (.t 9)),
 iP 11 (.pick (.t 7) (.t 10) (.c (bl false))),
 iM 2 11])
 .ret))
def r101:List RS:=[.t 2]
theorem c101:chkF Tryz.prog drawB Tryz.f101 i101 r101=true:=by kernel_rfl
def i102:IC :=
 (.seq
 (.reg [
 iP 6 (.mov (.c (bl false)))])
 (.seq
 (.reg [
 iM 7 0,
 iM 8 1,
 iP 9 (.bin .leq (.i .i64) (.t 7) (.t 8)),
 iM 10 9,
 iG 11 10 true (.mov (.t 1)),
 iG 12 10 true (.mov (.t 2)),
 iG 13 10 true (.bin .leq (.i .i64) (.t 11) (.t 12)),
 iP 14 (.pick (.t 10) (.t 13) (.c (bl false))),
 iM 6 14])
 .ret))
def r102:List RS:=[.t 6]
theorem c102:chkF Tryz.prog drawB Tryz.f102 i102 r102=true:=by kernel_rfl
def l105_0:IC:=.keep [0,6,7,8]
 (.seq
 (.reg [
 iP 9 (.bin .lss (.i .i64) (.t 8) (.t 7))])
 (.seq
 (.cond (.t 9)
 .skip
 (.exit 0))
 (.seq
 (.blk 1
 (.seq
 (.reg [
 iP 10 (.ia 1 (.t 6) (.t 8)),
 iL 11 10,
 iM 5 11])
 (.reg [
 iM 12 0,
 iM 13 0,
 iP 14 (.nck (.t 13)),
 iF 15 0 14,
 iL 16 15,
 iM 17 5,
 iE 18 (.aps 5 (.t 16) (.t 17)),
 iP 19 (.nck (.t 12)),
 iF 20 0 19,
 ⟨none,none,.e (.st 1 (.t 20) (.t 18))⟩])))
 (.reg [
 iP 21 (.bin .add (.i .i64) (.t 8) (.c (i64 1))),
 iM 8 21]))))
def i105:IC :=
 (.seq
 (.reg [
 iM 6 1,
 iP 7 (.len (.t 6)),
 iP 8 (.mov (.c (i64 0)))])
 (.blk 0
 (.loop l105_0)))
def r105:List RS:=[]
theorem c105:chkF Tryz.prog drawB Tryz.f105 i105 r105=true:=by kernel_rfl
def l109_0:IC:=.keep [0,6,7,8]
 (.seq
 (.reg [
 iP 9 (.bin .lss (.i .i64) (.t 8) (.t 7))])
 (.seq
 (.cond (.t 9)
 .skip
 (.exit 0))
 (.seq
 (.blk 1
 (.seq
 (.reg [
 iM 10 8,
 iP 11 (.ia 5 (.t 6) (.t 8)),
 iP 12 (.ldn 5 (.t 11)),
 iE 5 (.alc 25 [i64 0,i64 0,st ⟨#[]⟩,.val (.slice none 0 0),i64 0]),
 iM 4 10,
 ⟨none,none,.e (.st 5 (.t 5) (.t 12))⟩])
 (.seq
 (.seq
 (.reg [
 iM 13 4,
 iP 14 (.bin .gtr (.i .i64) (.t 13) (.c (i64 0)))])
 (.cond (.t 14)
 (.reg [
 iM 15 0,
 iE 16 (.bsl 9 1 1 [st ⟨#[]⟩] [(0,(.c (st ⟨#[44,32]⟩)))]),
 iC 17 105 [.t 15,.t 16]])
 .skip))
 (.reg [
 iM 18 0,
 iP 19 (.ldn 5 (.t 5)),
 iC 20 73 [.t 18,.t 19]]))))
 (.reg [
 iP 21 (.bin .add (.i .i64) (.t 8) (.c (i64 1))),
 iM 8 21]))))
def i109:IC :=
 (.seq
 (.reg [
 iM 6 1,
 iP 7 (.len (.t 6)),
 iP 8 (.mov (.c (i64 0)))])
 (.blk 0
 (.loop l109_0)))
def r109:List RS:=[]
theorem c109:chkF Tryz.prog drawB Tryz.f109 i109 r109=true:=by kernel_rfl
def l123_0:IC:=.keep [0,1,3]
 (.seq
 (.seq
 (.reg [
 iM 7 3,
 iL 8 1,
 iP 9 (.lens (.t 8)),
 iP 10 (.bin .lss (.i .i64) (.t 7) (.t 9))])
 (.cond (.t 10)
 .skip
 (.exit 0)))
 (.blk 1
 (.seq
 (.reg [
 iM 11 3,
 iP 12 (.bld [i64 0,st ⟨#[]⟩,i64 0,i64 0] [(3,1,(.t 11))]),
 iE 4 (.alc 52 [i64 0,st ⟨#[]⟩,i64 0,i64 0]),
 ⟨none,none,.e (.st 4 (.t 4) (.t 12))⟩])
 (.seq
 (.reg [
 iM 13 3,
 iM 5 13])
 (.seq
 (.seq
 (.reg [
 iL 14 1,
 iM 15 3,
 iP 16 (.ixs (.t 14) (.t 15)),
 iC 17 124 [.t 16]])
 (.blk 2
 (.seq
 (.reg [
 iP 26 (.bin .eql (.i .i64) (.t 17) (.c (i64 1))),
 iM 25 26])
 (.cond (.t 25)
 (.seq
 (.reg [
 iM 27 3,
 iP 28 (.bin .add (.i .i64) (.t 27) (.c (i64 1))),
 iM 3 28])
 (.exit 1))
 (.seq
 (.reg [
 iP 30 (.bin .eql (.i .i64) (.t 17) (.c (i64 2))),
 iM 29 30])
 (.cond (.t 29)
 (.reg [
 iL 31 1,
 iM 32 3,
 iE 33 (.bsl 154 1 2 [i64 0] [(0,(.c (i64 2))),(1,(.c (i64 3)))]),
 iC 34 125 [.t 31,.t 32,.t 33],
 iF 35 0 4,
 ⟨none,none,.e (.st 1 (.t 35) (.c (i64 1)))⟩,
 iM 5 34])
 (.seq
 (.reg [
 iP 37 (.bin .eql (.i .i64) (.t 17) (.c (i64 3))),
 iM 36 37])
 (.cond (.t 36)
 (.reg [
 iL 38 1,
 iM 39 3,
 iE 40 (.bsl 154 1 1 [i64 0] [(0,(.c (i64 3)))]),
 iC 41 125 [.t 38,.t 39,.t 40],
 iF 42 0 4,
 ⟨none,none,.e (.st 1 (.t 42) (.c (i64 2)))⟩,
 iM 5 41])
 (.seq
 (.reg [
 iP 44 (.bin .eql (.i .i64) (.t 17) (.c (i64 4))),
 iM 43 44])
 (.cond (.t 43)
 (.reg [
 iL 45 1,
 iM 46 3,
 iC 47 126 [.t 45,.t 46],
 iF 48 0 4,
 ⟨none,none,.e (.st 1 (.t 48) (.c (i64 3)))⟩,
 iM 5 47])
 (.seq
 (.reg [
 iL 18 1,
 iM 19 3,
 iP 20 (.ixs (.t 18) (.t 19)),
 iP 21 (.bin .eql (.i .u8) (.t 20) (.c (.val (.int .u8 35))))])
 (.cond (.t 21)
 (.seq
 (.reg [
 iL 22 1,
 iM 23 3,
 iC 24 127 [.t 22,.t 23],
 iM 3 24])
 (.exit 1))
 .skip))))))))))))
 (.seq
 (.reg [
 iL 49 1,
 iM 50 3,
 iM 51 5,
 iP 52 (.sls (.t 49) (some (.t 50)) (some (.t 51))),
 iF 53 1 4,
 ⟨none,none,.e (.st 1 (.t 53) (.t 52))⟩])
 (.seq
 (.seq
 (.reg [
 iL 54 1,
 iC 55 128 [.t 54,.t 4],
 iM 6 55])
 (.seq
 (.reg [
 iM 56 6,
 iP 57 (.bin .neq (.i .i64) (.t 56) (.c (i64 0)))])
 (.cond (.t 57)
 (.seq
 (.reg [
 iM 58 0,
 iP 59 (.bld [i64 0,st ⟨#[]⟩,i64 0,i64 0] []),
 iM 60 6,
 iM 61 3,
 iP 62 (.bld [i64 0,i64 0] [(0,1,(.t 60)),(1,1,(.t 61))]),
 iP 63 (.bld [i64 0,i64 0] [(0,2,(.t 62))]),
 iP 64 (.mki 115 (.t 63)),
 iE 65 (.call (.t 58) [(.t 59),(.t 64)])])
 (.exit 0))
 .skip)))
 (.seq
 (.seq
 (.reg [
 iM 66 0,
 iP 67 (.ldn 4 (.t 4)),
 iE 68 (.call (.t 66) [(.t 67),(.c (.val .nilIface))]),
 iP 69 (.not (.t 68))])
 (.cond (.t 69)
 (.exit 0)
 .skip))
 (.reg [
 iM 70 5,
 iM 3 70])))))))))
def i123:IC :=
 (.scp
 (.seq
 (.reg [
 iP 3 (.mov (.c (i64 0)))])
 (.seq
 .lab
 (.blk 0
 (.loop l123_0)))))
def r123:List RS:=[]
theorem c123:chkF Tryz.prog drawB Tryz.f123 i123 r123=true:=by kernel_rfl
def i124:IC :=
 (.seq
 (.reg [
 iP 2 (.mov (.c (i64 0)))])
 (.seq
 (.blk 0
 (.seq
 (.reg [
 iM 4 0,
 iP 5 (.cvi .i64 (.t 4)),
 iP 6 (.bin .lss (.i .i64) (.t 5) (.c (i64 33))),
 iM 7 6,
 iG 8 7 true (.mov (.t 0)),
 iG 9 7 true (.gix 0 33 1 gv0 (.t 8)),
 iG 10 7 true (.ld1 (.t 9)),
 iP 11 (.pick (.t 7) (.t 10) (.c (bl false))),
 iM 3 11])
 (.cond (.t 3)
 (.seq
 (.reg [
 iP 2 (.mov (.c (i64 1)))])
 .ret)
 (.seq
 (.reg [
 iM 13 0,
 iP 14 (.bin .leq (.i .u8) (.c (.val (.int .u8 97))) (.t 13)),
 iM 15 14,
 iG 16 15 true (.mov (.t 0)),
 iG 17 15 true (.bin .leq (.i .u8) (.t 16) (.c (.val (.int .u8 122)))),
 iP 18 (.pick (.t 15) (.t 17) (.c (bl false))),
 iM 19 18,
 iG 20 19 false (.mov (.t 0)),
 iG 21 19 false (.bin .leq (.i .u8) (.c (.val (.int .u8 65))) (.t 20)),
 iG 22 19 false (.mov (.t 21)),
 iG 23 22 true (.mov (.t 0)),
 iG 24 22 true (.bin .leq (.i .u8) (.t 23) (.c (.val (.int .u8 90)))),
 iG 25 19 false (.pick (.t 22) (.t 24) (.c (bl false))),
 iP 26 (.pick (.t 19) (.c (bl true)) (.t 25)),
 iM 27 26,
 iG 28 27 false (.mov (.t 0)),
 iG 29 27 false (.bin .eql (.i .u8) (.t 28) (.c (.val (.int .u8 95)))),
 iP 30 (.pick (.t 27) (.c (bl true)) (.t 29)),
 iM 12 30])
 (.cond (.t 12)
 (.seq
 (.reg [
 iP 2 (.mov (.c (i64 2)))])
 .ret)
 (.seq
 (.reg [
 iM 32 0,
 iP 33 (.bin .leq (.i .u8) (.c (.val (.int .u8 48))) (.t 32)),
 iM 34 33,
 iG 35 34 true (.mov (.t 0)),
 iG 36 34 true (.bin .leq (.i .u8) (.t 35) (.c (.val (.int .u8 57)))),
 iP 37 (.pick (.t 34) (.t 36) (.c (bl false))),
 iM 31 37])
 (.cond (.t 31)
 (.seq
 (.reg [
 iP 2 (.mov (.c (i64 3)))])
 .ret)
 (.seq
 (.reg [
 iM 39 0,
 iP 40 (.cvi .i64 (.t 39)),
 iP 41 (.bin .lss (.i .i64) (.t 40) (.c (i64 126))),
 iM 42 41,
 iG 43 42 true (.mov (.t 0)),
 iG 44 42 true (.gix 1 126 1 gv1 (.t 43)),
 iG 45 42 true (.ld1 (.t 44)),
 iP 46 (.pick (.t 42) (.t 45) (.c (bl false))),
 iM 38 46])
 (.cond (.t 38)
 (.seq
 (.reg [
 iP 2 (.mov (.c (i64 4)))])
 .ret)
 .skip)))))))))
 (.seq
 (.reg [
 iP 2 (.mov (.c (i64 0)))])
 .ret)))
def r124:List RS:=[.t 2]
theorem c124:chkF Tryz.prog drawB Tryz.f124 i124 r124=true:=by kernel_rfl
def l125_1:IC:=.keep [0,2,7,15,16,17]
 (.seq
 (.reg [
 iP 18 (.bin .lss (.i .i64) (.t 17) (.t 16))])
 (.seq
 (.cond (.t 18)
 .skip
 (.exit 2))
 (.seq
 (.blk 3
 (.seq
 (.reg [
 iP 19 (.ia 1 (.t 15) (.t 17)),
 iL 20 19,
 iM 9 20])
 (.seq
 (.reg [
 iM 21 0,
 iM 22 7,
 iP 23 (.ixs (.t 21) (.t 22)),
 iC 24 124 [.t 23],
 iM 25 9,
 iP 26 (.bin .eql (.i .i64) (.t 24) (.t 25))])
 (.cond (.t 26)
 (.seq
 (.reg [
 iM 27 7,
 iP 28 (.bin .add (.i .i64) (.t 27) (.c (i64 1))),
 iM 7 28])
 (.exit 1))
 .skip))))
 (.reg [
 iP 29 (.bin .add (.i .i64) (.t 17) (.c (i64 1))),
 iM 17 29]))))
def l125_0:IC:=.keep [0,2,7]
 (.seq
 (.seq
 (.reg [
 iM 11 7,
 iM 12 0,
 iP 13 (.lens (.t 12)),
 iP 14 (.bin .lss (.i .i64) (.t 11) (.t 13))])
 (.cond (.t 14)
 .skip
 (.exit 0)))
 (.blk 1
 (.seq
 (.seq
 (.reg [
 iM 15 2,
 iP 16 (.len (.t 15)),
 iP 17 (.mov (.c (i64 0)))])
 (.blk 2
 (.loop l125_1)))
 (.exit 0))))
def i125:IC :=
 (.seq
 (.reg [
 iP 6 (.mov (.c (i64 0)))])
 (.scp
 (.seq
 (.reg [
 iM 10 1,
 iM 7 10])
 (.seq
 .lab
 (.seq
 (.blk 0
 (.loop l125_0))
 (.seq
 (.reg [
 iM 30 7,
 iM 6 30])
 .ret))))))
def r125:List RS:=[.t 6]
theorem c125:chkF Tryz.prog drawB Tryz.f125 i125 r125=true:=by kernel_rfl
def l126_0:IC:=.keep [1,5,11,12]
 (.seq
 (.reg [
 iP 13 (.bin .lss (.i .i64) (.t 12) (.c (i64 5)))])
 (.seq
 (.cond (.t 13)
 .skip
 (.exit 0))
 (.seq
 (.blk 1
 (.seq
 (.reg [
 iP 14 (.ixa 5 1 true (.t 11) (.t 12)),
 iM 7 14])
 (.seq
 (.reg [
 iM 15 5,
 iM 16 7,
 iC 17 164 [.t 15,.t 16]])
 (.cond (.t 17)
 (.seq
 (.reg [
 iM 18 1,
 iM 19 7,
 iP 20 (.lens (.t 19)),
 iP 21 (.bin .add (.i .i64) (.t 18) (.t 20)),
 iM 4 21])
 .ret)
 .skip))))
 (.reg [
 iP 22 (.bin .add (.i .i64) (.t 12) (.c (i64 1))),
 iM 12 22]))))
def i126:IC :=
 (.seq
 (.reg [
 iP 4 (.mov (.c (i64 0)))])
 (.seq
 (.reg [
 iM 8 0,
 iM 9 1,
 iP 10 (.sls (.t 8) (some (.t 9)) none),
 iM 5 10])
 (.seq
 (.seq
 (.reg [
 iP 11 (.bld [st ⟨#[]⟩,st ⟨#[]⟩,st ⟨#[]⟩,st ⟨#[]⟩,st ⟨#[]⟩] [(0,1,(.c (st ⟨#[61,61]⟩))),(1,1,(.c (st ⟨#[33,61]⟩))),(2,1,(.c (st ⟨#[60,61]⟩))),(3,1,(.c (st ⟨#[62,61]⟩))),(4,1,(.c (st ⟨#[46,46]⟩)))]),
 iP 12 (.mov (.c (i64 0)))])
 (.blk 0
 (.loop l126_0)))
 (.seq
 (.seq
 (.reg [
 iM 23 5,
 iP 24 (.ixs (.t 23) (.c (i64 0))),
 iP 25 (.bin .eql (.i .u8) (.t 24) (.c (.val (.int .u8 33)))),
 iM 26 25,
 iG 27 26 false (.mov (.t 5)),
 iG 28 26 false (.ixs (.t 27) (.c (i64 0))),
 iG 29 26 false (.bin .eql (.i .u8) (.t 28) (.c (.val (.int .u8 46)))),
 iP 30 (.pick (.t 26) (.c (bl true)) (.t 29))])
 (.cond (.t 30)
 (.seq
 (.reg [
 iM 31 1,
 iM 4 31])
 .ret)
 .skip))
 (.seq
 (.reg [
 iM 32 1,
 iP 33 (.bin .add (.i .i64) (.t 32) (.c (i64 1))),
 iM 4 33])
 .ret)))))
def r126:List RS:=[.t 4]
theorem c126:chkF Tryz.prog drawB Tryz.f126 i126 r126=true:=by kernel_rfl
def i127:IC :=
 (.seq
 (.reg [
 iP 4 (.mov (.c (i64 0)))])
 (.seq
 (.seq
 (.reg [
 iM 6 0,
 iM 7 1,
 iP 8 (.sls (.t 6) (some (.t 7)) none),
 iC 9 165 [.t 8,(.c (.val (.int .u8 10)))],
 iM 5 9])
 (.seq
 (.reg [
 iM 10 5,
 iP 11 (.bin .geq (.i .i64) (.t 10) (.c (i64 0)))])
 (.cond (.t 11)
 (.seq
 (.reg [
 iM 12 1,
 iM 13 5,
 iP 14 (.bin .add (.i .i64) (.t 12) (.t 13)),
 iM 4 14])
 .ret)
 .skip)))
 (.seq
 (.reg [
 iM 15 0,
 iP 16 (.lens (.t 15)),
 iM 4 16])
 .ret)))
def r127:List RS:=[.t 4]
theorem c127:chkF Tryz.prog drawB Tryz.f127 i127 r127=true:=by kernel_rfl
def l128_0:IC:=.keep [1,73,74,75]
 (.seq
 (.reg [
 iP 76 (.bin .lss (.i .i64) (.t 75) (.t 74))])
 (.seq
 (.cond (.t 76)
 .skip
 (.exit 0))
 (.seq
 (.blk 1
 (.seq
 (.reg [
 iP 77 (.ia 1 (.t 73) (.t 75)),
 iL 78 77,
 iM 6 78])
 (.seq
 (.reg [
 iM 79 1,
 iM 80 1,
 iP 81 (.nck (.t 80)),
 iF 82 2 81,
 iL 83 82,
 iP 84 (.bin .mul (.i .i64) (.c (i64 10)) (.t 83)),
 iM 85 6,
 iP 86 (.bin .sub (.i .u8) (.t 85) (.c (.val (.int .u8 48)))),
 iP 87 (.cvi .i64 (.t 86)),
 iP 88 (.bin .add (.i .i64) (.t 84) (.t 87)),
 iP 89 (.nck (.t 79)),
 iF 90 2 89,
 ⟨none,none,.e (.st 1 (.t 90) (.t 88))⟩])
 (.seq
 (.reg [
 iM 91 1,
 iP 92 (.nck (.t 91)),
 iF 93 2 92,
 iL 94 93,
 iP 95 (.bin .gtr (.i .i64) (.t 94) (.c (i64 1000000000)))])
 (.cond (.t 95)
 (.seq
 (.reg [
 iP 4 (.mov (.c (i64 2)))])
 .ret)
 .skip)))))
 (.reg [
 iP 96 (.bin .add (.i .i64) (.t 75) (.c (i64 1))),
 iM 75 96]))))
def i128:IC :=
 (.seq
 (.reg [
 iP 4 (.mov (.c (i64 0)))])
 (.seq
 (.seq
 (.reg [
 iM 7 1,
 iP 8 (.nck (.t 7)),
 iF 9 1 8,
 iL 10 9,
 iP 11 (.bin .eql .s (.t 10) (.c (st ⟨#[]⟩))),
 iM 12 11,
 iG 13 12 false (.mov (.t 1)),
 iG 14 12 false (.nck (.t 13)),
 iG 15 12 false (.fa 0 (.t 14)),
 iG 16 12 false (.ld1 (.t 15)),
 iG 17 12 false (.bin .eql (.i .i64) (.t 16) (.c (i64 1))),
 iG 18 12 false (.mov (.t 17)),
 iG 19 18 true (.mov (.t 1)),
 iG 20 18 true (.nck (.t 19)),
 iG 21 18 true (.fa 3 (.t 20)),
 iG 22 18 true (.ld1 (.t 21)),
 iG 23 18 true (.bin .gtr (.i .i64) (.t 22) (.c (i64 0))),
 iG 24 12 false (.pick (.t 18) (.t 23) (.c (bl false))),
 iG 25 12 false (.mov (.t 24)),
 iG 26 25 true (.mov (.t 0)),
 iG 27 25 true (.mov (.t 1)),
 iG 28 25 true (.nck (.t 27)),
 iG 29 25 true (.fa 3 (.t 28)),
 iG 30 25 true (.ld1 (.t 29)),
 iG 31 25 true (.bin .sub (.i .i64) (.t 30) (.c (i64 1))),
 iG 32 25 true (.ixs (.t 26) (.t 31)),
 ⟨(some 33),(some (25,true)),.q (.c (.fn (.func 124) [] [])) [(.t 32)]⟩,
 iG 34 25 true (.bin .eql (.i .i64) (.t 33) (.c (i64 3))),
 iG 35 12 false (.pick (.t 25) (.t 34) (.c (bl false))),
 iP 36 (.pick (.t 12) (.c (bl true)) (.t 35))])
 (.cond (.t 36)
 (.seq
 (.reg [
 iP 4 (.mov (.c (i64 11)))])
 .ret)
 .skip))
 (.seq
 (.seq
 (.reg [
 iM 37 1,
 iP 38 (.nck (.t 37)),
 iF 39 0 38,
 iL 40 39,
 iP 41 (.bin .eql (.i .i64) (.t 40) (.c (i64 1))),
 iM 42 41,
 iG 43 42 true (.mov (.t 1)),
 iG 44 42 true (.nck (.t 43)),
 iG 45 42 true (.fa 1 (.t 44)),
 iG 46 42 true (.ld1 (.t 45)),
 iG 47 42 true (.lens (.t 46)),
 iG 48 42 true (.bin .gtr (.i .i64) (.t 47) (.c (i64 40))),
 iP 49 (.pick (.t 42) (.t 48) (.c (bl false)))])
 (.cond (.t 49)
 (.seq
 (.reg [
 iP 4 (.mov (.c (i64 4)))])
 .ret)
 .skip))
 (.seq
 (.seq
 (.reg [
 iM 50 1,
 iP 51 (.nck (.t 50)),
 iF 52 0 51,
 iL 53 52,
 iP 54 (.bin .neq (.i .i64) (.t 53) (.c (i64 2)))])
 (.cond (.t 54)
 (.seq
 (.reg [
 iP 4 (.mov (.c (i64 0)))])
 .ret)
 .skip))
 (.seq
 (.seq
 (.reg [
 iM 55 1,
 iP 56 (.nck (.t 55)),
 iF 57 1 56,
 iL 58 57,
 iP 59 (.lens (.t 58)),
 iP 60 (.bin .gtr (.i .i64) (.t 59) (.c (i64 1))),
 iM 61 60,
 iG 62 61 true (.mov (.t 1)),
 iG 63 61 true (.nck (.t 62)),
 iG 64 61 true (.fa 1 (.t 63)),
 iG 65 61 true (.ld1 (.t 64)),
 iG 66 61 true (.ixs (.t 65) (.c (i64 0))),
 iG 67 61 true (.bin .eql (.i .u8) (.t 66) (.c (.val (.int .u8 48)))),
 iP 68 (.pick (.t 61) (.t 67) (.c (bl false)))])
 (.cond (.t 68)
 (.seq
 (.reg [
 iP 4 (.mov (.c (i64 3)))])
 .ret)
 .skip))
 (.seq
 (.seq
 (.reg [
 iM 69 1,
 iP 70 (.nck (.t 69)),
 iF 71 1 70,
 iL 72 71,
 iE 73 (.sby (.t 72)),
 iP 74 (.len (.t 73)),
 iP 75 (.mov (.c (i64 0)))])
 (.blk 0
 (.loop l128_0)))
 (.seq
 (.reg [
 iP 4 (.mov (.c (i64 0)))])
 .ret)))))))
def r128:List RS:=[.t 4]
theorem c128:chkF Tryz.prog drawB Tryz.f128 i128 r128=true:=by kernel_rfl
def i130:IC :=
 (.seq
 (.reg [
 iE 1 (.box 25 (.t 0)),
 iP 2 (.mov (.c (bl false)))])
 (.seq
 (.seq
 (.reg [
 iF 5 0 1,
 iL 6 5])
 (.blk 0
 (.seq
 (.reg [
 iP 8 (.bin .eql (.i .i64) (.t 6) (.c (i64 1))),
 iM 7 8])
 (.cond (.t 7)
 (.seq
 (.reg [
 iF 9 2 1,
 iL 10 9,
 iP 11 (.bin .eql .s (.t 10) (.c (st ⟨#[]⟩))),
 iM 12 11,
 iG 13 12 true (.fa 3 (.t 1)),
 iG 14 12 true (.ld1 (.t 13)),
 iG 15 12 true (.len (.t 14)),
 iG 16 12 true (.bin .eql (.i .i64) (.t 15) (.c (i64 0))),
 iP 17 (.pick (.t 12) (.t 16) (.c (bl false))),
 iM 18 17,
 iG 19 18 true (.fa 1 (.t 1)),
 iG 20 18 true (.ld1 (.t 19)),
 ⟨(some 21),(some (18,true)),.q (.c (.fn (.func 102) [] [])) [(.c (i64 0)),(.t 20),(.c (i64 1000000000))]⟩,
 iP 22 (.pick (.t 18) (.t 21) (.c (bl false))),
 iM 2 22])
 .ret)
 (.seq
 (.reg [
 iP 24 (.bin .eql (.i .i64) (.t 6) (.c (i64 2))),
 iM 23 24])
 (.cond (.t 23)
 (.seq
 (.reg [
 iF 25 1 1,
 iL 26 25,
 iP 27 (.bin .eql (.i .i64) (.t 26) (.c (i64 0))),
 iM 28 27,
 iG 29 28 true (.fa 3 (.t 1)),
 iG 30 28 true (.ld1 (.t 29)),
 iG 31 28 true (.len (.t 30)),
 iG 32 28 true (.bin .eql (.i .i64) (.t 31) (.c (i64 0))),
 iP 33 (.pick (.t 28) (.t 32) (.c (bl false))),
 iM 34 33,
 iG 35 34 true (.fa 2 (.t 1)),
 iG 36 34 true (.ld1 (.t 35)),
 ⟨(some 37),(some (34,true)),.q (.c (.fn (.func 101) [] [])) [(.t 36)]⟩,
 iP 38 (.pick (.t 34) (.t 37) (.c (bl false))),
 iM 2 38])
 .ret)
 .skip))))))
 (.seq
 (.reg [
 iF 40 0 1,
 iL 41 40,
 iC 42 131 [.t 41],
 iM 39 42,
 iP 43 (.ext (.t 39) 0),
 iP 44 (.ext (.t 39) 1),
 iM 3 43,
 iM 4 44])
 (.seq
 (.reg [
 iM 45 4,
 iP 46 (.bin .gtr (.i .i64) (.t 45) (.c (i64 0))),
 iM 47 46,
 iG 48 47 true (.fa 3 (.t 1)),
 iG 49 47 true (.ld1 (.t 48)),
 iG 50 47 true (.len (.t 49)),
 iG 51 47 true (.mov (.t 4)),
 iG 52 47 true (.bin .eql (.i .i64) (.t 50) (.t 51)),
 iP 53 (.pick (.t 47) (.t 52) (.c (bl false))),
 iM 54 53,
 iG 55 54 true (.fa 1 (.t 1)),
 iG 56 54 true (.ld1 (.t 55)),
 iG 57 54 true (.bin .eql (.i .i64) (.t 56) (.c (i64 0))),
 iP 58 (.pick (.t 54) (.t 57) (.c (bl false))),
 iM 59 58,
 iG 60 59 true (.fa 2 (.t 1)),
 iG 61 59 true (.ld1 (.t 60)),
 iG 62 59 true (.bin .eql .s (.t 61) (.c (st ⟨#[]⟩))),
 iP 63 (.pick (.t 59) (.t 62) (.c (bl false))),
 iM 2 63])
 .ret))))
def r130:List RS:=[.t 2]
theorem c130:chkF Tryz.prog drawB Tryz.f130 i130 r130=true:=by kernel_rfl
def i131:IC :=
 (.seq
 (.reg [
 iP 2 (.mov (.c (st ⟨#[]⟩))),
 iP 3 (.mov (.c (i64 0)))])
 (.seq
 (.seq
 (.reg [
 iM 5 0])
 (.blk 0
 (.seq
 (.reg [
 iP 7 (.bin .eql (.i .i64) (.t 5) (.c (i64 3))),
 iM 6 7])
 (.cond (.t 6)
 (.seq
 (.reg [
 iP 2 (.mov (.c (st ⟨#[45]⟩))),
 iP 3 (.mov (.c (i64 1)))])
 .ret)
 (.seq
 (.reg [
 iP 9 (.bin .eql (.i .i64) (.t 5) (.c (i64 4))),
 iM 8 9])
 (.cond (.t 8)
 (.seq
 (.reg [
 iP 2 (.mov (.c (st ⟨#[110,111,116]⟩))),
 iP 3 (.mov (.c (i64 1)))])
 .ret)
 (.seq
 (.reg [
 iP 11 (.bin .eql (.i .i64) (.t 5) (.c (i64 18))),
 iM 10 11])
 (.cond (.t 10)
 (.seq
 (.reg [
 iP 2 (.mov (.c (st ⟨#[109,105,110]⟩))),
 iP 3 (.mov (.c (i64 2)))])
 .ret)
 (.seq
 (.reg [
 iP 13 (.bin .eql (.i .i64) (.t 5) (.c (i64 19))),
 iM 12 13])
 (.cond (.t 12)
 (.seq
 (.reg [
 iP 2 (.mov (.c (st ⟨#[109,97,120]⟩))),
 iP 3 (.mov (.c (i64 2)))])
 .ret)
 (.seq
 (.reg [
 iP 15 (.bin .eql (.i .i64) (.t 5) (.c (i64 20))),
 iM 14 15])
 (.cond (.t 14)
 (.seq
 (.reg [
 iP 2 (.mov (.c (st ⟨#[105,102]⟩))),
 iP 3 (.mov (.c (i64 3)))])
 .ret)
 .skip))))))))))))
 (.seq
 (.seq
 (.reg [
 iM 16 0,
 iP 17 (.bin .lss (.i .i64) (.t 16) (.c (i64 5))),
 iM 18 17,
 iG 19 18 false (.mov (.t 0)),
 iG 20 18 false (.bin .gtr (.i .i64) (.t 19) (.c (i64 17))),
 iP 21 (.pick (.t 18) (.c (bl true)) (.t 20))])
 (.cond (.t 21)
 (.seq
 (.reg [
 iP 2 (.mov (.c (st ⟨#[]⟩))),
 iP 3 (.mov (.c (i64 0)))])
 .ret)
 .skip))
 (.seq
 (.reg [
 iP 22 (.bld [st ⟨#[]⟩,st ⟨#[]⟩,st ⟨#[]⟩,st ⟨#[]⟩,st ⟨#[]⟩,st ⟨#[]⟩,st ⟨#[]⟩,st ⟨#[]⟩,st ⟨#[]⟩,st ⟨#[]⟩,st ⟨#[]⟩,st ⟨#[]⟩,st ⟨#[]⟩] [(0,1,(.c (st ⟨#[42]⟩))),(1,1,(.c (st ⟨#[47]⟩))),(2,1,(.c (st ⟨#[37]⟩))),(3,1,(.c (st ⟨#[43]⟩))),(4,1,(.c (st ⟨#[45]⟩))),(5,1,(.c (st ⟨#[61,61]⟩))),(6,1,(.c (st ⟨#[33,61]⟩))),(7,1,(.c (st ⟨#[60]⟩))),(8,1,(.c (st ⟨#[60,61]⟩))),(9,1,(.c (st ⟨#[62]⟩))),(10,1,(.c (st ⟨#[62,61]⟩))),(11,1,(.c (st ⟨#[97,110,100]⟩))),(12,1,(.c (st ⟨#[111,114]⟩)))]),
 iE 4 (.alc 208 [st ⟨#[]⟩,st ⟨#[]⟩,st ⟨#[]⟩,st ⟨#[]⟩,st ⟨#[]⟩,st ⟨#[]⟩,st ⟨#[]⟩,st ⟨#[]⟩,st ⟨#[]⟩,st ⟨#[]⟩,st ⟨#[]⟩,st ⟨#[]⟩,st ⟨#[]⟩]),
 ⟨none,none,.e (.st 13 (.t 4) (.t 22))⟩])
 (.seq
 (.reg [
 iM 23 0,
 iP 24 (.bin .sub (.i .i64) (.t 23) (.c (i64 5))),
 iP 25 (.iap 13 1 (.t 4) (.t 24)),
 iL 26 25,
 iM 2 26,
 iP 3 (.mov (.c (i64 2)))])
 .ret)))))
def r131:List RS:=[.t 2,.t 3]
theorem c131:chkF Tryz.prog drawB Tryz.f131 i131 r131=true:=by kernel_rfl
def i132:IC :=
 (.seq
 (.reg [
 iP 2 (.mov (.c (bl false)))])
 (.seq
 (.reg [
 iM 3 0,
 iP 4 (.bin .eql (.i .i64) (.t 3) (.c (i64 18))),
 iM 5 4,
 iG 6 5 false (.mov (.t 0)),
 iG 7 5 false (.bin .eql (.i .i64) (.t 6) (.c (i64 19))),
 iP 8 (.pick (.t 5) (.c (bl true)) (.t 7)),
 iM 9 8,
 iG 10 9 false (.mov (.t 0)),
 iG 11 9 false (.bin .eql (.i .i64) (.t 10) (.c (i64 20))),
 iP 12 (.pick (.t 9) (.c (bl true)) (.t 11)),
 iM 2 12])
 .ret))
def r132:List RS:=[.t 2]
theorem c132:chkF Tryz.prog drawB Tryz.f132 i132 r132=true:=by kernel_rfl
def i133:IC :=
 (.seq
 (.reg [
 iE 3 (.box 25 (.t 1))])
 (.seq
 (.seq
 (.reg [
 iF 4 0 3,
 iL 5 4,
 iP 6 (.bin .eql (.i .i64) (.t 5) (.c (i64 1))),
 iM 7 6,
 iG 8 7 false (.fa 0 (.t 3)),
 iG 9 7 false (.ld1 (.t 8)),
 iG 10 7 false (.bin .eql (.i .i64) (.t 9) (.c (i64 2))),
 iP 11 (.pick (.t 7) (.c (bl true)) (.t 10)),
 iM 12 11,
 iG 13 12 false (.fa 0 (.t 3)),
 iG 14 12 false (.ld1 (.t 13)),
 ⟨(some 15),(some (12,false)),.q (.c (.fn (.func 132) [] [])) [(.t 14)]⟩,
 iP 16 (.pick (.t 12) (.c (bl true)) (.t 15))])
 (.cond (.t 16)
 (.seq
 (.reg [
 iM 17 0,
 iP 18 (.ldn 5 (.t 3)),
 iC 19 73 [.t 17,.t 18]])
 .ret)
 .skip))
 (.seq
 (.reg [
 iM 20 0,
 iE 21 (.bsl 9 1 1 [st ⟨#[]⟩] [(0,(.c (st ⟨#[40]⟩)))]),
 iC 22 105 [.t 20,.t 21]])
 (.seq
 (.reg [
 iM 23 0,
 iP 24 (.ldn 5 (.t 3)),
 iC 25 73 [.t 23,.t 24]])
 (.reg [
 iM 26 0,
 iE 27 (.bsl 9 1 1 [st ⟨#[]⟩] [(0,(.c (st ⟨#[41]⟩)))]),
 iC 28 105 [.t 26,.t 27]])))))
def r133:List RS:=[]
theorem c133:chkF Tryz.prog drawB Tryz.f133 i133 r133=true:=by kernel_rfl
def i134:IC :=
 (.seq
 (.reg [
 iE 1 (.box 52 (.t 0)),
 iP 2 (.mov (.c (i64 0)))])
 (.seq
 (.reg [
 iE 3 (.alc 52 [i64 0,st ⟨#[]⟩,i64 0,i64 0])])
 (.seq
 (.reg [
 iP 6 (.mkf (.func 170) [] [(.t 3),(.t 1)]),
 iM 4 6])
 (.seq
 (.seq
 (.reg [
 iF 7 1 1,
 iL 8 7,
 iM 9 4,
 iC 10 171 [.t 8,.t 9,(.c (i64 3))],
 iM 5 10])
 (.seq
 (.reg [
 iM 11 5,
 iP 12 (.bin .neq (.i .i64) (.t 11) (.c (i64 0)))])
 (.cond (.t 12)
 (.seq
 (.reg [
 iM 13 5,
 iM 2 13])
 .ret)
 .skip)))
 (.seq
 (.reg [
 iF 14 2 1,
 iL 15 14,
 iP 16 (.mkf (.func 173) [] [(.t 3)]),
 iC 17 172 [.t 15,.t 16,(.c (i64 2))],
 iM 2 17])
 .ret)))))
def r134:List RS:=[.t 2]
theorem c134:chkF Tryz.prog drawB Tryz.f134 i134 r134=true:=by kernel_rfl
def i136:IC :=
 (.seq
 (.reg [
 iE 2 (.alc 25 [i64 0,i64 0,st ⟨#[]⟩,.val (.slice none 0 0),i64 0])])
 (.seq
 (.reg [
 iM 4 0,
 iP 5 (.nck (.t 4)),
 iF 6 0 5,
 iC 7 91 [.t 6],
 iM 3 7])
 (.seq
 (.blk 0
 (.seq
 (.reg [
 iM 9 0,
 iP 10 (.nck (.t 9)),
 iF 11 0 10,
 iE 12 (.bsl 9 1 1 [st ⟨#[]⟩] [(0,(.c (st ⟨#[45]⟩)))]),
 iC 13 93 [.t 11,.t 12],
 iM 8 13])
 (.cond (.t 8)
 (.seq
 (.reg [
 iM 14 0,
 iM 15 0,
 iP 16 (.mkf (.func 136) [(.t 15)] []),
 iC 17 137 [.t 14,(.c (i64 3)),.t 16],
 ⟨none,none,.e (.st 5 (.t 2) (.t 17))⟩])
 .ret)
 (.seq
 (.reg [
 iM 19 0,
 iP 20 (.nck (.t 19)),
 iF 21 0 20,
 iE 22 (.bsl 9 1 1 [st ⟨#[]⟩] [(0,(.c (st ⟨#[40]⟩)))]),
 iC 23 93 [.t 21,.t 22],
 iM 18 23])
 (.cond (.t 18)
 (.seq
 (.reg [
 iM 24 0,
 iC 25 177 [.t 24,(.c (i64 1))],
 iP 26 (.ia 5 (.t 25) (.c (i64 0))),
 iP 27 (.ldn 5 (.t 26)),
 ⟨none,none,.e (.st 5 (.t 2) (.t 27))⟩])
 .ret)
 (.seq
 (.reg [
 iM 29 0,
 iP 30 (.nck (.t 29)),
 iF 31 0 30,
 iC 32 90 [.t 31,(.c (st ⟨#[109,105,110]⟩))],
 iM 28 32])
 (.cond (.t 28)
 (.seq
 (.reg [
 iM 33 0,
 iC 34 177 [.t 33,(.c (i64 2))],
 iM 35 3,
 iP 36 (.bld [i64 0,i64 0,st ⟨#[]⟩,.val (.slice none 0 0),i64 0] [(0,1,(.c (i64 18))),(3,1,(.t 34)),(4,1,(.t 35))]),
 ⟨none,none,.e (.st 5 (.t 2) (.t 36))⟩])
 .ret)
 (.seq
 (.reg [
 iM 38 0,
 iP 39 (.nck (.t 38)),
 iF 40 0 39,
 iC 41 90 [.t 40,(.c (st ⟨#[109,97,120]⟩))],
 iM 37 41])
 (.cond (.t 37)
 (.seq
 (.reg [
 iM 42 0,
 iC 43 177 [.t 42,(.c (i64 2))],
 iM 44 3,
 iP 45 (.bld [i64 0,i64 0,st ⟨#[]⟩,.val (.slice none 0 0),i64 0] [(0,1,(.c (i64 19))),(3,1,(.t 43)),(4,1,(.t 44))]),
 ⟨none,none,.e (.st 5 (.t 2) (.t 45))⟩])
 .ret)
 (.seq
 (.reg [
 iM 47 0,
 iP 48 (.nck (.t 47)),
 iF 49 0 48,
 iC 50 90 [.t 49,(.c (st ⟨#[105,102]⟩))],
 iM 46 50])
 (.cond (.t 46)
 (.seq
 (.reg [
 iM 51 0,
 iC 52 177 [.t 51,(.c (i64 3))],
 iM 53 3,
 iP 54 (.bld [i64 0,i64 0,st ⟨#[]⟩,.val (.slice none 0 0),i64 0] [(0,1,(.c (i64 20))),(3,1,(.t 52)),(4,1,(.t 53))]),
 ⟨none,none,.e (.st 5 (.t 2) (.t 54))⟩])
 .ret)
 (.seq
 (.reg [
 iM 56 0,
 iP 57 (.nck (.t 56)),
 iF 58 0 57,
 iC 59 139 [.t 58],
 iP 60 (.fld1 0 (.t 59)),
 iP 61 (.bin .eql (.i .i64) (.t 60) (.c (i64 2))),
 iM 55 61])
 (.cond (.t 55)
 (.seq
 (.reg [
 iM 62 0,
 iP 63 (.nck (.t 62)),
 iF 64 0 63,
 iC 65 140 [.t 64],
 iP 66 (.fld1 2 (.t 65)),
 iM 67 3,
 iP 68 (.bld [i64 0,i64 0,st ⟨#[]⟩,.val (.slice none 0 0),i64 0] [(0,1,(.c (i64 1))),(1,1,(.t 66)),(4,1,(.t 67))]),
 ⟨none,none,.e (.st 5 (.t 2) (.t 68))⟩])
 .ret)
 (.seq
 (.reg [
 iM 70 0,
 iP 71 (.nck (.t 70)),
 iF 72 0 71,
 iC 73 92 [.t 72],
 iP 74 (.not (.t 73)),
 iM 69 74])
 (.cond (.t 69)
 (.reg [
 iM 75 0,
 iP 76 (.nck (.t 75)),
 iF 77 0 76,
 iC 78 79 [.t 77,(.c (i64 11))]])
 .skip)))))))))))))))
 (.seq
 (.reg [
 iM 79 0,
 iP 80 (.nck (.t 79)),
 iF 81 0 80,
 iC 82 140 [.t 81],
 iP 83 (.fld1 1 (.t 82)),
 iM 84 3,
 iP 85 (.bld [i64 0,i64 0,st ⟨#[]⟩,.val (.slice none 0 0),i64 0] [(0,1,(.c (i64 2))),(2,1,(.t 83)),(4,1,(.t 84))]),
 ⟨none,none,.e (.st 5 (.t 2) (.t 85))⟩])
 .ret))))
def r136:List RS:=[.cn 2 5]
theorem c136:chkF Tryz.prog drawB Tryz.f136 i136 r136=true:=by kernel_rfl
def i137:IC :=
 (.seq
 (.reg [
 iE 6 (.alc 25 [i64 0,i64 0,st ⟨#[]⟩,.val (.slice none 0 0),i64 0])])
 (.seq
 (.reg [
 iM 9 0,
 iP 10 (.nck (.t 9)),
 iF 11 0 10,
 iC 12 91 [.t 11],
 iM 7 12])
 (.seq
 (.reg [
 iM 13 0,
 iC 14 178 [.t 13]])
 (.seq
 (.reg [
 iM 15 1,
 iM 16 2,
 iE 17 (.call (.t 16) []),
 iE 18 (.bsl 25 5 1 [i64 0,i64 0,st ⟨#[]⟩,.val (.slice none 0 0),i64 0] [(0,(.t 17))]),
 iM 19 7,
 iP 20 (.bld [i64 0,i64 0,st ⟨#[]⟩,.val (.slice none 0 0),i64 0] [(0,1,(.t 15)),(3,1,(.t 18)),(4,1,(.t 19))]),
 iE 8 (.alc 25 [i64 0,i64 0,st ⟨#[]⟩,.val (.slice none 0 0),i64 0]),
 ⟨none,none,.e (.st 5 (.t 8) (.t 20))⟩])
 (.seq
 (.reg [
 iM 21 0,
 iP 22 (.nck (.t 21)),
 iF 23 8 22,
 iL 24 23,
 iP 25 (.bin .sub (.i .i64) (.t 24) (.c (i64 1))),
 iP 26 (.nck (.t 21)),
 iF 27 8 26,
 ⟨none,none,.e (.st 1 (.t 27) (.t 25))⟩])
 (.seq
 (.reg [
 iP 28 (.ldn 5 (.t 8)),
 ⟨none,none,.e (.st 5 (.t 6) (.t 28))⟩])
 .ret))))))
def r137:List RS:=[.cn 6 5]
theorem c137:chkF Tryz.prog drawB Tryz.f137 i137 r137=true:=by kernel_rfl
def i138:IC :=
 (.seq
 (.reg [
 iE 1 (.alc 25 [i64 0,i64 0,st ⟨#[]⟩,.val (.slice none 0 0),i64 0])])
 (.seq
 (.reg [
 iL 2 0,
 iC 3 80 [.t 2,(.c (i64 2))],
 ⟨none,none,.e (.st 5 (.t 1) (.t 3))⟩])
 .ret))
def r138:List RS:=[.cn 1 5]
theorem c138:chkF Tryz.prog drawB Tryz.f138 i138 r138=true:=by kernel_rfl
def i139:IC :=
 (.seq
 (.reg [
 iE 2 (.alc 52 [i64 0,st ⟨#[]⟩,i64 0,i64 0])])
 (.seq
 (.seq
 (.drw [0,1,2,3,4,5,6,7,8,9] [
 iM 3 0,
 iP 4 (.nck (.t 3)),
 iF 5 1 4,
 iL 6 5,
 iM 7 0,
 iP 8 (.nck (.t 7)),
 iF 9 0 8,
 iL 10 9,
 iP 11 (.len (.t 10)),
 iP 12 (.bin .lss (.i .i64) (.t 6) (.t 11))])
 (.cond (.t 12)
 (.seq
 (.drw [0,1,2,3,4,5,6,7,8,9,10] [
 iM 13 0,
 iP 14 (.nck (.t 13)),
 iF 15 0 14,
 iL 16 15,
 iM 17 0,
 iP 18 (.nck (.t 17)),
 iF 19 1 18,
 iL 20 19,
 iP 21 (.ia 4 (.t 16) (.t 20)),
 iP 22 (.ldn 4 (.t 21)),
 ⟨none,none,.e (.st 4 (.t 2) (.t 22))⟩])
 .ret)
 .skip))
 (.seq
 (.reg [
 iP 23 (.bld [i64 0,st ⟨#[]⟩,i64 0,i64 0] []),
 ⟨none,none,.e (.st 4 (.t 2) (.t 23))⟩])
 .ret)))
def r139:List RS:=[.cn 2 4]
theorem c139:chkF Tryz.prog drawB Tryz.f139 i139 r139=true:=by kernel_rfl
def i140:IC :=
 (.seq
 (.reg [
 iE 2 (.alc 52 [i64 0,st ⟨#[]⟩,i64 0,i64 0])])
 (.seq
 (.reg [
 iM 4 0,
 iC 5 139 [.t 4],
 iE 3 (.alc 52 [i64 0,st ⟨#[]⟩,i64 0,i64 0]),
 ⟨none,none,.e (.st 4 (.t 3) (.t 5))⟩])
 (.seq
 (.reg [
 iM 6 0,
 iP 7 (.nck (.t 6)),
 iF 8 1 7,
 iL 9 8,
 iP 10 (.bin .add (.i .i64) (.t 9) (.c (i64 1))),
 iP 11 (.nck (.t 6)),
 iF 12 1 11,
 ⟨none,none,.e (.st 1 (.t 12) (.t 10))⟩])
 (.seq
 (.reg [
 iP 13 (.ldn 4 (.t 3)),
 ⟨none,none,.e (.st 4 (.t 2) (.t 13))⟩])
 .ret))))
def r140:List RS:=[.cn 2 4]
theorem c140:chkF Tryz.prog drawB Tryz.f140 i140 r140=true:=by kernel_rfl
def i141:IC :=
 (.seq
 (.reg [
 iP 2 (.mov (.c (bl false)))])
 (.seq
 (.reg [
 iM 3 0,
 iP 4 (.bin .geq (.i .u8) (.t 3) (.c (.val (.int .u8 48)))),
 iM 5 4,
 iG 6 5 true (.mov (.t 0)),
 iG 7 5 true (.bin .leq (.i .u8) (.t 6) (.c (.val (.int .u8 57)))),
 iP 8 (.pick (.t 5) (.t 7) (.c (bl false))),
 iM 2 8])
 .ret))
def r141:List RS:=[.t 2]
theorem c141:chkF Tryz.prog drawB Tryz.f141 i141 r141=true:=by kernel_rfl
def l142_0:IC:=.keep [0,4,5]
 (.seq
 (.seq
 (.reg [
 iM 17 5,
 iM 18 0,
 iP 19 (.lens (.t 18)),
 iP 20 (.bin .lss (.i .i64) (.t 17) (.t 19))])
 (.cond (.t 20)
 .skip
 (.exit 0)))
 (.seq
 (.blk 1
 (.reg [
 iM 23 4,
 iP 24 (.bin .mul (.i .i64) (.c (i64 10)) (.t 23)),
 iM 25 0,
 iM 26 5,
 iP 27 (.ixs (.t 25) (.t 26)),
 iP 28 (.bin .sub (.i .u8) (.t 27) (.c (.val (.int .u8 48)))),
 iP 29 (.cvi .i64 (.t 28)),
 iP 30 (.bin .add (.i .i64) (.t 24) (.t 29)),
 iM 4 30]))
 (.reg [
 iM 21 5,
 iP 22 (.bin .add (.i .i64) (.t 21) (.c (i64 1))),
 iM 5 22])))
def i142:IC :=
 (.seq
 (.reg [
 iP 2 (.mov (.c (i64 0))),
 iP 3 (.mov (.c (i64 0)))])
 (.seq
 (.seq
 (.reg [
 iM 6 0,
 iP 7 (.lens (.t 6)),
 iP 8 (.bin .gtr (.i .i64) (.t 7) (.c (i64 1))),
 iM 9 8,
 iG 10 9 true (.mov (.t 0)),
 iG 11 9 true (.ixs (.t 10) (.c (i64 0))),
 iG 12 9 true (.bin .eql (.i .u8) (.t 11) (.c (.val (.int .u8 48)))),
 iP 13 (.pick (.t 9) (.t 12) (.c (bl false)))])
 (.cond (.t 13)
 (.seq
 (.reg [
 iP 2 (.mov (.c (i64 0))),
 iP 3 (.mov (.c (i64 3)))])
 .ret)
 .skip))
 (.seq
 (.seq
 (.reg [
 iM 14 0,
 iP 15 (.lens (.t 14)),
 iP 16 (.bin .gtr (.i .i64) (.t 15) (.c (i64 10)))])
 (.cond (.t 16)
 (.seq
 (.reg [
 iP 2 (.mov (.c (i64 0))),
 iP 3 (.mov (.c (i64 2)))])
 .ret)
 .skip))
 (.seq
 (.reg [
 iP 4 (.mov (.c (i64 0)))])
 (.seq
 (.seq
 (.reg [
 iP 5 (.mov (.c (i64 0)))])
 (.blk 0
 (.loop l142_0)))
 (.seq
 (.seq
 (.reg [
 iM 31 4,
 iP 32 (.bin .gtr (.i .i64) (.t 31) (.c (i64 1000000000)))])
 (.cond (.t 32)
 (.seq
 (.reg [
 iP 2 (.mov (.c (i64 0))),
 iP 3 (.mov (.c (i64 2)))])
 .ret)
 .skip))
 (.seq
 (.reg [
 iM 33 4,
 iM 2 33,
 iP 3 (.mov (.c (i64 0)))])
 .ret)))))))
def r142:List RS:=[.t 2,.t 3]
theorem c142:chkF Tryz.prog drawB Tryz.f142 i142 r142=true:=by kernel_rfl
def i143:IC :=
 (.seq
 (.reg [
 iP 2 (.mov (.c (bl false)))])
 (.seq
 (.reg [
 iM 3 0,
 iP 4 (.bin .eql .s (.t 3) (.c (st ⟨#[61,61]⟩))),
 iM 5 4,
 iG 6 5 false (.mov (.t 0)),
 iG 7 5 false (.bin .eql .s (.t 6) (.c (st ⟨#[33,61]⟩))),
 iP 8 (.pick (.t 5) (.c (bl true)) (.t 7)),
 iM 9 8,
 iG 10 9 false (.mov (.t 0)),
 iG 11 9 false (.bin .eql .s (.t 10) (.c (st ⟨#[60,61]⟩))),
 iP 12 (.pick (.t 9) (.c (bl true)) (.t 11)),
 iM 13 12,
 iG 14 13 false (.mov (.t 0)),
 iG 15 13 false (.bin .eql .s (.t 14) (.c (st ⟨#[62,61]⟩))),
 iP 16 (.pick (.t 13) (.c (bl true)) (.t 15)),
 iM 17 16,
 iG 18 17 false (.mov (.t 0)),
 iG 19 17 false (.bin .eql .s (.t 18) (.c (st ⟨#[46,46]⟩))),
 iP 20 (.pick (.t 17) (.c (bl true)) (.t 19)),
 iM 2 20])
 .ret))
def r143:List RS:=[.t 2]
theorem c143:chkF Tryz.prog drawB Tryz.f143 i143 r143=true:=by kernel_rfl
def l144_0:IC:=.keep [0,3,4]
 (.seq
 (.seq
 (.reg [
 iM 5 4,
 iM 6 3,
 iP 7 (.lens (.t 6)),
 iP 8 (.bin .lss (.i .i64) (.t 5) (.t 7))])
 (.cond (.t 8)
 .skip
 (.exit 0)))
 (.seq
 (.blk 1
 (.seq
 (.reg [
 iM 11 3,
 iM 12 4,
 iP 13 (.ixs (.t 11) (.t 12)),
 iM 14 0,
 iP 15 (.bin .eql (.i .u8) (.t 13) (.t 14))])
 (.cond (.t 15)
 (.seq
 (.reg [
 iP 2 (.mov (.c (bl true)))])
 .ret)
 .skip)))
 (.reg [
 iM 9 4,
 iP 10 (.bin .add (.i .i64) (.t 9) (.c (i64 1))),
 iM 4 10])))
def i144:IC :=
 (.seq
 (.reg [
 iP 2 (.mov (.c (bl false)))])
 (.seq
 (.reg [
 iP 3 (.mov (.c (st ⟨#[123,125,40,41,58,59,44,43,45,42,47,37,60,62,61]⟩)))])
 (.seq
 (.seq
 (.reg [
 iP 4 (.mov (.c (i64 0)))])
 (.blk 0
 (.loop l144_0)))
 (.seq
 (.reg [
 iP 2 (.mov (.c (bl false)))])
 .ret))))
def r144:List RS:=[.t 2]
theorem c144:chkF Tryz.prog drawB Tryz.f144 i144 r144=true:=by kernel_rfl
def i145:IC :=
 (.seq
 (.reg [
 iE 2 (.alc 25 [i64 0,i64 0,st ⟨#[]⟩,.val (.slice none 0 0),i64 0])])
 (.seq
 (.seq
 (.reg [
 iM 5 0,
 iC 6 43 [.t 5,(.c (st ⟨#[110,111,116]⟩))],
 iP 7 (.not (.t 6))])
 (.cond (.t 7)
 (.seq
 (.reg [
 iM 8 0,
 iC 9 179 [.t 8],
 ⟨none,none,.e (.st 5 (.t 2) (.t 9))⟩])
 .ret)
 .skip))
 (.seq
 (.reg [
 iM 10 0,
 iC 11 180 [.t 10,(.c (st ⟨#[110,111,116]⟩))],
 iM 3 11])
 (.seq
 (.seq
 (.reg [
 iM 12 0,
 iC 13 36 [.t 12]])
 (.cond (.t 13)
 (.seq
 (.reg [
 iP 14 (.bld [i64 0,i64 0,st ⟨#[]⟩,.val (.slice none 0 0),i64 0] []),
 ⟨none,none,.e (.st 5 (.t 2) (.t 14))⟩])
 .ret)
 .skip))
 (.seq
 (.reg [
 iM 15 0,
 iC 16 145 [.t 15],
 iE 4 (.alc 25 [i64 0,i64 0,st ⟨#[]⟩,.val (.slice none 0 0),i64 0]),
 ⟨none,none,.e (.st 5 (.t 4) (.t 16))⟩])
 (.seq
 (.reg [
 iM 17 0,
 iP 18 (.nck (.t 17)),
 iF 19 3 18,
 iL 20 19,
 iP 21 (.bin .sub (.i .i64) (.t 20) (.c (i64 1))),
 iP 22 (.nck (.t 17)),
 iF 23 3 22,
 ⟨none,none,.e (.st 1 (.t 23) (.t 21))⟩])
 (.seq
 (.reg [
 iP 24 (.ldn 5 (.t 4)),
 iE 25 (.bsl 25 5 1 [i64 0,i64 0,st ⟨#[]⟩,.val (.slice none 0 0),i64 0] [(0,(.t 24))]),
 iM 26 3,
 iP 27 (.bld [i64 0,i64 0,st ⟨#[]⟩,.val (.slice none 0 0),i64 0] [(0,1,(.c (i64 4))),(3,1,(.t 25)),(4,1,(.t 26))]),
 ⟨none,none,.e (.st 5 (.t 2) (.t 27))⟩])
 .ret)))))))
def r145:List RS:=[.cn 2 5]
theorem c145:chkF Tryz.prog drawB Tryz.f145 i145 r145=true:=by kernel_rfl
def i146:IC :=
 (.seq
 (.reg [
 iP 2 (.mov (.c (bl false)))])
 (.seq
 (.seq
 (.reg [
 iM 3 0])
 (.blk 0
 (.seq
 (.seq
 (.reg [
 iP 5 (.bin .eql .s (.t 3) (.c (st ⟨#[103,97,109,101]⟩))),
 iM 4 5])
 (.cond (.t 4)
 .skip
 (.seq
 (.reg [
 iP 6 (.bin .eql .s (.t 3) (.c (st ⟨#[112,108,97,121,101,114,115]⟩))),
 iM 4 6])
 (.cond (.t 4)
 .skip
 (.seq
 (.reg [
 iP 7 (.bin .eql .s (.t 3) (.c (st ⟨#[118,97,114]⟩))),
 iM 4 7])
 (.cond (.t 4)
 .skip
 (.seq
 (.reg [
 iP 8 (.bin .eql .s (.t 3) (.c (st ⟨#[100,101,97,108]⟩))),
 iM 4 8])
 (.cond (.t 4)
 .skip
 (.seq
 (.reg [
 iP 9 (.bin .eql .s (.t 3) (.c (st ⟨#[105,110]⟩))),
 iM 4 9])
 (.cond (.t 4)
 .skip
 (.seq
 (.reg [
 iP 10 (.bin .eql .s (.t 3) (.c (st ⟨#[119,101,105,103,104,116]⟩))),
 iM 4 10])
 (.cond (.t 4)
 .skip
 (.seq
 (.reg [
 iP 11 (.bin .eql .s (.t 3) (.c (st ⟨#[115,101,101,110]⟩))),
 iM 4 11])
 (.cond (.t 4)
 .skip
 (.seq
 (.reg [
 iP 12 (.bin .eql .s (.t 3) (.c (st ⟨#[98,121]⟩))),
 iM 4 12])
 (.cond (.t 4)
 .skip
 (.seq
 (.reg [
 iP 13 (.bin .eql .s (.t 3) (.c (st ⟨#[97,108,108]⟩))),
 iM 4 13])
 (.cond (.t 4)
 .skip
 (.seq
 (.reg [
 iP 14 (.bin .eql .s (.t 3) (.c (st ⟨#[116,117,114,110]⟩))),
 iM 4 14])
 (.cond (.t 4)
 .skip
 (.seq
 (.reg [
 iP 15 (.bin .eql .s (.t 3) (.c (st ⟨#[97,99,116,105,111,110]⟩))),
 iM 4 15])
 (.cond (.t 4)
 .skip
 (.seq
 (.reg [
 iP 16 (.bin .eql .s (.t 3) (.c (st ⟨#[119,104,101,110]⟩))),
 iM 4 16])
 (.cond (.t 4)
 .skip
 (.seq
 (.reg [
 iP 17 (.bin .eql .s (.t 3) (.c (st ⟨#[104,105,100,100,101,110]⟩))),
 iM 4 17])
 (.cond (.t 4)
 .skip
 (.seq
 (.reg [
 iP 18 (.bin .eql .s (.t 3) (.c (st ⟨#[103,111,116,111]⟩))),
 iM 4 18])
 (.cond (.t 4)
 .skip
 (.seq
 (.reg [
 iP 19 (.bin .eql .s (.t 3) (.c (st ⟨#[101,110,100]⟩))),
 iM 4 19])
 (.cond (.t 4)
 .skip
 (.seq
 (.reg [
 iP 20 (.bin .eql .s (.t 3) (.c (st ⟨#[112,97,121]⟩))),
 iM 4 20])
 (.cond (.t 4)
 .skip
 (.seq
 (.reg [
 iP 21 (.bin .eql .s (.t 3) (.c (st ⟨#[111,114]⟩))),
 iM 4 21])
 (.cond (.t 4)
 .skip
 (.seq
 (.reg [
 iP 22 (.bin .eql .s (.t 3) (.c (st ⟨#[97,110,100]⟩))),
 iM 4 22])
 (.cond (.t 4)
 .skip
 (.seq
 (.reg [
 iP 23 (.bin .eql .s (.t 3) (.c (st ⟨#[110,111,116]⟩))),
 iM 4 23])
 (.cond (.t 4)
 .skip
 (.seq
 (.reg [
 iP 24 (.bin .eql .s (.t 3) (.c (st ⟨#[109,105,110]⟩))),
 iM 4 24])
 (.cond (.t 4)
 .skip
 (.seq
 (.reg [
 iP 25 (.bin .eql .s (.t 3) (.c (st ⟨#[109,97,120]⟩))),
 iM 4 25])
 (.cond (.t 4)
 .skip
 (.reg [
 iP 26 (.bin .eql .s (.t 3) (.c (st ⟨#[105,102]⟩))),
 iM 4 26])))))))))))))))))))))))))))))))))))))))))))
 (.cond (.t 4)
 (.seq
 (.reg [
 iP 2 (.mov (.c (bl true)))])
 .ret)
 .skip))))
 (.seq
 (.reg [
 iP 2 (.mov (.c (bl false)))])
 .ret)))
def r146:List RS:=[.t 2]
theorem c146:chkF Tryz.prog drawB Tryz.f146 i146 r146=true:=by kernel_rfl
def l147_0:IC:=.keep [0,1]
 (.seq
 (.seq
 (.reg [
 iM 74 0,
 iP 75 (.nck (.t 74)),
 iF 76 0 75,
 iC 77 90 [.t 76,(.c (st ⟨#[44]⟩))]])
 (.cond (.t 77)
 .skip
 (.exit 0)))
 (.blk 1
 (.drw [0,1,2,3,4,5,6,7,8,9,10,11,12,13,14,15,16,17,18,19] [
 iM 78 1,
 iM 79 1,
 iP 80 (.nck (.t 79)),
 iF 81 7 80,
 iL 82 81,
 iM 83 0,
 iP 84 (.nck (.t 83)),
 iF 85 0 84,
 iM 86 1,
 iP 87 (.nck (.t 86)),
 iF 88 7 87,
 iL 89 88,
 iP 90 (.len (.t 89)),
 iP 91 (.bin .eql (.i .i64) (.t 90) (.c (i64 32))),
 iC 92 89 [.t 85,.t 91],
 iE 93 (.bsl 3 1 1 [i64 0] [(0,(.t 92))]),
 iE 94 (.app 3 1 8 (.t 82) (.t 93)),
 iP 95 (.nck (.t 78)),
 iF 96 7 95,
 ⟨none,none,.e (.stw [89,82] 1 (.t 96) (.t 94))⟩])))
def i147:IC :=
 (.seq
 (.reg [
 iM 4 1,
 iP 5 (.nck (.t 4)),
 iF 6 0 5,
 ⟨none,none,.e (.st 1 (.t 6) (.c (i64 1)))⟩])
 (.seq
 (.reg [
 iM 7 1,
 iM 8 0,
 iP 9 (.nck (.t 8)),
 iF 10 0 9,
 iC 11 88 [.t 10,(.c (bl false))],
 iP 12 (.nck (.t 7)),
 iF 13 2 12,
 ⟨none,none,.e (.st 1 (.t 13) (.t 11))⟩])
 (.seq
 (.reg [
 iM 14 0,
 iP 15 (.nck (.t 14)),
 iF 16 0 15,
 iE 17 (.bsl 9 1 1 [st ⟨#[]⟩] [(0,(.c (st ⟨#[105,110]⟩)))]),
 iC 18 87 [.t 16,.t 17]])
 (.seq
 (.reg [
 iM 19 1,
 iM 20 0,
 iP 21 (.nck (.t 20)),
 iF 22 0 21,
 iC 23 89 [.t 22,(.c (bl false))],
 iP 24 (.nck (.t 19)),
 iF 25 3 24,
 ⟨none,none,.e (.st 1 (.t 25) (.t 23))⟩])
 (.seq
 (.reg [
 iM 26 0,
 iP 27 (.nck (.t 26)),
 iF 28 0 27,
 iE 29 (.bsl 9 1 1 [st ⟨#[]⟩] [(0,(.c (st ⟨#[46,46]⟩)))]),
 iC 30 87 [.t 28,.t 29]])
 (.seq
 (.reg [
 iM 31 1,
 iM 32 0,
 iP 33 (.nck (.t 32)),
 iF 34 0 33,
 iC 35 89 [.t 34,(.c (bl false))],
 iP 36 (.nck (.t 31)),
 iF 37 4 36,
 ⟨none,none,.e (.st 1 (.t 37) (.t 35))⟩])
 (.seq
 (.reg [
 iM 38 1,
 iM 39 0,
 iM 40 0,
 iP 41 (.mkf (.func 32) [(.t 40)] []),
 iC 42 181 [.t 39,(.c (st ⟨#[119,101,105,103,104,116]⟩)),.t 41],
 iP 43 (.nck (.t 38)),
 iF 44 5 43,
 ⟨none,none,.e (.st 1 (.t 44) (.t 42))⟩])
 (.seq
 (.seq
 (.reg [
 iM 45 0,
 iP 46 (.nck (.t 45)),
 iF 47 0 46,
 iC 48 90 [.t 47,(.c (st ⟨#[115,101,101,110]⟩))]])
 (.cond (.t 48)
 (.seq
 (.reg [
 iM 49 0,
 iP 50 (.nck (.t 49)),
 iF 51 0 50,
 iE 52 (.bsl 9 1 1 [st ⟨#[]⟩] [(0,(.c (st ⟨#[98,121]⟩)))]),
 iC 53 87 [.t 51,.t 52]])
 (.seq
 (.reg [
 iM 54 1,
 iM 55 0,
 iP 56 (.nck (.t 55)),
 iF 57 0 56,
 iC 58 90 [.t 57,(.c (st ⟨#[97,108,108]⟩))],
 iP 59 (.nck (.t 54)),
 iF 60 6 59,
 ⟨none,none,.e (.st 1 (.t 60) (.t 58))⟩])
 (.seq
 (.reg [
 iM 61 1,
 iP 62 (.nck (.t 61)),
 iF 63 6 62,
 iL 64 63,
 iP 65 (.not (.t 64))])
 (.cond (.t 65)
 (.seq
 (.reg [
 iM 66 1,
 iM 67 0,
 iP 68 (.nck (.t 67)),
 iF 69 0 68,
 iC 70 89 [.t 69,(.c (bl false))],
 iE 71 (.bsl 3 1 1 [i64 0] [(0,(.t 70))]),
 iP 72 (.nck (.t 66)),
 iF 73 7 72,
 ⟨none,none,.e (.st 1 (.t 73) (.t 71))⟩])
 (.blk 0
 (.loop l147_0)))
 .skip))))
 .skip))
 (.reg [
 iM 97 0,
 iP 98 (.nck (.t 97)),
 iF 99 0 98,
 iE 100 (.bsl 9 1 1 [st ⟨#[]⟩] [(0,(.c (st ⟨#[59]⟩)))]),
 iC 101 87 [.t 99,.t 100]])))))))))
def r147:List RS:=[]
theorem c147:chkF Tryz.prog drawB Tryz.f147 i147 r147=true:=by kernel_rfl
def l148_0:IC:=.keep [0,1]
 (.seq
 (.seq
 (.reg [
 iM 18 1,
 iP 19 (.nck (.t 18)),
 iF 20 9 19,
 iL 21 20,
 iP 22 (.len (.t 21)),
 iP 23 (.bin .eql (.i .i64) (.t 22) (.c (i64 0))),
 iM 24 23,
 iG 25 24 false (.mov (.t 0)),
 iG 26 24 false (.nck (.t 25)),
 iG 27 24 false (.fa 0 (.t 26)),
 ⟨(some 28),(some (24,false)),.e (.bsl 9 1 1 [st ⟨#[]⟩] [(0,(.c (st ⟨#[97,99,116,105,111,110]⟩)))])⟩,
 ⟨(some 29),(some (24,false)),.q (.c (.fn (.func 93) [] [])) [(.t 27),(.t 28)]⟩,
 iP 30 (.pick (.t 24) (.c (bl true)) (.t 29))])
 (.cond (.t 30)
 .skip
 (.exit 0)))
 (.blk 1
 (.seq
 (.seq
 (.reg [
 iM 31 0,
 iP 32 (.nck (.t 31)),
 iF 33 0 32,
 iE 34 (.bsl 9 1 1 [st ⟨#[]⟩] [(0,(.c (st ⟨#[97,99,116,105,111,110]⟩)))]),
 iC 35 93 [.t 33,.t 34],
 iP 36 (.not (.t 35))])
 (.cond (.t 36)
 (.reg [
 iM 37 0,
 iP 38 (.nck (.t 37)),
 iF 39 0 38,
 iC 40 79 [.t 39,(.c (i64 11))]])
 .skip))
 (.seq
 (.seq
 (.reg [
 iM 41 1,
 iP 42 (.nck (.t 41)),
 iF 43 9 42,
 iL 44 43,
 iP 45 (.len (.t 44)),
 iP 46 (.bin .eql (.i .i64) (.t 45) (.c (i64 10)))])
 (.cond (.t 46)
 (.reg [
 iM 47 0,
 iP 48 (.nck (.t 47)),
 iF 49 0 48,
 iC 50 79 [.t 49,(.c (i64 12))]])
 .skip))
 (.drw [0,1,2,3,4,5,6,7,8,9,10,11] [
 iM 51 1,
 iM 52 1,
 iP 53 (.nck (.t 52)),
 iF 54 9 53,
 iL 55 54,
 iM 56 0,
 iC 57 182 [.t 56],
 iE 58 (.bsl 89 6 1 [st ⟨#[]⟩,.val (.slice none 0 0),bl false,.val (.slice none 0 0),st ⟨#[]⟩,i64 0] [(0,(.t 57))]),
 iE 59 (.app 89 6 96 (.t 55) (.t 58)),
 iP 60 (.nck (.t 51)),
 iF 61 9 60,
 ⟨none,none,.e (.stw [55] 1 (.t 61) (.t 59))⟩])))))
def i148:IC :=
 (.seq
 (.reg [
 iM 4 1,
 iP 5 (.nck (.t 4)),
 iF 6 0 5,
 ⟨none,none,.e (.st 1 (.t 6) (.c (i64 2)))⟩])
 (.seq
 (.reg [
 iM 7 1,
 iM 8 0,
 iC 9 32 [.t 8],
 iE 10 (.bsl 25 5 1 [i64 0,i64 0,st ⟨#[]⟩,.val (.slice none 0 0),i64 0] [(0,(.t 9))]),
 iP 11 (.nck (.t 7)),
 iF 12 8 11,
 ⟨none,none,.e (.st 1 (.t 12) (.t 10))⟩])
 (.seq
 (.reg [
 iM 13 0,
 iP 14 (.nck (.t 13)),
 iF 15 0 14,
 iE 16 (.bsl 9 1 1 [st ⟨#[]⟩] [(0,(.c (st ⟨#[123]⟩)))]),
 iC 17 87 [.t 15,.t 16]])
 (.seq
 (.blk 0
 (.loop l148_0))
 (.reg [
 iM 62 0,
 iP 63 (.nck (.t 62)),
 iF 64 0 63,
 iE 65 (.bsl 9 1 1 [st ⟨#[]⟩] [(0,(.c (st ⟨#[125]⟩)))]),
 iC 66 87 [.t 64,.t 65]])))))
def r148:List RS:=[]
theorem c148:chkF Tryz.prog drawB Tryz.f148 i148 r148=true:=by kernel_rfl
def l149_0:IC:=.keep [0,1]
 (.seq
 (.seq
 (.reg [
 iM 18 0,
 iP 19 (.nck (.t 18)),
 iF 20 0 19,
 iC 21 90 [.t 20,(.c (st ⟨#[44]⟩))]])
 (.cond (.t 21)
 .skip
 (.exit 0)))
 (.blk 1
 (.seq
 (.seq
 (.reg [
 iM 22 1,
 iP 23 (.nck (.t 22)),
 iF 24 10 23,
 iL 25 24,
 iP 26 (.len (.t 25)),
 iP 27 (.bin .eql (.i .i64) (.t 26) (.c (i64 32)))])
 (.cond (.t 27)
 (.seq
 (.seq
 (.reg [
 iM 28 0,
 iC 29 183 [.t 28],
 iP 30 (.not (.t 29))])
 (.cond (.t 30)
 (.reg [
 iM 31 0,
 iP 32 (.nck (.t 31)),
 iF 33 0 32,
 iC 34 79 [.t 33,(.c (i64 11))]])
 .skip))
 (.reg [
 iM 35 0,
 iP 36 (.nck (.t 35)),
 iF 37 0 36,
 iC 38 79 [.t 37,(.c (i64 12))]]))
 .skip))
 (.drq [] 9 [0,1,2,3,4,6,7,5,8] [
 iM 39 1,
 iP 40 (.nck (.t 39)),
 iF 41 10 40,
 iL 42 41,
 iM 43 0,
 iP 45 (.len (.t 42)),
 iP 46 (.kro 25 5 1 [i64 0,i64 0,st ⟨#[]⟩,.val (.slice none 0 0),i64 0] [(0,(.agg [i64 0,i64 0,st ⟨#[]⟩,.val (.slice none 0 0),i64 0]))]),
 iC 44 32 [.t 43],
 iE 47 (.app 25 5 64 (.t 42) (.t 46))] [[9,10,11,12,13],[9,11,10,12,13],[9,11,12,10,13],[9,11,12,13,10],[11,9,10,12,13],[11,9,12,10,13],[11,9,12,13,10],[11,12,9,10,13],[11,12,9,13,10],[11,12,13,9,10]] [
 iP 48 (.ia 5 (.t 47) (.t 45)),
 ⟨none,none,.e (.st 5 (.t 48) (.t 44))⟩,
 iP 49 (.nck (.t 39)),
 iF 50 10 49,
 ⟨none,none,.e (.st 1 (.t 50) (.t 47))⟩]))))
def i149:IC :=
 (.seq
 (.reg [
 iM 4 1,
 iP 5 (.nck (.t 4)),
 iF 6 0 5,
 ⟨none,none,.e (.st 1 (.t 6) (.c (i64 3)))⟩])
 (.seq
 (.reg [
 iM 7 0,
 iP 8 (.nck (.t 7)),
 iF 9 0 8,
 iE 10 (.bsl 9 1 2 [st ⟨#[]⟩] [(0,(.c (st ⟨#[123]⟩))),(1,(.c (st ⟨#[112,97,121]⟩)))]),
 iC 11 87 [.t 9,.t 10]])
 (.seq
 (.reg [
 iM 12 1,
 iM 13 0,
 iC 14 32 [.t 13],
 iE 15 (.bsl 25 5 1 [i64 0,i64 0,st ⟨#[]⟩,.val (.slice none 0 0),i64 0] [(0,(.t 14))]),
 iP 16 (.nck (.t 12)),
 iF 17 10 16,
 ⟨none,none,.e (.st 1 (.t 17) (.t 15))⟩])
 (.seq
 (.blk 0
 (.loop l149_0))
 (.reg [
 iM 51 0,
 iP 52 (.nck (.t 51)),
 iF 53 0 52,
 iE 54 (.bsl 9 1 2 [st ⟨#[]⟩] [(0,(.c (st ⟨#[59]⟩))),(1,(.c (st ⟨#[125]⟩)))]),
 iC 55 87 [.t 53,.t 54]])))))
def r149:List RS:=[]
theorem c149:chkF Tryz.prog drawB Tryz.f149 i149 r149=true:=by kernel_rfl
def l150_0:IC:=.keep [0,2,3]
 (.seq
 (.seq
 (.reg [
 iM 26 0,
 iC 27 36 [.t 26],
 iP 28 (.not (.t 27)),
 iM 29 28,
 iG 30 29 true (.mov (.t 0)),
 ⟨(some 31),(some (29,true)),.q (.c (.fn (.func 43) [] [])) [(.t 30),(.c (st ⟨#[125]⟩))]⟩,
 iG 32 29 true (.not (.t 31)),
 iP 33 (.pick (.t 29) (.t 32) (.c (bl false)))])
 (.cond (.t 33)
 .skip
 (.exit 0)))
 (.blk 1
 (.seq
 (.seq
 (.reg [
 iF 34 3 3,
 iL 35 34,
 iP 36 (.len (.t 35)),
 iP 37 (.bin .eql (.i .i64) (.t 36) (.c (i64 32))),
 iM 38 37,
 iG 39 38 true (.mov (.t 0)),
 ⟨(some 40),(some (38,true)),.q (.c (.fn (.func 44) [] [])) [(.t 39)]⟩,
 iP 41 (.pick (.t 38) (.t 40) (.c (bl false)))])
 (.cond (.t 41)
 (.reg [
 iM 42 0,
 iC 43 35 [.t 42,(.c (i64 12))]])
 .skip))
 (.seq
 (.reg [
 iM 44 0,
 iC 45 45 [.t 44],
 iP 46 (.bld [st ⟨#[]⟩,i64 0,i64 0,st ⟨#[]⟩,.val (.slice none 0 0),i64 0,i64 0] [(6,1,(.t 45))]),
 iE 4 (.alc 91 [st ⟨#[]⟩,i64 0,i64 0,st ⟨#[]⟩,.val (.slice none 0 0),i64 0,i64 0]),
 ⟨none,none,.e (.st 7 (.t 4) (.t 46))⟩])
 (.seq
 (.reg [
 iM 47 0,
 iC 48 41 [.t 47],
 iF 49 0 4,
 ⟨none,none,.e (.st 1 (.t 49) (.t 48))⟩])
 (.seq
 (.reg [
 iM 50 0,
 iC 51 40 [.t 50,(.c (st ⟨#[61]⟩))]])
 (.seq
 (.reg [
 iM 52 0,
 iC 53 34 [.t 52],
 iF 54 1 4,
 ⟨none,none,.e (.st 5 (.t 54) (.t 53))⟩])
 (.seq
 (.reg [
 iM 55 0,
 iC 56 40 [.t 55,(.c (st ⟨#[59]⟩))]])
 (.reg [
 iF 57 3 3,
 iL 58 57,
 iP 59 (.ldn 7 (.t 4)),
 iE 60 (.bsl 91 7 1 [st ⟨#[]⟩,i64 0,i64 0,st ⟨#[]⟩,.val (.slice none 0 0),i64 0,i64 0] [(0,(.t 59))]),
 iE 61 (.app 91 7 88 (.t 58) (.t 60)),
 iF 62 3 3,
 ⟨none,none,.e (.st 1 (.t 62) (.t 61))⟩])))))))))
def i150:IC :=
 (.seq
 (.reg [
 iE 2 (.alc 89 [st ⟨#[]⟩,.val (.slice none 0 0),bl false,.val (.slice none 0 0),st ⟨#[]⟩,i64 0])])
 (.seq
 (.reg [
 iM 5 0,
 iC 6 40 [.t 5,(.c (st ⟨#[97,99,116,105,111,110]⟩))],
 iP 7 (.bld [st ⟨#[]⟩,.val (.slice none 0 0),bl false,.val (.slice none 0 0),st ⟨#[]⟩,i64 0] [(5,1,(.t 6))]),
 iE 3 (.alc 89 [st ⟨#[]⟩,.val (.slice none 0 0),bl false,.val (.slice none 0 0),st ⟨#[]⟩,i64 0]),
 ⟨none,none,.e (.st 6 (.t 3) (.t 7))⟩])
 (.seq
 (.reg [
 iM 8 0,
 iC 9 41 [.t 8],
 iF 10 0 3,
 ⟨none,none,.e (.st 1 (.t 10) (.t 9))⟩])
 (.seq
 (.seq
 (.reg [
 iM 11 0,
 iC 12 43 [.t 11,(.c (st ⟨#[119,104,101,110]⟩))]])
 (.cond (.t 12)
 (.seq
 (.reg [
 iM 13 0,
 iC 14 40 [.t 13,(.c (st ⟨#[119,104,101,110]⟩))]])
 (.reg [
 iM 15 0,
 iC 16 34 [.t 15],
 iE 17 (.bsl 25 5 1 [i64 0,i64 0,st ⟨#[]⟩,.val (.slice none 0 0),i64 0] [(0,(.t 16))]),
 iF 18 1 3,
 ⟨none,none,.e (.st 1 (.t 18) (.t 17))⟩]))
 .skip))
 (.seq
 (.seq
 (.reg [
 iM 19 0,
 iC 20 43 [.t 19,(.c (st ⟨#[104,105,100,100,101,110]⟩))]])
 (.cond (.t 20)
 (.seq
 (.reg [
 iM 21 0,
 iC 22 40 [.t 21,(.c (st ⟨#[104,105,100,100,101,110]⟩))]])
 (.reg [
 iF 23 2 3,
 ⟨none,none,.e (.st 1 (.t 23) (.c (bl true)))⟩]))
 .skip))
 (.seq
 (.reg [
 iM 24 0,
 iC 25 40 [.t 24,(.c (st ⟨#[123]⟩))]])
 (.seq
 (.blk 0
 (.loop l150_0))
 (.seq
 (.reg [
 iM 63 0,
 iC 64 40 [.t 63,(.c (st ⟨#[125]⟩))]])
 (.seq
 (.seq
 (.reg [
 iM 65 0,
 iC 66 43 [.t 65,(.c (st ⟨#[103,111,116,111]⟩))]])
 (.cond (.t 66)
 (.seq
 (.reg [
 iM 67 0,
 iC 68 40 [.t 67,(.c (st ⟨#[103,111,116,111]⟩))]])
 (.seq
 (.reg [
 iM 69 0,
 iC 70 41 [.t 69],
 iF 71 4 3,
 ⟨none,none,.e (.st 1 (.t 71) (.t 70))⟩])
 (.reg [
 iM 72 0,
 iC 73 40 [.t 72,(.c (st ⟨#[59]⟩))]])))
 .skip))
 (.seq
 (.reg [
 iP 74 (.ldn 6 (.t 3)),
 ⟨none,none,.e (.st 6 (.t 2) (.t 74))⟩])
 .ret))))))))))
def r150:List RS:=[.cn 2 6]
theorem c150:chkF Tryz.prog drawB Tryz.f150 i150 r150=true:=by kernel_rfl
def i151:IC :=
 (.seq
 (.reg [
 iP 2 (.mov (.c (bl false)))])
 (.seq
 (.seq
 (.drw [0,1,2,3,4,5,6,7,8,9,10,11,12,13] [
 iM 3 0,
 ⟨(some 4),none,.q (.c (.fn (.func 36) [] [])) [(.t 3)]⟩,
 iM 5 4,
 iG 6 5 false (.mov (.t 0)),
 iG 7 5 false (.nck (.t 6)),
 iG 8 5 false (.fa 2 (.t 7)),
 iG 9 5 false (.ld1 (.t 8)),
 iG 10 5 false (.mov (.t 0)),
 iG 11 5 false (.nck (.t 10)),
 iG 12 5 false (.fa 0 (.t 11)),
 iG 13 5 false (.ld1 (.t 12)),
 iG 14 5 false (.len (.t 13)),
 iG 15 5 false (.bin .geq (.i .i64) (.t 9) (.t 14)),
 iP 16 (.pick (.t 5) (.c (bl true)) (.t 15))])
 (.cond (.t 16)
 (.seq
 (.reg [
 iP 2 (.mov (.c (bl false)))])
 .ret)
 .skip))
 (.seq
 (.drw [0,1,2,3,4,5,6,7,8,9,10,11,12,13,14,15,16,17,18,19,20,21,22,23,24,25,26,27,28,29,30,31,32,33,34,35,36,37,38,39,40] [
 iM 17 0,
 iP 18 (.nck (.t 17)),
 iF 19 0 18,
 iL 20 19,
 iM 21 0,
 iP 22 (.nck (.t 21)),
 iF 23 2 22,
 iL 24 23,
 iP 25 (.ia 4 (.t 20) (.t 24)),
 iF 26 0 25,
 iL 27 26,
 iP 28 (.bin .eql (.i .i64) (.t 27) (.c (i64 2))),
 iM 29 28,
 iG 30 29 false (.mov (.t 0)),
 ⟨(some 31),(some (29,false)),.q (.c (.fn (.func 44) [] [])) [(.t 30)]⟩,
 iP 32 (.pick (.t 29) (.c (bl true)) (.t 31)),
 iM 33 32,
 iG 34 33 false (.mov (.t 0)),
 ⟨(some 35),(some (33,false)),.q (.c (.fn (.func 43) [] [])) [(.t 34),(.c (st ⟨#[110,111,116]⟩))]⟩,
 iP 36 (.pick (.t 33) (.c (bl true)) (.t 35)),
 iM 37 36,
 iG 38 37 false (.mov (.t 0)),
 ⟨(some 39),(some (37,false)),.q (.c (.fn (.func 43) [] [])) [(.t 38),(.c (st ⟨#[45]⟩))]⟩,
 iP 40 (.pick (.t 37) (.c (bl true)) (.t 39)),
 iM 41 40,
 iG 42 41 false (.mov (.t 0)),
 ⟨(some 43),(some (41,false)),.q (.c (.fn (.func 43) [] [])) [(.t 42),(.c (st ⟨#[40]⟩))]⟩,
 iP 44 (.pick (.t 41) (.c (bl true)) (.t 43)),
 iM 45 44,
 iG 46 45 false (.mov (.t 0)),
 ⟨(some 47),(some (45,false)),.q (.c (.fn (.func 43) [] [])) [(.t 46),(.c (st ⟨#[109,105,110]⟩))]⟩,
 iP 48 (.pick (.t 45) (.c (bl true)) (.t 47)),
 iM 49 48,
 iG 50 49 false (.mov (.t 0)),
 ⟨(some 51),(some (49,false)),.q (.c (.fn (.func 43) [] [])) [(.t 50),(.c (st ⟨#[109,97,120]⟩))]⟩,
 iP 52 (.pick (.t 49) (.c (bl true)) (.t 51)),
 iM 53 52,
 iG 54 53 false (.mov (.t 0)),
 ⟨(some 55),(some (53,false)),.q (.c (.fn (.func 43) [] [])) [(.t 54),(.c (st ⟨#[105,102]⟩))]⟩,
 iP 56 (.pick (.t 53) (.c (bl true)) (.t 55)),
 iM 2 56])
 .ret)))
def r151:List RS:=[.t 2]
theorem c151:chkF Tryz.prog drawB Tryz.f151 i151 r151=true:=by kernel_rfl
def ya170_0:IC :=
 (.seq
 (.reg [
 iE 5 (.alc 52 [i64 0,st ⟨#[]⟩,i64 0,i64 0]),
 ⟨none,none,.e (.st 4 (.t 5) (.t 28))⟩])
 (.reg [
 iM 6 29]))
def yb170_0:IC :=
 (.blk 1
 (.seq
 (.reg [
 iP 30 (.ldn 4 (.t 5)),
 ⟨none,none,.e (.st 4 (.t 1) (.t 30))⟩])
 (.seq
 (.reg [
 iM 31 6,
 iP 32 (.ifn false true (.t 31)),
 iM 33 32,
 iG 34 33 true (.fa 1 (.t 5)),
 iG 35 33 true (.ld1 (.t 34)),
 iG 36 33 true (.ld1 (.t 3)),
 iG 37 33 true (.bin .eql .s (.t 35) (.t 36)),
 iP 38 (.pick (.t 33) (.t 37) (.c (bl false))),
 iM 39 38,
 iG 40 39 true (.fa 0 (.t 5)),
 iG 41 39 true (.ld1 (.t 40)),
 iG 42 39 true (.fa 0 (.t 2)),
 iG 43 39 true (.ld1 (.t 42)),
 iG 44 39 true (.bin .eql (.i .i64) (.t 41) (.t 43)),
 iP 45 (.pick (.t 39) (.t 44) (.c (bl false))),
 ⟨none,none,.e (.st 1 (.t 4) (.t 45))⟩])
 .ret)))
def i170:IC :=
 (.seq
 (.reg [
 iE 3 (.box 9 (.t 0)),
 iE 4 (.alc 4 [bl false])])
 (.seq
 (.seq
 (.reg [
 iL 7 3,
 iP 8 (.lens (.t 7)),
 iP 9 (.bin .eql (.i .i64) (.t 8) (.c (i64 0))),
 iM 10 9,
 iG 11 10 false (.ld1 (.t 3)),
 iG 12 10 false (.lens (.t 11)),
 iG 13 10 false (.bin .gtr (.i .i64) (.t 12) (.c (i64 40))),
 iP 14 (.pick (.t 10) (.c (bl true)) (.t 13)),
 iM 15 14,
 iG 16 15 false (.ld1 (.t 3)),
 iG 17 15 false (.ixs (.t 16) (.c (i64 0))),
 ⟨(some 18),(some (15,false)),.q (.c (.fn (.func 124) [] [])) [(.t 17)]⟩,
 iG 19 15 false (.bin .eql (.i .i64) (.t 18) (.c (i64 1))),
 iP 20 (.pick (.t 15) (.c (bl true)) (.t 19)),
 iM 21 20,
 iG 22 21 false (.ld1 (.t 3)),
 iG 23 21 false (.ixs (.t 22) (.c (i64 0))),
 iG 24 21 false (.bin .eql (.i .u8) (.t 23) (.c (.val (.int .u8 35)))),
 iP 25 (.pick (.t 21) (.c (bl true)) (.t 24))])
 (.cond (.t 25)
 (.seq
 (.reg [
 ⟨none,none,.e (.st 1 (.t 4) (.c (bl false)))⟩])
 .ret)
 .skip))
 (.seq
 (.seq
 (.reg [
 iL 26 3,
 iC 27 70 [.t 26]])
 (.blk 0
 (.keep [1,2,3,4,27] (.rng 1 (.t 27) [28,29] ya170_0 yb170_0))))
 (.seq
 (.reg [
 ⟨none,none,.e (.st 1 (.t 4) (.c (bl false)))⟩])
 .ret))))
def r170:List RS:=[.c1 4]
theorem c170:chkF Tryz.prog drawB Tryz.f170 i170 r170=true:=by kernel_rfl
def i171:IC :=
 (.seq
 (.reg [
 iP 6 (.mov (.c (i64 0)))])
 (.seq
 (.seq
 (.reg [
 iM 7 1,
 iM 8 0,
 iE 9 (.call (.t 7) [(.t 8)])])
 (.cond (.t 9)
 (.seq
 (.reg [
 iP 6 (.mov (.c (i64 0)))])
 .ret)
 .skip))
 (.seq
 (.reg [
 iM 10 2,
 iM 6 10])
 .ret)))
def r171:List RS:=[.t 6]
theorem c171:chkF Tryz.prog drawB Tryz.f171 i171 r171=true:=by kernel_rfl
def i172:IC :=
 (.seq
 (.reg [
 iP 6 (.mov (.c (i64 0)))])
 (.seq
 (.seq
 (.reg [
 iM 7 1,
 iM 8 0,
 iE 9 (.call (.t 7) [(.t 8)])])
 (.cond (.t 9)
 (.seq
 (.reg [
 iP 6 (.mov (.c (i64 0)))])
 .ret)
 .skip))
 (.seq
 (.reg [
 iM 10 2,
 iM 6 10])
 .ret)))
def r172:List RS:=[.t 6]
theorem c172:chkF Tryz.prog drawB Tryz.f172 i172 r172=true:=by kernel_rfl
def i173:IC :=
 (.seq
 (.reg [
 iP 3 (.mov (.c (bl false)))])
 (.seq
 (.reg [
 iM 4 0,
 iF 5 2 1,
 iL 6 5,
 iP 7 (.bin .eql (.i .i64) (.t 4) (.t 6)),
 iM 3 7])
 .ret))
def r173:List RS:=[.t 3]
theorem c173:chkF Tryz.prog drawB Tryz.f173 i173 r173=true:=by kernel_rfl
def l177_0:IC:=.keep [0,1,5]
 (.seq
 (.seq
 (.reg [
 iM 21 5,
 iP 22 (.len (.t 21)),
 iM 23 1,
 iP 24 (.bin .lss (.i .i64) (.t 22) (.t 23))])
 (.cond (.t 24)
 .skip
 (.exit 0)))
 (.blk 1
 (.seq
 (.reg [
 iM 25 0,
 iP 26 (.nck (.t 25)),
 iF 27 0 26,
 iE 28 (.bsl 9 1 1 [st ⟨#[]⟩] [(0,(.c (st ⟨#[44]⟩)))]),
 iC 29 87 [.t 27,.t 28]])
 (.reg [
 iM 30 5,
 iM 31 0,
 iC 32 32 [.t 31],
 iE 33 (.bsl 25 5 1 [i64 0,i64 0,st ⟨#[]⟩,.val (.slice none 0 0),i64 0] [(0,(.t 32))]),
 iE 34 (.app 25 5 64 (.t 30) (.t 33)),
 iM 5 34]))))
def i177:IC :=
 (.seq
 (.reg [
 iP 4 (.mov (.c (.val (.slice none 0 0))))])
 (.seq
 (.seq
 (.reg [
 iM 6 0,
 iP 7 (.nck (.t 6)),
 iF 8 0 7,
 iE 9 (.bsl 9 1 1 [st ⟨#[]⟩] [(0,(.c (st ⟨#[40]⟩)))]),
 iC 10 93 [.t 8,.t 9],
 iP 11 (.not (.t 10))])
 (.cond (.t 11)
 (.reg [
 iM 12 0,
 iP 13 (.nck (.t 12)),
 iF 14 0 13,
 iC 15 79 [.t 14,(.c (i64 11))]])
 .skip))
 (.seq
 (.reg [
 iM 16 0,
 iC 17 178 [.t 16]])
 (.seq
 (.reg [
 iM 18 0,
 iC 19 32 [.t 18],
 iE 20 (.bsl 25 5 1 [i64 0,i64 0,st ⟨#[]⟩,.val (.slice none 0 0),i64 0] [(0,(.t 19))]),
 iM 5 20])
 (.seq
 (.blk 0
 (.loop l177_0))
 (.seq
 (.reg [
 iM 35 0,
 iP 36 (.nck (.t 35)),
 iF 37 0 36,
 iE 38 (.bsl 9 1 1 [st ⟨#[]⟩] [(0,(.c (st ⟨#[41]⟩)))]),
 iC 39 87 [.t 37,.t 38]])
 (.seq
 (.reg [
 iM 40 0,
 iP 41 (.nck (.t 40)),
 iF 42 8 41,
 iL 43 42,
 iP 44 (.bin .sub (.i .i64) (.t 43) (.c (i64 1))),
 iP 45 (.nck (.t 40)),
 iF 46 8 45,
 ⟨none,none,.e (.st 1 (.t 46) (.t 44))⟩])
 (.seq
 (.reg [
 iM 47 5,
 iM 4 47])
 .ret))))))))
def r177:List RS:=[.t 4]
theorem c177:chkF Tryz.prog drawB Tryz.f177 i177 r177=true:=by kernel_rfl
def i178:IC :=
 (.seq
 (.reg [
 iM 2 0,
 iP 3 (.nck (.t 2)),
 iF 4 8 3,
 iL 5 4,
 iP 6 (.bin .add (.i .i64) (.t 5) (.c (i64 1))),
 iP 7 (.nck (.t 2)),
 iF 8 8 7,
 ⟨none,none,.e (.st 1 (.t 8) (.t 6))⟩])
 (.seq
 (.seq
 (.reg [
 iM 9 0,
 iP 10 (.nck (.t 9)),
 iF 11 8 10,
 iL 12 11,
 iP 13 (.bin .gtr (.i .i64) (.t 12) (.c (i64 40)))])
 (.cond (.t 13)
 (.reg [
 iM 14 0,
 iP 15 (.nck (.t 14)),
 iF 16 0 15,
 iC 17 79 [.t 16,(.c (i64 5))]])
 .skip))
 (.reg [
 iM 18 0,
 iP 19 (.nck (.t 18)),
 iF 20 0 19,
 iC 21 140 [.t 20]])))
def r178:List RS:=[]
theorem c178:chkF Tryz.prog drawB Tryz.f178 i178 r178=true:=by kernel_rfl
def l179_0:IC:=.keep [0,2,3,4,5]
 (.seq
 (.seq
 (.reg [
 iM 10 5,
 iP 11 (.bin .lss (.i .i64) (.t 10) (.c (i64 6)))])
 (.cond (.t 11)
 .skip
 (.exit 0)))
 (.seq
 (.blk 1
 (.seq
 (.reg [
 iM 14 0,
 iM 15 4,
 iM 16 5,
 iP 17 (.ia 1 (.t 15) (.t 16)),
 iL 18 17,
 iC 19 43 [.t 14,.t 18]])
 (.cond (.t 19)
 (.seq
 (.reg [
 iM 20 0,
 iM 21 4,
 iM 22 5,
 iP 23 (.ia 1 (.t 21) (.t 22)),
 iL 24 23,
 iC 25 40 [.t 20,.t 24],
 iM 6 25])
 (.seq
 (.drw [0,1,2,3,4,5,6,7] [
 iM 26 5,
 iP 27 (.bin .add (.i .i64) (.c (i64 10)) (.t 26)),
 iM 28 6,
 iP 29 (.ldn 5 (.t 3)),
 iM 30 0,
 iC 31 200 [.t 30],
 ⟨(some 32),none,.q (.c (.fn (.func 85) [] [])) [(.t 27),(.t 28),(.t 29),(.t 31)]⟩,
 ⟨none,none,.e (.st 5 (.t 2) (.t 32))⟩])
 .ret))
 .skip)))
 (.reg [
 iM 12 5,
 iP 13 (.bin .add (.i .i64) (.t 12) (.c (i64 1))),
 iM 5 13])))
def i179:IC :=
 (.seq
 (.reg [
 iE 2 (.alc 25 [i64 0,i64 0,st ⟨#[]⟩,.val (.slice none 0 0),i64 0])])
 (.seq
 (.reg [
 iM 7 0,
 iC 8 200 [.t 7],
 iE 3 (.alc 25 [i64 0,i64 0,st ⟨#[]⟩,.val (.slice none 0 0),i64 0]),
 ⟨none,none,.e (.st 5 (.t 3) (.t 8))⟩])
 (.seq
 (.reg [
 iE 9 (.bsl 9 1 6 [st ⟨#[]⟩] [(0,(.c (st ⟨#[61,61]⟩))),(1,(.c (st ⟨#[33,61]⟩))),(2,(.c (st ⟨#[60]⟩))),(3,(.c (st ⟨#[60,61]⟩))),(4,(.c (st ⟨#[62]⟩))),(5,(.c (st ⟨#[62,61]⟩)))]),
 iM 4 9])
 (.seq
 (.seq
 (.reg [
 iP 5 (.mov (.c (i64 0)))])
 (.blk 0
 (.loop l179_0)))
 (.seq
 (.reg [
 iP 33 (.ldn 5 (.t 3)),
 ⟨none,none,.e (.st 5 (.t 2) (.t 33))⟩])
 .ret)))))
def r179:List RS:=[.cn 2 5]
theorem c179:chkF Tryz.prog drawB Tryz.f179 i179 r179=true:=by kernel_rfl
def i180:IC :=
 (.seq
 (.reg [
 iP 4 (.mov (.c (i64 0)))])
 (.seq
 (.seq
 (.reg [
 iM 5 0,
 iM 6 1,
 iC 7 43 [.t 5,.t 6],
 iM 8 7,
 iG 9 8 true (.mov (.t 0)),
 iG 10 8 true (.nck (.t 9)),
 iG 11 8 true (.fa 3 (.t 10)),
 iG 12 8 true (.ld1 (.t 11)),
 iG 13 8 true (.bin .eql (.i .i64) (.t 12) (.c (i64 40))),
 iP 14 (.pick (.t 8) (.t 13) (.c (bl false)))])
 (.cond (.t 14)
 (.reg [
 iM 15 0,
 iC 16 35 [.t 15,(.c (i64 5))]])
 .skip))
 (.seq
 (.reg [
 iM 17 0,
 iP 18 (.nck (.t 17)),
 iF 19 3 18,
 iL 20 19,
 iP 21 (.bin .add (.i .i64) (.t 20) (.c (i64 1))),
 iP 22 (.nck (.t 17)),
 iF 23 3 22,
 ⟨none,none,.e (.st 1 (.t 23) (.t 21))⟩])
 (.seq
 (.reg [
 iM 24 0,
 iM 25 1,
 iC 26 40 [.t 24,.t 25],
 iM 4 26])
 .ret))))
def r180:List RS:=[.t 4]
theorem c180:chkF Tryz.prog drawB Tryz.f180 i180 r180=true:=by kernel_rfl
def i181:IC :=
 (.seq
 (.reg [
 iP 6 (.mov (.c (.val (.slice none 0 0))))])
 (.seq
 (.seq
 (.reg [
 iM 7 0,
 iP 8 (.nck (.t 7)),
 iF 9 0 8,
 iM 10 1,
 iC 11 90 [.t 9,.t 10],
 iP 12 (.not (.t 11))])
 (.cond (.t 12)
 (.seq
 (.reg [
 iP 6 (.mov (.c (.val (.slice none 0 0))))])
 .ret)
 .skip))
 (.seq
 (.reg [
 iM 13 2,
 iE 14 (.call (.t 13) []),
 iE 15 (.bsl 25 5 1 [i64 0,i64 0,st ⟨#[]⟩,.val (.slice none 0 0),i64 0] [(0,(.t 14))]),
 iM 6 15])
 .ret)))
def r181:List RS:=[.t 6]
theorem c181:chkF Tryz.prog drawB Tryz.f181 i181 r181=true:=by kernel_rfl
def l182_0:IC:=.keep [1,2,3]
 (.seq
 (.seq
 (.reg [
 iL 38 1,
 iP 39 (.nck (.t 38)),
 iF 40 0 39,
 iC 41 90 [.t 40,(.c (st ⟨#[125]⟩))],
 iP 42 (.not (.t 41))])
 (.cond (.t 42)
 .skip
 (.exit 0)))
 (.blk 1
 (.seq
 (.reg [
 iL 43 1,
 iP 44 (.nck (.t 43)),
 iF 45 0 44,
 iC 46 91 [.t 45],
 iP 47 (.bld [st ⟨#[]⟩,i64 0,i64 0,st ⟨#[]⟩,.val (.slice none 0 0),i64 0,i64 0] [(6,1,(.t 46))]),
 iE 4 (.alc 91 [st ⟨#[]⟩,i64 0,i64 0,st ⟨#[]⟩,.val (.slice none 0 0),i64 0,i64 0]),
 ⟨none,none,.e (.st 7 (.t 4) (.t 47))⟩])
 (.seq
 (.drw [0,1,2,3,4,5,6,7,8,9] [
 iL 48 1,
 iP 49 (.nck (.t 48)),
 iF 50 0 49,
 iF 51 3 3,
 iL 52 51,
 iP 53 (.len (.t 52)),
 iP 54 (.bin .eql (.i .i64) (.t 53) (.c (i64 32))),
 iC 55 88 [.t 50,.t 54],
 iF 56 0 4,
 ⟨none,none,.e (.stw [52,48] 1 (.t 56) (.t 55))⟩])
 (.seq
 (.reg [
 iL 57 1,
 iP 58 (.nck (.t 57)),
 iF 59 0 58,
 iE 60 (.bsl 9 1 1 [st ⟨#[]⟩] [(0,(.c (st ⟨#[61]⟩)))]),
 iC 61 87 [.t 59,.t 60]])
 (.seq
 (.reg [
 iL 62 1,
 iC 63 32 [.t 62],
 iF 64 1 4,
 ⟨none,none,.e (.st 5 (.t 64) (.t 63))⟩])
 (.seq
 (.reg [
 iL 65 1,
 iP 66 (.nck (.t 65)),
 iF 67 0 66,
 iE 68 (.bsl 9 1 1 [st ⟨#[]⟩] [(0,(.c (st ⟨#[59]⟩)))]),
 iC 69 87 [.t 67,.t 68]])
 (.reg [
 iF 70 3 3,
 iL 71 70,
 iP 72 (.ldn 7 (.t 4)),
 iE 73 (.bsl 91 7 1 [st ⟨#[]⟩,i64 0,i64 0,st ⟨#[]⟩,.val (.slice none 0 0),i64 0,i64 0] [(0,(.t 72))]),
 iE 74 (.app 91 7 88 (.t 71) (.t 73)),
 iF 75 3 3,
 ⟨none,none,.e (.st 1 (.t 75) (.t 74))⟩]))))))))
def l182_1:IC:=.keep [2,3,79,80,81]
 (.seq
 (.reg [
 iP 82 (.bin .lss (.i .i64) (.t 81) (.t 80))])
 (.seq
 (.cond (.t 82)
 .skip
 (.exit 2))
 (.seq
 (.blk 3
 (.seq
 (.reg [
 iP 83 (.ia 1 (.t 79) (.t 81)),
 iL 84 83,
 iM 7 84])
 (.reg [
 iM 85 7,
 iF 86 4 3,
 ⟨none,none,.e (.st 1 (.t 86) (.t 85))⟩])))
 (.reg [
 iP 87 (.bin .add (.i .i64) (.t 81) (.c (i64 1))),
 iM 81 87]))))
def i182:IC :=
 (.seq
 (.reg [
 iE 1 (.box 62 (.t 0)),
 iE 2 (.alc 89 [st ⟨#[]⟩,.val (.slice none 0 0),bl false,.val (.slice none 0 0),st ⟨#[]⟩,i64 0])])
 (.seq
 (.reg [
 iL 8 1,
 iP 9 (.nck (.t 8)),
 iF 10 0 9,
 iC 11 91 [.t 10],
 iP 12 (.bld [st ⟨#[]⟩,.val (.slice none 0 0),bl false,.val (.slice none 0 0),st ⟨#[]⟩,i64 0] [(5,1,(.t 11))]),
 iE 3 (.alc 89 [st ⟨#[]⟩,.val (.slice none 0 0),bl false,.val (.slice none 0 0),st ⟨#[]⟩,i64 0]),
 ⟨none,none,.e (.st 6 (.t 3) (.t 12))⟩])
 (.seq
 (.reg [
 iL 13 1,
 iP 14 (.nck (.t 13)),
 iF 15 0 14,
 iE 16 (.bsl 9 1 1 [st ⟨#[]⟩] [(0,(.c (st ⟨#[97,99,116,105,111,110]⟩)))]),
 iC 17 87 [.t 15,.t 16]])
 (.seq
 (.reg [
 iL 18 1,
 iP 19 (.nck (.t 18)),
 iF 20 0 19,
 iC 21 88 [.t 20,(.c (bl false))],
 iF 22 0 3,
 ⟨none,none,.e (.st 1 (.t 22) (.t 21))⟩])
 (.seq
 (.reg [
 iL 23 1,
 iL 24 1,
 iP 25 (.mkf (.func 32) [(.t 24)] []),
 iC 26 181 [.t 23,(.c (st ⟨#[119,104,101,110]⟩)),.t 25],
 iF 27 1 3,
 ⟨none,none,.e (.st 1 (.t 27) (.t 26))⟩])
 (.seq
 (.reg [
 iL 28 1,
 iP 29 (.nck (.t 28)),
 iF 30 0 29,
 iC 31 90 [.t 30,(.c (st ⟨#[104,105,100,100,101,110]⟩))],
 iF 32 2 3,
 ⟨none,none,.e (.st 1 (.t 32) (.t 31))⟩])
 (.seq
 (.reg [
 iL 33 1,
 iP 34 (.nck (.t 33)),
 iF 35 0 34,
 iE 36 (.bsl 9 1 1 [st ⟨#[]⟩] [(0,(.c (st ⟨#[123]⟩)))]),
 iC 37 87 [.t 35,.t 36]])
 (.seq
 (.blk 0
 (.loop l182_0))
 (.seq
 (.reg [
 iP 76 (.mkf (.func 201) [] [(.t 1)]),
 iM 5 76])
 (.seq
 (.seq
 (.reg [
 iL 77 1,
 iM 78 5,
 iC 79 202 [.t 77,(.c (st ⟨#[103,111,116,111]⟩)),.t 78],
 iP 80 (.len (.t 79)),
 iP 81 (.mov (.c (i64 0)))])
 (.blk 2
 (.loop l182_1)))
 (.seq
 (.reg [
 iP 88 (.ldn 6 (.t 3)),
 ⟨none,none,.e (.st 6 (.t 2) (.t 88))⟩])
 .ret)))))))))))
def r182:List RS:=[.cn 2 6]
theorem c182:chkF Tryz.prog drawB Tryz.f182 i182 r182=true:=by kernel_rfl
def i183:IC :=
 (.seq
 (.reg [
 iP 2 (.mov (.c (bl false)))])
 (.seq
 (.reg [
 iM 3 0,
 iP 4 (.nck (.t 3)),
 iF 5 0 4,
 iC 6 92 [.t 5],
 iM 7 6,
 iG 8 7 false (.mov (.t 0)),
 iG 9 7 false (.nck (.t 8)),
 iG 10 7 false (.fa 0 (.t 9)),
 ⟨(some 11),(some (7,false)),.q (.c (.fn (.func 139) [] [])) [(.t 10)]⟩,
 iG 12 7 false (.fld1 0 (.t 11)),
 iG 13 7 false (.bin .eql (.i .i64) (.t 12) (.c (i64 2))),
 iP 14 (.pick (.t 7) (.c (bl true)) (.t 13)),
 iM 15 14,
 iG 16 15 false (.mov (.t 0)),
 iG 17 15 false (.nck (.t 16)),
 iG 18 15 false (.fa 0 (.t 17)),
 ⟨(some 19),(some (15,false)),.e (.bsl 9 1 6 [st ⟨#[]⟩] [(0,(.c (st ⟨#[110,111,116]⟩))),(1,(.c (st ⟨#[45]⟩))),(2,(.c (st ⟨#[40]⟩))),(3,(.c (st ⟨#[109,105,110]⟩))),(4,(.c (st ⟨#[109,97,120]⟩))),(5,(.c (st ⟨#[105,102]⟩)))])⟩,
 ⟨(some 20),(some (15,false)),.q (.c (.fn (.func 93) [] [])) [(.t 18),(.t 19)]⟩,
 iP 21 (.pick (.t 15) (.c (bl true)) (.t 20)),
 iM 2 21])
 .ret))
def r183:List RS:=[.t 2]
theorem c183:chkF Tryz.prog drawB Tryz.f183 i183 r183=true:=by kernel_rfl
def l200_0:IC:=.keep [0,2,3]
 (.seq
 (.seq
 (.reg [
 iM 8 0,
 iC 9 43 [.t 8,(.c (st ⟨#[43]⟩))],
 iM 10 9,
 iG 11 10 false (.mov (.t 0)),
 ⟨(some 12),(some (10,false)),.q (.c (.fn (.func 43) [] [])) [(.t 11),(.c (st ⟨#[45]⟩))]⟩,
 iP 13 (.pick (.t 10) (.c (bl true)) (.t 12))])
 (.cond (.t 13)
 .skip
 (.exit 0)))
 (.blk 1
 (.seq
 (.reg [
 iP 4 (.mov (.c (i64 8)))])
 (.seq
 (.seq
 (.reg [
 iM 14 0,
 iC 15 43 [.t 14,(.c (st ⟨#[45]⟩))]])
 (.cond (.t 15)
 (.reg [
 iP 4 (.mov (.c (i64 9)))])
 .skip))
 (.seq
 (.reg [
 iM 16 0,
 iC 17 45 [.t 16],
 iM 5 17])
 (.seq
 (.reg [
 iM 18 0,
 iP 19 (.nck (.t 18)),
 iF 20 2 19,
 iL 21 20,
 iP 22 (.bin .add (.i .i64) (.t 21) (.c (i64 1))),
 iP 23 (.nck (.t 18)),
 iF 24 2 23,
 ⟨none,none,.e (.st 1 (.t 24) (.t 22))⟩])
 (.drw [0,1,2,3,4,5,6] [
 iM 25 4,
 iM 26 5,
 iP 27 (.ldn 5 (.t 3)),
 iM 28 0,
 iC 29 215 [.t 28],
 ⟨(some 30),none,.q (.c (.fn (.func 85) [] [])) [(.t 25),(.t 26),(.t 27),(.t 29)]⟩,
 ⟨none,none,.e (.st 5 (.t 3) (.t 30))⟩])))))))
def i200:IC :=
 (.seq
 (.reg [
 iE 2 (.alc 25 [i64 0,i64 0,st ⟨#[]⟩,.val (.slice none 0 0),i64 0])])
 (.seq
 (.reg [
 iM 6 0,
 iC 7 215 [.t 6],
 iE 3 (.alc 25 [i64 0,i64 0,st ⟨#[]⟩,.val (.slice none 0 0),i64 0]),
 ⟨none,none,.e (.st 5 (.t 3) (.t 7))⟩])
 (.seq
 (.blk 0
 (.loop l200_0))
 (.seq
 (.reg [
 iP 31 (.ldn 5 (.t 3)),
 ⟨none,none,.e (.st 5 (.t 2) (.t 31))⟩])
 .ret))))
def r200:List RS:=[.cn 2 5]
theorem c200:chkF Tryz.prog drawB Tryz.f200 i200 r200=true:=by kernel_rfl
def i201:IC :=
 (.seq
 (.reg [
 iP 1 (.mov (.c (st ⟨#[]⟩)))])
 (.seq
 (.reg [
 iL 3 0,
 iP 4 (.nck (.t 3)),
 iF 5 0 4,
 iC 6 88 [.t 5,(.c (bl false))],
 iM 2 6])
 (.seq
 (.reg [
 iL 7 0,
 iP 8 (.nck (.t 7)),
 iF 9 0 8,
 iE 10 (.bsl 9 1 1 [st ⟨#[]⟩] [(0,(.c (st ⟨#[59]⟩)))]),
 iC 11 87 [.t 9,.t 10]])
 (.seq
 (.reg [
 iM 12 2,
 iM 1 12])
 .ret))))
def r201:List RS:=[.t 1]
theorem c201:chkF Tryz.prog drawB Tryz.f201 i201 r201=true:=by kernel_rfl
def i202:IC :=
 (.seq
 (.reg [
 iP 6 (.mov (.c (.val (.slice none 0 0))))])
 (.seq
 (.seq
 (.reg [
 iM 7 0,
 iP 8 (.nck (.t 7)),
 iF 9 0 8,
 iM 10 1,
 iC 11 90 [.t 9,.t 10],
 iP 12 (.not (.t 11))])
 (.cond (.t 12)
 (.seq
 (.reg [
 iP 6 (.mov (.c (.val (.slice none 0 0))))])
 .ret)
 .skip))
 (.seq
 (.reg [
 iM 13 2,
 iE 14 (.call (.t 13) []),
 iE 15 (.bsl 9 1 1 [st ⟨#[]⟩] [(0,(.t 14))]),
 iM 6 15])
 .ret)))
def r202:List RS:=[.t 6]
theorem c202:chkF Tryz.prog drawB Tryz.f202 i202 r202=true:=by kernel_rfl
def l215_0:IC:=.keep [0,2,3]
 (.seq
 (.seq
 (.reg [
 iM 8 0,
 iC 9 43 [.t 8,(.c (st ⟨#[42]⟩))],
 iM 10 9,
 iG 11 10 false (.mov (.t 0)),
 ⟨(some 12),(some (10,false)),.q (.c (.fn (.func 43) [] [])) [(.t 11),(.c (st ⟨#[47]⟩))]⟩,
 iP 13 (.pick (.t 10) (.c (bl true)) (.t 12)),
 iM 14 13,
 iG 15 14 false (.mov (.t 0)),
 ⟨(some 16),(some (14,false)),.q (.c (.fn (.func 43) [] [])) [(.t 15),(.c (st ⟨#[37]⟩))]⟩,
 iP 17 (.pick (.t 14) (.c (bl true)) (.t 16))])
 (.cond (.t 17)
 .skip
 (.exit 0)))
 (.blk 1
 (.seq
 (.reg [
 iP 4 (.mov (.c (i64 5)))])
 (.seq
 (.seq
 (.reg [
 iM 18 0,
 iC 19 43 [.t 18,(.c (st ⟨#[47]⟩))]])
 (.cond (.t 19)
 (.reg [
 iP 4 (.mov (.c (i64 6)))])
 .skip))
 (.seq
 (.seq
 (.reg [
 iM 20 0,
 iC 21 43 [.t 20,(.c (st ⟨#[37]⟩))]])
 (.cond (.t 21)
 (.reg [
 iP 4 (.mov (.c (i64 7)))])
 .skip))
 (.seq
 (.reg [
 iM 22 0,
 iC 23 45 [.t 22],
 iM 5 23])
 (.seq
 (.reg [
 iM 24 0,
 iP 25 (.nck (.t 24)),
 iF 26 2 25,
 iL 27 26,
 iP 28 (.bin .add (.i .i64) (.t 27) (.c (i64 1))),
 iP 29 (.nck (.t 24)),
 iF 30 2 29,
 ⟨none,none,.e (.st 1 (.t 30) (.t 28))⟩])
 (.drw [0,1,2,3,4,5,6] [
 iM 31 4,
 iM 32 5,
 iP 33 (.ldn 5 (.t 3)),
 iM 34 0,
 iC 35 223 [.t 34],
 ⟨(some 36),none,.q (.c (.fn (.func 85) [] [])) [(.t 31),(.t 32),(.t 33),(.t 35)]⟩,
 ⟨none,none,.e (.st 5 (.t 3) (.t 36))⟩]))))))))
def i215:IC :=
 (.seq
 (.reg [
 iE 2 (.alc 25 [i64 0,i64 0,st ⟨#[]⟩,.val (.slice none 0 0),i64 0])])
 (.seq
 (.reg [
 iM 6 0,
 iC 7 223 [.t 6],
 iE 3 (.alc 25 [i64 0,i64 0,st ⟨#[]⟩,.val (.slice none 0 0),i64 0]),
 ⟨none,none,.e (.st 5 (.t 3) (.t 7))⟩])
 (.seq
 (.blk 0
 (.loop l215_0))
 (.seq
 (.reg [
 iP 37 (.ldn 5 (.t 3)),
 ⟨none,none,.e (.st 5 (.t 2) (.t 37))⟩])
 .ret))))
def r215:List RS:=[.cn 2 5]
theorem c215:chkF Tryz.prog drawB Tryz.f215 i215 r215=true:=by kernel_rfl
def l223_1:IC:=.keep [0,2,8,9,10]
 (.seq
 (.seq
 (.reg [
 iM 97 10,
 iM 98 8,
 iP 99 (.bin .quo (.i .i64) (.t 98) (.c (i64 2))),
 iP 100 (.bin .leq (.i .i64) (.t 97) (.t 99))])
 (.cond (.t 100)
 .skip
 (.exit 2)))
 (.seq
 (.blk 3
 (.seq
 (.reg [
 iM 103 0,
 iC 104 40 [.t 103,(.c (st ⟨#[44]⟩))]])
 (.seq
 (.seq
 (.reg [
 iM 105 0,
 iC 106 36 [.t 105]])
 (.cond (.t 106)
 (.seq
 (.reg [
 iP 107 (.bld [i64 0,i64 0,st ⟨#[]⟩,.val (.slice none 0 0),i64 0] []),
 ⟨none,none,.e (.st 5 (.t 2) (.t 107))⟩])
 .ret)
 .skip))
 (.drw [0,1,2,3,4,5,6,7] [
 iF 108 3 9,
 iL 109 108,
 iM 110 0,
 iC 111 34 [.t 110],
 iE 112 (.bsl 25 5 1 [i64 0,i64 0,st ⟨#[]⟩,.val (.slice none 0 0),i64 0] [(0,(.t 111))]),
 iE 113 (.app 25 5 64 (.t 109) (.t 112)),
 iF 114 3 9,
 ⟨none,none,.e (.stw [109] 1 (.t 114) (.t 113))⟩]))))
 (.reg [
 iM 101 10,
 iP 102 (.bin .add (.i .i64) (.t 101) (.c (i64 1))),
 iM 10 102])))
def l223_0:IC:=.keep [0,2,3,6,7,8]
 (.seq
 (.seq
 (.reg [
 iM 63 8,
 iP 64 (.bin .lss (.i .i64) (.t 63) (.c (i64 3)))])
 (.cond (.t 64)
 .skip
 (.exit 0)))
 (.seq
 (.blk 1
 (.seq
 (.reg [
 iM 67 0,
 iM 68 7,
 iM 69 8,
 iP 70 (.ia 1 (.t 68) (.t 69)),
 iL 71 70,
 iC 72 43 [.t 67,.t 71]])
 (.cond (.t 72)
 (.seq
 (.reg [
 iM 73 0,
 iM 74 7,
 iM 75 8,
 iP 76 (.ia 1 (.t 74) (.t 75)),
 iL 77 76,
 iC 78 40 [.t 73,.t 77]])
 (.seq
 (.reg [
 iM 79 0,
 iC 80 180 [.t 79,(.c (st ⟨#[40]⟩))]])
 (.seq
 (.seq
 (.reg [
 iM 81 0,
 iC 82 36 [.t 81]])
 (.cond (.t 82)
 (.seq
 (.reg [
 iP 83 (.bld [i64 0,i64 0,st ⟨#[]⟩,.val (.slice none 0 0),i64 0] []),
 ⟨none,none,.e (.st 5 (.t 2) (.t 83))⟩])
 .ret)
 .skip))
 (.seq
 (.reg [
 iM 84 6,
 iM 85 8,
 iP 86 (.ia 1 (.t 84) (.t 85)),
 iL 87 86,
 iM 88 3,
 iP 89 (.bld [i64 0,i64 0,st ⟨#[]⟩,.val (.slice none 0 0),i64 0] [(0,1,(.t 87)),(4,1,(.t 88))]),
 iE 9 (.alc 25 [i64 0,i64 0,st ⟨#[]⟩,.val (.slice none 0 0),i64 0]),
 ⟨none,none,.e (.st 5 (.t 9) (.t 89))⟩])
 (.seq
 (.drw [0,1,2,3,4,5,6,7] [
 iF 90 3 9,
 iL 91 90,
 iM 92 0,
 iC 93 34 [.t 92],
 iE 94 (.bsl 25 5 1 [i64 0,i64 0,st ⟨#[]⟩,.val (.slice none 0 0),i64 0] [(0,(.t 93))]),
 iE 95 (.app 25 5 64 (.t 91) (.t 94)),
 iF 96 3 9,
 ⟨none,none,.e (.stw [91] 1 (.t 96) (.t 95))⟩])
 (.seq
 (.seq
 (.reg [
 iP 10 (.mov (.c (i64 0)))])
 (.blk 2
 (.loop l223_1)))
 (.seq
 (.reg [
 iM 115 0,
 iC 116 40 [.t 115,(.c (st ⟨#[41]⟩))]])
 (.seq
 (.reg [
 iM 117 0,
 iP 118 (.nck (.t 117)),
 iF 119 3 118,
 iL 120 119,
 iP 121 (.bin .sub (.i .i64) (.t 120) (.c (i64 1))),
 iP 122 (.nck (.t 117)),
 iF 123 3 122,
 ⟨none,none,.e (.st 1 (.t 123) (.t 121))⟩])
 (.seq
 (.reg [
 iP 124 (.ldn 5 (.t 9)),
 ⟨none,none,.e (.st 5 (.t 2) (.t 124))⟩])
 .ret)))))))))
 .skip)))
 (.reg [
 iM 65 8,
 iP 66 (.bin .add (.i .i64) (.t 65) (.c (i64 1))),
 iM 8 66])))
def i223:IC :=
 (.seq
 (.reg [
 iE 2 (.alc 25 [i64 0,i64 0,st ⟨#[]⟩,.val (.slice none 0 0),i64 0])])
 (.seq
 (.seq
 (.reg [
 iM 11 0,
 iC 12 36 [.t 11]])
 (.cond (.t 12)
 (.seq
 (.reg [
 iP 13 (.bld [i64 0,i64 0,st ⟨#[]⟩,.val (.slice none 0 0),i64 0] []),
 ⟨none,none,.e (.st 5 (.t 2) (.t 13))⟩])
 .ret)
 .skip))
 (.seq
 (.reg [
 iM 14 0,
 iC 15 45 [.t 14],
 iM 3 15])
 (.seq
 (.seq
 (.reg [
 iM 16 0,
 iC 17 44 [.t 16]])
 (.cond (.t 17)
 (.seq
 (.reg [
 iM 18 0,
 iC 19 41 [.t 18],
 iM 20 3,
 iP 21 (.bld [i64 0,i64 0,st ⟨#[]⟩,.val (.slice none 0 0),i64 0] [(0,1,(.c (i64 2))),(2,1,(.t 19)),(4,1,(.t 20))]),
 ⟨none,none,.e (.st 5 (.t 2) (.t 21))⟩])
 .ret)
 .skip))
 (.seq
 (.seq
 (.reg [
 iM 22 0,
 iC 23 43 [.t 22,(.c (st ⟨#[45]⟩))]])
 (.cond (.t 23)
 (.seq
 (.reg [
 iM 24 0,
 iC 25 180 [.t 24,(.c (st ⟨#[45]⟩))]])
 (.seq
 (.seq
 (.reg [
 iM 26 0,
 iC 27 36 [.t 26]])
 (.cond (.t 27)
 (.seq
 (.reg [
 iP 28 (.bld [i64 0,i64 0,st ⟨#[]⟩,.val (.slice none 0 0),i64 0] []),
 ⟨none,none,.e (.st 5 (.t 2) (.t 28))⟩])
 .ret)
 .skip))
 (.seq
 (.reg [
 iM 29 0,
 iC 30 223 [.t 29],
 iE 4 (.alc 25 [i64 0,i64 0,st ⟨#[]⟩,.val (.slice none 0 0),i64 0]),
 ⟨none,none,.e (.st 5 (.t 4) (.t 30))⟩])
 (.seq
 (.reg [
 iM 31 0,
 iP 32 (.nck (.t 31)),
 iF 33 3 32,
 iL 34 33,
 iP 35 (.bin .sub (.i .i64) (.t 34) (.c (i64 1))),
 iP 36 (.nck (.t 31)),
 iF 37 3 36,
 ⟨none,none,.e (.st 1 (.t 37) (.t 35))⟩])
 (.seq
 (.reg [
 iP 38 (.ldn 5 (.t 4)),
 iE 39 (.bsl 25 5 1 [i64 0,i64 0,st ⟨#[]⟩,.val (.slice none 0 0),i64 0] [(0,(.t 38))]),
 iM 40 3,
 iP 41 (.bld [i64 0,i64 0,st ⟨#[]⟩,.val (.slice none 0 0),i64 0] [(0,1,(.c (i64 3))),(3,1,(.t 39)),(4,1,(.t 40))]),
 ⟨none,none,.e (.st 5 (.t 2) (.t 41))⟩])
 .ret)))))
 .skip))
 (.seq
 (.seq
 (.reg [
 iM 42 0,
 iC 43 43 [.t 42,(.c (st ⟨#[40]⟩))]])
 (.cond (.t 43)
 (.seq
 (.reg [
 iM 44 0,
 iC 45 180 [.t 44,(.c (st ⟨#[40]⟩))]])
 (.seq
 (.seq
 (.reg [
 iM 46 0,
 iC 47 36 [.t 46]])
 (.cond (.t 47)
 (.seq
 (.reg [
 iP 48 (.bld [i64 0,i64 0,st ⟨#[]⟩,.val (.slice none 0 0),i64 0] []),
 ⟨none,none,.e (.st 5 (.t 2) (.t 48))⟩])
 .ret)
 .skip))
 (.seq
 (.reg [
 iM 49 0,
 iC 50 34 [.t 49],
 iE 5 (.alc 25 [i64 0,i64 0,st ⟨#[]⟩,.val (.slice none 0 0),i64 0]),
 ⟨none,none,.e (.st 5 (.t 5) (.t 50))⟩])
 (.seq
 (.reg [
 iM 51 0,
 iC 52 40 [.t 51,(.c (st ⟨#[41]⟩))]])
 (.seq
 (.reg [
 iM 53 0,
 iP 54 (.nck (.t 53)),
 iF 55 3 54,
 iL 56 55,
 iP 57 (.bin .sub (.i .i64) (.t 56) (.c (i64 1))),
 iP 58 (.nck (.t 53)),
 iF 59 3 58,
 ⟨none,none,.e (.st 1 (.t 59) (.t 57))⟩])
 (.seq
 (.reg [
 iP 60 (.ldn 5 (.t 5)),
 ⟨none,none,.e (.st 5 (.t 2) (.t 60))⟩])
 .ret))))))
 .skip))
 (.seq
 (.reg [
 iE 61 (.bsl 3 1 3 [i64 0] [(0,(.c (i64 18))),(1,(.c (i64 19))),(2,(.c (i64 20)))]),
 iM 6 61])
 (.seq
 (.reg [
 iE 62 (.bsl 9 1 3 [st ⟨#[]⟩] [(0,(.c (st ⟨#[109,105,110]⟩))),(1,(.c (st ⟨#[109,97,120]⟩))),(2,(.c (st ⟨#[105,102]⟩)))]),
 iM 7 62])
 (.seq
 (.seq
 (.reg [
 iP 8 (.mov (.c (i64 0)))])
 (.blk 0
 (.loop l223_0)))
 (.seq
 (.reg [
 iM 125 0,
 iC 126 42 [.t 125],
 iM 127 3,
 iP 128 (.bld [i64 0,i64 0,st ⟨#[]⟩,.val (.slice none 0 0),i64 0] [(0,1,(.c (i64 1))),(1,1,(.t 126)),(4,1,(.t 127))]),
 ⟨none,none,.e (.st 5 (.t 2) (.t 128))⟩])
 .ret))))))))))
def r223:List RS:=[.cn 2 5]
theorem c223:chkF Tryz.prog drawB Tryz.f223 i223 r223=true:=by kernel_rfl
end Go.Proofs.YtmkdpmfhlfhjkaaGreatDoor
