/-
  Steps of the proof: contracts of functions and plain facts that the statement rests on.
-/
import Derived.Test.YtcejichidnlicaaGreatDoorN0
set_option linter.all false
namespace Go.Proofs.YtcejichidnlicaaGreatDoor
open Go.Ab
abbrev iP (n:Nat) (i:I):Ins:=⟨some n,none,.p i⟩
abbrev iM (n m:Nat):Ins:=⟨some n,none,.p (.mov (.t m))⟩
abbrev iF (n k m:Nat):Ins:=⟨some n,none,.p (.fa k (.t m))⟩
abbrev iL (n m:Nat):Ins:=⟨some n,none,.p (.ld1 (.t m))⟩
abbrev iC (n f:Nat) (l:List Od):Ins:=⟨some n,none,.e (.call (.c (.fn (.func f) [] [])) l)⟩
abbrev iE (n:Nat) (e:E):Ins:=⟨some n,none,.e e⟩
abbrev iG (n g:Nat) (b:Bool) (i:I):Ins:=⟨some n,some (g,b),.p i⟩
def i4:IC :=
 (.seq
 (.reg [
 iP 0 (.mov (.c (bl false)))])
 (.seq
 (.reg [
 iC 12 15 [(.c (st ⟨#[120,32,47,32,50]⟩)),(.c (i64 1)),(.c (i64 2)),(.c (i64 0))],
 iM 13 12,
 ⟨(some 14),(some (13,true)),.q (.c (.fn (.func 15) [] [])) [(.c (st ⟨#[120,32,37,32,51]⟩)),(.c (i64 1)),(.c (i64 2)),(.c (i64 0))]⟩,
 iP 15 (.pick (.t 13) (.t 14) (.c (bl false))),
 iM 16 15,
 ⟨(some 17),(some (16,true)),.q (.c (.fn (.func 15) [] [])) [(.c (st ⟨#[121,32,37,32,52]⟩)),(.c (i64 1)),(.c (i64 2)),(.c (i64 0))]⟩,
 iP 18 (.pick (.t 16) (.t 17) (.c (bl false))),
 iM 19 18,
 ⟨(some 20),(some (19,true)),.q (.c (.fn (.func 15) [] [])) [(.c (st ⟨#[120,32,37,32,121]⟩)),(.c (i64 1)),(.c (i64 (-1))),(.c (i64 0))]⟩,
 iP 21 (.pick (.t 19) (.t 20) (.c (bl false))),
 iM 22 21,
 ⟨(some 23),(some (22,true)),.q (.c (.fn (.func 15) [] [])) [(.c (st ⟨#[120,32,61,61,32,53,32,111,114,32,49,32,47,32,48,32,61,61,32,49]⟩)),(.c (i64 2)),(.c (i64 1)),(.c (i64 0))]⟩,
 iP 24 (.pick (.t 22) (.t 23) (.c (bl false))),
 iM 25 24,
 ⟨(some 26),(some (25,true)),.q (.c (.fn (.func 15) [] [])) [(.c (st ⟨#[49,32,47,32,48,32,61,61,32,49,32,111,114,32,120,32,61,61,32,53]⟩)),(.c (i64 0)),(.c (i64 0)),(.c (i64 6))]⟩,
 iP 27 (.pick (.t 25) (.t 26) (.c (bl false))),
 iM 1 27])
 (.seq
 (.reg [
 iC 28 15 [(.c (st ⟨#[105,102,40,120,32,60,32,121,44,32,49,32,47,32,48,44,32,55,41]⟩)),(.c (i64 1)),(.c (i64 7)),(.c (i64 0))],
 iM 29 28,
 ⟨(some 30),(some (29,true)),.q (.c (.fn (.func 15) [] [])) [(.c (st ⟨#[122]⟩)),(.c (i64 0)),(.c (i64 0)),(.c (i64 7))]⟩,
 iP 31 (.pick (.t 29) (.t 30) (.c (bl false))),
 iM 32 31,
 ⟨(some 33),(some (32,true)),.q (.c (.fn (.func 15) [] [])) [(.c (st ⟨#[110,111,116,32,120]⟩)),(.c (i64 0)),(.c (i64 0)),(.c (i64 10))]⟩,
 iP 34 (.pick (.t 32) (.t 33) (.c (bl false))),
 iM 35 34,
 ⟨(some 36),(some (35,true)),.q (.c (.fn (.func 15) [] [])) [(.c (st ⟨#[49,48,48,48,48,48,48,48,48,48,32,42,32,49,48,48,48]⟩)),(.c (i64 1)),(.c (i64 1000000000000)),(.c (i64 0))]⟩,
 iP 37 (.pick (.t 35) (.t 36) (.c (bl false))),
 iM 38 37,
 ⟨(some 39),(some (38,true)),.q (.c (.fn (.func 15) [] [])) [(.c (st ⟨#[49,48,48,48,48,48,48,48,48,48,32,42,32,49,48,48,49]⟩)),(.c (i64 0)),(.c (i64 0)),(.c (i64 5))]⟩,
 iP 40 (.pick (.t 38) (.t 39) (.c (bl false))),
 iM 2 40])
 (.seq
 (.reg [
 iC 42 16 [(.c (st ⟨#[120]⟩))],
 iE 43 (.bsl 9 1 2 [st ⟨#[]⟩] [(0,(.c (st ⟨#[120]⟩))),(1,(.c (st ⟨#[121]⟩)))]),
 iE 44 (.bsl 3 1 1 [i64 0] [(0,(.c (i64 1)))]),
 iC 45 9 [.t 42,.t 43,.t 44],
 iM 41 45,
 iP 46 (.ext (.t 41) 0),
 iP 47 (.ext (.t 41) 1),
 iE 3 (.alc 30 [i64 0,i64 0]),
 ⟨none,none,.e (.st 2 (.t 3) (.t 46))⟩,
 iM 4 47])
 (.seq
 (.reg [
 iC 49 16 [(.c (st ⟨#[120,32,60,32,121]⟩))],
 iE 50 (.bsl 9 1 2 [st ⟨#[]⟩] [(0,(.c (st ⟨#[120]⟩))),(1,(.c (st ⟨#[121]⟩)))]),
 iE 51 (.bsl 3 1 2 [i64 0] [(0,(.c (i64 1))),(1,(.c (i64 2)))]),
 iC 52 11 [.t 49,.t 50,.t 51],
 iM 48 52,
 iP 53 (.ext (.t 48) 0),
 iP 54 (.ext (.t 48) 1),
 iM 5 53,
 iM 6 54])
 (.seq
 (.reg [
 iC 56 16 [(.c (st ⟨#[120]⟩))],
 iE 57 (.bsl 9 1 1 [st ⟨#[]⟩] [(0,(.c (st ⟨#[120]⟩)))]),
 iE 58 (.bsl 3 1 1 [i64 0] [(0,(.c (i64 1)))]),
 iC 59 13 [.t 56,.t 57,.t 58],
 iM 55 59,
 iP 60 (.ext (.t 55) 0),
 iP 61 (.ext (.t 55) 1),
 iM 7 60,
 iM 8 61])
 (.seq
 (.reg [
 iC 63 16 [(.c (st ⟨#[120,32,43,32,121]⟩))],
 iC 64 18 [.t 63,(.c (st ⟨#[121]⟩)),(.c (i64 (-2)))],
 iC 65 17 [.t 64],
 iM 62 65,
 iP 66 (.ext (.t 62) 0),
 iP 67 (.ext (.t 62) 1),
 iM 9 66,
 iM 10 67])
 (.seq
 (.reg [
 iM 68 4,
 iP 69 (.bin .eql (.i .i64) (.t 68) (.c (i64 3))),
 iM 70 69,
 iG 71 70 true (.mov (.t 6)),
 iG 72 70 true (.bin .eql (.i .i64) (.t 71) (.c (i64 10))),
 iP 73 (.pick (.t 70) (.t 72) (.c (bl false))),
 iM 74 73,
 iG 75 74 true (.mov (.t 8)),
 iG 76 74 true (.bin .eql (.i .i64) (.t 75) (.c (i64 10))),
 iP 77 (.pick (.t 74) (.t 76) (.c (bl false))),
 iM 78 77,
 ⟨(some 79),(some (78,true)),.q (.c (.fn (.func 16) [] [])) [(.c (st ⟨#[120,32,43,32,121,32,42,32,120]⟩))]⟩,
 ⟨(some 80),(some (78,true)),.q (.c (.fn (.func 20) [] [])) [(.t 79)]⟩,
 ⟨(some 81),(some (78,true)),.e (.bsl 9 1 2 [st ⟨#[]⟩] [(0,(.c (st ⟨#[120]⟩))),(1,(.c (st ⟨#[121]⟩)))])⟩,
 ⟨(some 82),(some (78,true)),.q (.c (.fn (.func 19) [] [])) [(.t 80),(.t 81)]⟩,
 iP 83 (.pick (.t 78) (.t 82) (.c (bl false))),
 iM 84 83,
 iG 85 84 true (.mov (.t 9)),
 iG 86 84 true (.bin .eql .s (.t 85) (.c (st ⟨#[120,32,43,32,40,45,32,50,41]⟩))),
 iP 87 (.pick (.t 84) (.t 86) (.c (bl false))),
 iM 88 87,
 iG 89 88 true (.mov (.t 10)),
 iG 90 88 true (.bin .eql (.i .i64) (.t 89) (.c (i64 0))),
 iP 91 (.pick (.t 88) (.t 90) (.c (bl false))),
 iM 11 91])
 (.seq
 (.reg [
 iC 92 8 [],
 iM 93 92,
 iG 94 93 true (.mov (.t 1)),
 iP 95 (.pick (.t 93) (.t 94) (.c (bl false))),
 iM 96 95,
 iG 97 96 true (.mov (.t 2)),
 iP 98 (.pick (.t 96) (.t 97) (.c (bl false))),
 iM 99 98,
 iG 100 99 true (.mov (.t 11)),
 iP 101 (.pick (.t 99) (.t 100) (.c (bl false))),
 iM 102 101,
 ⟨(some 103),(some (102,true)),.q (.c (.fn (.func 21) [] [])) [(.c (st ⟨#[105,102,40,49,32,60,32,50,44,32,120,44,32,49,32,47,32,48,41]⟩)),(.c (st ⟨#[120]⟩))]⟩,
 iP 104 (.pick (.t 102) (.t 103) (.c (bl false))),
 iM 105 104,
 ⟨(some 106),(some (105,true)),.q (.c (.fn (.func 21) [] [])) [(.c (st ⟨#[49,32,45,32,51]⟩)),(.c (st ⟨#[45,32,50]⟩))]⟩,
 iP 107 (.pick (.t 105) (.t 106) (.c (bl false))),
 iM 108 107,
 ⟨(some 109),(some (108,true)),.q (.c (.fn (.func 21) [] [])) [(.c (st ⟨#[49,32,47,32,48]⟩)),(.c (st ⟨#[49,32,47,32,48]⟩))]⟩,
 iP 110 (.pick (.t 108) (.t 109) (.c (bl false))),
 iM 111 110,
 ⟨(some 112),(some (111,true)),.q (.c (.fn (.func 21) [] [])) [(.c (st ⟨#[105,102,40,49,32,60,32,50,44,32,51,44,32,120,41,32,43,32,52]⟩)),(.c (st ⟨#[55]⟩))]⟩,
 iP 113 (.pick (.t 111) (.t 112) (.c (bl false))),
 iM 114 113,
 ⟨(some 115),(some (114,true)),.q (.c (.fn (.func 21) [] [])) [(.c (st ⟨#[105,102,40,105,102,40,49,32,60,32,50,44,32,51,44,32,120,41,32,61,61,32,51,44,32,120,44,32,53,41]⟩)),(.c (st ⟨#[120]⟩))]⟩,
 iP 116 (.pick (.t 114) (.t 115) (.c (bl false))),
 iM 0 116])
 .ret)))))))))
def r4:List RS:=[.t 0]
theorem c4:chkF Tryz.prog drawB Tryz.f4 i4 r4=true:=by kernel_rfl
def l6_0:IC:=.keep [9,13,14,15,16,17,18]
 (.seq
 (.seq
 (.reg [
 iM 64 18,
 iM 65 17,
 iP 66 (.len (.t 65)),
 iP 67 (.bin .lss (.i .i64) (.t 64) (.t 66))])
 (.cond (.t 67)
 .skip
 (.exit 0)))
 (.seq
 (.blk 1
 (.seq
 (.reg [
 iM 70 17,
 iM 71 18,
 iP 72 (.ia 1 (.t 70) (.t 71)),
 iL 73 72,
 iP 74 (.bin .eql .s (.t 73) (.c (st ⟨#[98]⟩)))])
 (.cond (.t 74)
 (.seq
 (.reg [
 iP 8 (.mov (.c (bl false)))])
 .ret)
 .skip)))
 (.reg [
 iM 68 18,
 iP 69 (.bin .add (.i .i64) (.t 68) (.c (i64 1))),
 iM 18 69])))
def i6:IC :=
 (.seq
 (.reg [
 iE 4 (.box 24 (.t 0)),
 iP 8 (.mov (.c (bl false)))])
 (.seq
 (.reg [
 iC 19 4 [],
 iM 9 19])
 (.seq
 (.seq
 (.reg [
 iP 20 (.ldn 5 (.t 4)),
 iC 21 7 [.t 20,(.c (i64 120))],
 iP 22 (.bin .gtr (.i .i64) (.t 21) (.c (i64 120))),
 iM 23 22,
 iG 24 23 false (.ldn 5 (.t 4)),
 ⟨(some 25),(some (23,false)),.q (.c (.fn (.func 23) [] [])) [(.t 24)]⟩,
 iG 26 23 false (.not (.t 25)),
 iP 27 (.pick (.t 23) (.c (bl true)) (.t 26))])
 (.cond (.t 27)
 (.seq
 (.reg [
 iM 28 9,
 iM 8 28])
 .ret)
 .skip))
 (.seq
 (.reg [
 iE 29 (.bsl 9 1 3 [st ⟨#[]⟩] [(0,(.c (st ⟨#[97]⟩))),(1,(.c (st ⟨#[98]⟩))),(2,(.c (st ⟨#[99]⟩)))]),
 iM 10 29])
 (.seq
 (.reg [
 iM 30 1,
 iC 31 24 [.t 30],
 iM 32 2,
 iC 33 24 [.t 32],
 iM 34 3,
 iC 35 24 [.t 34],
 iE 36 (.bsl 3 1 3 [i64 0] [(0,(.t 31)),(1,(.t 33)),(2,(.t 35))]),
 iM 11 36])
 (.seq
 (.drw [0,1,2,3,4,5,6] [
 iP 37 (.ldn 5 (.t 4)),
 iM 38 11,
 iP 39 (.ia 1 (.t 38) (.c (i64 1))),
 iL 40 39,
 ⟨(some 41),none,.q (.c (.fn (.func 18) [] [])) [(.t 37),(.c (st ⟨#[98]⟩)),(.t 40)]⟩,
 iE 12 (.alc 24 [i64 0,i64 0,st ⟨#[]⟩,.val (.slice none 0 0),i64 0]),
 ⟨none,none,.e (.st 5 (.t 12) (.t 41))⟩])
 (.seq
 (.reg [
 iP 43 (.ldn 5 (.t 4)),
 iM 44 10,
 iM 45 11,
 iC 46 9 [.t 43,.t 44,.t 45],
 iM 42 46,
 iP 47 (.ext (.t 42) 0),
 iP 48 (.ext (.t 42) 1),
 iE 13 (.alc 30 [i64 0,i64 0]),
 ⟨none,none,.e (.st 2 (.t 13) (.t 47))⟩,
 iM 14 48])
 (.seq
 (.drw [0,1,2,3,4,5,6,7,8,9,10,11,12,13,14,15] [
 iP 50 (.ldn 5 (.t 12)),
 iP 51 (.kr1 9 2 [st ⟨#[]⟩] [(0,.c (st ⟨#[97]⟩)),(1,.c (st ⟨#[99]⟩))]),
 iM 52 11,
 iP 53 (.ia 1 (.t 52) (.c (i64 0))),
 iL 54 53,
 iM 55 11,
 iP 56 (.ia 1 (.t 55) (.c (i64 2))),
 iL 57 56,
 iP 58 (.kr1 3 2 [i64 0] [(0,.t 54),(1,.t 57)]),
 ⟨(some 59),none,.q (.c (.fn (.func 9) [] [])) [(.t 50),(.t 51),(.t 58)]⟩,
 iM 49 59,
 iP 60 (.ext (.t 49) 0),
 iP 61 (.ext (.t 49) 1),
 iE 15 (.alc 30 [i64 0,i64 0]),
 ⟨none,none,.e (.st 2 (.t 15) (.t 60))⟩,
 iM 16 61])
 (.seq
 (.reg [
 iP 62 (.ldn 5 (.t 12)),
 iC 63 20 [.t 62],
 iM 17 63])
 (.seq
 (.seq
 (.reg [
 iP 18 (.mov (.c (i64 0)))])
 (.blk 0
 (.loop l6_0)))
 (.seq
 (.reg [
 iM 75 9,
 iM 76 75,
 iG 77 76 true (.ldn 2 (.t 13)),
 iG 78 76 true (.ldn 2 (.t 15)),
 iG 79 76 true (.eqf false [.i .i64,.i .i64] (.t 77) (.t 78)),
 iP 80 (.pick (.t 76) (.t 79) (.c (bl false))),
 iM 81 80,
 iG 82 81 true (.mov (.t 14)),
 iG 83 81 true (.mov (.t 16)),
 iG 84 81 true (.bin .eql (.i .i64) (.t 82) (.t 83)),
 iP 85 (.pick (.t 81) (.t 84) (.c (bl false))),
 iM 8 85])
 .ret)))))))))))
def r6:List RS:=[.t 8]
theorem c6:chkF Tryz.prog drawB Tryz.f6 i6 r6=true:=by kernel_rfl
def l7_0:IC:=.keep [1,2,5,6]
 (.seq
 (.seq
 (.reg [
 iM 7 6,
 iF 8 3 2,
 iL 9 8,
 iP 10 (.len (.t 9)),
 iP 11 (.bin .lss (.i .i64) (.t 7) (.t 10)),
 iM 12 11,
 iG 13 12 true (.mov (.t 5)),
 iG 14 12 true (.mov (.t 1)),
 iG 15 12 true (.bin .leq (.i .i64) (.t 13) (.t 14)),
 iP 16 (.pick (.t 12) (.t 15) (.c (bl false)))])
 (.cond (.t 16)
 .skip
 (.exit 0)))
 (.seq
 (.blk 1
 (.reg [
 iM 19 5,
 iF 20 3 2,
 iL 21 20,
 iM 22 6,
 iP 23 (.ia 5 (.t 21) (.t 22)),
 iP 24 (.ldn 5 (.t 23)),
 iM 25 1,
 iM 26 5,
 iP 27 (.bin .sub (.i .i64) (.t 25) (.t 26)),
 iC 28 7 [.t 24,.t 27],
 iP 29 (.bin .add (.i .i64) (.t 19) (.t 28)),
 iM 5 29]))
 (.reg [
 iM 17 6,
 iP 18 (.bin .add (.i .i64) (.t 17) (.c (i64 1))),
 iM 6 18])))
def i7:IC :=
 (.seq
 (.reg [
 iE 2 (.box 24 (.t 0)),
 iP 4 (.mov (.c (i64 0)))])
 (.seq
 (.reg [
 iP 5 (.mov (.c (i64 1)))])
 (.seq
 (.seq
 (.reg [
 iP 6 (.mov (.c (i64 0)))])
 (.blk 0
 (.loop l7_0)))
 (.seq
 (.reg [
 iM 30 5,
 iM 4 30])
 .ret))))
def r7:List RS:=[.t 4]
theorem c7:chkF Tryz.prog drawB Tryz.f7 i7 r7=true:=by kernel_rfl
def i8:IC :=
 (.seq
 (.reg [
 iP 0 (.mov (.c (bl false)))])
 (.seq
 (.reg [
 iC 1 15 [(.c (st ⟨#[121,32,47,32,52]⟩)),(.c (i64 1)),(.c (i64 (-1))),(.c (i64 0))],
 iM 2 1,
 ⟨(some 3),(some (2,true)),.q (.c (.fn (.func 15) [] [])) [(.c (st ⟨#[120,32,60,32,121,32,111,114,32,120,32,61,61,32,53]⟩)),(.c (i64 2)),(.c (i64 1)),(.c (i64 0))]⟩,
 iP 4 (.pick (.t 2) (.t 3) (.c (bl false))),
 iM 5 4,
 ⟨(some 6),(some (5,true)),.q (.c (.fn (.func 21) [] [])) [(.c (st ⟨#[50,32,42,32,51,32,43,32,120]⟩)),(.c (st ⟨#[54,32,43,32,120]⟩))]⟩,
 iP 7 (.pick (.t 5) (.t 6) (.c (bl false))),
 iM 0 7])
 .ret))
def r8:List RS:=[.t 0]
theorem c8:chkF Tryz.prog drawB Tryz.f8 i8 r8=true:=by kernel_rfl
def i9:IC :=
 (.seq
 (.reg [
 iE 3 (.box 24 (.t 0)),
 iE 6 (.alc 30 [i64 0,i64 0]),
 iP 7 (.mov (.c (i64 0)))])
 (.seq
 (.seq
 (.reg [
 iM 9 1,
 iP 10 (.len (.t 9)),
 iM 11 2,
 iP 12 (.len (.t 11)),
 iP 13 (.bin .neq (.i .i64) (.t 10) (.t 12))])
 (.cond (.t 13)
 (.seq
 (.reg [
 iP 14 (.bld [i64 0,i64 0] []),
 ⟨none,none,.e (.st 2 (.t 6) (.t 14))⟩,
 iP 7 (.mov (.c (i64 3)))])
 .ret)
 .skip))
 (.seq
 (.reg [
 iM 15 1,
 iM 16 2,
 iC 17 25 [.t 15,.t 16],
 iE 8 (.alc 52 [.val (.pointer none)]),
 ⟨none,none,.e (.st 1 (.t 8) (.t 17))⟩])
 (.seq
 (.reg [
 iP 18 (.mkf (.func 27) [] [(.t 8),(.t 3)]),
 iC 19 26 [.t 18],
 iP 20 (.ext (.t 19) 0),
 iP 21 (.ext (.t 19) 1),
 ⟨none,none,.e (.st 2 (.t 6) (.t 20))⟩,
 iM 7 21])
 .ret))))
def r9:List RS:=[.cn 6 2,.t 7]
theorem c9:chkF Tryz.prog drawB Tryz.f9 i9 r9=true:=by kernel_rfl
def i11:IC :=
 (.seq
 (.reg [
 iE 3 (.box 24 (.t 0)),
 iP 6 (.mov (.c (i64 0))),
 iP 7 (.mov (.c (i64 0)))])
 (.seq
 (.reg [
 iP 11 (.ldn 5 (.t 3)),
 iM 12 1,
 iM 13 2,
 iC 14 9 [.t 11,.t 12,.t 13],
 iM 10 14,
 iP 15 (.ext (.t 10) 0),
 iP 16 (.ext (.t 10) 1),
 iE 8 (.alc 30 [i64 0,i64 0]),
 ⟨none,none,.e (.st 2 (.t 8) (.t 15))⟩,
 iM 9 16])
 (.seq
 (.reg [
 iP 17 (.ldn 2 (.t 8)),
 iM 18 9,
 iC 19 30 [(.c (i64 1)),.t 17,.t 18],
 iP 20 (.ext (.t 19) 0),
 iP 21 (.ext (.t 19) 1),
 iM 6 20,
 iM 7 21])
 .ret)))
def r11:List RS:=[.t 6,.t 7]
theorem c11:chkF Tryz.prog drawB Tryz.f11 i11 r11=true:=by kernel_rfl
def i13:IC :=
 (.seq
 (.reg [
 iE 3 (.box 24 (.t 0)),
 iP 6 (.mov (.c (bl false))),
 iP 7 (.mov (.c (i64 0)))])
 (.seq
 (.reg [
 iP 12 (.ldn 5 (.t 3)),
 iM 13 1,
 iM 14 2,
 iC 15 9 [.t 12,.t 13,.t 14],
 iM 11 15,
 iP 16 (.ext (.t 11) 0),
 iP 17 (.ext (.t 11) 1),
 iE 8 (.alc 30 [i64 0,i64 0]),
 ⟨none,none,.e (.st 2 (.t 8) (.t 16))⟩,
 iM 9 17])
 (.seq
 (.reg [
 iP 19 (.ldn 2 (.t 8)),
 iM 20 9,
 iC 21 30 [(.c (i64 2)),.t 19,.t 20],
 iM 18 21,
 iP 22 (.ext (.t 18) 0),
 iP 23 (.ext (.t 18) 1),
 iM 10 22,
 iM 9 23])
 (.seq
 (.reg [
 iM 24 10,
 iP 25 (.bin .eql (.i .i64) (.t 24) (.c (i64 1))),
 iM 26 9,
 iM 6 25,
 iM 7 26])
 .ret))))
def r13:List RS:=[.t 6,.t 7]
theorem c13:chkF Tryz.prog drawB Tryz.f13 i13 r13=true:=by kernel_rfl
def i15:IC :=
 (.seq
 (.reg [
 iP 8 (.mov (.c (bl false)))])
 (.seq
 (.reg [
 iM 12 0,
 iC 13 16 [.t 12],
 iE 14 (.bsl 9 1 2 [st ⟨#[]⟩] [(0,(.c (st ⟨#[120]⟩))),(1,(.c (st ⟨#[121]⟩)))]),
 iE 15 (.bsl 3 1 2 [i64 0] [(0,(.c (i64 5))),(1,(.c (i64 (-2))))]),
 iC 16 9 [.t 13,.t 14,.t 15],
 iM 11 16,
 iP 17 (.ext (.t 11) 0),
 iP 18 (.ext (.t 11) 1),
 iE 9 (.alc 30 [i64 0,i64 0]),
 ⟨none,none,.e (.st 2 (.t 9) (.t 17))⟩,
 iM 10 18])
 (.seq
 (.reg [
 iP 19 (.ldn 2 (.t 9)),
 iM 20 1,
 iM 21 2,
 iP 22 (.bld [i64 0,i64 0] [(0,1,(.t 20)),(1,1,(.t 21))]),
 iP 23 (.eqf false [.i .i64,.i .i64] (.t 19) (.t 22)),
 iM 24 23,
 iG 25 24 true (.mov (.t 10)),
 iG 26 24 true (.mov (.t 3)),
 iG 27 24 true (.bin .eql (.i .i64) (.t 25) (.t 26)),
 iP 28 (.pick (.t 24) (.t 27) (.c (bl false))),
 iM 8 28])
 .ret)))
def r15:List RS:=[.t 8]
theorem c15:chkF Tryz.prog drawB Tryz.f15 i15 r15=true:=by kernel_rfl
def i16:IC :=
 (.seq
 (.reg [
 iE 2 (.alc 24 [i64 0,i64 0,st ⟨#[]⟩,.val (.slice none 0 0),i64 0])])
 (.seq
 (.reg [
 iM 6 0,
 iC 7 31 [.t 6],
 iM 5 7,
 iP 8 (.ext (.t 5) 0),
 iP 9 (.ext (.t 5) 1),
 iE 3 (.alc 24 [i64 0,i64 0,st ⟨#[]⟩,.val (.slice none 0 0),i64 0]),
 iE 4 (.alc 59 [i64 0,i64 0]),
 ⟨none,none,.e (.st 5 (.t 3) (.t 8))⟩,
 ⟨none,none,.e (.st 2 (.t 4) (.t 9))⟩])
 (.seq
 (.reg [
 iP 10 (.ldn 5 (.t 3)),
 ⟨none,none,.e (.st 5 (.t 2) (.t 10))⟩])
 .ret)))
def r16:List RS:=[.cn 2 5]
theorem c16:chkF Tryz.prog drawB Tryz.f16 i16 r16=true:=by kernel_rfl
def i17:IC :=
 (.seq
 (.reg [
 iE 1 (.box 24 (.t 0)),
 iP 2 (.mov (.c (st ⟨#[]⟩))),
 iP 3 (.mov (.c (i64 0)))])
 (.seq
 (.seq
 (.reg [
 iP 7 (.ldn 5 (.t 1)),
 iC 8 32 [.t 7],
 iP 9 (.not (.t 8))])
 (.cond (.t 9)
 (.seq
 (.reg [
 iP 2 (.mov (.c (st ⟨#[]⟩))),
 iP 3 (.mov (.c (i64 3)))])
 .ret)
 .skip))
 (.seq
 (.reg [
 iP 10 (.ldn 5 (.t 1)),
 iC 11 33 [.t 10],
 iM 4 11])
 (.seq
 (.seq
 (.reg [
 iM 12 4,
 iP 13 (.lens (.t 12)),
 iP 14 (.bin .gtr (.i .i64) (.t 13) (.c (i64 20000)))])
 (.cond (.t 14)
 (.seq
 (.reg [
 iP 2 (.mov (.c (st ⟨#[]⟩))),
 iP 3 (.mov (.c (i64 4)))])
 .ret)
 .skip))
 (.seq
 (.seq
 (.reg [
 iM 16 4,
 iC 17 31 [.t 16],
 iM 15 17,
 iP 18 (.ext (.t 15) 0),
 iP 19 (.ext (.t 15) 1),
 iE 5 (.alc 24 [i64 0,i64 0,st ⟨#[]⟩,.val (.slice none 0 0),i64 0]),
 iE 6 (.alc 59 [i64 0,i64 0]),
 ⟨none,none,.e (.st 5 (.t 5) (.t 18))⟩,
 ⟨none,none,.e (.st 2 (.t 6) (.t 19))⟩])
 (.seq
 (.reg [
 iF 20 0 6,
 iL 21 20,
 iP 22 (.bin .neq (.i .i64) (.t 21) (.c (i64 0)))])
 (.cond (.t 22)
 (.seq
 (.drw [0,1,2,3] [
 iF 23 0 6,
 iL 24 23,
 iP 2 (.mov (.c (st ⟨#[]⟩))),
 iM 3 24])
 .ret)
 .skip)))
 (.seq
 (.reg [
 iM 25 4,
 iM 2 25,
 iP 3 (.mov (.c (i64 0)))])
 .ret))))))
def r17:List RS:=[.t 2,.t 3]
theorem c17:chkF Tryz.prog drawB Tryz.f17 i17 r17=true:=by kernel_rfl
def i18:IC :=
 (.seq
 (.reg [
 iE 3 (.box 24 (.t 0)),
 iE 4 (.box 9 (.t 1)),
 iE 5 (.box 3 (.t 2)),
 iE 6 (.alc 24 [i64 0,i64 0,st ⟨#[]⟩,.val (.slice none 0 0),i64 0])])
 (.seq
 (.reg [
 iP 7 (.ldn 5 (.t 3)),
 iP 8 (.mkf (.func 35) [] [(.t 4),(.t 5)]),
 iC 9 34 [.t 7,(.c (i64 0)),.t 8],
 ⟨none,none,.e (.st 5 (.t 6) (.t 9))⟩])
 .ret))
def r18:List RS:=[.cn 6 5]
theorem c18:chkF Tryz.prog drawB Tryz.f18 i18 r18=true:=by kernel_rfl
def l19_0:IC:=.keep [0,1,5]
 (.seq
 (.seq
 (.reg [
 iM 11 5,
 iM 12 0,
 iP 13 (.len (.t 12)),
 iP 14 (.bin .lss (.i .i64) (.t 11) (.t 13))])
 (.cond (.t 14)
 .skip
 (.exit 0)))
 (.seq
 (.blk 1
 (.seq
 (.drw [0,1,2,3,4,5,6,7,8] [
 iM 17 0,
 iM 18 5,
 iP 19 (.ia 1 (.t 17) (.t 18)),
 iL 20 19,
 iM 21 1,
 iM 22 5,
 iP 23 (.ia 1 (.t 21) (.t 22)),
 iL 24 23,
 iP 25 (.bin .neq .s (.t 20) (.t 24))])
 (.cond (.t 25)
 (.seq
 (.reg [
 iP 4 (.mov (.c (bl false)))])
 .ret)
 .skip)))
 (.reg [
 iM 15 5,
 iP 16 (.bin .add (.i .i64) (.t 15) (.c (i64 1))),
 iM 5 16])))
def i19:IC :=
 (.seq
 (.reg [
 iP 4 (.mov (.c (bl false)))])
 (.seq
 (.seq
 (.reg [
 iM 6 0,
 iP 7 (.len (.t 6)),
 iM 8 1,
 iP 9 (.len (.t 8)),
 iP 10 (.bin .neq (.i .i64) (.t 7) (.t 9))])
 (.cond (.t 10)
 (.seq
 (.reg [
 iP 4 (.mov (.c (bl false)))])
 .ret)
 .skip))
 (.seq
 (.seq
 (.reg [
 iP 5 (.mov (.c (i64 0)))])
 (.blk 0
 (.loop l19_0)))
 (.seq
 (.reg [
 iP 4 (.mov (.c (bl true)))])
 .ret))))
def r19:List RS:=[.t 4]
theorem c19:chkF Tryz.prog drawB Tryz.f19 i19 r19=true:=by kernel_rfl
def l20_1:IC:=.keep [3,4,5,6,7,8]
 (.seq
 (.seq
 (.reg [
 iM 69 8,
 iP 70 (.bin .geq (.i .i64) (.t 69) (.c (i64 0)))])
 (.cond (.t 70)
 .skip
 (.exit 2)))
 (.seq
 (.blk 3
 (.reg [
 iM 73 6,
 iF 74 3 7,
 iL 75 74,
 iM 76 8,
 iP 77 (.ia 5 (.t 75) (.t 76)),
 iP 78 (.ldn 5 (.t 77)),
 iE 79 (.bsl 24 5 1 [i64 0,i64 0,st ⟨#[]⟩,.val (.slice none 0 0),i64 0] [(0,(.t 78))]),
 iE 80 (.app 24 5 64 (.t 73) (.t 79)),
 iM 6 80]))
 (.reg [
 iM 71 8,
 iP 72 (.bin .sub (.i .i64) (.t 71) (.c (i64 1))),
 iM 8 72])))
def l20_0:IC:=.keep [3,4,5,6]
 (.seq
 (.seq
 (.reg [
 iM 13 6,
 iP 14 (.len (.t 13)),
 iP 15 (.bin .gtr (.i .i64) (.t 14) (.c (i64 0)))])
 (.cond (.t 15)
 .skip
 (.exit 0)))
 (.blk 1
 (.seq
 (.reg [
 iM 16 6,
 iM 17 6,
 iP 18 (.len (.t 17)),
 iP 19 (.bin .sub (.i .i64) (.t 18) (.c (i64 1))),
 iP 20 (.ia 5 (.t 16) (.t 19)),
 iP 21 (.ldn 5 (.t 20)),
 iE 7 (.alc 24 [i64 0,i64 0,st ⟨#[]⟩,.val (.slice none 0 0),i64 0]),
 ⟨none,none,.e (.st 5 (.t 7) (.t 21))⟩])
 (.seq
 (.reg [
 iM 22 6,
 iM 23 6,
 iP 24 (.len (.t 23)),
 iP 25 (.bin .sub (.i .i64) (.t 24) (.c (i64 1))),
 iP 26 (.sl 5 (.t 22) none (some (.t 25))),
 iM 6 26])
 (.seq
 (.seq
 (.reg [
 iF 27 0 7,
 iL 28 27,
 iP 29 (.bin .eql (.i .i64) (.t 28) (.c (i64 2)))])
 (.cond (.t 29)
 (.seq
 (.seq
 (.reg [
 iM 30 4,
 iF 31 2 7,
 iL 32 31,
 iP 33 (.lkp .s false (bl false) (.t 30) (.t 32)),
 iP 34 (.not (.t 33))])
 (.cond (.t 34)
 (.seq
 (.reg [
 iM 35 4,
 iF 36 2 7,
 iL 37 36,
 ⟨none,none,.e (.mup .s (.t 35) (.t 37) (.c (bl true)))⟩])
 (.reg [
 iM 38 3,
 iF 39 2 7,
 iL 40 39,
 iE 41 (.bsl 9 1 1 [st ⟨#[]⟩] [(0,(.t 40))]),
 iE 42 (.app 9 1 16 (.t 38) (.t 41)),
 iM 3 42]))
 .skip))
 (.exit 1))
 .skip))
 (.seq
 (.seq
 (.drw [0,1,2,3,4,5,6,7,8,9,10,11,12,13,14] [
 iF 43 3 7,
 iL 44 43,
 iP 45 (.lnv (.t 44)),
 iP 46 (.bin .eql (.i .i64) (.t 45) (.c (i64 0))),
 iM 47 46,
 iG 48 47 false (.mov (.t 5)),
 iG 49 47 false (.fa 3 (.t 7)),
 iG 50 47 false (.ld1 (.t 49)),
 iG 51 47 false (.iav 5 (.t 50) (.c (i64 0))),
 iG 52 47 false (.lkp (.p 24) false (i64 0) (.t 48) (.t 51)),
 iG 53 47 false (.fa 3 (.t 7)),
 iG 54 47 false (.ld1 (.t 53)),
 iG 55 47 false (.lnv (.t 54)),
 iG 56 47 false (.bin .geq (.i .i64) (.t 52) (.t 55)),
 iP 57 (.pick (.t 47) (.c (bl true)) (.t 56))])
 (.cond (.t 57)
 (.exit 1)
 .skip))
 (.seq
 (.drw [0,1,2,3,4,5,6,7] [
 iM 58 5,
 iF 59 3 7,
 iL 60 59,
 iP 61 (.iav 5 (.t 60) (.c (i64 0))),
 iF 62 3 7,
 iL 63 62,
 iP 64 (.lnv (.t 63)),
 ⟨none,none,.e (.mup (.p 24) (.t 58) (.t 61) (.t 64))⟩])
 (.seq
 (.reg [
 iF 65 3 7,
 iL 66 65,
 iP 67 (.lnv (.t 66)),
 iP 68 (.bin .sub (.i .i64) (.t 67) (.c (i64 1))),
 iM 8 68])
 (.blk 2
 (.loop l20_1))))))))))
def i20:IC :=
 (.seq
 (.reg [
 iE 1 (.box 24 (.t 0)),
 iP 2 (.mov (.c (.val (.slice none 0 0))))])
 (.seq
 (.reg [
 iE 3 (.nil 9 1 (.c (.val (.slice none 0 0))))])
 (.seq
 (.reg [
 iE 9 (.mkm 66),
 iM 4 9])
 (.seq
 (.reg [
 iE 10 (.mkm 67),
 iM 5 10])
 (.seq
 (.seq
 (.reg [
 iP 11 (.ldn 5 (.t 1)),
 iE 12 (.bsl 24 5 1 [i64 0,i64 0,st ⟨#[]⟩,.val (.slice none 0 0),i64 0] [(0,(.t 11))]),
 iM 6 12])
 (.blk 0
 (.loop l20_0)))
 (.seq
 (.reg [
 iM 81 3,
 iM 2 81])
 .ret))))))
def r20:List RS:=[.t 2]
theorem c20:chkF Tryz.prog drawB Tryz.f20 i20 r20=true:=by kernel_rfl
def i21:IC :=
 (.seq
 (.reg [
 iP 4 (.mov (.c (bl false)))])
 (.seq
 (.reg [
 iE 10 (.bsl 9 1 1 [st ⟨#[]⟩] [(0,(.c (st ⟨#[120]⟩)))]),
 iM 11 0,
 iC 12 16 [.t 11],
 iC 13 37 [.t 10,.t 12],
 iM 9 13,
 iP 14 (.ext (.t 9) 0),
 iP 15 (.ext (.t 9) 1),
 iE 5 (.alc 24 [i64 0,i64 0,st ⟨#[]⟩,.val (.slice none 0 0),i64 0]),
 iE 6 (.alc 59 [i64 0,i64 0]),
 ⟨none,none,.e (.st 5 (.t 5) (.t 14))⟩,
 ⟨none,none,.e (.st 2 (.t 6) (.t 15))⟩])
 (.seq
 (.reg [
 iP 17 (.ldn 5 (.t 5)),
 iC 18 17 [.t 17],
 iM 16 18,
 iP 19 (.ext (.t 16) 0),
 iP 20 (.ext (.t 16) 1),
 iM 7 19,
 iM 8 20])
 (.seq
 (.reg [
 iP 21 (.ldn 2 (.t 6)),
 iP 22 (.bld [i64 0,i64 0] []),
 iP 23 (.eqf false [.i .i64,.i .i64] (.t 21) (.t 22)),
 iM 24 23,
 iG 25 24 true (.mov (.t 8)),
 iG 26 24 true (.bin .eql (.i .i64) (.t 25) (.c (i64 0))),
 iP 27 (.pick (.t 24) (.t 26) (.c (bl false))),
 iM 28 27,
 iG 29 28 true (.mov (.t 7)),
 iG 30 28 true (.mov (.t 1)),
 iG 31 28 true (.bin .eql .s (.t 29) (.t 30)),
 iP 32 (.pick (.t 28) (.t 31) (.c (bl false))),
 iM 4 32])
 .ret))))
def r21:List RS:=[.t 4]
theorem c21:chkF Tryz.prog drawB Tryz.f21 i21 r21=true:=by kernel_rfl
def i22:IC :=
 (.seq
 (.reg [
 iP 4 (.mov (.c (i64 0)))])
 (.seq
 (.reg [
 iM 5 0,
 iM 6 1,
 iP 7 (.bin .rem (.i .i64) (.t 5) (.t 6)),
 iM 0 7])
 (.seq
 (.seq
 (.reg [
 iM 8 0,
 iP 9 (.bin .lss (.i .i64) (.t 8) (.c (i64 0)))])
 (.cond (.t 9)
 (.reg [
 iM 10 0,
 iM 11 1,
 iP 12 (.bin .add (.i .i64) (.t 10) (.t 11)),
 iM 0 12])
 .skip))
 (.seq
 (.reg [
 iM 13 0,
 iM 4 13])
 .ret))))
def r22:List RS:=[.t 4]
theorem c22:chkF Tryz.prog drawB Tryz.f22 i22 r22=true:=by kernel_rfl
def l23_0:IC:=.keep [1,3]
 (.seq
 (.seq
 (.reg [
 iM 4 3,
 iF 5 3 1,
 iL 6 5,
 iP 7 (.len (.t 6)),
 iP 8 (.bin .lss (.i .i64) (.t 4) (.t 7))])
 (.cond (.t 8)
 .skip
 (.exit 0)))
 (.seq
 (.blk 1
 (.seq
 (.reg [
 iF 11 3 1,
 iL 12 11,
 iM 13 3,
 iP 14 (.ia 5 (.t 12) (.t 13)),
 iP 15 (.ldn 5 (.t 14)),
 iC 16 23 [.t 15],
 iP 17 (.not (.t 16))])
 (.cond (.t 17)
 (.seq
 (.reg [
 iP 2 (.mov (.c (bl false)))])
 .ret)
 .skip)))
 (.reg [
 iM 9 3,
 iP 10 (.bin .add (.i .i64) (.t 9) (.c (i64 1))),
 iM 3 10])))
def i23:IC :=
 (.seq
 (.reg [
 iE 1 (.box 24 (.t 0)),
 iP 2 (.mov (.c (bl false)))])
 (.seq
 (.seq
 (.reg [
 iP 3 (.mov (.c (i64 0)))])
 (.blk 0
 (.loop l23_0)))
 (.seq
 (.drw [0,1,2,3,4,5,6,7] [
 iF 18 0 1,
 iL 19 18,
 ⟨(some 20),none,.q (.c (.fn (.func 38) [] [])) [(.t 19)]⟩,
 iF 21 3 1,
 iL 22 21,
 iP 23 (.len (.t 22)),
 iP 24 (.bin .eql (.i .i64) (.t 20) (.t 23)),
 iM 2 24])
 .ret)))
def r23:List RS:=[.t 2]
theorem c23:chkF Tryz.prog drawB Tryz.f23 i23 r23=true:=by kernel_rfl
def i24:IC :=
 (.seq
 (.reg [
 iP 2 (.mov (.c (i64 0)))])
 (.seq
 (.reg [
 iM 3 0,
 iC 4 22 [.t 3,(.c (i64 2000000000001))],
 iP 5 (.bin .sub (.i .i64) (.t 4) (.c (i64 1000000000000))),
 iM 2 5])
 .ret))
def r24:List RS:=[.t 2]
theorem c24:chkF Tryz.prog drawB Tryz.f24 i24 r24=true:=by kernel_rfl
def i25:IC :=
 (.seq
 (.reg [
 iE 2 (.box 25 (.t 0)),
 iE 3 (.box 26 (.t 1)),
 iP 4 (.mov (.c (.val (.pointer none))))])
 (.seq
 (.reg [
 iP 6 (.mkf (.func 39) [] [(.t 2),(.t 3)]),
 iM 5 6])
 (.seq
 (.reg [
 iM 7 5,
 iE 8 (.mkm 72),
 ⟨none,none,.e (.mup (.i .i64) (.t 8) (.c (i64 5)) (.c (.fn (.func 40) [] [])))⟩,
 ⟨none,none,.e (.mup (.i .i64) (.t 8) (.c (i64 6)) (.c (.fn (.func 41) [] [])))⟩,
 ⟨none,none,.e (.mup (.i .i64) (.t 8) (.c (i64 7)) (.c (.fn (.func 42) [] [])))⟩,
 ⟨none,none,.e (.mup (.i .i64) (.t 8) (.c (i64 8)) (.c (.fn (.func 43) [] [])))⟩,
 ⟨none,none,.e (.mup (.i .i64) (.t 8) (.c (i64 9)) (.c (.fn (.func 44) [] [])))⟩,
 ⟨none,none,.e (.mup (.i .i64) (.t 8) (.c (i64 10)) (.c (.fn (.func 45) [] [])))⟩,
 ⟨none,none,.e (.mup (.i .i64) (.t 8) (.c (i64 11)) (.c (.fn (.func 47) [] [])))⟩,
 ⟨none,none,.e (.mup (.i .i64) (.t 8) (.c (i64 12)) (.c (.fn (.func 48) [] [])))⟩,
 ⟨none,none,.e (.mup (.i .i64) (.t 8) (.c (i64 13)) (.c (.fn (.func 49) [] [])))⟩,
 ⟨none,none,.e (.mup (.i .i64) (.t 8) (.c (i64 14)) (.c (.fn (.func 50) [] [])))⟩,
 ⟨none,none,.e (.mup (.i .i64) (.t 8) (.c (i64 15)) (.c (.fn (.func 51) [] [])))⟩,
 ⟨none,none,.e (.mup (.i .i64) (.t 8) (.c (i64 18)) (.c (.fn (.func 52) [] [])))⟩,
 ⟨none,none,.e (.mup (.i .i64) (.t 8) (.c (i64 19)) (.c (.fn (.func 53) [] [])))⟩,
 iM 9 8,
 iP 10 (.bld [.val .nilFunc,.val (.map none)] [(0,1,(.t 7)),(1,1,(.t 9))]),
 iE 11 (.box 74 (.t 10)),
 iM 4 11])
 .ret)))
def r25:List RS:=[.t 4]
theorem c25:chkF Tryz.prog drawB Tryz.f25 i25 r25=true:=by kernel_rfl
def i26a:IC :=
 (.reg [
 iE 2 (.alc 30 [i64 0,i64 0]),
 iE 3 (.alc 31 [i64 0])])
def i26s:Ins:=⟨(some 4),none,.p (.mkf (.func 54) [] [(.t 2),(.t 3)])⟩
def i26f:Od:=.t 4
def i26:IC :=
 (.seq
 (.reg [
 iM 5 0,
 iE 6 (.call (.t 5) []),
 ⟨none,none,.e (.st 2 (.t 2) (.t 6))⟩,
 ⟨none,none,.e (.st 1 (.t 3) (.c (i64 0)))⟩])
 .ret)
def r26:List RS:=[.cn 2 2,.c1 3]
theorem c26:chkDf Tryz.prog drawB Tryz.f26 i26a i26s i26f i26 r26=true:=by kernel_rfl
def i27:IC :=
 (.seq
 (.reg [
 iE 2 (.alc 30 [i64 0,i64 0])])
 (.seq
 (.reg [
 iL 3 0,
 iP 4 (.ldn 5 (.t 1)),
 iC 5 28 [.t 3,.t 4,(.c (i64 0))],
 ⟨none,none,.e (.st 2 (.t 2) (.t 5))⟩])
 .ret))
def r27:List RS:=[.cn 2 2]
theorem c27:chkF Tryz.prog drawB Tryz.f27 i27 r27=true:=by kernel_rfl
def i28:IC :=
 (.seq
 (.reg [
 iE 3 (.box 52 (.t 0)),
 iE 4 (.box 24 (.t 1)),
 iE 5 (.box 3 (.t 2)),
 iE 6 (.alc 30 [i64 0,i64 0])])
 (.seq
 (.seq
 (.reg [
 iL 9 5,
 iP 10 (.bin .eql (.i .i64) (.t 9) (.c (i64 100000)))])
 (.cond (.t 10)
 (.seq
 (.reg [
 iP 11 (.mkf (.func 56) [] [(.t 3),(.t 4)]),
 iC 12 55 [.t 11],
 ⟨none,none,.e (.st 2 (.t 6) (.t 12))⟩])
 .ret)
 .skip))
 (.seq
 (.seq
 (.drw [0,1,2,3,4,5,6] [
 iF 13 0 4,
 iL 14 13,
 ⟨(some 15),none,.q (.c (.fn (.func 57) [] [])) [(.t 14)]⟩,
 iF 16 3 4,
 iL 17 16,
 iP 18 (.len (.t 17)),
 iP 19 (.bin .neq (.i .i64) (.t 15) (.t 18))])
 (.cond (.t 19)
 (.reg [
 iP 20 (.mki 31 (.c (i64 3))),
 ⟨none,none,.e (.pan (.t 20))⟩])
 .skip))
 (.seq
 (.seq
 (.reg [
 iF 21 0 4,
 iL 22 21])
 (.blk 0
 (.seq
 (.reg [
 iP 24 (.bin .eql (.i .i64) (.t 22) (.c (i64 1))),
 iM 23 24])
 (.cond (.t 23)
 (.seq
 (.reg [
 iF 25 1 4,
 iL 26 25,
 iC 27 58 [.t 26],
 ⟨none,none,.e (.st 2 (.t 6) (.t 27))⟩])
 .ret)
 (.seq
 (.reg [
 iP 29 (.bin .eql (.i .i64) (.t 22) (.c (i64 2))),
 iM 28 29])
 (.cond (.t 28)
 (.seq
 (.drw [0,1,2,3,4,5,6,7,8,9,10,11] [
 iL 31 3,
 iP 32 (.nck (.t 31)),
 iF 33 0 32,
 iL 34 33,
 iF 35 2 4,
 iL 36 35,
 iE 37 (.call (.t 34) [(.t 36)]),
 iM 30 37,
 iP 38 (.ext (.t 30) 0),
 iP 39 (.ext (.t 30) 1),
 iM 7 38,
 iM 8 39])
 (.seq
 (.seq
 (.reg [
 iM 40 8,
 iP 41 (.not (.t 40))])
 (.cond (.t 41)
 (.reg [
 iP 42 (.mki 31 (.c (i64 7))),
 ⟨none,none,.e (.pan (.t 42))⟩])
 .skip))
 (.seq
 (.reg [
 iM 43 7,
 iC 44 58 [.t 43],
 ⟨none,none,.e (.st 2 (.t 6) (.t 44))⟩])
 .ret)))
 .skip))))))
 (.seq
 (.reg [
 iL 45 3,
 iF 46 0 4,
 iL 47 46,
 iP 48 (.mkf (.func 60) [] [(.t 3),(.t 4),(.t 5)]),
 iC 49 59 [.t 45,.t 47,.t 48],
 ⟨none,none,.e (.st 2 (.t 6) (.t 49))⟩])
 .ret)))))
def r28:List RS:=[.cn 6 2]
theorem c28:chkF Tryz.prog drawB Tryz.f28 i28 r28=true:=by kernel_rfl
def i30:IC :=
 (.seq
 (.reg [
 iE 4 (.box 30 (.t 1)),
 iP 6 (.mov (.c (i64 0))),
 iP 7 (.mov (.c (i64 0)))])
 (.seq
 (.seq
 (.reg [
 iM 8 2,
 iP 9 (.bin .eql (.i .i64) (.t 8) (.c (i64 0))),
 iM 10 9,
 iG 11 10 true (.fa 0 (.t 4)),
 iG 12 10 true (.ld1 (.t 11)),
 iG 13 10 true (.mov (.t 0)),
 iG 14 10 true (.bin .neq (.i .i64) (.t 12) (.t 13)),
 iP 15 (.pick (.t 10) (.t 14) (.c (bl false)))])
 (.cond (.t 15)
 (.reg [
 iP 2 (.mov (.c (i64 10)))])
 .skip))
 (.seq
 (.seq
 (.reg [
 iM 16 2,
 iP 17 (.bin .neq (.i .i64) (.t 16) (.c (i64 0)))])
 (.cond (.t 17)
 (.seq
 (.reg [
 iM 18 2,
 iP 6 (.mov (.c (i64 0))),
 iM 7 18])
 .ret)
 .skip))
 (.seq
 (.reg [
 iF 19 1 4,
 iL 20 19,
 iM 6 20,
 iP 7 (.mov (.c (i64 0)))])
 .ret))))
def r30:List RS:=[.t 6,.t 7]
theorem c30:chkF Tryz.prog drawB Tryz.f30 i30 r30=true:=by kernel_rfl
def i31:IC :=
 (.seq
 (.reg [
 iE 2 (.alc 24 [i64 0,i64 0,st ⟨#[]⟩,.val (.slice none 0 0),i64 0]),
 iE 3 (.alc 59 [i64 0,i64 0])])
 (.seq
 (.reg [
 iM 9 0,
 iC 10 66 [.t 9],
 iM 8 10,
 iP 11 (.ext (.t 8) 0),
 iP 12 (.ext (.t 8) 1),
 iE 5 (.alc 59 [i64 0,i64 0]),
 iM 4 11,
 ⟨none,none,.e (.st 2 (.t 5) (.t 12))⟩])
 (.seq
 (.seq
 (.reg [
 iF 13 0 5,
 iL 14 13,
 iP 15 (.bin .neq (.i .i64) (.t 14) (.c (i64 0)))])
 (.cond (.t 15)
 (.seq
 (.drw [0,1,2,3] [
 iP 16 (.bld [i64 0,i64 0,st ⟨#[]⟩,.val (.slice none 0 0),i64 0] []),
 iP 17 (.ldn 2 (.t 5)),
 ⟨none,none,.e (.st 5 (.t 2) (.t 16))⟩,
 ⟨none,none,.e (.st 2 (.t 3) (.t 17))⟩])
 .ret)
 .skip))
 (.seq
 (.reg [
 iM 18 4,
 iM 19 0,
 iP 20 (.lens (.t 19)),
 iP 21 (.bld [.val (.slice none 0 0),i64 0,i64 0,i64 0,i64 0,i64 0] [(0,1,(.t 18)),(1,1,(.t 20))]),
 iE 22 (.box 88 (.t 21)),
 iM 6 22])
 (.seq
 (.reg [
 iM 23 6,
 iC 24 67 [.t 23],
 iE 7 (.alc 24 [i64 0,i64 0,st ⟨#[]⟩,.val (.slice none 0 0),i64 0]),
 ⟨none,none,.e (.st 5 (.t 7) (.t 24))⟩])
 (.seq
 (.seq
 (.drw [0,1,2,3,4,5,6,7,8,9] [
 iM 25 6,
 iP 26 (.nck (.t 25)),
 iF 27 2 26,
 iL 28 27,
 iM 29 6,
 iP 30 (.nck (.t 29)),
 iF 31 0 30,
 iL 32 31,
 iP 33 (.len (.t 32)),
 iP 34 (.bin .lss (.i .i64) (.t 28) (.t 33))])
 (.cond (.t 34)
 (.reg [
 iM 35 6,
 iC 36 68 [.t 35,(.c (i64 11))]])
 .skip))
 (.seq
 (.seq
 (.reg [
 iM 37 6,
 iC 38 69 [.t 37]])
 (.cond (.t 38)
 (.seq
 (.drw [0,1,2,3,4,5,6] [
 iP 39 (.bld [i64 0,i64 0,st ⟨#[]⟩,.val (.slice none 0 0),i64 0] []),
 iM 40 6,
 iP 41 (.nck (.t 40)),
 iF 42 4 41,
 iP 43 (.ldn 2 (.t 42)),
 ⟨none,none,.e (.st 5 (.t 2) (.t 39))⟩,
 ⟨none,none,.e (.st 2 (.t 3) (.t 43))⟩])
 .ret)
 .skip))
 (.seq
 (.reg [
 iP 44 (.ldn 5 (.t 7)),
 iP 45 (.bld [i64 0,i64 0] []),
 ⟨none,none,.e (.st 5 (.t 2) (.t 44))⟩,
 ⟨none,none,.e (.st 2 (.t 3) (.t 45))⟩])
 .ret))))))))
def r31:List RS:=[.cn 2 5,.cn 3 2]
theorem c31:chkF Tryz.prog drawB Tryz.f31 i31 r31=true:=by kernel_rfl
def l32_0:IC:=.keep [1,3]
 (.seq
 (.seq
 (.reg [
 iM 52 3,
 iF 53 3 1,
 iL 54 53,
 iP 55 (.len (.t 54)),
 iP 56 (.bin .lss (.i .i64) (.t 52) (.t 55))])
 (.cond (.t 56)
 .skip
 (.exit 0)))
 (.seq
 (.blk 1
 (.seq
 (.reg [
 iF 59 3 1,
 iL 60 59,
 iM 61 3,
 iP 62 (.ia 5 (.t 60) (.t 61)),
 iP 63 (.ldn 5 (.t 62)),
 iC 64 32 [.t 63],
 iP 65 (.not (.t 64))])
 (.cond (.t 65)
 (.seq
 (.reg [
 iP 2 (.mov (.c (bl false)))])
 .ret)
 .skip)))
 (.reg [
 iM 57 3,
 iP 58 (.bin .add (.i .i64) (.t 57) (.c (i64 1))),
 iM 3 58])))
def i32:IC :=
 (.seq
 (.reg [
 iE 1 (.box 24 (.t 0)),
 iP 2 (.mov (.c (bl false)))])
 (.seq
 (.seq
 (.drw [0,1,2,3,4,5,6,7,8,9,10,11,12,13,14,15,16,17,18,19,20,21,22,23,24,25,26,27,28,29,30,31,32,33,34,35,36,37,38,39,40,41,42,43,44,45,46,47] [
 iF 4 3 1,
 iL 5 4,
 iP 6 (.len (.t 5)),
 iF 7 0 1,
 iL 8 7,
 ⟨(some 9),none,.q (.c (.fn (.func 70) [] [])) [(.t 8)]⟩,
 iP 10 (.bin .neq (.i .i64) (.t 6) (.t 9)),
 iM 11 10,
 iG 12 11 false (.fa 0 (.t 1)),
 iG 13 11 false (.ld1 (.t 12)),
 iG 14 11 false (.bin .neq (.i .i64) (.t 13) (.c (i64 1))),
 iG 15 11 false (.mov (.t 14)),
 iG 16 15 true (.fa 1 (.t 1)),
 iG 17 15 true (.ld1 (.t 16)),
 iG 18 15 true (.bin .neq (.i .i64) (.t 17) (.c (i64 0))),
 iG 19 11 false (.pick (.t 15) (.t 18) (.c (bl false))),
 iP 20 (.pick (.t 11) (.c (bl true)) (.t 19)),
 iM 21 20,
 iG 22 21 false (.fa 0 (.t 1)),
 iG 23 21 false (.ld1 (.t 22)),
 iG 24 21 false (.bin .neq (.i .i64) (.t 23) (.c (i64 2))),
 iG 25 21 false (.mov (.t 24)),
 iG 26 25 true (.fa 2 (.t 1)),
 iG 27 25 true (.ld1 (.t 26)),
 iG 28 25 true (.bin .neq .s (.t 27) (.c (st ⟨#[]⟩))),
 iG 29 21 false (.pick (.t 25) (.t 28) (.c (bl false))),
 iP 30 (.pick (.t 21) (.c (bl true)) (.t 29)),
 iM 31 30,
 iG 32 31 false (.fa 0 (.t 1)),
 iG 33 31 false (.ld1 (.t 32)),
 iG 34 31 false (.bin .eql (.i .i64) (.t 33) (.c (i64 2))),
 iG 35 31 false (.mov (.t 34)),
 iG 36 35 true (.fa 2 (.t 1)),
 iG 37 35 true (.ld1 (.t 36)),
 ⟨(some 38),(some (35,true)),.q (.c (.fn (.func 71) [] [])) [(.t 37)]⟩,
 iG 39 35 true (.not (.t 38)),
 iG 40 31 false (.pick (.t 35) (.t 39) (.c (bl false))),
 iP 41 (.pick (.t 31) (.c (bl true)) (.t 40)),
 iM 42 41,
 iG 43 42 false (.fa 1 (.t 1)),
 iG 44 42 false (.ld1 (.t 43)),
 iG 45 42 false (.bin .lss (.i .i64) (.t 44) (.c (i64 0))),
 iP 46 (.pick (.t 42) (.c (bl true)) (.t 45)),
 iM 47 46,
 iG 48 47 false (.fa 1 (.t 1)),
 iG 49 47 false (.ld1 (.t 48)),
 iG 50 47 false (.bin .gtr (.i .i64) (.t 49) (.c (i64 1000000000))),
 iP 51 (.pick (.t 47) (.c (bl true)) (.t 50))])
 (.cond (.t 51)
 (.seq
 (.reg [
 iP 2 (.mov (.c (bl false)))])
 .ret)
 .skip))
 (.seq
 (.seq
 (.reg [
 iP 3 (.mov (.c (i64 0)))])
 (.blk 0
 (.loop l32_0)))
 (.seq
 (.reg [
 iP 2 (.mov (.c (bl true)))])
 .ret))))
def r32:List RS:=[.t 2]
theorem c32:chkF Tryz.prog drawB Tryz.f32 i32 r32=true:=by kernel_rfl
def i33:IC :=
 (.seq
 (.reg [
 iE 1 (.box 24 (.t 0)),
 iP 2 (.mov (.c (st ⟨#[]⟩)))])
 (.seq
 (.seq
 (.reg [
 iF 4 0 1,
 iL 5 4])
 (.blk 0
 (.seq
 (.reg [
 iP 7 (.bin .eql (.i .i64) (.t 5) (.c (i64 1))),
 iM 6 7])
 (.cond (.t 6)
 (.seq
 (.reg [
 iF 8 1 1,
 iL 9 8,
 iC 10 72 [.t 9],
 iM 2 10])
 .ret)
 (.seq
 (.reg [
 iP 12 (.bin .eql (.i .i64) (.t 5) (.c (i64 2))),
 iM 11 12])
 (.cond (.t 11)
 (.seq
 (.reg [
 iF 13 2 1,
 iL 14 13,
 iM 2 14])
 .ret)
 (.seq
 (.reg [
 iP 16 (.bin .eql (.i .i64) (.t 5) (.c (i64 3))),
 iM 15 16])
 (.cond (.t 15)
 (.seq
 (.reg [
 iF 17 3 1,
 iL 18 17,
 iP 19 (.ia 5 (.t 18) (.c (i64 0))),
 iP 20 (.ldn 5 (.t 19)),
 iC 21 73 [.t 20],
 iP 22 (.bin .add .s (.c (st ⟨#[45,32]⟩)) (.t 21)),
 iM 2 22])
 .ret)
 (.seq
 (.reg [
 iP 24 (.bin .eql (.i .i64) (.t 5) (.c (i64 4))),
 iM 23 24])
 (.cond (.t 23)
 (.seq
 (.reg [
 iF 25 3 1,
 iL 26 25,
 iP 27 (.ia 5 (.t 26) (.c (i64 0))),
 iP 28 (.ldn 5 (.t 27)),
 iC 29 73 [.t 28],
 iP 30 (.bin .add .s (.c (st ⟨#[110,111,116,32]⟩)) (.t 29)),
 iM 2 30])
 .ret)
 .skip))))))))))
 (.seq
 (.seq
 (.reg [
 iF 31 0 1,
 iL 32 31,
 iP 33 (.bin .geq (.i .i64) (.t 32) (.c (i64 18)))])
 (.cond (.t 33)
 (.seq
 (.drw [1,2,3,7,8,9,0,4,5,6,10,11,12] [
 iF 35 0 1,
 iL 36 35,
 iP 37 (.bin .sub (.i .i64) (.t 36) (.c (i64 18))),
 iF 41 3 1,
 iL 42 41,
 ⟨(some 43),none,.q (.c (.fn (.func 74) [] [])) [(.t 42)]⟩,
 iE 34 (.bsl 9 1 3 [st ⟨#[]⟩] [(0,(.c (st ⟨#[109,105,110]⟩))),(1,(.c (st ⟨#[109,97,120]⟩))),(2,(.c (st ⟨#[105,102]⟩)))]),
 iP 38 (.ia 1 (.t 34) (.t 37)),
 iL 39 38,
 iP 40 (.bin .add .s (.t 39) (.c (st ⟨#[40]⟩))),
 iP 44 (.bin .add .s (.t 40) (.t 43)),
 iP 45 (.bin .add .s (.t 44) (.c (st ⟨#[41]⟩))),
 iM 2 45])
 .ret)
 .skip))
 (.seq
 (.reg [
 iE 46 (.bsl 9 1 13 [st ⟨#[]⟩] [(0,(.c (st ⟨#[42]⟩))),(1,(.c (st ⟨#[47]⟩))),(2,(.c (st ⟨#[37]⟩))),(3,(.c (st ⟨#[43]⟩))),(4,(.c (st ⟨#[45]⟩))),(5,(.c (st ⟨#[61,61]⟩))),(6,(.c (st ⟨#[33,61]⟩))),(7,(.c (st ⟨#[60]⟩))),(8,(.c (st ⟨#[60,61]⟩))),(9,(.c (st ⟨#[62]⟩))),(10,(.c (st ⟨#[62,61]⟩))),(11,(.c (st ⟨#[97,110,100]⟩))),(12,(.c (st ⟨#[111,114]⟩)))]),
 iF 47 0 1,
 iL 48 47,
 iP 49 (.bin .sub (.i .i64) (.t 48) (.c (i64 5))),
 iP 50 (.ia 1 (.t 46) (.t 49)),
 iL 51 50,
 iM 3 51])
 (.seq
 (.drw [0,1,2,3,4,5,6,7,8,9,10,11,12,13,14,15] [
 iF 52 3 1,
 iL 53 52,
 iP 54 (.ia 5 (.t 53) (.c (i64 0))),
 iP 55 (.ldn 5 (.t 54)),
 ⟨(some 56),none,.q (.c (.fn (.func 73) [] [])) [(.t 55)]⟩,
 iP 57 (.bin .add .s (.t 56) (.c (st ⟨#[32]⟩))),
 iM 58 3,
 iP 59 (.bin .add .s (.t 57) (.t 58)),
 iP 60 (.bin .add .s (.t 59) (.c (st ⟨#[32]⟩))),
 iF 61 3 1,
 iL 62 61,
 iP 63 (.ia 5 (.t 62) (.c (i64 1))),
 iP 64 (.ldn 5 (.t 63)),
 ⟨(some 65),none,.q (.c (.fn (.func 73) [] [])) [(.t 64)]⟩,
 iP 66 (.bin .add .s (.t 60) (.t 65)),
 iM 2 66])
 .ret)))))
def r33:List RS:=[.t 2]
theorem c33:chkF Tryz.prog drawB Tryz.f33 i33 r33=true:=by kernel_rfl
def l34_0:IC:=.keep [1,3,5,6,7,25,26,27]
 (.seq
 (.reg [
 iP 28 (.bin .lss (.i .i64) (.t 27) (.t 26))])
 (.seq
 (.cond (.t 28)
 .skip
 (.exit 0))
 (.seq
 (.blk 1
 (.seq
 (.reg [
 iP 29 (.ia 5 (.t 25) (.t 27)),
 iP 30 (.ldn 5 (.t 29)),
 iE 9 (.alc 24 [i64 0,i64 0,st ⟨#[]⟩,.val (.slice none 0 0),i64 0]),
 ⟨none,none,.e (.st 5 (.t 9) (.t 30))⟩])
 (.reg [
 iM 31 7,
 iP 32 (.ldn 5 (.t 9)),
 iM 33 1,
 iP 34 (.bin .add (.i .i64) (.t 33) (.c (i64 1))),
 iL 35 5,
 iC 36 34 [.t 32,.t 34,.t 35],
 iE 37 (.bsl 24 5 1 [i64 0,i64 0,st ⟨#[]⟩,.val (.slice none 0 0),i64 0] [(0,(.t 36))]),
 iE 38 (.app 24 5 64 (.t 31) (.t 37)),
 iM 7 38])))
 (.reg [
 iP 39 (.bin .add (.i .i64) (.t 27) (.c (i64 1))),
 iM 27 39]))))
def i34:IC :=
 (.seq
 (.reg [
 iE 3 (.box 24 (.t 0)),
 iE 5 (.box 65 (.t 2)),
 iE 6 (.alc 24 [i64 0,i64 0,st ⟨#[]⟩,.val (.slice none 0 0),i64 0])])
 (.seq
 (.seq
 (.reg [
 iM 10 1,
 iP 11 (.bin .eql (.i .i64) (.t 10) (.c (i64 100000)))])
 (.cond (.t 11)
 (.seq
 (.reg [
 iP 12 (.mkf (.func 76) [] [(.t 3),(.t 5)]),
 iC 13 75 [.t 12],
 ⟨none,none,.e (.st 5 (.t 6) (.t 13))⟩])
 .ret)
 .skip))
 (.seq
 (.seq
 (.reg [
 iF 14 0 3,
 iL 15 14,
 iP 16 (.bin .eql (.i .i64) (.t 15) (.c (i64 2))),
 iM 17 16,
 iG 18 17 true (.ld1 (.t 5)),
 iG 19 17 true (.fnn true true (.t 18)),
 iP 20 (.pick (.t 17) (.t 19) (.c (bl false)))])
 (.cond (.t 20)
 (.reg [
 iL 21 5,
 iP 22 (.ldn 5 (.t 3)),
 iE 23 (.call (.t 21) [(.t 22)]),
 ⟨none,none,.e (.st 5 (.t 3) (.t 23))⟩,
 ⟨none,none,.e (.st 1 (.t 5) (.c (.val .nilFunc)))⟩])
 .skip))
 (.seq
 (.reg [
 iE 7 (.nil 24 5 (.c (.val (.slice none 0 0))))])
 (.seq
 (.seq
 (.reg [
 iF 24 3 3,
 iL 25 24,
 iP 26 (.len (.t 25)),
 iP 27 (.mov (.c (i64 0)))])
 (.blk 0
 (.loop l34_0)))
 (.seq
 (.reg [
 iM 40 7,
 iF 41 3 3,
 ⟨none,none,.e (.st 1 (.t 41) (.t 40))⟩])
 (.seq
 (.reg [
 iP 42 (.ldn 5 (.t 3)),
 ⟨none,none,.e (.st 5 (.t 6) (.t 42))⟩])
 .ret)))))))
def r34:List RS:=[.cn 6 5]
theorem c34:chkF Tryz.prog drawB Tryz.f34 i34 r34=true:=by kernel_rfl
def i35:IC :=
 (.seq
 (.reg [
 iE 3 (.box 24 (.t 0)),
 iE 4 (.alc 24 [i64 0,i64 0,st ⟨#[]⟩,.val (.slice none 0 0),i64 0])])
 (.seq
 (.seq
 (.reg [
 iF 5 2 3,
 iL 6 5,
 iL 7 1,
 iP 8 (.bin .eql .s (.t 6) (.t 7))])
 (.cond (.t 8)
 (.seq
 (.reg [
 iL 9 2,
 iF 10 4 3,
 iL 11 10,
 iC 12 36 [.t 9,.t 11],
 ⟨none,none,.e (.st 5 (.t 4) (.t 12))⟩])
 .ret)
 .skip))
 (.seq
 (.reg [
 iP 13 (.ldn 5 (.t 3)),
 ⟨none,none,.e (.st 5 (.t 4) (.t 13))⟩])
 .ret)))
def r35:List RS:=[.cn 4 5]
theorem c35:chkF Tryz.prog drawB Tryz.f35 i35 r35=true:=by kernel_rfl
def i36:IC :=
 (.seq
 (.reg [
 iE 4 (.alc 24 [i64 0,i64 0,st ⟨#[]⟩,.val (.slice none 0 0),i64 0])])
 (.seq
 (.seq
 (.reg [
 iM 5 0,
 iP 6 (.bin .lss (.i .i64) (.t 5) (.c (i64 0)))])
 (.cond (.t 6)
 (.seq
 (.reg [
 iM 7 0,
 iP 8 (.neg .i64 (.t 7)),
 iM 9 1,
 iP 10 (.bld [i64 0,i64 0,st ⟨#[]⟩,.val (.slice none 0 0),i64 0] [(0,1,(.c (i64 1))),(1,1,(.t 8)),(4,1,(.t 9))]),
 iE 11 (.bsl 24 5 1 [i64 0,i64 0,st ⟨#[]⟩,.val (.slice none 0 0),i64 0] [(0,(.t 10))]),
 iM 12 1,
 iP 13 (.bld [i64 0,i64 0,st ⟨#[]⟩,.val (.slice none 0 0),i64 0] [(0,1,(.c (i64 3))),(3,1,(.t 11)),(4,1,(.t 12))]),
 ⟨none,none,.e (.st 5 (.t 4) (.t 13))⟩])
 .ret)
 .skip))
 (.seq
 (.reg [
 iM 14 0,
 iM 15 1,
 iP 16 (.bld [i64 0,i64 0,st ⟨#[]⟩,.val (.slice none 0 0),i64 0] [(0,1,(.c (i64 1))),(1,1,(.t 14)),(4,1,(.t 15))]),
 ⟨none,none,.e (.st 5 (.t 4) (.t 16))⟩])
 .ret)))
def r36:List RS:=[.cn 4 5]
theorem c36:chkF Tryz.prog drawB Tryz.f36 i36 r36=true:=by kernel_rfl
def i37:IC :=
 (.seq
 (.reg [
 iE 3 (.box 24 (.t 1)),
 iE 4 (.alc 24 [i64 0,i64 0,st ⟨#[]⟩,.val (.slice none 0 0),i64 0]),
 iE 5 (.alc 59 [i64 0,i64 0])])
 (.seq
 (.seq
 (.reg [
 iM 9 0,
 iP 10 (.ldn 5 (.t 3)),
 iC 11 77 [.t 9,.t 10],
 iM 8 11,
 iP 12 (.ext (.t 8) 0),
 iP 13 (.ext (.t 8) 1),
 iE 7 (.alc 59 [i64 0,i64 0]),
 iM 6 12,
 ⟨none,none,.e (.st 2 (.t 7) (.t 13))⟩])
 (.seq
 (.reg [
 iF 14 0 7,
 iL 15 14,
 iP 16 (.bin .neq (.i .i64) (.t 15) (.c (i64 0)))])
 (.cond (.t 16)
 (.seq
 (.drw [0,1,2,3] [
 iP 17 (.bld [i64 0,i64 0,st ⟨#[]⟩,.val (.slice none 0 0),i64 0] []),
 iP 18 (.ldn 2 (.t 7)),
 ⟨none,none,.e (.st 5 (.t 4) (.t 17))⟩,
 ⟨none,none,.e (.st 2 (.t 5) (.t 18))⟩])
 .ret)
 .skip)))
 (.seq
 (.drw [0,1,4,2,3,5,6] [
 ⟨(some 19),none,.q (.c (.fn (.func 25) [] [])) [(.c (.val (.slice none 0 0))),(.c (.val (.slice none 0 0)))]⟩,
 iP 20 (.ldn 5 (.t 3)),
 iP 23 (.bld [i64 0,i64 0] []),
 iC 21 78 [.t 19,.t 20,(.c (i64 0))],
 iP 22 (.fldn 0 5 (.t 21)),
 ⟨none,none,.e (.stw [20] 5 (.t 4) (.t 22))⟩,
 ⟨none,none,.e (.stw [20] 2 (.t 5) (.t 23))⟩])
 .ret)))
def r37:List RS:=[.cn 4 5,.cn 5 2]
theorem c37:chkF Tryz.prog drawB Tryz.f37 i37 r37=true:=by kernel_rfl
def i38:IC :=
 (.seq
 (.reg [
 iP 2 (.mov (.c (i64 0)))])
 (.seq
 (.reg [
 iM 3 0,
 iC 4 70 [.t 3],
 iM 2 4])
 .ret))
def r38:List RS:=[.t 2]
theorem c38:chkF Tryz.prog drawB Tryz.f38 i38 r38=true:=by kernel_rfl
def l39_0:IC:=.keep [0,2,8,9,10]
 (.seq
 (.reg [
 iP 11 (.bin .lss (.i .i64) (.t 10) (.t 9))])
 (.seq
 (.cond (.t 11)
 .skip
 (.exit 0))
 (.seq
 (.blk 1
 (.seq
 (.reg [
 iM 12 10,
 iP 13 (.ia 1 (.t 8) (.t 10)),
 iL 14 13,
 iM 6 12,
 iM 7 14])
 (.seq
 (.reg [
 iM 15 7,
 iM 16 0,
 iP 17 (.bin .eql .s (.t 15) (.t 16))])
 (.cond (.t 17)
 (.seq
 (.reg [
 iL 18 2,
 iM 19 6,
 iP 20 (.ia 1 (.t 18) (.t 19)),
 iL 21 20,
 iM 4 21,
 iP 5 (.mov (.c (bl true)))])
 .ret)
 .skip))))
 (.reg [
 iP 22 (.bin .add (.i .i64) (.t 10) (.c (i64 1))),
 iM 10 22]))))
def i39:IC :=
 (.seq
 (.reg [
 iP 4 (.mov (.c (i64 0))),
 iP 5 (.mov (.c (bl false)))])
 (.seq
 (.seq
 (.reg [
 iL 8 1,
 iP 9 (.len (.t 8)),
 iP 10 (.mov (.c (i64 0)))])
 (.blk 0
 (.loop l39_0)))
 (.seq
 (.reg [
 iP 4 (.mov (.c (i64 0))),
 iP 5 (.mov (.c (bl false)))])
 .ret)))
def r39:List RS:=[.t 4,.t 5]
theorem c39:chkF Tryz.prog drawB Tryz.f39 i39 r39=true:=by kernel_rfl
def i40:IC :=
 (.seq
 (.reg [
 iP 4 (.mov (.c (i64 0)))])
 (.seq
 (.seq
 (.reg [
 iM 5 0,
 iP 6 (.bin .neq (.i .i64) (.t 5) (.c (i64 0))),
 iM 7 6,
 iG 8 7 true (.mov (.t 1)),
 iG 9 7 true (.mov (.t 1)),
 iG 10 7 true (.neg .i64 (.t 9)),
 iG 11 7 true (.mm true .i64 (.t 8) (.t 10)),
 iG 12 7 true (.mov (.t 0)),
 iG 13 7 true (.mov (.t 0)),
 iG 14 7 true (.neg .i64 (.t 13)),
 iG 15 7 true (.mm true .i64 (.t 12) (.t 14)),
 iG 16 7 true (.bin .quo (.i .i64) (.c (i64 1000000000000)) (.t 15)),
 iG 17 7 true (.bin .gtr (.i .i64) (.t 11) (.t 16)),
 iP 18 (.pick (.t 7) (.t 17) (.c (bl false)))])
 (.cond (.t 18)
 (.seq
 (.reg [
 iP 4 (.mov (.c (i64 1000000000001)))])
 .ret)
 .skip))
 (.seq
 (.reg [
 iM 19 0,
 iM 20 1,
 iP 21 (.bin .mul (.i .i64) (.t 19) (.t 20)),
 iM 4 21])
 .ret)))
def r40:List RS:=[.t 4]
theorem c40:chkF Tryz.prog drawB Tryz.f40 i40 r40=true:=by kernel_rfl
def i41:IC :=
 (.seq
 (.reg [
 iP 4 (.mov (.c (i64 0)))])
 (.seq
 (.reg [
 iM 6 0,
 iM 7 1,
 iP 8 (.bin .quo (.i .i64) (.t 6) (.t 7)),
 iM 5 8])
 (.seq
 (.seq
 (.reg [
 iM 9 0,
 iM 10 1,
 iP 11 (.bin .rem (.i .i64) (.t 9) (.t 10)),
 iP 12 (.bin .neq (.i .i64) (.t 11) (.c (i64 0))),
 iM 13 12,
 iG 14 13 true (.mov (.t 0)),
 iG 15 13 true (.bin .lss (.i .i64) (.t 14) (.c (i64 0))),
 iG 16 13 true (.mov (.t 1)),
 iG 17 13 true (.bin .lss (.i .i64) (.t 16) (.c (i64 0))),
 iG 18 13 true (.bin .neq .b (.t 15) (.t 17)),
 iP 19 (.pick (.t 13) (.t 18) (.c (bl false)))])
 (.cond (.t 19)
 (.reg [
 iM 20 5,
 iP 21 (.bin .sub (.i .i64) (.t 20) (.c (i64 1))),
 iM 5 21])
 .skip))
 (.seq
 (.reg [
 iM 22 5,
 iM 4 22])
 .ret))))
def r41:List RS:=[.t 4]
theorem c41:chkF Tryz.prog drawB Tryz.f41 i41 r41=true:=by kernel_rfl
def i42:IC :=
 (.seq
 (.reg [
 iP 4 (.mov (.c (i64 0)))])
 (.seq
 (.reg [
 iM 5 0,
 iM 6 1,
 iM 7 0,
 iM 8 1,
 iC 9 41 [.t 7,.t 8],
 iP 10 (.bin .mul (.i .i64) (.t 6) (.t 9)),
 iP 11 (.bin .sub (.i .i64) (.t 5) (.t 10)),
 iM 4 11])
 .ret))
def r42:List RS:=[.t 4]
theorem c42:chkF Tryz.prog drawB Tryz.f42 i42 r42=true:=by kernel_rfl
def i43:IC :=
 (.seq
 (.reg [
 iP 4 (.mov (.c (i64 0)))])
 (.seq
 (.reg [
 iM 5 0,
 iM 6 1,
 iP 7 (.bin .add (.i .i64) (.t 5) (.t 6)),
 iM 4 7])
 .ret))
def r43:List RS:=[.t 4]
theorem c43:chkF Tryz.prog drawB Tryz.f43 i43 r43=true:=by kernel_rfl
def i44:IC :=
 (.seq
 (.reg [
 iP 4 (.mov (.c (i64 0)))])
 (.seq
 (.reg [
 iM 5 0,
 iM 6 1,
 iP 7 (.bin .sub (.i .i64) (.t 5) (.t 6)),
 iM 4 7])
 .ret))
def r44:List RS:=[.t 4]
theorem c44:chkF Tryz.prog drawB Tryz.f44 i44 r44=true:=by kernel_rfl
def i45:IC :=
 (.seq
 (.reg [
 iP 4 (.mov (.c (i64 0)))])
 (.seq
 (.reg [
 iM 5 0,
 iM 6 1,
 iP 7 (.bin .eql (.i .i64) (.t 5) (.t 6)),
 iC 8 46 [.t 7],
 iM 4 8])
 .ret))
def r45:List RS:=[.t 4]
theorem c45:chkF Tryz.prog drawB Tryz.f45 i45 r45=true:=by kernel_rfl
def i46:IC :=
 (.seq
 (.reg [
 iP 2 (.mov (.c (i64 0)))])
 (.seq
 (.seq
 (.reg [
 iM 3 0])
 (.cond (.t 3)
 (.seq
 (.reg [
 iP 2 (.mov (.c (i64 1)))])
 .ret)
 .skip))
 (.seq
 (.reg [
 iP 2 (.mov (.c (i64 0)))])
 .ret)))
def r46:List RS:=[.t 2]
theorem c46:chkF Tryz.prog drawB Tryz.f46 i46 r46=true:=by kernel_rfl
def i47:IC :=
 (.seq
 (.reg [
 iP 4 (.mov (.c (i64 0)))])
 (.seq
 (.reg [
 iM 5 0,
 iM 6 1,
 iP 7 (.bin .neq (.i .i64) (.t 5) (.t 6)),
 iC 8 46 [.t 7],
 iM 4 8])
 .ret))
def r47:List RS:=[.t 4]
theorem c47:chkF Tryz.prog drawB Tryz.f47 i47 r47=true:=by kernel_rfl
def i48:IC :=
 (.seq
 (.reg [
 iP 4 (.mov (.c (i64 0)))])
 (.seq
 (.reg [
 iM 5 0,
 iM 6 1,
 iP 7 (.bin .lss (.i .i64) (.t 5) (.t 6)),
 iC 8 46 [.t 7],
 iM 4 8])
 .ret))
def r48:List RS:=[.t 4]
theorem c48:chkF Tryz.prog drawB Tryz.f48 i48 r48=true:=by kernel_rfl
def i49:IC :=
 (.seq
 (.reg [
 iP 4 (.mov (.c (i64 0)))])
 (.seq
 (.reg [
 iM 5 0,
 iM 6 1,
 iP 7 (.bin .leq (.i .i64) (.t 5) (.t 6)),
 iC 8 46 [.t 7],
 iM 4 8])
 .ret))
def r49:List RS:=[.t 4]
theorem c49:chkF Tryz.prog drawB Tryz.f49 i49 r49=true:=by kernel_rfl
def i50:IC :=
 (.seq
 (.reg [
 iP 4 (.mov (.c (i64 0)))])
 (.seq
 (.reg [
 iM 5 0,
 iM 6 1,
 iP 7 (.bin .gtr (.i .i64) (.t 5) (.t 6)),
 iC 8 46 [.t 7],
 iM 4 8])
 .ret))
def r50:List RS:=[.t 4]
theorem c50:chkF Tryz.prog drawB Tryz.f50 i50 r50=true:=by kernel_rfl
def i51:IC :=
 (.seq
 (.reg [
 iP 4 (.mov (.c (i64 0)))])
 (.seq
 (.reg [
 iM 5 0,
 iM 6 1,
 iP 7 (.bin .geq (.i .i64) (.t 5) (.t 6)),
 iC 8 46 [.t 7],
 iM 4 8])
 .ret))
def r51:List RS:=[.t 4]
theorem c51:chkF Tryz.prog drawB Tryz.f51 i51 r51=true:=by kernel_rfl
def i52:IC :=
 (.seq
 (.reg [
 iP 4 (.mov (.c (i64 0)))])
 (.seq
 (.reg [
 iM 5 0,
 iM 6 1,
 iP 7 (.mm false .i64 (.t 5) (.t 6)),
 iM 4 7])
 .ret))
def r52:List RS:=[.t 4]
theorem c52:chkF Tryz.prog drawB Tryz.f52 i52 r52=true:=by kernel_rfl
def i53:IC :=
 (.seq
 (.reg [
 iP 4 (.mov (.c (i64 0)))])
 (.seq
 (.reg [
 iM 5 0,
 iM 6 1,
 iP 7 (.mm true .i64 (.t 5) (.t 6)),
 iM 4 7])
 .ret))
def r53:List RS:=[.t 4]
theorem c53:chkF Tryz.prog drawB Tryz.f53 i53 r53=true:=by kernel_rfl
def i54s:List Ins:=[]
def i54:IC :=
 (.blk 0
 (.seq
 (.reg [
 iP 7 (.ifn false true (.t 5))])
 (.cond (.t 7)
 (.reg [
 iM 2 5])
 (.seq
 (.reg [
 iP 8 (.tas 31 true (i64 0) (.t 5)),
 iP 9 (.ext (.t 8) 1),
 iP 10 (.ext (.t 8) 0)])
 (.cond (.t 9)
 (.seq
 (.reg [
 iM 3 10])
 (.reg [
 iP 11 (.bld [i64 0,i64 0] []),
 iM 12 3,
 ⟨none,none,.e (.st 2 (.t 0) (.t 11))⟩,
 ⟨none,none,.e (.st 1 (.t 1) (.t 12))⟩]))
 (.seq
 (.reg [
 iM 4 5])
 (.reg [
 iP 6 (.bld [i64 0,i64 0] []),
 ⟨none,none,.e (.st 2 (.t 0) (.t 6))⟩,
 ⟨none,none,.e (.st 1 (.t 1) (.c (i64 3)))⟩])))))))
theorem c54:chkRc Tryz.prog drawB Tryz.f54 5 i54s i54=true:=by kernel_rfl
def i57:IC :=
 (.seq
 (.reg [
 iP 2 (.mov (.c (i64 0)))])
 (.seq
 (.blk 0
 (.seq
 (.reg [
 iM 4 0,
 iP 5 (.bin .eql (.i .i64) (.t 4) (.c (i64 1))),
 iM 6 5,
 iG 7 6 false (.mov (.t 0)),
 iG 8 6 false (.bin .eql (.i .i64) (.t 7) (.c (i64 2))),
 iP 9 (.pick (.t 6) (.c (bl true)) (.t 8)),
 iM 3 9])
 (.cond (.t 3)
 (.seq
 (.reg [
 iP 2 (.mov (.c (i64 0)))])
 .ret)
 (.seq
 (.reg [
 iM 11 0,
 iP 12 (.bin .eql (.i .i64) (.t 11) (.c (i64 3))),
 iM 13 12,
 iG 14 13 false (.mov (.t 0)),
 iG 15 13 false (.bin .eql (.i .i64) (.t 14) (.c (i64 4))),
 iP 16 (.pick (.t 13) (.c (bl true)) (.t 15)),
 iM 10 16])
 (.cond (.t 10)
 (.seq
 (.reg [
 iP 2 (.mov (.c (i64 1)))])
 .ret)
 (.seq
 (.reg [
 iM 18 0,
 iP 19 (.bin .eql (.i .i64) (.t 18) (.c (i64 20))),
 iM 17 19])
 (.cond (.t 17)
 (.seq
 (.reg [
 iP 2 (.mov (.c (i64 3)))])
 .ret)
 (.seq
 (.reg [
 iM 21 0,
 iP 22 (.bin .gtr (.i .i64) (.t 21) (.c (i64 4))),
 iM 23 22,
 iG 24 23 true (.mov (.t 0)),
 iG 25 23 true (.bin .lss (.i .i64) (.t 24) (.c (i64 20))),
 iP 26 (.pick (.t 23) (.t 25) (.c (bl false))),
 iM 20 26])
 (.cond (.t 20)
 (.seq
 (.reg [
 iP 2 (.mov (.c (i64 2)))])
 .ret)
 .skip)))))))))
 (.seq
 (.reg [
 iP 2 (.mov (.c (i64 (-1))))])
 .ret)))
def r57:List RS:=[.t 2]
theorem c57:chkF Tryz.prog drawB Tryz.f57 i57 r57=true:=by kernel_rfl
def i58:IC :=
 (.seq
 (.reg [
 iE 2 (.alc 30 [i64 0,i64 0])])
 (.seq
 (.seq
 (.reg [
 iM 3 0,
 iP 4 (.bin .lss (.i .i64) (.t 3) (.c (i64 (-1000000000000)))),
 iM 5 4,
 iG 6 5 false (.mov (.t 0)),
 iG 7 5 false (.bin .gtr (.i .i64) (.t 6) (.c (i64 1000000000000))),
 iP 8 (.pick (.t 5) (.c (bl true)) (.t 7))])
 (.cond (.t 8)
 (.reg [
 iP 9 (.mki 31 (.c (i64 5))),
 ⟨none,none,.e (.pan (.t 9))⟩])
 .skip))
 (.seq
 (.reg [
 iM 10 0,
 iP 11 (.bld [i64 0,i64 0] [(0,1,(.c (i64 1))),(1,1,(.t 10))]),
 ⟨none,none,.e (.st 2 (.t 2) (.t 11))⟩])
 .ret)))
def r58:List RS:=[.cn 2 2]
theorem c58:chkF Tryz.prog drawB Tryz.f58 i58 r58=true:=by kernel_rfl
def i59:IC :=
 (.seq
 (.reg [
 iE 5 (.box 76 (.t 2)),
 iE 6 (.alc 30 [i64 0,i64 0])])
 (.seq
 (.reg [
 iP 12 (.mkf (.func 81) [] [(.t 5)]),
 iE 7 (.alc 47 [.val .nilFunc]),
 ⟨none,none,.e (.st 1 (.t 7) (.t 12))⟩])
 (.seq
 (.reg [
 iP 13 (.mkf (.func 82) [] [(.t 7)]),
 iM 8 13])
 (.seq
 (.seq
 (.reg [
 iM 14 1])
 (.blk 0
 (.seq
 (.reg [
 iP 16 (.bin .eql (.i .i64) (.t 14) (.c (i64 3))),
 iM 15 16])
 (.cond (.t 15)
 (.seq
 (.reg [
 iL 17 7,
 iE 18 (.call (.t 17) [(.c (i64 0)),(.c (i64 1))]),
 iP 19 (.neg .i64 (.t 18)),
 iC 20 58 [.t 19],
 ⟨none,none,.e (.st 2 (.t 6) (.t 20))⟩])
 .ret)
 (.seq
 (.reg [
 iP 22 (.bin .eql (.i .i64) (.t 14) (.c (i64 4))),
 iM 21 22])
 (.cond (.t 21)
 (.seq
 (.reg [
 iM 23 8,
 iE 24 (.call (.t 23) [(.c (i64 0))]),
 iP 25 (.not (.t 24)),
 iC 26 83 [.t 25],
 ⟨none,none,.e (.st 2 (.t 6) (.t 26))⟩])
 .ret)
 (.seq
 (.reg [
 iP 28 (.bin .eql (.i .i64) (.t 14) (.c (i64 16))),
 iM 27 28])
 (.cond (.t 27)
 (.seq
 (.reg [
 iM 29 8,
 iE 30 (.call (.t 29) [(.c (i64 0))]),
 iM 31 30,
 iG 32 31 true (.mov (.t 8)),
 ⟨(some 33),(some (31,true)),.e (.call (.t 32) [(.c (i64 1))])⟩,
 iP 34 (.pick (.t 31) (.t 33) (.c (bl false))),
 iC 35 83 [.t 34],
 ⟨none,none,.e (.st 2 (.t 6) (.t 35))⟩])
 .ret)
 (.seq
 (.reg [
 iP 37 (.bin .eql (.i .i64) (.t 14) (.c (i64 17))),
 iM 36 37])
 (.cond (.t 36)
 (.seq
 (.reg [
 iM 38 8,
 iE 39 (.call (.t 38) [(.c (i64 0))]),
 iM 40 39,
 iG 41 40 false (.mov (.t 8)),
 ⟨(some 42),(some (40,false)),.e (.call (.t 41) [(.c (i64 1))])⟩,
 iP 43 (.pick (.t 40) (.c (bl true)) (.t 42)),
 iC 44 83 [.t 43],
 ⟨none,none,.e (.st 2 (.t 6) (.t 44))⟩])
 .ret)
 (.seq
 (.reg [
 iP 46 (.bin .eql (.i .i64) (.t 14) (.c (i64 20))),
 iM 45 46])
 (.cond (.t 45)
 (.seq
 (.seq
 (.reg [
 iM 47 8,
 iE 48 (.call (.t 47) [(.c (i64 0))])])
 (.cond (.t 48)
 (.seq
 (.reg [
 iL 49 5,
 iE 50 (.call (.t 49) [(.c (i64 1))]),
 ⟨none,none,.e (.st 2 (.t 6) (.t 50))⟩])
 .ret)
 .skip))
 (.seq
 (.reg [
 iL 51 5,
 iE 52 (.call (.t 51) [(.c (i64 2))]),
 ⟨none,none,.e (.st 2 (.t 6) (.t 52))⟩])
 .ret))
 .skip))))))))))))
 (.seq
 (.reg [
 iL 53 7,
 iE 54 (.call (.t 53) [(.c (i64 0)),(.c (i64 1))]),
 iM 9 54])
 (.seq
 (.reg [
 iL 55 7,
 iE 56 (.call (.t 55) [(.c (i64 1)),(.c (i64 1))]),
 iM 10 56])
 (.seq
 (.seq
 (.reg [
 iM 57 10,
 iP 58 (.bin .eql (.i .i64) (.t 57) (.c (i64 0))),
 iM 59 58,
 iG 60 59 true (.mov (.t 1)),
 iG 61 59 true (.bin .eql (.i .i64) (.t 60) (.c (i64 6))),
 iG 62 59 true (.mov (.t 61)),
 iG 63 62 false (.mov (.t 1)),
 iG 64 62 false (.bin .eql (.i .i64) (.t 63) (.c (i64 7))),
 iG 65 59 true (.pick (.t 62) (.c (bl true)) (.t 64)),
 iP 66 (.pick (.t 59) (.t 65) (.c (bl false)))])
 (.cond (.t 66)
 (.reg [
 iP 67 (.mki 31 (.c (i64 6))),
 ⟨none,none,.e (.pan (.t 67))⟩])
 .skip))
 (.seq
 (.reg [
 iM 68 0,
 iP 69 (.nck (.t 68)),
 iF 70 1 69,
 iL 71 70,
 iM 72 1,
 iP 73 (.lkp (.i .i64) false (.val .nilFunc) (.t 71) (.t 72)),
 iM 74 9,
 iM 75 10,
 iE 76 (.call (.t 73) [(.t 74),(.t 75)]),
 iM 11 76])
 (.seq
 (.seq
 (.reg [
 iM 77 1,
 iP 78 (.bin .geq (.i .i64) (.t 77) (.c (i64 10))),
 iM 79 78,
 iG 80 79 true (.mov (.t 1)),
 iG 81 79 true (.bin .leq (.i .i64) (.t 80) (.c (i64 15))),
 iP 82 (.pick (.t 79) (.t 81) (.c (bl false)))])
 (.cond (.t 82)
 (.seq
 (.reg [
 iM 83 11,
 iP 84 (.bin .eql (.i .i64) (.t 83) (.c (i64 1))),
 iC 85 83 [.t 84],
 ⟨none,none,.e (.st 2 (.t 6) (.t 85))⟩])
 .ret)
 .skip))
 (.seq
 (.reg [
 iM 86 11,
 iC 87 58 [.t 86],
 ⟨none,none,.e (.st 2 (.t 6) (.t 87))⟩])
 .ret))))))))))
def r59:List RS:=[.cn 6 2]
theorem c59:chkF Tryz.prog drawB Tryz.f59 i59 r59=true:=by kernel_rfl
def i60:IC :=
 (.seq
 (.reg [
 iE 5 (.alc 30 [i64 0,i64 0])])
 (.seq
 (.drw [0,1,2,3,4,5,6,7,8,9] [
 iL 6 1,
 iF 7 3 2,
 iL 8 7,
 iM 9 0,
 iP 10 (.ia 5 (.t 8) (.t 9)),
 iP 11 (.ldn 5 (.t 10)),
 iL 12 3,
 iP 13 (.bin .add (.i .i64) (.t 12) (.c (i64 1))),
 iC 14 28 [.t 6,.t 11,.t 13],
 ⟨none,none,.e (.stw [12,11,8,6] 2 (.t 5) (.t 14))⟩])
 .ret))
def r60:List RS:=[.cn 5 2]
theorem c60:chkF Tryz.prog drawB Tryz.f60 i60 r60=true:=by kernel_rfl
def l66_1:IC:=.keep [0,3,4,5]
 (.seq
 (.seq
 (.reg [
 iM 27 5,
 iM 28 0,
 iP 29 (.lens (.t 28)),
 iP 30 (.bin .lss (.i .i64) (.t 27) (.t 29)),
 iM 31 30,
 iG 32 31 true (.mov (.t 0)),
 iG 33 31 true (.mov (.t 5)),
 iG 34 31 true (.ixs (.t 32) (.t 33)),
 iG 35 31 true (.bin .neq (.i .u8) (.t 34) (.c (.val (.int .u8 10)))),
 iP 36 (.pick (.t 31) (.t 35) (.c (bl false)))])
 (.cond (.t 36)
 .skip
 (.exit 2)))
 (.blk 3
 (.reg [
 iM 37 5,
 iP 38 (.bin .add (.i .i64) (.t 37) (.c (i64 1))),
 iM 5 38])))
def l66_0:IC:=.keep [0,3,4,5]
 (.seq
 (.seq
 (.reg [
 iM 13 5,
 iM 14 0,
 iP 15 (.lens (.t 14)),
 iP 16 (.bin .lss (.i .i64) (.t 13) (.t 15))])
 (.cond (.t 16)
 .skip
 (.exit 0)))
 (.blk 1
 (.seq
 (.seq
 (.reg [
 iM 17 0,
 iM 18 5,
 iP 19 (.ixs (.t 17) (.t 18)),
 iC 20 85 [.t 19]])
 (.cond (.t 20)
 (.seq
 (.reg [
 iM 21 5,
 iP 22 (.bin .add (.i .i64) (.t 21) (.c (i64 1))),
 iM 5 22])
 (.exit 1))
 .skip))
 (.seq
 (.seq
 (.reg [
 iM 23 0,
 iM 24 5,
 iP 25 (.ixs (.t 23) (.t 24)),
 iP 26 (.bin .eql (.i .u8) (.t 25) (.c (.val (.int .u8 35))))])
 (.cond (.t 26)
 (.seq
 (.blk 2
 (.loop l66_1))
 (.exit 1))
 .skip))
 (.seq
 (.reg [
 iM 40 0,
 iM 41 5,
 iC 42 86 [.t 40,.t 41],
 iM 39 42,
 iP 43 (.ext (.t 39) 0),
 iP 44 (.ext (.t 39) 1),
 iP 45 (.ext (.t 39) 2),
 iE 6 (.alc 105 [i64 0,st ⟨#[]⟩,i64 0,i64 0]),
 iE 8 (.alc 59 [i64 0,i64 0]),
 ⟨none,none,.e (.st 4 (.t 6) (.t 43))⟩,
 iM 7 44,
 ⟨none,none,.e (.st 2 (.t 8) (.t 45))⟩])
 (.seq
 (.seq
 (.reg [
 iF 46 0 8,
 iL 47 46,
 iP 48 (.bin .neq (.i .i64) (.t 47) (.c (i64 0)))])
 (.cond (.t 48)
 (.seq
 (.drw [0,1,2] [
 iP 49 (.ldn 2 (.t 8)),
 iP 2 (.mov (.c (.val (.slice none 0 0)))),
 ⟨none,none,.e (.st 2 (.t 3) (.t 49))⟩])
 .ret)
 .skip))
 (.seq
 (.seq
 (.reg [
 iM 50 4,
 iP 51 (.len (.t 50)),
 iP 52 (.bin .eql (.i .i64) (.t 51) (.c (i64 5000)))])
 (.cond (.t 52)
 (.seq
 (.reg [
 iM 53 5,
 iP 54 (.bld [i64 0,i64 0] [(0,1,(.c (i64 12))),(1,1,(.t 53))]),
 iP 2 (.mov (.c (.val (.slice none 0 0)))),
 ⟨none,none,.e (.st 2 (.t 3) (.t 54))⟩])
 .ret)
 .skip))
 (.seq
 (.seq
 (.reg [
 iF 55 0 6,
 iL 56 55,
 iP 57 (.bin .eql (.i .i64) (.t 56) (.c (i64 2))),
 iM 58 57,
 iG 59 58 true (.mov (.t 7)),
 iG 60 58 true (.mov (.t 0)),
 iG 61 58 true (.lens (.t 60)),
 iG 62 58 true (.bin .lss (.i .i64) (.t 59) (.t 61)),
 iP 63 (.pick (.t 58) (.t 62) (.c (bl false))),
 iM 64 63,
 iG 65 64 true (.mov (.t 0)),
 iG 66 64 true (.mov (.t 7)),
 iG 67 64 true (.ixs (.t 65) (.t 66)),
 ⟨(some 68),(some (64,true)),.q (.c (.fn (.func 87) [] [])) [(.t 67)]⟩,
 iP 69 (.pick (.t 64) (.t 68) (.c (bl false)))])
 (.cond (.t 69)
 (.seq
 (.reg [
 iM 70 7,
 iP 71 (.bld [i64 0,i64 0] [(0,1,(.c (i64 11))),(1,1,(.t 70))]),
 iP 2 (.mov (.c (.val (.slice none 0 0)))),
 ⟨none,none,.e (.st 2 (.t 3) (.t 71))⟩])
 .ret)
 .skip))
 (.seq
 (.reg [
 iM 72 4,
 iP 73 (.ldn 4 (.t 6)),
 iE 74 (.bsl 105 4 1 [i64 0,st ⟨#[]⟩,i64 0,i64 0] [(0,(.t 73))]),
 iE 75 (.app 105 4 40 (.t 72) (.t 74)),
 iM 4 75])
 (.reg [
 iM 76 7,
 iM 5 76]))))))))))
def i66:IC :=
 (.seq
 (.reg [
 iP 2 (.mov (.c (.val (.slice none 0 0)))),
 iE 3 (.alc 59 [i64 0,i64 0])])
 (.seq
 (.seq
 (.reg [
 iM 9 0,
 iP 10 (.lens (.t 9)),
 iP 11 (.bin .gtr (.i .i64) (.t 10) (.c (i64 20000)))])
 (.cond (.t 11)
 (.seq
 (.reg [
 iP 12 (.bld [i64 0,i64 0] [(0,1,(.c (i64 4))),(1,1,(.c (i64 20000)))]),
 iP 2 (.mov (.c (.val (.slice none 0 0)))),
 ⟨none,none,.e (.st 2 (.t 3) (.t 12))⟩])
 .ret)
 .skip))
 (.seq
 (.reg [
 iE 4 (.nil 105 4 (.c (.val (.slice none 0 0))))])
 (.seq
 (.reg [
 iP 5 (.mov (.c (i64 0)))])
 (.seq
 (.blk 0
 (.loop l66_0))
 (.seq
 (.reg [
 iM 77 4,
 iP 78 (.bld [i64 0,i64 0] []),
 iM 2 77,
 ⟨none,none,.e (.st 2 (.t 3) (.t 78))⟩])
 .ret))))))
def r66:List RS:=[.t 2,.cn 3 2]
theorem c66:chkF Tryz.prog drawB Tryz.f66 i66 r66=true:=by kernel_rfl
def l67_0:IC:=.keep [0,2,3]
 (.seq
 (.seq
 (.reg [
 iM 7 0,
 iC 8 89 [.t 7,(.c (st ⟨#[111,114]⟩))]])
 (.cond (.t 8)
 .skip
 (.exit 0)))
 (.blk 1
 (.seq
 (.reg [
 iM 9 0,
 iC 10 90 [.t 9,(.c (st ⟨#[111,114]⟩))],
 iM 4 10])
 (.drw [0,1,2,3,4,5] [
 iM 11 4,
 iP 12 (.ldn 5 (.t 3)),
 iM 13 0,
 iC 14 88 [.t 13],
 ⟨(some 15),none,.q (.c (.fn (.func 91) [] [])) [(.c (i64 17)),(.t 11),(.t 12),(.t 14)]⟩,
 ⟨none,none,.e (.st 5 (.t 3) (.t 15))⟩]))))
def i67:IC :=
 (.seq
 (.reg [
 iE 2 (.alc 24 [i64 0,i64 0,st ⟨#[]⟩,.val (.slice none 0 0),i64 0])])
 (.seq
 (.reg [
 iM 5 0,
 iC 6 88 [.t 5],
 iE 3 (.alc 24 [i64 0,i64 0,st ⟨#[]⟩,.val (.slice none 0 0),i64 0]),
 ⟨none,none,.e (.st 5 (.t 3) (.t 6))⟩])
 (.seq
 (.blk 0
 (.loop l67_0))
 (.seq
 (.reg [
 iP 16 (.ldn 5 (.t 3)),
 ⟨none,none,.e (.st 5 (.t 2) (.t 16))⟩])
 .ret))))
def r67:List RS:=[.cn 2 5]
theorem c67:chkF Tryz.prog drawB Tryz.f67 i67 r67=true:=by kernel_rfl
def i68:IC :=
 (.seq
 (.reg [
 iM 4 0,
 iC 5 69 [.t 4],
 iP 6 (.not (.t 5))])
 (.cond (.t 6)
 (.reg [
 iM 7 0,
 iM 8 1,
 iM 9 0,
 iC 10 92 [.t 9],
 iP 11 (.bld [i64 0,i64 0] [(0,1,(.t 8)),(1,1,(.t 10))]),
 iP 12 (.nck (.t 7)),
 iF 13 4 12,
 ⟨none,none,.e (.st 2 (.t 13) (.t 11))⟩])
 .skip))
def r68:List RS:=[]
theorem c68:chkF Tryz.prog drawB Tryz.f68 i68 r68=true:=by kernel_rfl
def i69:IC :=
 (.seq
 (.reg [
 iP 2 (.mov (.c (bl false)))])
 (.seq
 (.reg [
 iM 3 0,
 iP 4 (.nck (.t 3)),
 iF 5 4 4,
 iF 6 0 5,
 iL 7 6,
 iP 8 (.bin .neq (.i .i64) (.t 7) (.c (i64 0))),
 iM 2 8])
 .ret))
def r69:List RS:=[.t 2]
theorem c69:chkF Tryz.prog drawB Tryz.f69 i69 r69=true:=by kernel_rfl
def i70:IC :=
 (.seq
 (.reg [
 iP 2 (.mov (.c (i64 0)))])
 (.seq
 (.blk 0
 (.seq
 (.reg [
 iM 4 0,
 iP 5 (.bin .eql (.i .i64) (.t 4) (.c (i64 1))),
 iM 6 5,
 iG 7 6 false (.mov (.t 0)),
 iG 8 6 false (.bin .eql (.i .i64) (.t 7) (.c (i64 2))),
 iP 9 (.pick (.t 6) (.c (bl true)) (.t 8)),
 iM 3 9])
 (.cond (.t 3)
 (.seq
 (.reg [
 iP 2 (.mov (.c (i64 0)))])
 .ret)
 (.seq
 (.reg [
 iM 11 0,
 iP 12 (.bin .eql (.i .i64) (.t 11) (.c (i64 3))),
 iM 13 12,
 iG 14 13 false (.mov (.t 0)),
 iG 15 13 false (.bin .eql (.i .i64) (.t 14) (.c (i64 4))),
 iP 16 (.pick (.t 13) (.c (bl true)) (.t 15)),
 iM 10 16])
 (.cond (.t 10)
 (.seq
 (.reg [
 iP 2 (.mov (.c (i64 1)))])
 .ret)
 (.seq
 (.reg [
 iM 18 0,
 iP 19 (.bin .eql (.i .i64) (.t 18) (.c (i64 20))),
 iM 17 19])
 (.cond (.t 17)
 (.seq
 (.reg [
 iP 2 (.mov (.c (i64 3)))])
 .ret)
 (.seq
 (.reg [
 iM 21 0,
 iP 22 (.bin .geq (.i .i64) (.t 21) (.c (i64 5))),
 iM 23 22,
 iG 24 23 true (.mov (.t 0)),
 iG 25 23 true (.bin .leq (.i .i64) (.t 24) (.c (i64 19))),
 iP 26 (.pick (.t 23) (.t 25) (.c (bl false))),
 iM 20 26])
 (.cond (.t 20)
 (.seq
 (.reg [
 iP 2 (.mov (.c (i64 2)))])
 .ret)
 .skip)))))))))
 (.seq
 (.reg [
 iP 2 (.mov (.c (i64 (-1))))])
 .ret)))
def r70:List RS:=[.t 2]
theorem c70:chkF Tryz.prog drawB Tryz.f70 i70 r70=true:=by kernel_rfl
def i71:IC :=
 (.seq
 (.reg [
 iP 2 (.mov (.c (bl false)))])
 (.seq
 (.reg [
 iM 3 0,
 iP 4 (.bld [i64 0,st ⟨#[]⟩,i64 0,i64 0] [(0,1,(.c (i64 1))),(1,1,(.t 3))]),
 iC 5 93 [.t 4],
 iP 6 (.bin .eql (.i .i64) (.t 5) (.c (i64 0))),
 iM 7 6,
 iG 8 7 true (.mov (.t 0)),
 ⟨(some 9),(some (7,true)),.q (.c (.fn (.func 94) [] [])) [(.t 8)]⟩,
 iG 10 7 true (.not (.t 9)),
 iP 11 (.pick (.t 7) (.t 10) (.c (bl false))),
 iM 2 11])
 .ret))
def r71:List RS:=[.t 2]
theorem c71:chkF Tryz.prog drawB Tryz.f71 i71 r71=true:=by kernel_rfl
def i72:IC :=
 (.seq
 (.reg [
 iP 2 (.mov (.c (st ⟨#[]⟩)))])
 (.seq
 (.seq
 (.reg [
 iM 3 0,
 iP 4 (.bin .gtr (.i .i64) (.t 3) (.c (i64 9)))])
 (.cond (.t 4)
 (.seq
 (.reg [
 iM 5 0,
 iP 6 (.bin .quo (.i .i64) (.t 5) (.c (i64 10))),
 iC 7 72 [.t 6],
 iM 8 0,
 iP 9 (.bin .rem (.i .i64) (.t 8) (.c (i64 10))),
 iC 10 72 [.t 9],
 iP 11 (.bin .add .s (.t 7) (.t 10)),
 iM 2 11])
 .ret)
 .skip))
 (.seq
 (.reg [
 iM 12 0,
 iP 13 (.bin .add (.i .i64) (.c (i64 48)) (.t 12)),
 iP 14 (.cvi .i32 (.t 13)),
 iP 15 (.rst (.t 14)),
 iM 2 15])
 .ret)))
def r72:List RS:=[.t 2]
theorem c72:chkF Tryz.prog drawB Tryz.f72 i72 r72=true:=by kernel_rfl
def i73:IC :=
 (.seq
 (.reg [
 iE 1 (.box 24 (.t 0)),
 iP 2 (.mov (.c (st ⟨#[]⟩)))])
 (.seq
 (.seq
 (.reg [
 iF 3 0 1,
 iL 4 3,
 iP 5 (.bin .eql (.i .i64) (.t 4) (.c (i64 1))),
 iM 6 5,
 iG 7 6 false (.fa 0 (.t 1)),
 iG 8 6 false (.ld1 (.t 7)),
 iG 9 6 false (.bin .eql (.i .i64) (.t 8) (.c (i64 2))),
 iP 10 (.pick (.t 6) (.c (bl true)) (.t 9)),
 iM 11 10,
 iG 12 11 false (.fa 0 (.t 1)),
 iG 13 11 false (.ld1 (.t 12)),
 iG 14 11 false (.bin .geq (.i .i64) (.t 13) (.c (i64 18))),
 iP 15 (.pick (.t 11) (.c (bl true)) (.t 14))])
 (.cond (.t 15)
 (.seq
 (.reg [
 iP 16 (.ldn 5 (.t 1)),
 iC 17 33 [.t 16],
 iM 2 17])
 .ret)
 .skip))
 (.seq
 (.reg [
 iP 18 (.ldn 5 (.t 1)),
 iC 19 33 [.t 18],
 iP 20 (.bin .add .s (.c (st ⟨#[40]⟩)) (.t 19)),
 iP 21 (.bin .add .s (.t 20) (.c (st ⟨#[41]⟩))),
 iM 2 21])
 .ret)))
def r73:List RS:=[.t 2]
theorem c73:chkF Tryz.prog drawB Tryz.f73 i73 r73=true:=by kernel_rfl
def l74_0:IC:=.keep [0,3,4]
 (.seq
 (.seq
 (.reg [
 iM 5 4,
 iM 6 0,
 iP 7 (.len (.t 6)),
 iP 8 (.bin .lss (.i .i64) (.t 5) (.t 7))])
 (.cond (.t 8)
 .skip
 (.exit 0)))
 (.seq
 (.blk 1
 (.seq
 (.seq
 (.reg [
 iM 11 4,
 iP 12 (.bin .gtr (.i .i64) (.t 11) (.c (i64 0)))])
 (.cond (.t 12)
 (.reg [
 iM 13 3,
 iP 14 (.bin .add .s (.t 13) (.c (st ⟨#[44,32]⟩))),
 iM 3 14])
 .skip))
 (.reg [
 iM 15 3,
 iM 16 0,
 iM 17 4,
 iP 18 (.ia 5 (.t 16) (.t 17)),
 iP 19 (.ldn 5 (.t 18)),
 iC 20 33 [.t 19],
 iP 21 (.bin .add .s (.t 15) (.t 20)),
 iM 3 21])))
 (.reg [
 iM 9 4,
 iP 10 (.bin .add (.i .i64) (.t 9) (.c (i64 1))),
 iM 4 10])))
def i74:IC :=
 (.seq
 (.reg [
 iP 2 (.mov (.c (st ⟨#[]⟩)))])
 (.seq
 (.reg [
 iP 3 (.mov (.c (st ⟨#[]⟩)))])
 (.seq
 (.seq
 (.reg [
 iP 4 (.mov (.c (i64 0)))])
 (.blk 0
 (.loop l74_0)))
 (.seq
 (.reg [
 iM 22 3,
 iM 2 22])
 .ret))))
def r74:List RS:=[.t 2]
theorem c74:chkF Tryz.prog drawB Tryz.f74 i74 r74=true:=by kernel_rfl
def i77:IC :=
 (.seq
 (.reg [
 iE 3 (.box 24 (.t 1)),
 iP 4 (.mov (.c (i64 0))),
 iE 5 (.alc 59 [i64 0,i64 0])])
 (.seq
 (.reg [
 iM 8 0,
 iC 9 97 [.t 8],
 iE 6 (.alc 114 [.val (.map none),.val (.map none)]),
 ⟨none,none,.e (.st 2 (.t 6) (.t 9))⟩])
 (.seq
 (.reg [
 iP 11 (.ldn 5 (.t 3)),
 iC 12 98 [.t 6,.t 11,(.c (i64 0))],
 iM 10 12,
 iP 13 (.ext (.t 10) 0),
 iP 14 (.ext (.t 10) 1),
 iM 4 13,
 iM 7 14])
 (.seq
 (.seq
 (.reg [
 iM 15 7,
 iP 16 (.ifn true true (.t 15))])
 (.cond (.t 16)
 (.seq
 (.reg [
 iM 17 7,
 iC 18 99 [.t 17],
 iP 4 (.mov (.c (i64 0))),
 ⟨none,none,.e (.st 2 (.t 5) (.t 18))⟩])
 .ret)
 .skip))
 (.seq
 (.reg [
 iM 19 4,
 iP 20 (.bld [i64 0,i64 0] []),
 iM 4 19,
 ⟨none,none,.e (.st 2 (.t 5) (.t 20))⟩])
 .ret)))))
def r77:List RS:=[.t 4,.cn 5 2]
theorem c77:chkF Tryz.prog drawB Tryz.f77 i77 r77=true:=by kernel_rfl
def l78_0:IC:=.keep [2,3,4,6,7,8,43,44,45]
 (.seq
 (.reg [
 iP 46 (.bin .lss (.i .i64) (.t 45) (.t 44))])
 (.seq
 (.cond (.t 46)
 .skip
 (.exit 0))
 (.seq
 (.blk 1
 (.seq
 (.reg [
 iP 47 (.ia 5 (.t 43) (.t 45)),
 iP 48 (.ldn 5 (.t 47)),
 iE 10 (.alc 24 [i64 0,i64 0,st ⟨#[]⟩,.val (.slice none 0 0),i64 0]),
 ⟨none,none,.e (.st 5 (.t 10) (.t 48))⟩])
 (.seq
 (.reg [
 iL 49 3,
 iP 50 (.ldn 5 (.t 10)),
 iM 51 2,
 iP 52 (.bin .add (.i .i64) (.t 51) (.c (i64 1))),
 iC 53 78 [.t 49,.t 50,.t 52],
 iE 11 (.alc 98 [i64 0,i64 0,st ⟨#[]⟩,.val (.slice none 0 0),i64 0,bl false,i64 0,i64 0,i64 0]),
 ⟨none,none,.e (.st 9 (.t 11) (.t 53))⟩])
 (.seq
 (.reg [
 iL 54 8,
 iP 55 (.ldn 9 (.t 11)),
 iE 56 (.bsl 98 9 1 [i64 0,i64 0,st ⟨#[]⟩,.val (.slice none 0 0),i64 0,bl false,i64 0,i64 0,i64 0] [(0,(.t 55))]),
 iE 57 (.app 98 9 96 (.t 54) (.t 56)),
 ⟨none,none,.e (.st 1 (.t 8) (.t 57))⟩])
 (.seq
 (.reg [
 iF 58 0 7,
 iF 59 3 58,
 iL 60 59,
 iF 61 0 11,
 iP 62 (.ldn 5 (.t 61)),
 iE 63 (.bsl 24 5 1 [i64 0,i64 0,st ⟨#[]⟩,.val (.slice none 0 0),i64 0] [(0,(.t 62))]),
 iE 64 (.app 24 5 64 (.t 60) (.t 63)),
 iF 65 0 7,
 iF 66 3 65,
 ⟨none,none,.e (.st 1 (.t 66) (.t 64))⟩])
 (.reg [
 iF 67 5 7,
 iL 68 67,
 iM 69 68,
 iG 70 69 true (.fa 5 (.t 11)),
 iG 71 69 true (.ld1 (.t 70)),
 iP 72 (.pick (.t 69) (.t 71) (.c (bl false))),
 iF 73 5 7,
 ⟨none,none,.e (.st 1 (.t 73) (.t 72))⟩]))))))
 (.reg [
 iP 74 (.bin .add (.i .i64) (.t 45) (.c (i64 1))),
 iM 45 74]))))
def i78:IC :=
 (.seq
 (.reg [
 iE 3 (.box 52 (.t 0)),
 iE 4 (.box 24 (.t 1)),
 iE 6 (.alc 98 [i64 0,i64 0,st ⟨#[]⟩,.val (.slice none 0 0),i64 0,bl false,i64 0,i64 0,i64 0])])
 (.seq
 (.seq
 (.reg [
 iM 12 2,
 iP 13 (.bin .eql (.i .i64) (.t 12) (.c (i64 100000)))])
 (.cond (.t 13)
 (.seq
 (.reg [
 iP 14 (.mkf (.func 101) [] [(.t 3),(.t 4)]),
 iC 15 100 [.t 14],
 ⟨none,none,.e (.st 9 (.t 6) (.t 15))⟩])
 .ret)
 .skip))
 (.seq
 (.reg [
 iP 16 (.ldn 5 (.t 4)),
 iF 17 0 4,
 iL 18 17,
 iP 19 (.bin .neq (.i .i64) (.t 18) (.c (i64 2))),
 iP 20 (.bld [i64 0,i64 0,st ⟨#[]⟩,.val (.slice none 0 0),i64 0,bl false,i64 0,i64 0,i64 0] [(0,5,(.t 16)),(5,1,(.t 19))]),
 iE 7 (.alc 98 [i64 0,i64 0,st ⟨#[]⟩,.val (.slice none 0 0),i64 0,bl false,i64 0,i64 0,i64 0]),
 ⟨none,none,.e (.st 9 (.t 7) (.t 20))⟩])
 (.seq
 (.reg [
 iF 21 0 7,
 iF 22 3 21,
 ⟨none,none,.e (.st 1 (.t 22) (.c (.val (.slice none 0 0))))⟩])
 (.seq
 (.seq
 (.reg [
 iF 23 0 4,
 iL 24 23,
 iP 25 (.bin .eql (.i .i64) (.t 24) (.c (i64 2)))])
 (.cond (.t 25)
 (.seq
 (.reg [
 iP 26 (.ldn 9 (.t 7)),
 ⟨none,none,.e (.st 9 (.t 6) (.t 26))⟩])
 .ret)
 .skip))
 (.seq
 (.seq
 (.reg [
 iF 27 0 4,
 iL 28 27,
 iP 29 (.bin .eql (.i .i64) (.t 28) (.c (i64 1)))])
 (.cond (.t 29)
 (.seq
 (.reg [
 iP 31 (.mkf (.func 102) [] [(.t 4)]),
 iC 32 26 [.t 31],
 iM 30 32,
 iP 33 (.ext (.t 30) 0),
 iP 34 (.ext (.t 30) 1),
 iF 35 6 7,
 ⟨none,none,.e (.st 2 (.t 35) (.t 33))⟩,
 iF 36 8 7,
 ⟨none,none,.e (.st 1 (.t 36) (.t 34))⟩])
 (.seq
 (.reg [
 iP 37 (.ldn 9 (.t 7)),
 ⟨none,none,.e (.st 9 (.t 6) (.t 37))⟩])
 .ret))
 .skip))
 (.seq
 (.reg [
 iF 38 3 4,
 iL 39 38,
 iP 40 (.len (.t 39)),
 iE 41 (.mks 98 9 96 [i64 0,i64 0,st ⟨#[]⟩,.val (.slice none 0 0),i64 0,bl false,i64 0,i64 0,i64 0] (.c (i64 0)) (.t 40)),
 iE 8 (.alc 123 [.val (.slice none 0 0)]),
 ⟨none,none,.e (.st 1 (.t 8) (.t 41))⟩])
 (.seq
 (.seq
 (.reg [
 iF 42 3 4,
 iL 43 42,
 iP 44 (.len (.t 43)),
 iP 45 (.mov (.c (i64 0)))])
 (.blk 0
 (.loop l78_0)))
 (.seq
 (.seq
 (.reg [
 iF 75 5 7,
 iL 76 75])
 (.cond (.t 76)
 (.seq
 (.reg [
 iP 78 (.mkf (.func 103) [] [(.t 3),(.t 4),(.t 8)]),
 iC 79 26 [.t 78],
 iM 77 79,
 iP 80 (.ext (.t 77) 0),
 iP 81 (.ext (.t 77) 1),
 iF 82 6 7,
 ⟨none,none,.e (.st 2 (.t 82) (.t 80))⟩,
 iF 83 8 7,
 ⟨none,none,.e (.st 1 (.t 83) (.t 81))⟩])
 (.seq
 (.reg [
 iF 84 8 7,
 iL 85 84,
 iP 86 (.bin .eql (.i .i64) (.t 85) (.c (i64 0))),
 iM 87 86,
 iG 88 87 true (.fa 6 (.t 7)),
 iG 89 87 true (.fa 0 (.t 88)),
 iG 90 87 true (.ld1 (.t 89)),
 iG 91 87 true (.bin .eql (.i .i64) (.t 90) (.c (i64 1))),
 iP 92 (.pick (.t 87) (.t 91) (.c (bl false))),
 iM 93 92,
 iG 94 93 true (.fa 6 (.t 7)),
 iG 95 93 true (.fa 1 (.t 94)),
 iG 96 93 true (.ld1 (.t 95)),
 iG 97 93 true (.fa 6 (.t 7)),
 iG 98 93 true (.fa 1 (.t 97)),
 iG 99 93 true (.ld1 (.t 98)),
 iG 100 93 true (.neg .i64 (.t 99)),
 iG 101 93 true (.mm true .i64 (.t 96) (.t 100)),
 iG 102 93 true (.bin .leq (.i .i64) (.t 101) (.c (i64 1000000000))),
 iP 103 (.pick (.t 93) (.t 102) (.c (bl false)))])
 (.cond (.t 103)
 (.seq
 (.reg [
 iF 104 6 7,
 iF 105 1 104,
 iL 106 105,
 iF 107 4 4,
 iL 108 107,
 iC 109 36 [.t 106,.t 108],
 iF 110 0 7,
 ⟨none,none,.e (.st 5 (.t 110) (.t 109))⟩])
 (.seq
 (.reg [
 iP 111 (.ldn 9 (.t 7)),
 ⟨none,none,.e (.st 9 (.t 6) (.t 111))⟩])
 .ret))
 .skip)))
 .skip))
 (.seq
 (.seq
 (.reg [
 iF 112 0 4,
 iL 113 112,
 iP 114 (.bin .eql (.i .i64) (.t 113) (.c (i64 20))),
 iM 115 114,
 iG 116 115 true (.ld1 (.t 8)),
 iG 117 115 true (.ia 9 (.t 116) (.c (i64 0))),
 iG 118 115 true (.fa 5 (.t 117)),
 iG 119 115 true (.ld1 (.t 118)),
 iP 120 (.pick (.t 115) (.t 119) (.c (bl false))),
 iM 121 120,
 iG 122 121 true (.ld1 (.t 8)),
 iG 123 121 true (.ia 9 (.t 122) (.c (i64 0))),
 iG 124 121 true (.fa 8 (.t 123)),
 iG 125 121 true (.ld1 (.t 124)),
 iG 126 121 true (.bin .eql (.i .i64) (.t 125) (.c (i64 0))),
 iP 127 (.pick (.t 121) (.t 126) (.c (bl false)))])
 (.cond (.t 127)
 (.seq
 (.drw [0,1,2,3,4,5,6,7,8,9] [
 iL 128 8,
 iL 129 8,
 iP 130 (.ia 9 (.t 129) (.c (i64 0))),
 iF 131 6 130,
 iF 132 1 131,
 iL 133 132,
 iP 134 (.bin .sub (.i .i64) (.c (i64 2)) (.t 133)),
 iP 135 (.ia 9 (.t 128) (.t 134)),
 iP 136 (.ldn 9 (.t 135)),
 ⟨none,none,.e (.st 9 (.t 6) (.t 136))⟩])
 .ret)
 .skip))
 (.seq
 (.reg [
 iP 137 (.ldn 9 (.t 7)),
 ⟨none,none,.e (.st 9 (.t 6) (.t 137))⟩])
 .ret)))))))))))
def r78:List RS:=[.cn 6 9]
theorem c78:chkF Tryz.prog drawB Tryz.f78 i78 r78=true:=by kernel_rfl
def i81:IC :=
 (.seq
 (.reg [
 iP 5 (.mov (.c (i64 0)))])
 (.seq
 (.reg [
 iL 7 2,
 iM 8 0,
 iE 9 (.call (.t 7) [(.t 8)]),
 iE 6 (.alc 30 [i64 0,i64 0]),
 ⟨none,none,.e (.st 2 (.t 6) (.t 9))⟩])
 (.seq
 (.seq
 (.reg [
 iF 10 0 6,
 iL 11 10,
 iM 12 1,
 iP 13 (.bin .neq (.i .i64) (.t 11) (.t 12))])
 (.cond (.t 13)
 (.reg [
 iP 14 (.mki 31 (.c (i64 10))),
 ⟨none,none,.e (.pan (.t 14))⟩])
 .skip))
 (.seq
 (.reg [
 iF 15 1 6,
 iL 16 15,
 iM 5 16])
 .ret))))
def r81:List RS:=[.t 5]
theorem c81:chkF Tryz.prog drawB Tryz.f81 i81 r81=true:=by kernel_rfl
def i82:IC :=
 (.seq
 (.reg [
 iP 3 (.mov (.c (bl false)))])
 (.seq
 (.reg [
 iL 4 1,
 iM 5 0,
 iE 6 (.call (.t 4) [(.t 5),(.c (i64 2))]),
 iP 7 (.bin .eql (.i .i64) (.t 6) (.c (i64 1))),
 iM 3 7])
 .ret))
def r82:List RS:=[.t 3]
theorem c82:chkF Tryz.prog drawB Tryz.f82 i82 r82=true:=by kernel_rfl
def i83:IC :=
 (.seq
 (.reg [
 iE 2 (.alc 30 [i64 0,i64 0])])
 (.seq
 (.reg [
 iM 3 0,
 iC 4 46 [.t 3],
 iP 5 (.bld [i64 0,i64 0] [(0,1,(.c (i64 2))),(1,1,(.t 4))]),
 ⟨none,none,.e (.st 2 (.t 2) (.t 5))⟩])
 .ret))
def r83:List RS:=[.cn 2 2]
theorem c83:chkF Tryz.prog drawB Tryz.f83 i83 r83=true:=by kernel_rfl
def i85:IC :=
 (.seq
 (.reg [
 iP 2 (.mov (.c (bl false)))])
 (.seq
 (.reg [
 iM 3 0,
 iP 4 (.bin .eql (.i .u8) (.t 3) (.c (.val (.int .u8 32)))),
 iM 5 4,
 iG 6 5 false (.mov (.t 0)),
 iG 7 5 false (.bin .eql (.i .u8) (.t 6) (.c (.val (.int .u8 9)))),
 iP 8 (.pick (.t 5) (.c (bl true)) (.t 7)),
 iM 9 8,
 iG 10 9 false (.mov (.t 0)),
 iG 11 9 false (.bin .eql (.i .u8) (.t 10) (.c (.val (.int .u8 10)))),
 iP 12 (.pick (.t 9) (.c (bl true)) (.t 11)),
 iM 2 12])
 .ret))
def r85:List RS:=[.t 2]
theorem c85:chkF Tryz.prog drawB Tryz.f85 i85 r85=true:=by kernel_rfl
def l86_0:IC:=.keep [0,1,4,6,7]
 (.seq
 (.seq
 (.reg [
 iM 17 7,
 iM 18 0,
 iP 19 (.lens (.t 18)),
 iP 20 (.bin .lss (.i .i64) (.t 17) (.t 19)),
 iM 21 20,
 iG 22 21 true (.mov (.t 0)),
 iG 23 21 true (.mov (.t 7)),
 iG 24 21 true (.ixs (.t 22) (.t 23)),
 ⟨(some 25),(some (21,true)),.q (.c (.fn (.func 87) [] [])) [(.t 24)]⟩,
 iG 26 21 true (.mov (.t 25)),
 iG 27 26 false (.mov (.t 0)),
 iG 28 26 false (.mov (.t 7)),
 iG 29 26 false (.ixs (.t 27) (.t 28)),
 ⟨(some 30),(some (26,false)),.q (.c (.fn (.func 105) [] [])) [(.t 29)]⟩,
 iG 31 21 true (.pick (.t 26) (.c (bl true)) (.t 30)),
 iP 32 (.pick (.t 21) (.t 31) (.c (bl false)))])
 (.cond (.t 32)
 .skip
 (.exit 0)))
 (.blk 1
 (.reg [
 iM 33 7,
 iP 34 (.bin .add (.i .i64) (.t 33) (.c (i64 1))),
 iM 7 34])))
def l86_1:IC:=.keep [0,1,4,6,7]
 (.seq
 (.seq
 (.reg [
 iM 53 7,
 iM 54 0,
 iP 55 (.lens (.t 54)),
 iP 56 (.bin .lss (.i .i64) (.t 53) (.t 55)),
 iM 57 56,
 iG 58 57 true (.mov (.t 0)),
 iG 59 57 true (.mov (.t 7)),
 iG 60 57 true (.ixs (.t 58) (.t 59)),
 ⟨(some 61),(some (57,true)),.q (.c (.fn (.func 105) [] [])) [(.t 60)]⟩,
 iP 62 (.pick (.t 57) (.t 61) (.c (bl false)))])
 (.cond (.t 62)
 .skip
 (.exit 2)))
 (.blk 3
 (.reg [
 iM 63 7,
 iP 64 (.bin .add (.i .i64) (.t 63) (.c (i64 1))),
 iM 7 64])))
def i86:IC :=
 (.seq
 (.reg [
 iE 4 (.alc 105 [i64 0,st ⟨#[]⟩,i64 0,i64 0]),
 iP 5 (.mov (.c (i64 0))),
 iE 6 (.alc 59 [i64 0,i64 0])])
 (.seq
 (.reg [
 iM 11 1,
 iM 7 11])
 (.seq
 (.reg [
 iM 12 0,
 iM 13 1,
 iP 14 (.ixs (.t 12) (.t 13)),
 iM 8 14])
 (.seq
 (.seq
 (.reg [
 iM 15 8,
 iC 16 87 [.t 15]])
 (.cond (.t 16)
 (.seq
 (.blk 0
 (.loop l86_0))
 (.seq
 (.seq
 (.reg [
 iM 35 7,
 iM 36 1,
 iP 37 (.bin .sub (.i .i64) (.t 35) (.t 36)),
 iP 38 (.bin .gtr (.i .i64) (.t 37) (.c (i64 40)))])
 (.cond (.t 38)
 (.seq
 (.reg [
 iP 39 (.bld [i64 0,st ⟨#[]⟩,i64 0,i64 0] []),
 iM 40 1,
 iM 41 1,
 iP 42 (.bld [i64 0,i64 0] [(0,1,(.c (i64 4))),(1,1,(.t 41))]),
 ⟨none,none,.e (.st 4 (.t 4) (.t 39))⟩,
 iM 5 40,
 ⟨none,none,.e (.st 2 (.t 6) (.t 42))⟩])
 .ret)
 .skip))
 (.seq
 (.reg [
 iM 43 0,
 iM 44 1,
 iM 45 7,
 iP 46 (.sls (.t 43) (some (.t 44)) (some (.t 45))),
 iM 47 1,
 iP 48 (.bld [i64 0,st ⟨#[]⟩,i64 0,i64 0] [(0,1,(.c (i64 1))),(1,1,(.t 46)),(3,1,(.t 47))]),
 iM 49 7,
 iP 50 (.bld [i64 0,i64 0] []),
 ⟨none,none,.e (.st 4 (.t 4) (.t 48))⟩,
 iM 5 49,
 ⟨none,none,.e (.st 2 (.t 6) (.t 50))⟩])
 .ret)))
 .skip))
 (.seq
 (.seq
 (.reg [
 iM 51 8,
 iC 52 105 [.t 51]])
 (.cond (.t 52)
 (.seq
 (.blk 2
 (.loop l86_1))
 (.seq
 (.reg [
 iM 66 0,
 iM 67 1,
 iM 68 7,
 iP 69 (.sls (.t 66) (some (.t 67)) (some (.t 68))),
 iC 70 106 [.t 69],
 iM 65 70,
 iP 71 (.ext (.t 65) 0),
 iP 72 (.ext (.t 65) 1),
 iM 9 71,
 iM 10 72])
 (.seq
 (.seq
 (.reg [
 iM 73 10,
 iP 74 (.bin .neq (.i .i64) (.t 73) (.c (i64 0)))])
 (.cond (.t 74)
 (.seq
 (.reg [
 iP 75 (.bld [i64 0,st ⟨#[]⟩,i64 0,i64 0] []),
 iM 76 1,
 iM 77 10,
 iM 78 1,
 iP 79 (.bld [i64 0,i64 0] [(0,1,(.t 77)),(1,1,(.t 78))]),
 ⟨none,none,.e (.st 4 (.t 4) (.t 75))⟩,
 iM 5 76,
 ⟨none,none,.e (.st 2 (.t 6) (.t 79))⟩])
 .ret)
 .skip))
 (.seq
 (.reg [
 iM 80 0,
 iM 81 1,
 iM 82 7,
 iP 83 (.sls (.t 80) (some (.t 81)) (some (.t 82))),
 iM 84 9,
 iM 85 1,
 iP 86 (.bld [i64 0,st ⟨#[]⟩,i64 0,i64 0] [(0,1,(.c (i64 2))),(1,1,(.t 83)),(2,1,(.t 84)),(3,1,(.t 85))]),
 iM 87 7,
 iP 88 (.bld [i64 0,i64 0] []),
 ⟨none,none,.e (.st 4 (.t 4) (.t 86))⟩,
 iM 5 87,
 ⟨none,none,.e (.st 2 (.t 6) (.t 88))⟩])
 .ret))))
 .skip))
 (.seq
 (.seq
 (.reg [
 iM 89 1,
 iP 90 (.bin .add (.i .i64) (.t 89) (.c (i64 2))),
 iM 91 0,
 iP 92 (.lens (.t 91)),
 iP 93 (.bin .leq (.i .i64) (.t 90) (.t 92)),
 iM 94 93,
 iG 95 94 true (.mov (.t 0)),
 iG 96 94 true (.mov (.t 1)),
 iG 97 94 true (.mov (.t 1)),
 iG 98 94 true (.bin .add (.i .i64) (.t 97) (.c (i64 2))),
 iG 99 94 true (.sls (.t 95) (some (.t 96)) (some (.t 98))),
 ⟨(some 100),(some (94,true)),.q (.c (.fn (.func 107) [] [])) [(.t 99)]⟩,
 iP 101 (.pick (.t 94) (.t 100) (.c (bl false)))])
 (.cond (.t 101)
 (.seq
 (.reg [
 iM 102 0,
 iM 103 1,
 iM 104 1,
 iP 105 (.bin .add (.i .i64) (.t 104) (.c (i64 2))),
 iP 106 (.sls (.t 102) (some (.t 103)) (some (.t 105))),
 iM 107 1,
 iP 108 (.bld [i64 0,st ⟨#[]⟩,i64 0,i64 0] [(0,1,(.c (i64 3))),(1,1,(.t 106)),(3,1,(.t 107))]),
 iM 109 1,
 iP 110 (.bin .add (.i .i64) (.t 109) (.c (i64 2))),
 iP 111 (.bld [i64 0,i64 0] []),
 ⟨none,none,.e (.st 4 (.t 4) (.t 108))⟩,
 iM 5 110,
 ⟨none,none,.e (.st 2 (.t 6) (.t 111))⟩])
 .ret)
 .skip))
 (.seq
 (.seq
 (.reg [
 iM 112 8,
 iC 113 108 [.t 112]])
 (.cond (.t 113)
 (.seq
 (.reg [
 iM 114 0,
 iM 115 1,
 iM 116 1,
 iP 117 (.bin .add (.i .i64) (.t 116) (.c (i64 1))),
 iP 118 (.sls (.t 114) (some (.t 115)) (some (.t 117))),
 iM 119 1,
 iP 120 (.bld [i64 0,st ⟨#[]⟩,i64 0,i64 0] [(0,1,(.c (i64 3))),(1,1,(.t 118)),(3,1,(.t 119))]),
 iM 121 1,
 iP 122 (.bin .add (.i .i64) (.t 121) (.c (i64 1))),
 iP 123 (.bld [i64 0,i64 0] []),
 ⟨none,none,.e (.st 4 (.t 4) (.t 120))⟩,
 iM 5 122,
 ⟨none,none,.e (.st 2 (.t 6) (.t 123))⟩])
 .ret)
 .skip))
 (.seq
 (.reg [
 iP 124 (.bld [i64 0,st ⟨#[]⟩,i64 0,i64 0] []),
 iM 125 1,
 iM 126 1,
 iP 127 (.bld [i64 0,i64 0] [(0,1,(.c (i64 11))),(1,1,(.t 126))]),
 ⟨none,none,.e (.st 4 (.t 4) (.t 124))⟩,
 iM 5 125,
 ⟨none,none,.e (.st 2 (.t 6) (.t 127))⟩])
 .ret))))))))
def r86:List RS:=[.cn 4 4,.t 5,.cn 6 2]
theorem c86:chkF Tryz.prog drawB Tryz.f86 i86 r86=true:=by kernel_rfl
def i87:IC :=
 (.seq
 (.reg [
 iP 2 (.mov (.c (bl false)))])
 (.seq
 (.reg [
 iM 3 0,
 iP 4 (.bin .geq (.i .u8) (.t 3) (.c (.val (.int .u8 65)))),
 iM 5 4,
 iG 6 5 true (.mov (.t 0)),
 iG 7 5 true (.bin .leq (.i .u8) (.t 6) (.c (.val (.int .u8 90)))),
 iP 8 (.pick (.t 5) (.t 7) (.c (bl false))),
 iM 9 8,
 iG 10 9 false (.mov (.t 0)),
 iG 11 9 false (.bin .geq (.i .u8) (.t 10) (.c (.val (.int .u8 97)))),
 iG 12 9 false (.mov (.t 11)),
 iG 13 12 true (.mov (.t 0)),
 iG 14 12 true (.bin .leq (.i .u8) (.t 13) (.c (.val (.int .u8 122)))),
 iG 15 9 false (.pick (.t 12) (.t 14) (.c (bl false))),
 iP 16 (.pick (.t 9) (.c (bl true)) (.t 15)),
 iM 17 16,
 iG 18 17 false (.mov (.t 0)),
 iG 19 17 false (.bin .eql (.i .u8) (.t 18) (.c (.val (.int .u8 95)))),
 iP 20 (.pick (.t 17) (.c (bl true)) (.t 19)),
 iM 2 20])
 .ret))
def r87:List RS:=[.t 2]
theorem c87:chkF Tryz.prog drawB Tryz.f87 i87 r87=true:=by kernel_rfl
def l88_0:IC:=.keep [0,2,3]
 (.seq
 (.seq
 (.reg [
 iM 7 0,
 iC 8 89 [.t 7,(.c (st ⟨#[97,110,100]⟩))]])
 (.cond (.t 8)
 .skip
 (.exit 0)))
 (.blk 1
 (.seq
 (.reg [
 iM 9 0,
 iC 10 90 [.t 9,(.c (st ⟨#[97,110,100]⟩))],
 iM 4 10])
 (.drw [0,1,2,3,4,5] [
 iM 11 4,
 iP 12 (.ldn 5 (.t 3)),
 iM 13 0,
 iC 14 109 [.t 13],
 ⟨(some 15),none,.q (.c (.fn (.func 91) [] [])) [(.c (i64 16)),(.t 11),(.t 12),(.t 14)]⟩,
 ⟨none,none,.e (.st 5 (.t 3) (.t 15))⟩]))))
def i88:IC :=
 (.seq
 (.reg [
 iE 2 (.alc 24 [i64 0,i64 0,st ⟨#[]⟩,.val (.slice none 0 0),i64 0])])
 (.seq
 (.reg [
 iM 5 0,
 iC 6 109 [.t 5],
 iE 3 (.alc 24 [i64 0,i64 0,st ⟨#[]⟩,.val (.slice none 0 0),i64 0]),
 ⟨none,none,.e (.st 5 (.t 3) (.t 6))⟩])
 (.seq
 (.blk 0
 (.loop l88_0))
 (.seq
 (.reg [
 iP 16 (.ldn 5 (.t 3)),
 ⟨none,none,.e (.st 5 (.t 2) (.t 16))⟩])
 .ret))))
def r88:List RS:=[.cn 2 5]
theorem c88:chkF Tryz.prog drawB Tryz.f88 i88 r88=true:=by kernel_rfl
def i89:IC :=
 (.seq
 (.reg [
 iP 4 (.mov (.c (bl false)))])
 (.seq
 (.drw [0,1,2,3,4,5,6,7,8,9,10,11,12,13,14,15,16,17,18,19,20,21,22,23,24,25,26,27,28,29,30,31,32,33,34,35,36,37,38,39,40,41,42,43,44] [
 iM 5 0,
 ⟨(some 6),none,.q (.c (.fn (.func 69) [] [])) [(.t 5)]⟩,
 iP 7 (.not (.t 6)),
 iM 8 7,
 iG 9 8 true (.mov (.t 0)),
 iG 10 8 true (.nck (.t 9)),
 iG 11 8 true (.fa 2 (.t 10)),
 iG 12 8 true (.ld1 (.t 11)),
 iG 13 8 true (.mov (.t 0)),
 iG 14 8 true (.nck (.t 13)),
 iG 15 8 true (.fa 0 (.t 14)),
 iG 16 8 true (.ld1 (.t 15)),
 iG 17 8 true (.len (.t 16)),
 iG 18 8 true (.bin .lss (.i .i64) (.t 12) (.t 17)),
 iP 19 (.pick (.t 8) (.t 18) (.c (bl false))),
 iM 20 19,
 iG 21 20 true (.mov (.t 0)),
 iG 22 20 true (.nck (.t 21)),
 iG 23 20 true (.fa 0 (.t 22)),
 iG 24 20 true (.ld1 (.t 23)),
 iG 25 20 true (.mov (.t 0)),
 iG 26 20 true (.nck (.t 25)),
 iG 27 20 true (.fa 2 (.t 26)),
 iG 28 20 true (.ld1 (.t 27)),
 iG 29 20 true (.ia 4 (.t 24) (.t 28)),
 iG 30 20 true (.fa 0 (.t 29)),
 iG 31 20 true (.ld1 (.t 30)),
 iG 32 20 true (.bin .neq (.i .i64) (.t 31) (.c (i64 2))),
 iP 33 (.pick (.t 20) (.t 32) (.c (bl false))),
 iM 34 33,
 iG 35 34 true (.mov (.t 0)),
 iG 36 34 true (.nck (.t 35)),
 iG 37 34 true (.fa 0 (.t 36)),
 iG 38 34 true (.ld1 (.t 37)),
 iG 39 34 true (.mov (.t 0)),
 iG 40 34 true (.nck (.t 39)),
 iG 41 34 true (.fa 2 (.t 40)),
 iG 42 34 true (.ld1 (.t 41)),
 iG 43 34 true (.ia 4 (.t 38) (.t 42)),
 iG 44 34 true (.fa 1 (.t 43)),
 iG 45 34 true (.ld1 (.t 44)),
 iG 46 34 true (.mov (.t 1)),
 iG 47 34 true (.bin .eql .s (.t 45) (.t 46)),
 iP 48 (.pick (.t 34) (.t 47) (.c (bl false))),
 iM 4 48])
 .ret))
def r89:List RS:=[.t 4]
theorem c89:chkF Tryz.prog drawB Tryz.f89 i89 r89=true:=by kernel_rfl
def i90:IC :=
 (.seq
 (.reg [
 iP 4 (.mov (.c (i64 0)))])
 (.seq
 (.reg [
 iM 6 0,
 iC 7 92 [.t 6],
 iM 5 7])
 (.seq
 (.seq
 (.reg [
 iM 8 0,
 iM 9 1,
 iC 10 89 [.t 8,.t 9],
 iP 11 (.not (.t 10))])
 (.cond (.t 11)
 (.seq
 (.reg [
 iM 12 0,
 iC 13 68 [.t 12,(.c (i64 11))]])
 (.seq
 (.reg [
 iM 14 5,
 iM 4 14])
 .ret))
 .skip))
 (.seq
 (.reg [
 iM 15 0,
 iP 16 (.nck (.t 15)),
 iF 17 2 16,
 iL 18 17,
 iP 19 (.bin .add (.i .i64) (.t 18) (.c (i64 1))),
 iP 20 (.nck (.t 15)),
 iF 21 2 20,
 ⟨none,none,.e (.st 1 (.t 21) (.t 19))⟩])
 (.seq
 (.reg [
 iM 22 5,
 iM 4 22])
 .ret)))))
def r90:List RS:=[.t 4]
theorem c90:chkF Tryz.prog drawB Tryz.f90 i90 r90=true:=by kernel_rfl
def i91:IC :=
 (.seq
 (.reg [
 iE 6 (.box 24 (.t 2)),
 iE 7 (.box 24 (.t 3)),
 iE 8 (.alc 24 [i64 0,i64 0,st ⟨#[]⟩,.val (.slice none 0 0),i64 0])])
 (.seq
 (.reg [
 iM 9 0,
 iP 10 (.ldn 5 (.t 6)),
 iP 11 (.ldn 5 (.t 7)),
 iE 12 (.bsl 24 5 2 [i64 0,i64 0,st ⟨#[]⟩,.val (.slice none 0 0),i64 0] [(0,(.t 10)),(1,(.t 11))]),
 iM 13 1,
 iP 14 (.bld [i64 0,i64 0,st ⟨#[]⟩,.val (.slice none 0 0),i64 0] [(0,1,(.t 9)),(3,1,(.t 12)),(4,1,(.t 13))]),
 ⟨none,none,.e (.st 5 (.t 8) (.t 14))⟩])
 .ret))
def r91:List RS:=[.cn 8 5]
theorem c91:chkF Tryz.prog drawB Tryz.f91 i91 r91=true:=by kernel_rfl
def i92:IC :=
 (.seq
 (.reg [
 iP 2 (.mov (.c (i64 0)))])
 (.seq
 (.seq
 (.drw [0,1,2,3,4,5,6,7,8,9] [
 iM 3 0,
 iP 4 (.nck (.t 3)),
 iF 5 2 4,
 iL 6 5,
 iM 7 0,
 iP 8 (.nck (.t 7)),
 iF 9 0 8,
 iL 10 9,
 iP 11 (.len (.t 10)),
 iP 12 (.bin .lss (.i .i64) (.t 6) (.t 11))])
 (.cond (.t 12)
 (.seq
 (.drw [0,1,2,3,4,5,6,7,8,9,10,11] [
 iM 13 0,
 iP 14 (.nck (.t 13)),
 iF 15 0 14,
 iL 16 15,
 iM 17 0,
 iP 18 (.nck (.t 17)),
 iF 19 2 18,
 iL 20 19,
 iP 21 (.ia 4 (.t 16) (.t 20)),
 iF 22 3 21,
 iL 23 22,
 iM 2 23])
 .ret)
 .skip))
 (.seq
 (.reg [
 iM 24 0,
 iP 25 (.nck (.t 24)),
 iF 26 1 25,
 iL 27 26,
 iM 2 27])
 .ret)))
def r92:List RS:=[.t 2]
theorem c92:chkF Tryz.prog drawB Tryz.f92 i92 r92=true:=by kernel_rfl
def i93:IC :=
 (.seq
 (.reg [
 iE 1 (.box 105 (.t 0)),
 iP 2 (.mov (.c (i64 0)))])
 (.seq
 (.seq
 (.reg [
 iF 6 1 1,
 iL 7 6,
 iP 8 (.bin .eql .s (.t 7) (.c (st ⟨#[]⟩))),
 iM 9 8,
 iG 10 9 false (.fa 0 (.t 1)),
 iG 11 9 false (.ld1 (.t 10)),
 iG 12 9 false (.bin .lss (.i .i64) (.t 11) (.c (i64 1))),
 iP 13 (.pick (.t 9) (.c (bl true)) (.t 12)),
 iM 14 13,
 iG 15 14 false (.fa 0 (.t 1)),
 iG 16 14 false (.ld1 (.t 15)),
 iG 17 14 false (.bin .gtr (.i .i64) (.t 16) (.c (i64 3))),
 iP 18 (.pick (.t 14) (.c (bl true)) (.t 17)),
 iM 19 18,
 iG 20 19 false (.fa 1 (.t 1)),
 iG 21 19 false (.ld1 (.t 20)),
 iG 22 19 false (.ixs (.t 21) (.c (i64 0))),
 ⟨(some 23),(some (19,false)),.q (.c (.fn (.func 85) [] [])) [(.t 22)]⟩,
 iP 24 (.pick (.t 19) (.c (bl true)) (.t 23)),
 iM 25 24,
 iG 26 25 false (.fa 1 (.t 1)),
 iG 27 25 false (.ld1 (.t 26)),
 iG 28 25 false (.ixs (.t 27) (.c (i64 0))),
 iG 29 25 false (.bin .eql (.i .u8) (.t 28) (.c (.val (.int .u8 35)))),
 iP 30 (.pick (.t 25) (.c (bl true)) (.t 29))])
 (.cond (.t 30)
 (.seq
 (.reg [
 iP 2 (.mov (.c (i64 3)))])
 .ret)
 .skip))
 (.seq
 (.reg [
 iF 32 1 1,
 iL 33 32,
 iC 34 86 [.t 33,(.c (i64 0))],
 iM 31 34,
 iP 35 (.ext (.t 31) 0),
 iP 36 (.ext (.t 31) 1),
 iP 37 (.ext (.t 31) 2),
 iE 3 (.alc 105 [i64 0,st ⟨#[]⟩,i64 0,i64 0]),
 iE 5 (.alc 59 [i64 0,i64 0]),
 ⟨none,none,.e (.st 4 (.t 3) (.t 35))⟩,
 iM 4 36,
 ⟨none,none,.e (.st 2 (.t 5) (.t 37))⟩])
 (.seq
 (.seq
 (.reg [
 iF 38 0 5,
 iL 39 38,
 iP 40 (.bin .neq (.i .i64) (.t 39) (.c (i64 0))),
 iM 41 40,
 iG 42 41 false (.mov (.t 4)),
 iG 43 41 false (.fa 1 (.t 1)),
 iG 44 41 false (.ld1 (.t 43)),
 iG 45 41 false (.lens (.t 44)),
 iG 46 41 false (.bin .neq (.i .i64) (.t 42) (.t 45)),
 iP 47 (.pick (.t 41) (.c (bl true)) (.t 46)),
 iM 48 47,
 iG 49 48 false (.fa 0 (.t 3)),
 iG 50 48 false (.ld1 (.t 49)),
 iG 51 48 false (.fa 0 (.t 1)),
 iG 52 48 false (.ld1 (.t 51)),
 iG 53 48 false (.bin .neq (.i .i64) (.t 50) (.t 52)),
 iP 54 (.pick (.t 48) (.c (bl true)) (.t 53))])
 (.cond (.t 54)
 (.seq
 (.reg [
 iP 2 (.mov (.c (i64 3)))])
 .ret)
 .skip))
 (.seq
 (.seq
 (.reg [
 iF 55 2 3,
 iL 56 55,
 iF 57 2 1,
 iL 58 57,
 iP 59 (.bin .neq (.i .i64) (.t 56) (.t 58))])
 (.cond (.t 59)
 (.seq
 (.reg [
 iP 2 (.mov (.c (i64 2)))])
 .ret)
 .skip))
 (.seq
 (.reg [
 iP 2 (.mov (.c (i64 0)))])
 .ret))))))
def r93:List RS:=[.t 2]
theorem c93:chkF Tryz.prog drawB Tryz.f93 i93 r93=true:=by kernel_rfl
def l94_0:IC:=.keep [0,3,4]
 (.seq
 (.seq
 (.reg [
 iM 6 4,
 iM 7 3,
 iP 8 (.len (.t 7)),
 iP 9 (.bin .lss (.i .i64) (.t 6) (.t 8))])
 (.cond (.t 9)
 .skip
 (.exit 0)))
 (.seq
 (.blk 1
 (.seq
 (.reg [
 iM 12 3,
 iM 13 4,
 iP 14 (.ia 1 (.t 12) (.t 13)),
 iL 15 14,
 iM 16 0,
 iP 17 (.bin .eql .s (.t 15) (.t 16))])
 (.cond (.t 17)
 (.seq
 (.reg [
 iP 2 (.mov (.c (bl true)))])
 .ret)
 .skip)))
 (.reg [
 iM 10 4,
 iP 11 (.bin .add (.i .i64) (.t 10) (.c (i64 1))),
 iM 4 11])))
def i94:IC :=
 (.seq
 (.reg [
 iP 2 (.mov (.c (bl false)))])
 (.seq
 (.reg [
 iE 5 (.bsl 9 1 22 [st ⟨#[]⟩] [(0,(.c (st ⟨#[103,97,109,101]⟩))),(1,(.c (st ⟨#[112,108,97,121,101,114,115]⟩))),(2,(.c (st ⟨#[118,97,114]⟩))),(3,(.c (st ⟨#[100,101,97,108]⟩))),(4,(.c (st ⟨#[105,110]⟩))),(5,(.c (st ⟨#[119,101,105,103,104,116]⟩))),(6,(.c (st ⟨#[115,101,101,110]⟩))),(7,(.c (st ⟨#[98,121]⟩))),(8,(.c (st ⟨#[97,108,108]⟩))),(9,(.c (st ⟨#[116,117,114,110]⟩))),(10,(.c (st ⟨#[97,99,116,105,111,110]⟩))),(11,(.c (st ⟨#[119,104,101,110]⟩))),(12,(.c (st ⟨#[104,105,100,100,101,110]⟩))),(13,(.c (st ⟨#[103,111,116,111]⟩))),(14,(.c (st ⟨#[101,110,100]⟩))),(15,(.c (st ⟨#[112,97,121]⟩))),(16,(.c (st ⟨#[111,114]⟩))),(17,(.c (st ⟨#[97,110,100]⟩))),(18,(.c (st ⟨#[110,111,116]⟩))),(19,(.c (st ⟨#[109,105,110]⟩))),(20,(.c (st ⟨#[109,97,120]⟩))),(21,(.c (st ⟨#[105,102]⟩)))]),
 iM 3 5])
 (.seq
 (.seq
 (.reg [
 iP 4 (.mov (.c (i64 0)))])
 (.blk 0
 (.loop l94_0)))
 (.seq
 (.reg [
 iP 2 (.mov (.c (bl false)))])
 .ret))))
def r94:List RS:=[.t 2]
theorem c94:chkF Tryz.prog drawB Tryz.f94 i94 r94=true:=by kernel_rfl
def l97_0:IC:=.keep [2,3,12,13,14]
 (.seq
 (.reg [
 iP 15 (.bin .lss (.i .i64) (.t 14) (.t 13))])
 (.seq
 (.cond (.t 15)
 .skip
 (.exit 0))
 (.seq
 (.blk 1
 (.seq
 (.reg [
 iP 16 (.ia 1 (.t 12) (.t 14)),
 iL 17 16,
 iM 5 17])
 (.reg [
 iF 18 0 3,
 iL 19 18,
 iM 20 5,
 ⟨none,none,.e (.mup .s (.t 19) (.t 20) (.c (bl true)))⟩])))
 (.reg [
 iP 21 (.bin .add (.i .i64) (.t 14) (.c (i64 1))),
 iM 14 21]))))
def i97:IC :=
 (.seq
 (.reg [
 iE 2 (.alc 114 [.val (.map none),.val (.map none)])])
 (.seq
 (.reg [
 iE 9 (.mkm 66),
 iE 10 (.mkm 112),
 iP 11 (.bld [.val (.map none),.val (.map none)] [(0,1,(.t 9)),(1,1,(.t 10))]),
 iE 3 (.alc 114 [.val (.map none),.val (.map none)]),
 ⟨none,none,.e (.st 2 (.t 3) (.t 11))⟩])
 (.seq
 (.seq
 (.reg [
 iM 12 0,
 iP 13 (.len (.t 12)),
 iP 14 (.mov (.c (i64 0)))])
 (.blk 0
 (.loop l97_0)))
 (.seq
 (.reg [
 iP 22 (.mkf (.func 110) [] [(.t 3)]),
 iM 6 22])
 (.seq
 (.reg [
 iM 23 6,
 iE 24 (.bsl 3 1 1 [i64 0] [(0,(.c (i64 1)))]),
 iP 25 (.bld [.val (.slice none 0 0),i64 0,.val .nilFunc] [(0,1,(.t 24)),(1,1,(.c (i64 1)))]),
 iE 26 (.bsl 3 1 1 [i64 0] [(0,(.c (i64 3)))]),
 iE 27 (.call (.t 23) [(.t 25),(.t 26)])])
 (.seq
 (.reg [
 iM 28 6,
 iE 29 (.bsl 3 1 1 [i64 0] [(0,(.c (i64 2)))]),
 iP 30 (.bld [.val (.slice none 0 0),i64 0,.val .nilFunc] [(0,1,(.t 29)),(1,1,(.c (i64 2)))]),
 iE 31 (.bsl 3 1 1 [i64 0] [(0,(.c (i64 4)))]),
 iE 32 (.call (.t 28) [(.t 30),(.t 31)])])
 (.seq
 (.reg [
 iE 33 (.bsl 3 1 2 [i64 0] [(0,(.c (i64 1))),(1,(.c (i64 1)))]),
 iE 34 (.bsl 3 1 2 [i64 0] [(0,(.c (i64 2))),(1,(.c (i64 2)))]),
 iM 7 33,
 iM 8 34])
 (.seq
 (.reg [
 iM 35 6,
 iM 36 7,
 iP 37 (.bld [.val (.slice none 0 0),i64 0,.val .nilFunc] [(0,1,(.t 36)),(1,1,(.c (i64 1)))]),
 iE 38 (.bsl 3 1 7 [i64 0] [(0,(.c (i64 5))),(1,(.c (i64 6))),(2,(.c (i64 7))),(3,(.c (i64 8))),(4,(.c (i64 9))),(5,(.c (i64 18))),(6,(.c (i64 19)))]),
 iE 39 (.call (.t 35) [(.t 37),(.t 38)])])
 (.seq
 (.reg [
 iM 40 6,
 iM 41 7,
 iP 42 (.bld [.val (.slice none 0 0),i64 0,.val .nilFunc] [(0,1,(.t 41)),(1,1,(.c (i64 2)))]),
 iE 43 (.bsl 3 1 6 [i64 0] [(0,(.c (i64 10))),(1,(.c (i64 11))),(2,(.c (i64 12))),(3,(.c (i64 13))),(4,(.c (i64 14))),(5,(.c (i64 15)))]),
 iE 44 (.call (.t 40) [(.t 42),(.t 43)])])
 (.seq
 (.reg [
 iM 45 6,
 iM 46 8,
 iP 47 (.bld [.val (.slice none 0 0),i64 0,.val .nilFunc] [(0,1,(.t 46)),(1,1,(.c (i64 2)))]),
 iE 48 (.bsl 3 1 2 [i64 0] [(0,(.c (i64 16))),(1,(.c (i64 17)))]),
 iE 49 (.call (.t 45) [(.t 47),(.t 48)])])
 (.seq
 (.reg [
 iM 50 6,
 iE 51 (.mks 3 1 8 [i64 0] (.c (i64 3)) (.c (i64 3))),
 iP 52 (.bld [.val (.slice none 0 0),i64 0,.val .nilFunc] [(0,1,(.t 51)),(2,1,(.c (.fn (.func 111) [] [])))]),
 iE 53 (.bsl 3 1 1 [i64 0] [(0,(.c (i64 20)))]),
 iE 54 (.call (.t 50) [(.t 52),(.t 53)])])
 (.seq
 (.reg [
 iP 55 (.ldn 2 (.t 3)),
 ⟨none,none,.e (.st 2 (.t 2) (.t 55))⟩])
 .ret))))))))))))
def r97:List RS:=[.cn 2 2]
theorem c97:chkF Tryz.prog drawB Tryz.f97 i97 r97=true:=by kernel_rfl
def l98_0:IC:=.keep [0,2,4,8,11,82,83,84]
 (.seq
 (.reg [
 iP 85 (.bin .lss (.i .i64) (.t 84) (.t 83))])
 (.seq
 (.cond (.t 85)
 .skip
 (.exit 0))
 (.seq
 (.blk 1
 (.seq
 (.reg [
 iP 86 (.ia 5 (.t 82) (.t 84)),
 iP 87 (.ldn 5 (.t 86)),
 iE 13 (.alc 24 [i64 0,i64 0,st ⟨#[]⟩,.val (.slice none 0 0),i64 0]),
 ⟨none,none,.e (.st 5 (.t 13) (.t 87))⟩])
 (.seq
 (.reg [
 iM 89 0,
 iP 90 (.ldn 5 (.t 13)),
 iM 91 2,
 iP 92 (.bin .add (.i .i64) (.t 91) (.c (i64 1))),
 iC 93 98 [.t 89,.t 90,.t 92],
 iM 88 93,
 iP 94 (.ext (.t 88) 0),
 iP 95 (.ext (.t 88) 1),
 iM 14 94,
 iM 15 95])
 (.seq
 (.seq
 (.reg [
 iM 96 15,
 iP 97 (.ifn true true (.t 96))])
 (.cond (.t 97)
 (.seq
 (.reg [
 iM 98 15,
 iP 6 (.mov (.c (i64 0))),
 iM 7 98])
 .ret)
 .skip))
 (.reg [
 iM 99 11,
 iM 100 14,
 iE 101 (.bsl 3 1 1 [i64 0] [(0,(.t 100))]),
 iE 102 (.app 3 1 8 (.t 99) (.t 101)),
 iM 11 102])))))
 (.reg [
 iP 103 (.bin .add (.i .i64) (.t 84) (.c (i64 1))),
 iM 84 103]))))
def l98_1:IC:=.keep [4,16,17,118,119,120]
 (.seq
 (.reg [
 iP 121 (.bin .lss (.i .i64) (.t 120) (.t 119))])
 (.seq
 (.cond (.t 121)
 .skip
 (.exit 2))
 (.seq
 (.blk 3
 (.seq
 (.reg [
 iM 122 120,
 iP 123 (.ia 1 (.t 118) (.t 120)),
 iL 124 123,
 iM 18 122,
 iM 19 124])
 (.seq
 (.reg [
 iM 125 19,
 iM 126 16,
 iM 127 18,
 iP 128 (.ia 1 (.t 126) (.t 127)),
 iL 129 128,
 iP 130 (.bin .neq (.i .i64) (.t 125) (.t 129))])
 (.cond (.t 130)
 (.seq
 (.reg [
 iF 131 3 4,
 iL 132 131,
 iM 133 18,
 iP 134 (.ia 5 (.t 132) (.t 133)),
 iF 135 4 134,
 iL 136 135,
 iC 137 113 [(.c (i64 10)),.t 136],
 iP 6 (.mov (.c (i64 0))),
 iM 7 137])
 .ret)
 .skip))))
 (.reg [
 iP 138 (.bin .add (.i .i64) (.t 120) (.c (i64 1))),
 iM 120 138]))))
def i98:IC :=
 (.seq
 (.reg [
 iE 4 (.box 24 (.t 1)),
 iP 6 (.mov (.c (i64 0))),
 iP 7 (.mov (.c (.val .nilIface)))])
 (.seq
 (.seq
 (.reg [
 iM 20 2,
 iP 21 (.bin .eql (.i .i64) (.t 20) (.c (i64 100000)))])
 (.cond (.t 21)
 (.seq
 (.reg [
 iM 22 0,
 iP 23 (.ldn 5 (.t 4)),
 iC 24 112 [.t 22,.t 23],
 iP 25 (.ext (.t 24) 0),
 iP 26 (.ext (.t 24) 1),
 iM 6 25,
 iM 7 26])
 .ret)
 .skip))
 (.seq
 (.drw [0,1,2,3,4,5,6,7,8,9,10,11,12] [
 iM 28 0,
 iP 29 (.nck (.t 28)),
 iF 30 1 29,
 iL 31 30,
 iF 32 0 4,
 iL 33 32,
 iP 34 (.lkp (.i .i64) true (.agg [.val (.slice none 0 0),i64 0,.val .nilFunc]) (.t 31) (.t 33)),
 iM 27 34,
 iP 35 (.ext (.t 27) 0),
 iP 36 (.ext (.t 27) 1),
 iE 8 (.alc 127 [.val (.slice none 0 0),i64 0,.val .nilFunc]),
 ⟨none,none,.e (.st 3 (.t 8) (.t 35))⟩,
 iM 9 36])
 (.seq
 (.reg [
 iF 37 0 4,
 iL 38 37,
 iP 39 (.bin .eql (.i .i64) (.t 38) (.c (i64 1))),
 iM 40 39,
 iG 41 40 false (.fa 0 (.t 4)),
 iG 42 40 false (.ld1 (.t 41)),
 iG 43 40 false (.bin .eql (.i .i64) (.t 42) (.c (i64 2))),
 iP 44 (.pick (.t 40) (.c (bl true)) (.t 43)),
 iM 10 44])
 (.seq
 (.seq
 (.reg [
 iM 45 9,
 iP 46 (.not (.t 45)),
 iM 47 46,
 iG 48 47 true (.mov (.t 10)),
 iG 49 47 true (.not (.t 48)),
 iP 50 (.pick (.t 47) (.t 49) (.c (bl false))),
 iM 51 50,
 iG 52 51 false (.fa 3 (.t 4)),
 iG 53 51 false (.ld1 (.t 52)),
 iG 54 51 false (.len (.t 53)),
 iG 55 51 false (.fa 0 (.t 8)),
 iG 56 51 false (.ld1 (.t 55)),
 iG 57 51 false (.len (.t 56)),
 iG 58 51 false (.bin .neq (.i .i64) (.t 54) (.t 57)),
 iP 59 (.pick (.t 51) (.c (bl true)) (.t 58))])
 (.cond (.t 59)
 (.seq
 (.reg [
 iF 60 4 4,
 iL 61 60,
 iC 62 113 [(.c (i64 3)),.t 61],
 iP 6 (.mov (.c (i64 0))),
 iM 7 62])
 .ret)
 .skip))
 (.seq
 (.seq
 (.reg [
 iM 63 10])
 (.cond (.t 63)
 (.seq
 (.seq
 (.reg [
 iF 64 0 4,
 iL 65 64,
 iP 66 (.bin .eql (.i .i64) (.t 65) (.c (i64 2))),
 iM 67 66,
 iG 68 67 true (.mov (.t 0)),
 iG 69 67 true (.fa 2 (.t 4)),
 iG 70 67 true (.ld1 (.t 69)),
 ⟨(some 71),(some (67,true)),.q (.c (.fn (.func 114) [] [])) [(.t 68),(.t 70)]⟩,
 iG 72 67 true (.not (.t 71)),
 iP 73 (.pick (.t 67) (.t 72) (.c (bl false)))])
 (.cond (.t 73)
 (.seq
 (.reg [
 iF 74 4 4,
 iL 75 74,
 iC 76 113 [(.c (i64 7)),.t 75],
 iP 6 (.mov (.c (i64 0))),
 iM 7 76])
 .ret)
 .skip))
 (.seq
 (.reg [
 iP 6 (.mov (.c (i64 1))),
 iP 7 (.mov (.c (.val .nilIface)))])
 .ret))
 .skip))
 (.seq
 (.reg [
 iF 77 3 4,
 iL 78 77,
 iP 79 (.len (.t 78)),
 iE 80 (.mks 3 1 8 [i64 0] (.c (i64 0)) (.t 79)),
 iM 11 80])
 (.seq
 (.seq
 (.reg [
 iF 81 3 4,
 iL 82 81,
 iP 83 (.len (.t 82)),
 iP 84 (.mov (.c (i64 0)))])
 (.blk 0
 (.loop l98_0)))
 (.seq
 (.drw [0,1,2,3,4,5] [
 iF 104 0 8,
 iL 105 104,
 iF 106 1 8,
 iL 107 106,
 iM 16 105,
 iM 17 107])
 (.seq
 (.seq
 (.reg [
 iF 108 2 8,
 iL 109 108,
 iP 110 (.fnn true true (.t 109))])
 (.cond (.t 110)
 (.reg [
 iF 112 2 8,
 iL 113 112,
 iM 114 11,
 iE 115 (.call (.t 113) [(.t 114)]),
 iM 111 115,
 iP 116 (.ext (.t 111) 0),
 iP 117 (.ext (.t 111) 1),
 iM 16 116,
 iM 17 117])
 .skip))
 (.seq
 (.seq
 (.reg [
 iM 118 11,
 iP 119 (.len (.t 118)),
 iP 120 (.mov (.c (i64 0)))])
 (.blk 2
 (.loop l98_1)))
 (.seq
 (.reg [
 iM 139 17,
 iM 6 139,
 iP 7 (.mov (.c (.val .nilIface)))])
 .ret))))))))))))
def r98:List RS:=[.t 6,.t 7]
theorem c98:chkF Tryz.prog drawB Tryz.f98 i98 r98=true:=by kernel_rfl
def i99:IC :=
 (.seq
 (.reg [
 iE 2 (.alc 59 [i64 0,i64 0])])
 (.seq
 (.reg [
 iE 3 (.alc 135 [i64 0,i64 0])])
 (.seq
 (.seq
 (.reg [
 iM 4 0,
 iP 5 (.mki 137 (.t 3)),
 iC 6 115 [.t 4,.t 5]])
 (.cond (.t 6)
 (.seq
 (.reg [
 iF 7 0 3,
 iP 8 (.ldn 2 (.t 7)),
 ⟨none,none,.e (.st 2 (.t 2) (.t 8))⟩])
 .ret)
 .skip))
 (.seq
 (.reg [
 iP 9 (.bld [i64 0,i64 0] []),
 ⟨none,none,.e (.st 2 (.t 2) (.t 9))⟩])
 .ret))))
def r99:List RS:=[.cn 2 2]
theorem c99:chkF Tryz.prog drawB Tryz.f99 i99 r99=true:=by kernel_rfl
def i102:IC :=
 (.seq
 (.reg [
 iE 1 (.alc 30 [i64 0,i64 0])])
 (.seq
 (.reg [
 iF 2 1 0,
 iL 3 2,
 iC 4 58 [.t 3],
 ⟨none,none,.e (.st 2 (.t 1) (.t 4))⟩])
 .ret))
def r102:List RS:=[.cn 1 2]
theorem c102:chkF Tryz.prog drawB Tryz.f102 i102 r102=true:=by kernel_rfl
def i103:IC :=
 (.seq
 (.reg [
 iE 3 (.alc 30 [i64 0,i64 0])])
 (.seq
 (.reg [
 iL 4 0,
 iF 5 0 1,
 iL 6 5,
 iP 7 (.mkf (.func 104) [] [(.t 2)]),
 iC 8 59 [.t 4,.t 6,.t 7],
 ⟨none,none,.e (.st 2 (.t 3) (.t 8))⟩])
 .ret))
def r103:List RS:=[.cn 3 2]
theorem c103:chkF Tryz.prog drawB Tryz.f103 i103 r103=true:=by kernel_rfl
def i104:IC :=
 (.seq
 (.reg [
 iE 3 (.alc 30 [i64 0,i64 0])])
 (.seq
 (.seq
 (.reg [
 iL 4 1,
 iM 5 0,
 iP 6 (.ia 9 (.t 4) (.t 5)),
 iF 7 8 6,
 iL 8 7,
 iP 9 (.bin .neq (.i .i64) (.t 8) (.c (i64 0)))])
 (.cond (.t 9)
 (.reg [
 iL 10 1,
 iM 11 0,
 iP 12 (.ia 9 (.t 10) (.t 11)),
 iF 13 8 12,
 iL 14 13,
 iP 15 (.mki 31 (.t 14)),
 ⟨none,none,.e (.pan (.t 15))⟩])
 .skip))
 (.seq
 (.reg [
 iL 16 1,
 iM 17 0,
 iP 18 (.ia 9 (.t 16) (.t 17)),
 iF 19 6 18,
 iP 20 (.ldn 2 (.t 19)),
 ⟨none,none,.e (.st 2 (.t 3) (.t 20))⟩])
 .ret)))
def r104:List RS:=[.cn 3 2]
theorem c104:chkF Tryz.prog drawB Tryz.f104 i104 r104=true:=by kernel_rfl
def i105:IC :=
 (.seq
 (.reg [
 iP 2 (.mov (.c (bl false)))])
 (.seq
 (.reg [
 iM 3 0,
 iP 4 (.bin .geq (.i .u8) (.t 3) (.c (.val (.int .u8 48)))),
 iM 5 4,
 iG 6 5 true (.mov (.t 0)),
 iG 7 5 true (.bin .leq (.i .u8) (.t 6) (.c (.val (.int .u8 57)))),
 iP 8 (.pick (.t 5) (.t 7) (.c (bl false))),
 iM 2 8])
 .ret))
def r105:List RS:=[.t 2]
theorem c105:chkF Tryz.prog drawB Tryz.f105 i105 r105=true:=by kernel_rfl
def l106_0:IC:=.keep [0,4,5]
 (.seq
 (.seq
 (.reg [
 iM 17 5,
 iM 18 0,
 iP 19 (.lens (.t 18)),
 iP 20 (.bin .lss (.i .i64) (.t 17) (.t 19))])
 (.cond (.t 20)
 .skip
 (.exit 0)))
 (.seq
 (.blk 1
 (.reg [
 iM 23 4,
 iP 24 (.bin .mul (.i .i64) (.c (i64 10)) (.t 23)),
 iM 25 0,
 iM 26 5,
 iP 27 (.ixs (.t 25) (.t 26)),
 iP 28 (.bin .sub (.i .u8) (.t 27) (.c (.val (.int .u8 48)))),
 iP 29 (.cvi .i64 (.t 28)),
 iP 30 (.bin .add (.i .i64) (.t 24) (.t 29)),
 iM 4 30]))
 (.reg [
 iM 21 5,
 iP 22 (.bin .add (.i .i64) (.t 21) (.c (i64 1))),
 iM 5 22])))
def i106:IC :=
 (.seq
 (.reg [
 iP 2 (.mov (.c (i64 0))),
 iP 3 (.mov (.c (i64 0)))])
 (.seq
 (.seq
 (.reg [
 iM 6 0,
 iP 7 (.lens (.t 6)),
 iP 8 (.bin .gtr (.i .i64) (.t 7) (.c (i64 1))),
 iM 9 8,
 iG 10 9 true (.mov (.t 0)),
 iG 11 9 true (.ixs (.t 10) (.c (i64 0))),
 iG 12 9 true (.bin .eql (.i .u8) (.t 11) (.c (.val (.int .u8 48)))),
 iP 13 (.pick (.t 9) (.t 12) (.c (bl false)))])
 (.cond (.t 13)
 (.seq
 (.reg [
 iP 2 (.mov (.c (i64 0))),
 iP 3 (.mov (.c (i64 3)))])
 .ret)
 .skip))
 (.seq
 (.seq
 (.reg [
 iM 14 0,
 iP 15 (.lens (.t 14)),
 iP 16 (.bin .gtr (.i .i64) (.t 15) (.c (i64 10)))])
 (.cond (.t 16)
 (.seq
 (.reg [
 iP 2 (.mov (.c (i64 0))),
 iP 3 (.mov (.c (i64 2)))])
 .ret)
 .skip))
 (.seq
 (.reg [
 iP 4 (.mov (.c (i64 0)))])
 (.seq
 (.seq
 (.reg [
 iP 5 (.mov (.c (i64 0)))])
 (.blk 0
 (.loop l106_0)))
 (.seq
 (.seq
 (.reg [
 iM 31 4,
 iP 32 (.bin .gtr (.i .i64) (.t 31) (.c (i64 1000000000)))])
 (.cond (.t 32)
 (.seq
 (.reg [
 iP 2 (.mov (.c (i64 0))),
 iP 3 (.mov (.c (i64 2)))])
 .ret)
 .skip))
 (.seq
 (.reg [
 iM 33 4,
 iM 2 33,
 iP 3 (.mov (.c (i64 0)))])
 .ret)))))))
def r106:List RS:=[.t 2,.t 3]
theorem c106:chkF Tryz.prog drawB Tryz.f106 i106 r106=true:=by kernel_rfl
def i107:IC :=
 (.seq
 (.reg [
 iP 2 (.mov (.c (bl false)))])
 (.seq
 (.reg [
 iM 3 0,
 iP 4 (.bin .eql .s (.t 3) (.c (st ⟨#[61,61]⟩))),
 iM 5 4,
 iG 6 5 false (.mov (.t 0)),
 iG 7 5 false (.bin .eql .s (.t 6) (.c (st ⟨#[33,61]⟩))),
 iP 8 (.pick (.t 5) (.c (bl true)) (.t 7)),
 iM 9 8,
 iG 10 9 false (.mov (.t 0)),
 iG 11 9 false (.bin .eql .s (.t 10) (.c (st ⟨#[60,61]⟩))),
 iP 12 (.pick (.t 9) (.c (bl true)) (.t 11)),
 iM 13 12,
 iG 14 13 false (.mov (.t 0)),
 iG 15 13 false (.bin .eql .s (.t 14) (.c (st ⟨#[62,61]⟩))),
 iP 16 (.pick (.t 13) (.c (bl true)) (.t 15)),
 iM 17 16,
 iG 18 17 false (.mov (.t 0)),
 iG 19 17 false (.bin .eql .s (.t 18) (.c (st ⟨#[46,46]⟩))),
 iP 20 (.pick (.t 17) (.c (bl true)) (.t 19)),
 iM 2 20])
 .ret))
def r107:List RS:=[.t 2]
theorem c107:chkF Tryz.prog drawB Tryz.f107 i107 r107=true:=by kernel_rfl
def l108_0:IC:=.keep [0,3,4]
 (.seq
 (.seq
 (.reg [
 iM 5 4,
 iM 6 3,
 iP 7 (.lens (.t 6)),
 iP 8 (.bin .lss (.i .i64) (.t 5) (.t 7))])
 (.cond (.t 8)
 .skip
 (.exit 0)))
 (.seq
 (.blk 1
 (.seq
 (.reg [
 iM 11 3,
 iM 12 4,
 iP 13 (.ixs (.t 11) (.t 12)),
 iM 14 0,
 iP 15 (.bin .eql (.i .u8) (.t 13) (.t 14))])
 (.cond (.t 15)
 (.seq
 (.reg [
 iP 2 (.mov (.c (bl true)))])
 .ret)
 .skip)))
 (.reg [
 iM 9 4,
 iP 10 (.bin .add (.i .i64) (.t 9) (.c (i64 1))),
 iM 4 10])))
def i108:IC :=
 (.seq
 (.reg [
 iP 2 (.mov (.c (bl false)))])
 (.seq
 (.reg [
 iP 3 (.mov (.c (st ⟨#[123,125,40,41,58,59,44,43,45,42,47,37,60,62,61]⟩)))])
 (.seq
 (.seq
 (.reg [
 iP 4 (.mov (.c (i64 0)))])
 (.blk 0
 (.loop l108_0)))
 (.seq
 (.reg [
 iP 2 (.mov (.c (bl false)))])
 .ret))))
def r108:List RS:=[.t 2]
theorem c108:chkF Tryz.prog drawB Tryz.f108 i108 r108=true:=by kernel_rfl
def i109:IC :=
 (.seq
 (.reg [
 iE 2 (.alc 24 [i64 0,i64 0,st ⟨#[]⟩,.val (.slice none 0 0),i64 0])])
 (.seq
 (.seq
 (.reg [
 iM 5 0,
 iC 6 89 [.t 5,(.c (st ⟨#[110,111,116]⟩))],
 iP 7 (.not (.t 6))])
 (.cond (.t 7)
 (.seq
 (.reg [
 iM 8 0,
 iC 9 118 [.t 8],
 ⟨none,none,.e (.st 5 (.t 2) (.t 9))⟩])
 .ret)
 .skip))
 (.seq
 (.reg [
 iM 10 0,
 iC 11 119 [.t 10,(.c (st ⟨#[110,111,116]⟩))],
 iM 3 11])
 (.seq
 (.seq
 (.reg [
 iM 12 0,
 iC 13 69 [.t 12]])
 (.cond (.t 13)
 (.seq
 (.reg [
 iP 14 (.bld [i64 0,i64 0,st ⟨#[]⟩,.val (.slice none 0 0),i64 0] []),
 ⟨none,none,.e (.st 5 (.t 2) (.t 14))⟩])
 .ret)
 .skip))
 (.seq
 (.reg [
 iM 15 0,
 iC 16 109 [.t 15],
 iE 4 (.alc 24 [i64 0,i64 0,st ⟨#[]⟩,.val (.slice none 0 0),i64 0]),
 ⟨none,none,.e (.st 5 (.t 4) (.t 16))⟩])
 (.seq
 (.reg [
 iM 17 0,
 iP 18 (.nck (.t 17)),
 iF 19 3 18,
 iL 20 19,
 iP 21 (.bin .sub (.i .i64) (.t 20) (.c (i64 1))),
 iP 22 (.nck (.t 17)),
 iF 23 3 22,
 ⟨none,none,.e (.st 1 (.t 23) (.t 21))⟩])
 (.seq
 (.reg [
 iP 24 (.ldn 5 (.t 4)),
 iE 25 (.bsl 24 5 1 [i64 0,i64 0,st ⟨#[]⟩,.val (.slice none 0 0),i64 0] [(0,(.t 24))]),
 iM 26 3,
 iP 27 (.bld [i64 0,i64 0,st ⟨#[]⟩,.val (.slice none 0 0),i64 0] [(0,1,(.c (i64 4))),(3,1,(.t 25)),(4,1,(.t 26))]),
 ⟨none,none,.e (.st 5 (.t 2) (.t 27))⟩])
 .ret)))))))
def r109:List RS:=[.cn 2 5]
theorem c109:chkF Tryz.prog drawB Tryz.f109 i109 r109=true:=by kernel_rfl
def l110_0:IC:=.keep [2,3,7,8,9]
 (.seq
 (.reg [
 iP 10 (.bin .lss (.i .i64) (.t 9) (.t 8))])
 (.seq
 (.cond (.t 10)
 .skip
 (.exit 0))
 (.seq
 (.blk 1
 (.seq
 (.reg [
 iP 11 (.ia 1 (.t 7) (.t 9)),
 iL 12 11,
 iM 6 12])
 (.reg [
 iF 13 1 2,
 iL 14 13,
 iM 15 6,
 iP 16 (.ldn 3 (.t 3)),
 ⟨none,none,.e (.mup (.i .i64) (.t 14) (.t 15) (.t 16))⟩])))
 (.reg [
 iP 17 (.bin .add (.i .i64) (.t 9) (.c (i64 1))),
 iM 9 17]))))
def i110:IC :=
 (.seq
 (.reg [
 iE 3 (.box 127 (.t 0))])
 (.seq
 (.reg [
 iM 7 1,
 iP 8 (.len (.t 7)),
 iP 9 (.mov (.c (i64 0)))])
 (.blk 0
 (.loop l110_0))))
def r110:List RS:=[]
theorem c110:chkF Tryz.prog drawB Tryz.f110 i110 r110=true:=by kernel_rfl
def i111:IC :=
 (.seq
 (.reg [
 iP 2 (.mov (.c (.val (.slice none 0 0)))),
 iP 3 (.mov (.c (i64 0)))])
 (.seq
 (.drw [0,1,2,3,4,5,7,8,9,6,10,11] [
 iM 4 0,
 iP 5 (.ia 1 (.t 4) (.c (i64 1))),
 iL 6 5,
 iM 7 0,
 iP 8 (.ia 1 (.t 7) (.c (i64 1))),
 iL 9 8,
 iM 11 0,
 iP 12 (.ia 1 (.t 11) (.c (i64 1))),
 iL 13 12,
 iE 10 (.bsl 3 1 3 [i64 0] [(0,(.c (i64 2))),(1,(.t 6)),(2,(.t 9))]),
 iM 2 10,
 iM 3 13])
 .ret))
def r111:List RS:=[.t 2,.t 3]
theorem c111:chkF Tryz.prog drawB Tryz.f111 i111 r111=true:=by kernel_rfl
def i113:IC :=
 (.seq
 (.reg [
 iP 4 (.mov (.c (.val .nilIface)))])
 (.seq
 (.reg [
 iM 5 0,
 iM 6 1,
 iP 7 (.bld [i64 0,i64 0] [(0,1,(.t 5)),(1,1,(.t 6))]),
 iP 8 (.bld [i64 0,i64 0] [(0,2,(.t 7))]),
 iP 9 (.mki 135 (.t 8)),
 iM 4 9])
 .ret))
def r113:List RS:=[.t 4]
theorem c113:chkF Tryz.prog drawB Tryz.f113 i113 r113=true:=by kernel_rfl
def i114:IC :=
 (.seq
 (.reg [
 iP 4 (.mov (.c (bl false)))])
 (.seq
 (.reg [
 iM 5 0,
 iP 6 (.nck (.t 5)),
 iF 7 0 6,
 iL 8 7,
 iM 9 1,
 iP 10 (.lkp .s false (bl false) (.t 8) (.t 9)),
 iM 4 10])
 .ret))
def r114:List RS:=[.t 4]
theorem c114:chkF Tryz.prog drawB Tryz.f114 i114 r114=true:=by kernel_rfl
def l118_0:IC:=.keep [0,2,3,4,5]
 (.seq
 (.seq
 (.reg [
 iM 10 5,
 iP 11 (.bin .lss (.i .i64) (.t 10) (.c (i64 6)))])
 (.cond (.t 11)
 .skip
 (.exit 0)))
 (.seq
 (.blk 1
 (.seq
 (.reg [
 iM 14 0,
 iM 15 4,
 iM 16 5,
 iP 17 (.ia 1 (.t 15) (.t 16)),
 iL 18 17,
 iC 19 89 [.t 14,.t 18]])
 (.cond (.t 19)
 (.seq
 (.reg [
 iM 20 0,
 iM 21 4,
 iM 22 5,
 iP 23 (.ia 1 (.t 21) (.t 22)),
 iL 24 23,
 iC 25 90 [.t 20,.t 24],
 iM 6 25])
 (.seq
 (.drw [0,1,2,3,4,5,6,7] [
 iM 26 5,
 iP 27 (.bin .add (.i .i64) (.c (i64 10)) (.t 26)),
 iM 28 6,
 iP 29 (.ldn 5 (.t 3)),
 iM 30 0,
 iC 31 125 [.t 30],
 ⟨(some 32),none,.q (.c (.fn (.func 91) [] [])) [(.t 27),(.t 28),(.t 29),(.t 31)]⟩,
 ⟨none,none,.e (.st 5 (.t 2) (.t 32))⟩])
 .ret))
 .skip)))
 (.reg [
 iM 12 5,
 iP 13 (.bin .add (.i .i64) (.t 12) (.c (i64 1))),
 iM 5 13])))
def i118:IC :=
 (.seq
 (.reg [
 iE 2 (.alc 24 [i64 0,i64 0,st ⟨#[]⟩,.val (.slice none 0 0),i64 0])])
 (.seq
 (.reg [
 iM 7 0,
 iC 8 125 [.t 7],
 iE 3 (.alc 24 [i64 0,i64 0,st ⟨#[]⟩,.val (.slice none 0 0),i64 0]),
 ⟨none,none,.e (.st 5 (.t 3) (.t 8))⟩])
 (.seq
 (.reg [
 iE 9 (.bsl 9 1 6 [st ⟨#[]⟩] [(0,(.c (st ⟨#[61,61]⟩))),(1,(.c (st ⟨#[33,61]⟩))),(2,(.c (st ⟨#[60]⟩))),(3,(.c (st ⟨#[60,61]⟩))),(4,(.c (st ⟨#[62]⟩))),(5,(.c (st ⟨#[62,61]⟩)))]),
 iM 4 9])
 (.seq
 (.seq
 (.reg [
 iP 5 (.mov (.c (i64 0)))])
 (.blk 0
 (.loop l118_0)))
 (.seq
 (.reg [
 iP 33 (.ldn 5 (.t 3)),
 ⟨none,none,.e (.st 5 (.t 2) (.t 33))⟩])
 .ret)))))
def r118:List RS:=[.cn 2 5]
theorem c118:chkF Tryz.prog drawB Tryz.f118 i118 r118=true:=by kernel_rfl
def i119:IC :=
 (.seq
 (.reg [
 iP 4 (.mov (.c (i64 0)))])
 (.seq
 (.seq
 (.reg [
 iM 5 0,
 iM 6 1,
 iC 7 89 [.t 5,.t 6],
 iM 8 7,
 iG 9 8 true (.mov (.t 0)),
 iG 10 8 true (.nck (.t 9)),
 iG 11 8 true (.fa 3 (.t 10)),
 iG 12 8 true (.ld1 (.t 11)),
 iG 13 8 true (.bin .eql (.i .i64) (.t 12) (.c (i64 40))),
 iP 14 (.pick (.t 8) (.t 13) (.c (bl false)))])
 (.cond (.t 14)
 (.reg [
 iM 15 0,
 iC 16 68 [.t 15,(.c (i64 5))]])
 .skip))
 (.seq
 (.reg [
 iM 17 0,
 iP 18 (.nck (.t 17)),
 iF 19 3 18,
 iL 20 19,
 iP 21 (.bin .add (.i .i64) (.t 20) (.c (i64 1))),
 iP 22 (.nck (.t 17)),
 iF 23 3 22,
 ⟨none,none,.e (.st 1 (.t 23) (.t 21))⟩])
 (.seq
 (.reg [
 iM 24 0,
 iM 25 1,
 iC 26 90 [.t 24,.t 25],
 iM 4 26])
 .ret))))
def r119:List RS:=[.t 4]
theorem c119:chkF Tryz.prog drawB Tryz.f119 i119 r119=true:=by kernel_rfl
def l125_0:IC:=.keep [0,2,3]
 (.seq
 (.seq
 (.reg [
 iM 8 0,
 iC 9 89 [.t 8,(.c (st ⟨#[43]⟩))],
 iM 10 9,
 iG 11 10 false (.mov (.t 0)),
 ⟨(some 12),(some (10,false)),.q (.c (.fn (.func 89) [] [])) [(.t 11),(.c (st ⟨#[45]⟩))]⟩,
 iP 13 (.pick (.t 10) (.c (bl true)) (.t 12))])
 (.cond (.t 13)
 .skip
 (.exit 0)))
 (.blk 1
 (.seq
 (.reg [
 iP 4 (.mov (.c (i64 8)))])
 (.seq
 (.seq
 (.reg [
 iM 14 0,
 iC 15 89 [.t 14,(.c (st ⟨#[45]⟩))]])
 (.cond (.t 15)
 (.reg [
 iP 4 (.mov (.c (i64 9)))])
 .skip))
 (.seq
 (.reg [
 iM 16 0,
 iC 17 92 [.t 16],
 iM 5 17])
 (.seq
 (.reg [
 iM 18 0,
 iP 19 (.nck (.t 18)),
 iF 20 2 19,
 iL 21 20,
 iP 22 (.bin .add (.i .i64) (.t 21) (.c (i64 1))),
 iP 23 (.nck (.t 18)),
 iF 24 2 23,
 ⟨none,none,.e (.st 1 (.t 24) (.t 22))⟩])
 (.drw [0,1,2,3,4,5,6] [
 iM 25 4,
 iM 26 5,
 iP 27 (.ldn 5 (.t 3)),
 iM 28 0,
 iC 29 129 [.t 28],
 ⟨(some 30),none,.q (.c (.fn (.func 91) [] [])) [(.t 25),(.t 26),(.t 27),(.t 29)]⟩,
 ⟨none,none,.e (.st 5 (.t 3) (.t 30))⟩])))))))
def i125:IC :=
 (.seq
 (.reg [
 iE 2 (.alc 24 [i64 0,i64 0,st ⟨#[]⟩,.val (.slice none 0 0),i64 0])])
 (.seq
 (.reg [
 iM 6 0,
 iC 7 129 [.t 6],
 iE 3 (.alc 24 [i64 0,i64 0,st ⟨#[]⟩,.val (.slice none 0 0),i64 0]),
 ⟨none,none,.e (.st 5 (.t 3) (.t 7))⟩])
 (.seq
 (.blk 0
 (.loop l125_0))
 (.seq
 (.reg [
 iP 31 (.ldn 5 (.t 3)),
 ⟨none,none,.e (.st 5 (.t 2) (.t 31))⟩])
 .ret))))
def r125:List RS:=[.cn 2 5]
theorem c125:chkF Tryz.prog drawB Tryz.f125 i125 r125=true:=by kernel_rfl
def l129_0:IC:=.keep [0,2,3]
 (.seq
 (.seq
 (.reg [
 iM 8 0,
 iC 9 89 [.t 8,(.c (st ⟨#[42]⟩))],
 iM 10 9,
 iG 11 10 false (.mov (.t 0)),
 ⟨(some 12),(some (10,false)),.q (.c (.fn (.func 89) [] [])) [(.t 11),(.c (st ⟨#[47]⟩))]⟩,
 iP 13 (.pick (.t 10) (.c (bl true)) (.t 12)),
 iM 14 13,
 iG 15 14 false (.mov (.t 0)),
 ⟨(some 16),(some (14,false)),.q (.c (.fn (.func 89) [] [])) [(.t 15),(.c (st ⟨#[37]⟩))]⟩,
 iP 17 (.pick (.t 14) (.c (bl true)) (.t 16))])
 (.cond (.t 17)
 .skip
 (.exit 0)))
 (.blk 1
 (.seq
 (.reg [
 iP 4 (.mov (.c (i64 5)))])
 (.seq
 (.seq
 (.reg [
 iM 18 0,
 iC 19 89 [.t 18,(.c (st ⟨#[47]⟩))]])
 (.cond (.t 19)
 (.reg [
 iP 4 (.mov (.c (i64 6)))])
 .skip))
 (.seq
 (.seq
 (.reg [
 iM 20 0,
 iC 21 89 [.t 20,(.c (st ⟨#[37]⟩))]])
 (.cond (.t 21)
 (.reg [
 iP 4 (.mov (.c (i64 7)))])
 .skip))
 (.seq
 (.reg [
 iM 22 0,
 iC 23 92 [.t 22],
 iM 5 23])
 (.seq
 (.reg [
 iM 24 0,
 iP 25 (.nck (.t 24)),
 iF 26 2 25,
 iL 27 26,
 iP 28 (.bin .add (.i .i64) (.t 27) (.c (i64 1))),
 iP 29 (.nck (.t 24)),
 iF 30 2 29,
 ⟨none,none,.e (.st 1 (.t 30) (.t 28))⟩])
 (.drw [0,1,2,3,4,5,6] [
 iM 31 4,
 iM 32 5,
 iP 33 (.ldn 5 (.t 3)),
 iM 34 0,
 iC 35 130 [.t 34],
 ⟨(some 36),none,.q (.c (.fn (.func 91) [] [])) [(.t 31),(.t 32),(.t 33),(.t 35)]⟩,
 ⟨none,none,.e (.st 5 (.t 3) (.t 36))⟩]))))))))
def i129:IC :=
 (.seq
 (.reg [
 iE 2 (.alc 24 [i64 0,i64 0,st ⟨#[]⟩,.val (.slice none 0 0),i64 0])])
 (.seq
 (.reg [
 iM 6 0,
 iC 7 130 [.t 6],
 iE 3 (.alc 24 [i64 0,i64 0,st ⟨#[]⟩,.val (.slice none 0 0),i64 0]),
 ⟨none,none,.e (.st 5 (.t 3) (.t 7))⟩])
 (.seq
 (.blk 0
 (.loop l129_0))
 (.seq
 (.reg [
 iP 37 (.ldn 5 (.t 3)),
 ⟨none,none,.e (.st 5 (.t 2) (.t 37))⟩])
 .ret))))
def r129:List RS:=[.cn 2 5]
theorem c129:chkF Tryz.prog drawB Tryz.f129 i129 r129=true:=by kernel_rfl
def l130_1:IC:=.keep [0,2,8,9,10]
 (.seq
 (.seq
 (.reg [
 iM 97 10,
 iM 98 8,
 iP 99 (.bin .quo (.i .i64) (.t 98) (.c (i64 2))),
 iP 100 (.bin .leq (.i .i64) (.t 97) (.t 99))])
 (.cond (.t 100)
 .skip
 (.exit 2)))
 (.seq
 (.blk 3
 (.seq
 (.reg [
 iM 103 0,
 iC 104 90 [.t 103,(.c (st ⟨#[44]⟩))]])
 (.seq
 (.seq
 (.reg [
 iM 105 0,
 iC 106 69 [.t 105]])
 (.cond (.t 106)
 (.seq
 (.reg [
 iP 107 (.bld [i64 0,i64 0,st ⟨#[]⟩,.val (.slice none 0 0),i64 0] []),
 ⟨none,none,.e (.st 5 (.t 2) (.t 107))⟩])
 .ret)
 .skip))
 (.drw [0,1,2,3,4,5,6,7] [
 iF 108 3 9,
 iL 109 108,
 iM 110 0,
 iC 111 67 [.t 110],
 iE 112 (.bsl 24 5 1 [i64 0,i64 0,st ⟨#[]⟩,.val (.slice none 0 0),i64 0] [(0,(.t 111))]),
 iE 113 (.app 24 5 64 (.t 109) (.t 112)),
 iF 114 3 9,
 ⟨none,none,.e (.stw [109] 1 (.t 114) (.t 113))⟩]))))
 (.reg [
 iM 101 10,
 iP 102 (.bin .add (.i .i64) (.t 101) (.c (i64 1))),
 iM 10 102])))
def l130_0:IC:=.keep [0,2,3,6,7,8]
 (.seq
 (.seq
 (.reg [
 iM 63 8,
 iP 64 (.bin .lss (.i .i64) (.t 63) (.c (i64 3)))])
 (.cond (.t 64)
 .skip
 (.exit 0)))
 (.seq
 (.blk 1
 (.seq
 (.reg [
 iM 67 0,
 iM 68 7,
 iM 69 8,
 iP 70 (.ia 1 (.t 68) (.t 69)),
 iL 71 70,
 iC 72 89 [.t 67,.t 71]])
 (.cond (.t 72)
 (.seq
 (.reg [
 iM 73 0,
 iM 74 7,
 iM 75 8,
 iP 76 (.ia 1 (.t 74) (.t 75)),
 iL 77 76,
 iC 78 90 [.t 73,.t 77]])
 (.seq
 (.reg [
 iM 79 0,
 iC 80 119 [.t 79,(.c (st ⟨#[40]⟩))]])
 (.seq
 (.seq
 (.reg [
 iM 81 0,
 iC 82 69 [.t 81]])
 (.cond (.t 82)
 (.seq
 (.reg [
 iP 83 (.bld [i64 0,i64 0,st ⟨#[]⟩,.val (.slice none 0 0),i64 0] []),
 ⟨none,none,.e (.st 5 (.t 2) (.t 83))⟩])
 .ret)
 .skip))
 (.seq
 (.reg [
 iM 84 6,
 iM 85 8,
 iP 86 (.ia 1 (.t 84) (.t 85)),
 iL 87 86,
 iM 88 3,
 iP 89 (.bld [i64 0,i64 0,st ⟨#[]⟩,.val (.slice none 0 0),i64 0] [(0,1,(.t 87)),(4,1,(.t 88))]),
 iE 9 (.alc 24 [i64 0,i64 0,st ⟨#[]⟩,.val (.slice none 0 0),i64 0]),
 ⟨none,none,.e (.st 5 (.t 9) (.t 89))⟩])
 (.seq
 (.drw [0,1,2,3,4,5,6,7] [
 iF 90 3 9,
 iL 91 90,
 iM 92 0,
 iC 93 67 [.t 92],
 iE 94 (.bsl 24 5 1 [i64 0,i64 0,st ⟨#[]⟩,.val (.slice none 0 0),i64 0] [(0,(.t 93))]),
 iE 95 (.app 24 5 64 (.t 91) (.t 94)),
 iF 96 3 9,
 ⟨none,none,.e (.stw [91] 1 (.t 96) (.t 95))⟩])
 (.seq
 (.seq
 (.reg [
 iP 10 (.mov (.c (i64 0)))])
 (.blk 2
 (.loop l130_1)))
 (.seq
 (.reg [
 iM 115 0,
 iC 116 90 [.t 115,(.c (st ⟨#[41]⟩))]])
 (.seq
 (.reg [
 iM 117 0,
 iP 118 (.nck (.t 117)),
 iF 119 3 118,
 iL 120 119,
 iP 121 (.bin .sub (.i .i64) (.t 120) (.c (i64 1))),
 iP 122 (.nck (.t 117)),
 iF 123 3 122,
 ⟨none,none,.e (.st 1 (.t 123) (.t 121))⟩])
 (.seq
 (.reg [
 iP 124 (.ldn 5 (.t 9)),
 ⟨none,none,.e (.st 5 (.t 2) (.t 124))⟩])
 .ret)))))))))
 .skip)))
 (.reg [
 iM 65 8,
 iP 66 (.bin .add (.i .i64) (.t 65) (.c (i64 1))),
 iM 8 66])))
def i130:IC :=
 (.seq
 (.reg [
 iE 2 (.alc 24 [i64 0,i64 0,st ⟨#[]⟩,.val (.slice none 0 0),i64 0])])
 (.seq
 (.seq
 (.reg [
 iM 11 0,
 iC 12 69 [.t 11]])
 (.cond (.t 12)
 (.seq
 (.reg [
 iP 13 (.bld [i64 0,i64 0,st ⟨#[]⟩,.val (.slice none 0 0),i64 0] []),
 ⟨none,none,.e (.st 5 (.t 2) (.t 13))⟩])
 .ret)
 .skip))
 (.seq
 (.reg [
 iM 14 0,
 iC 15 92 [.t 14],
 iM 3 15])
 (.seq
 (.seq
 (.reg [
 iM 16 0,
 iC 17 131 [.t 16]])
 (.cond (.t 17)
 (.seq
 (.reg [
 iM 18 0,
 iC 19 132 [.t 18],
 iM 20 3,
 iP 21 (.bld [i64 0,i64 0,st ⟨#[]⟩,.val (.slice none 0 0),i64 0] [(0,1,(.c (i64 2))),(2,1,(.t 19)),(4,1,(.t 20))]),
 ⟨none,none,.e (.st 5 (.t 2) (.t 21))⟩])
 .ret)
 .skip))
 (.seq
 (.seq
 (.reg [
 iM 22 0,
 iC 23 89 [.t 22,(.c (st ⟨#[45]⟩))]])
 (.cond (.t 23)
 (.seq
 (.reg [
 iM 24 0,
 iC 25 119 [.t 24,(.c (st ⟨#[45]⟩))]])
 (.seq
 (.seq
 (.reg [
 iM 26 0,
 iC 27 69 [.t 26]])
 (.cond (.t 27)
 (.seq
 (.reg [
 iP 28 (.bld [i64 0,i64 0,st ⟨#[]⟩,.val (.slice none 0 0),i64 0] []),
 ⟨none,none,.e (.st 5 (.t 2) (.t 28))⟩])
 .ret)
 .skip))
 (.seq
 (.reg [
 iM 29 0,
 iC 30 130 [.t 29],
 iE 4 (.alc 24 [i64 0,i64 0,st ⟨#[]⟩,.val (.slice none 0 0),i64 0]),
 ⟨none,none,.e (.st 5 (.t 4) (.t 30))⟩])
 (.seq
 (.reg [
 iM 31 0,
 iP 32 (.nck (.t 31)),
 iF 33 3 32,
 iL 34 33,
 iP 35 (.bin .sub (.i .i64) (.t 34) (.c (i64 1))),
 iP 36 (.nck (.t 31)),
 iF 37 3 36,
 ⟨none,none,.e (.st 1 (.t 37) (.t 35))⟩])
 (.seq
 (.reg [
 iP 38 (.ldn 5 (.t 4)),
 iE 39 (.bsl 24 5 1 [i64 0,i64 0,st ⟨#[]⟩,.val (.slice none 0 0),i64 0] [(0,(.t 38))]),
 iM 40 3,
 iP 41 (.bld [i64 0,i64 0,st ⟨#[]⟩,.val (.slice none 0 0),i64 0] [(0,1,(.c (i64 3))),(3,1,(.t 39)),(4,1,(.t 40))]),
 ⟨none,none,.e (.st 5 (.t 2) (.t 41))⟩])
 .ret)))))
 .skip))
 (.seq
 (.seq
 (.reg [
 iM 42 0,
 iC 43 89 [.t 42,(.c (st ⟨#[40]⟩))]])
 (.cond (.t 43)
 (.seq
 (.reg [
 iM 44 0,
 iC 45 119 [.t 44,(.c (st ⟨#[40]⟩))]])
 (.seq
 (.seq
 (.reg [
 iM 46 0,
 iC 47 69 [.t 46]])
 (.cond (.t 47)
 (.seq
 (.reg [
 iP 48 (.bld [i64 0,i64 0,st ⟨#[]⟩,.val (.slice none 0 0),i64 0] []),
 ⟨none,none,.e (.st 5 (.t 2) (.t 48))⟩])
 .ret)
 .skip))
 (.seq
 (.reg [
 iM 49 0,
 iC 50 67 [.t 49],
 iE 5 (.alc 24 [i64 0,i64 0,st ⟨#[]⟩,.val (.slice none 0 0),i64 0]),
 ⟨none,none,.e (.st 5 (.t 5) (.t 50))⟩])
 (.seq
 (.reg [
 iM 51 0,
 iC 52 90 [.t 51,(.c (st ⟨#[41]⟩))]])
 (.seq
 (.reg [
 iM 53 0,
 iP 54 (.nck (.t 53)),
 iF 55 3 54,
 iL 56 55,
 iP 57 (.bin .sub (.i .i64) (.t 56) (.c (i64 1))),
 iP 58 (.nck (.t 53)),
 iF 59 3 58,
 ⟨none,none,.e (.st 1 (.t 59) (.t 57))⟩])
 (.seq
 (.reg [
 iP 60 (.ldn 5 (.t 5)),
 ⟨none,none,.e (.st 5 (.t 2) (.t 60))⟩])
 .ret))))))
 .skip))
 (.seq
 (.reg [
 iE 61 (.bsl 3 1 3 [i64 0] [(0,(.c (i64 18))),(1,(.c (i64 19))),(2,(.c (i64 20)))]),
 iM 6 61])
 (.seq
 (.reg [
 iE 62 (.bsl 9 1 3 [st ⟨#[]⟩] [(0,(.c (st ⟨#[109,105,110]⟩))),(1,(.c (st ⟨#[109,97,120]⟩))),(2,(.c (st ⟨#[105,102]⟩)))]),
 iM 7 62])
 (.seq
 (.seq
 (.reg [
 iP 8 (.mov (.c (i64 0)))])
 (.blk 0
 (.loop l130_0)))
 (.seq
 (.reg [
 iM 125 0,
 iC 126 133 [.t 125],
 iM 127 3,
 iP 128 (.bld [i64 0,i64 0,st ⟨#[]⟩,.val (.slice none 0 0),i64 0] [(0,1,(.c (i64 1))),(1,1,(.t 126)),(4,1,(.t 127))]),
 ⟨none,none,.e (.st 5 (.t 2) (.t 128))⟩])
 .ret))))))))))
def r130:List RS:=[.cn 2 5]
theorem c130:chkF Tryz.prog drawB Tryz.f130 i130 r130=true:=by kernel_rfl
def i131:IC :=
 (.seq
 (.reg [
 iP 2 (.mov (.c (bl false)))])
 (.seq
 (.drw [0,1,2,3,4,5,6,7,8,9,10,11,12,13,14,15,16,17,18,19,20,21,22,23,24,25,26,27,28,29,30,31,32,33,34,35,36,37,38,39,40,41,42,43,44] [
 iM 3 0,
 ⟨(some 4),none,.q (.c (.fn (.func 69) [] [])) [(.t 3)]⟩,
 iP 5 (.not (.t 4)),
 iM 6 5,
 iG 7 6 true (.mov (.t 0)),
 iG 8 6 true (.nck (.t 7)),
 iG 9 6 true (.fa 2 (.t 8)),
 iG 10 6 true (.ld1 (.t 9)),
 iG 11 6 true (.mov (.t 0)),
 iG 12 6 true (.nck (.t 11)),
 iG 13 6 true (.fa 0 (.t 12)),
 iG 14 6 true (.ld1 (.t 13)),
 iG 15 6 true (.len (.t 14)),
 iG 16 6 true (.bin .lss (.i .i64) (.t 10) (.t 15)),
 iP 17 (.pick (.t 6) (.t 16) (.c (bl false))),
 iM 18 17,
 iG 19 18 true (.mov (.t 0)),
 iG 20 18 true (.nck (.t 19)),
 iG 21 18 true (.fa 0 (.t 20)),
 iG 22 18 true (.ld1 (.t 21)),
 iG 23 18 true (.mov (.t 0)),
 iG 24 18 true (.nck (.t 23)),
 iG 25 18 true (.fa 2 (.t 24)),
 iG 26 18 true (.ld1 (.t 25)),
 iG 27 18 true (.ia 4 (.t 22) (.t 26)),
 iG 28 18 true (.fa 0 (.t 27)),
 iG 29 18 true (.ld1 (.t 28)),
 iG 30 18 true (.bin .eql (.i .i64) (.t 29) (.c (i64 1))),
 iP 31 (.pick (.t 18) (.t 30) (.c (bl false))),
 iM 32 31,
 iG 33 32 true (.mov (.t 0)),
 iG 34 32 true (.nck (.t 33)),
 iG 35 32 true (.fa 0 (.t 34)),
 iG 36 32 true (.ld1 (.t 35)),
 iG 37 32 true (.mov (.t 0)),
 iG 38 32 true (.nck (.t 37)),
 iG 39 32 true (.fa 2 (.t 38)),
 iG 40 32 true (.ld1 (.t 39)),
 iG 41 32 true (.ia 4 (.t 36) (.t 40)),
 iG 42 32 true (.fa 1 (.t 41)),
 iG 43 32 true (.ld1 (.t 42)),
 ⟨(some 44),(some (32,true)),.q (.c (.fn (.func 94) [] [])) [(.t 43)]⟩,
 iG 45 32 true (.not (.t 44)),
 iP 46 (.pick (.t 32) (.t 45) (.c (bl false))),
 iM 2 46])
 .ret))
def r131:List RS:=[.t 2]
theorem c131:chkF Tryz.prog drawB Tryz.f131 i131 r131=true:=by kernel_rfl
def i132:IC :=
 (.seq
 (.reg [
 iP 2 (.mov (.c (st ⟨#[]⟩)))])
 (.seq
 (.seq
 (.reg [
 iM 3 0,
 iC 4 131 [.t 3],
 iP 5 (.not (.t 4))])
 (.cond (.t 5)
 (.seq
 (.reg [
 iM 6 0,
 iC 7 68 [.t 6,(.c (i64 11))]])
 (.seq
 (.reg [
 iP 2 (.mov (.c (st ⟨#[]⟩)))])
 .ret))
 .skip))
 (.seq
 (.reg [
 iM 8 0,
 iP 9 (.nck (.t 8)),
 iF 10 2 9,
 iL 11 10,
 iP 12 (.bin .add (.i .i64) (.t 11) (.c (i64 1))),
 iP 13 (.nck (.t 8)),
 iF 14 2 13,
 ⟨none,none,.e (.st 1 (.t 14) (.t 12))⟩])
 (.seq
 (.drw [0,1,2,3,4,5,6,7,8,9,10,11,12] [
 iM 15 0,
 iP 16 (.nck (.t 15)),
 iF 17 0 16,
 iL 18 17,
 iM 19 0,
 iP 20 (.nck (.t 19)),
 iF 21 2 20,
 iL 22 21,
 iP 23 (.bin .sub (.i .i64) (.t 22) (.c (i64 1))),
 iP 24 (.ia 4 (.t 18) (.t 23)),
 iF 25 1 24,
 iL 26 25,
 iM 2 26])
 .ret))))
def r132:List RS:=[.t 2]
theorem c132:chkF Tryz.prog drawB Tryz.f132 i132 r132=true:=by kernel_rfl
def i133:IC :=
 (.seq
 (.reg [
 iP 2 (.mov (.c (i64 0)))])
 (.seq
 (.seq
 (.drw [0,1,2,3,4,5,6,7,8,9,10,11,12,13,14,15,16,17,18,19,20,21,22,23,24,25,26,27] [
 iM 3 0,
 ⟨(some 4),none,.q (.c (.fn (.func 69) [] [])) [(.t 3)]⟩,
 iM 5 4,
 iG 6 5 false (.mov (.t 0)),
 iG 7 5 false (.nck (.t 6)),
 iG 8 5 false (.fa 2 (.t 7)),
 iG 9 5 false (.ld1 (.t 8)),
 iG 10 5 false (.mov (.t 0)),
 iG 11 5 false (.nck (.t 10)),
 iG 12 5 false (.fa 0 (.t 11)),
 iG 13 5 false (.ld1 (.t 12)),
 iG 14 5 false (.len (.t 13)),
 iG 15 5 false (.bin .geq (.i .i64) (.t 9) (.t 14)),
 iP 16 (.pick (.t 5) (.c (bl true)) (.t 15)),
 iM 17 16,
 iG 18 17 false (.mov (.t 0)),
 iG 19 17 false (.nck (.t 18)),
 iG 20 17 false (.fa 0 (.t 19)),
 iG 21 17 false (.ld1 (.t 20)),
 iG 22 17 false (.mov (.t 0)),
 iG 23 17 false (.nck (.t 22)),
 iG 24 17 false (.fa 2 (.t 23)),
 iG 25 17 false (.ld1 (.t 24)),
 iG 26 17 false (.ia 4 (.t 21) (.t 25)),
 iG 27 17 false (.fa 0 (.t 26)),
 iG 28 17 false (.ld1 (.t 27)),
 iG 29 17 false (.bin .neq (.i .i64) (.t 28) (.c (i64 2))),
 iP 30 (.pick (.t 17) (.c (bl true)) (.t 29))])
 (.cond (.t 30)
 (.seq
 (.reg [
 iM 31 0,
 iC 32 68 [.t 31,(.c (i64 11))]])
 (.seq
 (.reg [
 iP 2 (.mov (.c (i64 0)))])
 .ret))
 .skip))
 (.seq
 (.reg [
 iM 33 0,
 iP 34 (.nck (.t 33)),
 iF 35 2 34,
 iL 36 35,
 iP 37 (.bin .add (.i .i64) (.t 36) (.c (i64 1))),
 iP 38 (.nck (.t 33)),
 iF 39 2 38,
 ⟨none,none,.e (.st 1 (.t 39) (.t 37))⟩])
 (.seq
 (.drw [0,1,2,3,4,5,6,7,8,9,10,11,12] [
 iM 40 0,
 iP 41 (.nck (.t 40)),
 iF 42 0 41,
 iL 43 42,
 iM 44 0,
 iP 45 (.nck (.t 44)),
 iF 46 2 45,
 iL 47 46,
 iP 48 (.bin .sub (.i .i64) (.t 47) (.c (i64 1))),
 iP 49 (.ia 4 (.t 43) (.t 48)),
 iF 50 2 49,
 iL 51 50,
 iM 2 51])
 .ret))))
def r133:List RS:=[.t 2]
theorem c133:chkF Tryz.prog drawB Tryz.f133 i133 r133=true:=by kernel_rfl
end Go.Proofs.YtcejichidnlicaaGreatDoor
