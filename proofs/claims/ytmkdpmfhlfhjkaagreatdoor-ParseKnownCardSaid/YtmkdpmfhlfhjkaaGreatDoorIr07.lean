/-
  Steps of the proof: contracts of functions and plain facts that the statement rests on.
-/
import Derived.Test.YtmkdpmfhlfhjkaaGreatDoorP0
set_option linter.all false
namespace Go.Proofs.YtmkdpmfhlfhjkaaGreatDoor
open Go.Ab
abbrev iP (n:Nat) (i:I):Ins:=⟨some n,none,.p i⟩
abbrev iM (n m:Nat):Ins:=⟨some n,none,.p (.mov (.t m))⟩
abbrev iF (n k m:Nat):Ins:=⟨some n,none,.p (.fa k (.t m))⟩
abbrev iL (n m:Nat):Ins:=⟨some n,none,.p (.ld1 (.t m))⟩
abbrev iC (n f:Nat) (l:List Od):Ins:=⟨some n,none,.e (.call (.c (.fn (.func f) [] [])) l)⟩
abbrev iE (n:Nat) (e:E):Ins:=⟨some n,none,.e e⟩
abbrev iG (n g:Nat) (b:Bool) (i:I):Ins:=⟨some n,some (g,b),.p i⟩
def i5:IC :=
 (.seq
 (.reg [
 iP 0 (.mov (.c (bl false)))])
 (.seq
 (.reg [
 iC 31 17 [(.c (st ⟨#[49,32,43,32,50,32,42,32,120]⟩)),(.c (st ⟨#[49,32,43,32,40,50,32,42,32,120,41]⟩))],
 iM 32 31,
 ⟨(some 33),(some (32,true)),.q (.c (.fn (.func 17) [] [])) [(.c (st ⟨#[110,111,116,32,97,32,61,61,32,98]⟩)),(.c (st ⟨#[110,111,116,32,40,97,32,61,61,32,98,41]⟩))]⟩,
 iP 34 (.pick (.t 32) (.t 33) (.c (bl false))),
 iM 35 34,
 ⟨(some 36),(some (35,true)),.q (.c (.fn (.func 17) [] [])) [(.c (st ⟨#[45,32,45,32,49]⟩)),(.c (st ⟨#[45,32,40,45,32,49,41]⟩))]⟩,
 iP 37 (.pick (.t 35) (.t 36) (.c (bl false))),
 iM 38 37,
 ⟨(some 39),(some (38,true)),.q (.c (.fn (.func 17) [] [])) [(.c (st ⟨#[105,102,40,97,32,60,32,49,44,32,50,44,32,109,105,110,40,51,44,32,98,41,41]⟩)),(.c (st ⟨#[105,102,40,97,32,60,32,49,44,32,50,44,32,109,105,110,40,51,44,32,98,41,41]⟩))]⟩,
 iP 40 (.pick (.t 38) (.t 39) (.c (bl false))),
 iM 1 40])
 (.seq
 (.reg [
 iC 41 18 [(.c (st ⟨#[49,32,43]⟩)),(.c (i64 11)),(.c (i64 3))],
 iM 42 41,
 ⟨(some 43),(some (42,true)),.q (.c (.fn (.func 18) [] [])) [(.c (st ⟨#[97,32,60,32,98,32,60,32,99]⟩)),(.c (i64 11)),(.c (i64 6))]⟩,
 iP 44 (.pick (.t 42) (.t 43) (.c (bl false))),
 iM 45 44,
 ⟨(some 46),(some (45,true)),.q (.c (.fn (.func 18) [] [])) [(.c (st ⟨#[105,110]⟩)),(.c (i64 11)),(.c (i64 0))]⟩,
 iP 47 (.pick (.t 45) (.t 46) (.c (bl false))),
 iM 48 47,
 ⟨(some 49),(some (48,true)),.q (.c (.fn (.func 18) [] [])) [(.c (st ⟨#[49,32,50]⟩)),(.c (i64 11)),(.c (i64 2))]⟩,
 iP 50 (.pick (.t 48) (.t 49) (.c (bl false))),
 iM 51 50,
 ⟨(some 52),(some (51,true)),.q (.c (.fn (.func 19) [] [])) [(.c (st ⟨#[40]⟩)),(.c (i64 41))]⟩,
 iG 53 51 true (.bin .add .s (.t 52) (.c (st ⟨#[49]⟩))),
 ⟨(some 54),(some (51,true)),.q (.c (.fn (.func 19) [] [])) [(.c (st ⟨#[41]⟩)),(.c (i64 41))]⟩,
 iG 55 51 true (.bin .add .s (.t 53) (.t 54)),
 ⟨(some 56),(some (51,true)),.q (.c (.fn (.func 18) [] [])) [(.t 55),(.c (i64 5)),(.c (i64 40))]⟩,
 iP 57 (.pick (.t 51) (.t 56) (.c (bl false))),
 iM 58 57,
 ⟨(some 59),(some (58,true)),.q (.c (.fn (.func 19) [] [])) [(.c (st ⟨#[40]⟩)),(.c (i64 40))]⟩,
 iG 60 58 true (.bin .add .s (.t 59) (.c (st ⟨#[49]⟩))),
 ⟨(some 61),(some (58,true)),.q (.c (.fn (.func 19) [] [])) [(.c (st ⟨#[41]⟩)),(.c (i64 40))]⟩,
 iG 62 58 true (.bin .add .s (.t 60) (.t 61)),
 ⟨(some 63),(some (58,true)),.q (.c (.fn (.func 17) [] [])) [(.t 62),(.c (st ⟨#[49]⟩))]⟩,
 iP 64 (.pick (.t 58) (.t 63) (.c (bl false))),
 iM 2 64])
 (.seq
 (.reg [
 iC 66 14 [(.c (st ⟨#[103,97,109,101,32,103,59,32,112,108,97,121,101,114,115,32,50,59,32,101,110,100,32,123,32,112,97,121,32,49,44,32,48,32,45,32,49,59,32,125]⟩))],
 iM 65 66,
 iP 67 (.ext (.t 65) 0),
 iP 68 (.ext (.t 65) 1),
 iE 3 (.alc 36 [st ⟨#[]⟩,i64 0,.val (.slice none 0 0),.val (.slice none 0 0)]),
 iE 4 (.alc 28 [i64 0,i64 0]),
 ⟨none,none,.e (.st 4 (.t 3) (.t 67))⟩,
 ⟨none,none,.e (.st 2 (.t 4) (.t 68))⟩])
 (.seq
 (.reg [
 iP 70 (.ldn 4 (.t 3)),
 iC 71 20 [.t 70],
 iM 69 71,
 iP 72 (.ext (.t 69) 0),
 iP 73 (.ext (.t 69) 1),
 iM 5 72,
 iM 6 73])
 (.seq
 (.reg [
 iC 75 14 [(.c (st ⟨#[103,97,109,101,32,103,59,32,112,108,97,121,101,114,115,32,50,59]⟩))],
 iM 74 75,
 iP 76 (.ext (.t 74) 0),
 iP 77 (.ext (.t 74) 1),
 iE 7 (.alc 36 [st ⟨#[]⟩,i64 0,.val (.slice none 0 0),.val (.slice none 0 0)]),
 iE 8 (.alc 28 [i64 0,i64 0]),
 ⟨none,none,.e (.st 4 (.t 7) (.t 76))⟩,
 ⟨none,none,.e (.st 2 (.t 8) (.t 77))⟩])
 (.seq
 (.reg [
 iC 79 14 [(.c (st ⟨#[103,97,109,101,32,103,97,109,101,59]⟩))],
 iM 78 79,
 iP 80 (.ext (.t 78) 0),
 iP 81 (.ext (.t 78) 1),
 iE 9 (.alc 36 [st ⟨#[]⟩,i64 0,.val (.slice none 0 0),.val (.slice none 0 0)]),
 iE 10 (.alc 28 [i64 0,i64 0]),
 ⟨none,none,.e (.st 4 (.t 9) (.t 80))⟩,
 ⟨none,none,.e (.st 2 (.t 10) (.t 81))⟩])
 (.seq
 (.reg [
 iC 83 14 [(.c (st ⟨#[]⟩))],
 iM 82 83,
 iP 84 (.ext (.t 82) 0),
 iP 85 (.ext (.t 82) 1),
 iE 11 (.alc 36 [st ⟨#[]⟩,i64 0,.val (.slice none 0 0),.val (.slice none 0 0)]),
 iE 12 (.alc 28 [i64 0,i64 0]),
 ⟨none,none,.e (.st 4 (.t 11) (.t 84))⟩,
 ⟨none,none,.e (.st 2 (.t 12) (.t 85))⟩])
 (.seq
 (.reg [
 iP 86 (.ldn 2 (.t 4)),
 iP 87 (.bld [i64 0,i64 0] []),
 iP 88 (.eqf false [.i .i64,.i .i64] (.t 86) (.t 87)),
 iM 89 88,
 iG 90 89 true (.mov (.t 6)),
 iG 91 89 true (.bin .eql (.i .i64) (.t 90) (.c (i64 0))),
 iP 92 (.pick (.t 89) (.t 91) (.c (bl false))),
 iM 93 92,
 iG 94 93 true (.mov (.t 5)),
 iG 95 93 true (.bin .eql .s (.t 94) (.c (st ⟨#[103,97,109,101,32,103,59,10,112,108,97,121,101,114,115,32,50,59,10,101,110,100,32,123,32,112,97,121,32,49,44,32,48,32,45,32,49,59,32,125,10]⟩))),
 iP 96 (.pick (.t 93) (.t 95) (.c (bl false))),
 iM 97 96,
 iG 98 97 true (.ldn 2 (.t 8)),
 iG 99 97 true (.bld [i64 0,i64 0] [(0,1,(.c (i64 11))),(1,1,(.c (i64 18)))]),
 iG 100 97 true (.eqf false [.i .i64,.i .i64] (.t 98) (.t 99)),
 iP 101 (.pick (.t 97) (.t 100) (.c (bl false))),
 iM 102 101,
 iG 103 102 true (.ldn 2 (.t 10)),
 iG 104 102 true (.bld [i64 0,i64 0] [(0,1,(.c (i64 11))),(1,1,(.c (i64 5)))]),
 iG 105 102 true (.eqf false [.i .i64,.i .i64] (.t 103) (.t 104)),
 iP 106 (.pick (.t 102) (.t 105) (.c (bl false))),
 iM 107 106,
 iG 108 107 true (.ldn 2 (.t 12)),
 iG 109 107 true (.bld [i64 0,i64 0] [(0,1,(.c (i64 11)))]),
 iG 110 107 true (.eqf false [.i .i64,.i .i64] (.t 108) (.t 109)),
 iP 111 (.pick (.t 107) (.t 110) (.c (bl false))),
 iM 13 111])
 (.seq
 (.reg [
 iP 14 (.mov (.c (st ⟨#[103,97,109,101,32,103,59,32,112,108,97,121,101,114,115,32,49,59,32]⟩))),
 iP 15 (.mov (.c (st ⟨#[101,110,100,32,123,32,112,97,121,32,48,59,32,125,32]⟩)))])
 (.seq
 (.reg [
 iM 113 14,
 iM 114 15,
 iC 115 19 [.t 114,(.c (i64 100))],
 iP 116 (.bin .add .s (.t 113) (.t 115)),
 iC 117 14 [.t 116],
 iM 112 117,
 iP 118 (.ext (.t 112) 0),
 iP 119 (.ext (.t 112) 1),
 iE 16 (.alc 36 [st ⟨#[]⟩,i64 0,.val (.slice none 0 0),.val (.slice none 0 0)]),
 iE 17 (.alc 28 [i64 0,i64 0]),
 ⟨none,none,.e (.st 4 (.t 16) (.t 118))⟩,
 ⟨none,none,.e (.st 2 (.t 17) (.t 119))⟩])
 (.seq
 (.reg [
 iM 121 14,
 iM 122 15,
 iC 123 19 [.t 122,(.c (i64 101))],
 iP 124 (.bin .add .s (.t 121) (.t 123)),
 iC 125 14 [.t 124],
 iM 120 125,
 iP 126 (.ext (.t 120) 0),
 iP 127 (.ext (.t 120) 1),
 iE 18 (.alc 36 [st ⟨#[]⟩,i64 0,.val (.slice none 0 0),.val (.slice none 0 0)]),
 iE 19 (.alc 28 [i64 0,i64 0]),
 ⟨none,none,.e (.st 4 (.t 18) (.t 126))⟩,
 ⟨none,none,.e (.st 2 (.t 19) (.t 127))⟩])
 (.seq
 (.reg [
 iM 129 14,
 iP 130 (.bin .add .s (.t 129) (.c (st ⟨#[116,117,114,110,32,48,32,123,32]⟩))),
 iC 131 19 [(.c (st ⟨#[97,99,116,105,111,110,32,97,32,123,32,125,32]⟩)),(.c (i64 10))],
 iP 132 (.bin .add .s (.t 130) (.t 131)),
 iP 133 (.bin .add .s (.t 132) (.c (st ⟨#[125,32]⟩))),
 iM 134 15,
 iP 135 (.bin .add .s (.t 133) (.t 134)),
 iC 136 14 [.t 135],
 iM 128 136,
 iP 137 (.ext (.t 128) 0),
 iP 138 (.ext (.t 128) 1),
 iE 20 (.alc 36 [st ⟨#[]⟩,i64 0,.val (.slice none 0 0),.val (.slice none 0 0)]),
 iE 21 (.alc 28 [i64 0,i64 0]),
 ⟨none,none,.e (.st 4 (.t 20) (.t 137))⟩,
 ⟨none,none,.e (.st 2 (.t 21) (.t 138))⟩])
 (.seq
 (.reg [
 iM 140 14,
 iP 141 (.bin .add .s (.t 140) (.c (st ⟨#[116,117,114,110,32,48,32,123,32]⟩))),
 iC 142 19 [(.c (st ⟨#[97,99,116,105,111,110,32,97,32,123,32,125,32]⟩)),(.c (i64 11))],
 iP 143 (.bin .add .s (.t 141) (.t 142)),
 iP 144 (.bin .add .s (.t 143) (.c (st ⟨#[125,32]⟩))),
 iM 145 15,
 iP 146 (.bin .add .s (.t 144) (.t 145)),
 iC 147 14 [.t 146],
 iM 139 147,
 iP 148 (.ext (.t 139) 0),
 iP 149 (.ext (.t 139) 1),
 iE 22 (.alc 36 [st ⟨#[]⟩,i64 0,.val (.slice none 0 0),.val (.slice none 0 0)]),
 iE 23 (.alc 28 [i64 0,i64 0]),
 ⟨none,none,.e (.st 4 (.t 22) (.t 148))⟩,
 ⟨none,none,.e (.st 2 (.t 23) (.t 149))⟩])
 (.seq
 (.reg [
 iM 151 14,
 iC 152 19 [(.c (st ⟨#[118,97,114,32,97,32,61,32,49,59,32]⟩)),(.c (i64 41))],
 iP 153 (.bin .add .s (.t 151) (.t 152)),
 iM 154 15,
 iP 155 (.bin .add .s (.t 153) (.t 154)),
 iC 156 14 [.t 155],
 iM 150 156,
 iP 157 (.ext (.t 150) 0),
 iP 158 (.ext (.t 150) 1),
 iE 24 (.alc 36 [st ⟨#[]⟩,i64 0,.val (.slice none 0 0),.val (.slice none 0 0)]),
 iE 25 (.alc 28 [i64 0,i64 0]),
 ⟨none,none,.e (.st 4 (.t 24) (.t 157))⟩,
 ⟨none,none,.e (.st 2 (.t 25) (.t 158))⟩])
 (.seq
 (.reg [
 iM 160 14,
 iP 161 (.bin .add .s (.t 160) (.c (st ⟨#[101,110,100,32,123,32,112,97,121,32,48]⟩))),
 iC 162 19 [(.c (st ⟨#[44,48]⟩)),(.c (i64 31))],
 iP 163 (.bin .add .s (.t 161) (.t 162)),
 iP 164 (.bin .add .s (.t 163) (.c (st ⟨#[59,32,125]⟩))),
 iC 165 14 [.t 164],
 iM 159 165,
 iP 166 (.ext (.t 159) 0),
 iP 167 (.ext (.t 159) 1),
 iE 26 (.alc 36 [st ⟨#[]⟩,i64 0,.val (.slice none 0 0),.val (.slice none 0 0)]),
 iE 27 (.alc 28 [i64 0,i64 0]),
 ⟨none,none,.e (.st 4 (.t 26) (.t 166))⟩,
 ⟨none,none,.e (.st 2 (.t 27) (.t 167))⟩])
 (.seq
 (.reg [
 iM 169 14,
 iP 170 (.bin .add .s (.t 169) (.c (st ⟨#[101,110,100,32,123,32,112,97,121,32,48]⟩))),
 iC 171 19 [(.c (st ⟨#[44,48]⟩)),(.c (i64 32))],
 iP 172 (.bin .add .s (.t 170) (.t 171)),
 iP 173 (.bin .add .s (.t 172) (.c (st ⟨#[59,32,125]⟩))),
 iC 174 14 [.t 173],
 iM 168 174,
 iP 175 (.ext (.t 168) 0),
 iP 176 (.ext (.t 168) 1),
 iE 28 (.alc 36 [st ⟨#[]⟩,i64 0,.val (.slice none 0 0),.val (.slice none 0 0)]),
 iE 29 (.alc 28 [i64 0,i64 0]),
 ⟨none,none,.e (.st 4 (.t 28) (.t 175))⟩,
 ⟨none,none,.e (.st 2 (.t 29) (.t 176))⟩])
 (.seq
 (.reg [
 iP 177 (.ldn 2 (.t 17)),
 iP 178 (.bld [i64 0,i64 0] []),
 iP 179 (.eqf false [.i .i64,.i .i64] (.t 177) (.t 178)),
 iM 180 179,
 iG 181 180 true (.ldn 2 (.t 19)),
 iG 182 180 true (.bld [i64 0,i64 0] [(0,1,(.c (i64 12))),(1,1,(.c (i64 1519)))]),
 iG 183 180 true (.eqf false [.i .i64,.i .i64] (.t 181) (.t 182)),
 iP 184 (.pick (.t 180) (.t 183) (.c (bl false))),
 iM 185 184,
 iG 186 185 true (.ldn 2 (.t 21)),
 iG 187 185 true (.bld [i64 0,i64 0] []),
 iG 188 185 true (.eqf false [.i .i64,.i .i64] (.t 186) (.t 187)),
 iP 189 (.pick (.t 185) (.t 188) (.c (bl false))),
 iM 190 189,
 iG 191 190 true (.ldn 2 (.t 23)),
 iG 192 190 true (.bld [i64 0,i64 0] [(0,1,(.c (i64 12))),(1,1,(.c (i64 158)))]),
 iG 193 190 true (.eqf false [.i .i64,.i .i64] (.t 191) (.t 192)),
 iP 194 (.pick (.t 190) (.t 193) (.c (bl false))),
 iM 195 194,
 iG 196 195 true (.ldn 2 (.t 25)),
 iG 197 195 true (.bld [i64 0,i64 0] [(0,1,(.c (i64 12))),(1,1,(.c (i64 463)))]),
 iG 198 195 true (.eqf false [.i .i64,.i .i64] (.t 196) (.t 197)),
 iP 199 (.pick (.t 195) (.t 198) (.c (bl false))),
 iM 200 199,
 iG 201 200 true (.ldn 2 (.t 27)),
 iG 202 200 true (.bld [i64 0,i64 0] []),
 iG 203 200 true (.eqf false [.i .i64,.i .i64] (.t 201) (.t 202)),
 iP 204 (.pick (.t 200) (.t 203) (.c (bl false))),
 iM 205 204,
 iG 206 205 true (.ldn 2 (.t 29)),
 iG 207 205 true (.bld [i64 0,i64 0] [(0,1,(.c (i64 12))),(1,1,(.c (i64 93)))]),
 iG 208 205 true (.eqf false [.i .i64,.i .i64] (.t 206) (.t 207)),
 iP 209 (.pick (.t 205) (.t 208) (.c (bl false))),
 iM 30 209])
 (.seq
 (.reg [
 iC 210 10 [],
 iM 211 210,
 iG 212 211 true (.mov (.t 1)),
 iP 213 (.pick (.t 211) (.t 212) (.c (bl false))),
 iM 214 213,
 iG 215 214 true (.mov (.t 2)),
 iP 216 (.pick (.t 214) (.t 215) (.c (bl false))),
 iM 217 216,
 iG 218 217 true (.mov (.t 13)),
 iP 219 (.pick (.t 217) (.t 218) (.c (bl false))),
 iM 220 219,
 iG 221 220 true (.mov (.t 30)),
 iP 222 (.pick (.t 220) (.t 221) (.c (bl false))),
 iM 0 222])
 .ret)))))))))))))))))))
def r5:List RS:=[.t 0]
theorem c5:chkF Tryz.prog drawB Tryz.f5 i5 r5=true:=by kernel_rfl
def i10:IC :=
 (.seq
 (.reg [
 iP 0 (.mov (.c (bl false)))])
 (.seq
 (.reg [
 iC 5 11 [(.c (st ⟨#[49,32,43,32,50,32,42,32,120]⟩))],
 iM 4 5,
 iP 6 (.ext (.t 4) 0),
 iP 7 (.ext (.t 4) 1),
 iE 1 (.alc 25 [i64 0,i64 0,st ⟨#[]⟩,.val (.slice none 0 0),i64 0]),
 iE 2 (.alc 28 [i64 0,i64 0]),
 ⟨none,none,.e (.st 5 (.t 1) (.t 6))⟩,
 ⟨none,none,.e (.st 2 (.t 2) (.t 7))⟩])
 (.seq
 (.reg [
 iP 8 (.bld [i64 0,i64 0,st ⟨#[]⟩,.val (.slice none 0 0),i64 0] [(0,1,(.c (i64 1))),(1,1,(.c (i64 1)))]),
 iP 9 (.bld [i64 0,i64 0,st ⟨#[]⟩,.val (.slice none 0 0),i64 0] [(0,1,(.c (i64 1))),(1,1,(.c (i64 2))),(4,1,(.c (i64 4)))]),
 iP 10 (.bld [i64 0,i64 0,st ⟨#[]⟩,.val (.slice none 0 0),i64 0] [(0,1,(.c (i64 2))),(2,1,(.c (st ⟨#[120]⟩))),(4,1,(.c (i64 8)))]),
 iE 11 (.bsl 25 5 2 [i64 0,i64 0,st ⟨#[]⟩,.val (.slice none 0 0),i64 0] [(0,(.t 9)),(1,(.t 10))]),
 iP 12 (.bld [i64 0,i64 0,st ⟨#[]⟩,.val (.slice none 0 0),i64 0] [(0,1,(.c (i64 5))),(4,1,(.c (i64 6))),(3,1,(.t 11))]),
 iE 13 (.bsl 25 5 2 [i64 0,i64 0,st ⟨#[]⟩,.val (.slice none 0 0),i64 0] [(0,(.t 8)),(1,(.t 12))]),
 iP 14 (.bld [i64 0,i64 0,st ⟨#[]⟩,.val (.slice none 0 0),i64 0] [(0,1,(.c (i64 8))),(4,1,(.c (i64 2))),(3,1,(.t 13))]),
 iE 3 (.alc 25 [i64 0,i64 0,st ⟨#[]⟩,.val (.slice none 0 0),i64 0]),
 ⟨none,none,.e (.st 5 (.t 3) (.t 14))⟩])
 (.seq
 (.reg [
 iP 15 (.ldn 2 (.t 2)),
 iP 16 (.bld [i64 0,i64 0] []),
 iP 17 (.eqf false [.i .i64,.i .i64] (.t 15) (.t 16)),
 iM 18 17,
 iG 19 18 true (.ldn 5 (.t 1)),
 iG 20 18 true (.ldn 5 (.t 3)),
 ⟨(some 21),(some (18,true)),.q (.c (.fn (.func 13) [] [])) [(.t 19),(.t 20)]⟩,
 iP 22 (.pick (.t 18) (.t 21) (.c (bl false))),
 iM 23 22,
 ⟨(some 24),(some (23,true)),.q (.c (.fn (.func 17) [] [])) [(.c (st ⟨#[97,32,45,32,98,32,45,32,99]⟩)),(.c (st ⟨#[40,97,32,45,32,98,41,32,45,32,99]⟩))]⟩,
 iP 25 (.pick (.t 23) (.t 24) (.c (bl false))),
 iM 0 25])
 .ret))))
def r10:List RS:=[.t 0]
theorem c10:chkF Tryz.prog drawB Tryz.f10 i10 r10=true:=by kernel_rfl
def i11:IC :=
 (.seq
 (.reg [
 iE 2 (.alc 25 [i64 0,i64 0,st ⟨#[]⟩,.val (.slice none 0 0),i64 0]),
 iE 3 (.alc 28 [i64 0,i64 0])])
 (.seq
 (.reg [
 iM 4 0,
 iC 5 31 [.t 4,(.c (.fn (.func 32) [] []))],
 iP 6 (.ext (.t 5) 0),
 iP 7 (.ext (.t 5) 1),
 ⟨none,none,.e (.st 5 (.t 2) (.t 6))⟩,
 ⟨none,none,.e (.st 2 (.t 3) (.t 7))⟩])
 .ret))
def r11:List RS:=[.cn 2 5,.cn 3 2]
theorem c11:chkF Tryz.prog drawB Tryz.f11 i11 r11=true:=by kernel_rfl
def i13:IC :=
 (.seq
 (.reg [
 iE 2 (.box 25 (.t 0)),
 iE 3 (.box 25 (.t 1)),
 iP 4 (.mov (.c (bl false)))])
 (.seq
 (.reg [
 iF 5 0 2,
 iL 6 5,
 iF 7 0 3,
 iL 8 7,
 iP 9 (.bin .eql (.i .i64) (.t 6) (.t 8)),
 iM 10 9,
 iG 11 10 true (.fa 1 (.t 2)),
 iG 12 10 true (.ld1 (.t 11)),
 iG 13 10 true (.fa 1 (.t 3)),
 iG 14 10 true (.ld1 (.t 13)),
 iG 15 10 true (.bin .eql (.i .i64) (.t 12) (.t 14)),
 iP 16 (.pick (.t 10) (.t 15) (.c (bl false))),
 iM 17 16,
 iG 18 17 true (.fa 2 (.t 2)),
 iG 19 17 true (.ld1 (.t 18)),
 iG 20 17 true (.fa 2 (.t 3)),
 iG 21 17 true (.ld1 (.t 20)),
 iG 22 17 true (.bin .eql .s (.t 19) (.t 21)),
 iP 23 (.pick (.t 17) (.t 22) (.c (bl false))),
 iM 24 23,
 iG 25 24 true (.fa 4 (.t 2)),
 iG 26 24 true (.ld1 (.t 25)),
 iG 27 24 true (.fa 4 (.t 3)),
 iG 28 24 true (.ld1 (.t 27)),
 iG 29 24 true (.bin .eql (.i .i64) (.t 26) (.t 28)),
 iP 30 (.pick (.t 24) (.t 29) (.c (bl false))),
 iM 31 30,
 iG 32 31 true (.fa 3 (.t 2)),
 iG 33 31 true (.ld1 (.t 32)),
 iG 34 31 true (.fa 3 (.t 3)),
 iG 35 31 true (.ld1 (.t 34)),
 ⟨(some 36),(some (31,true)),.q (.c (.fn (.func 37) [] [])) [(.t 33),(.t 35)]⟩,
 iP 37 (.pick (.t 31) (.t 36) (.c (bl false))),
 iM 4 37])
 .ret))
def r13:List RS:=[.t 4]
theorem c13:chkF Tryz.prog drawB Tryz.f13 i13 r13=true:=by kernel_rfl
def i14:IC :=
 (.seq
 (.reg [
 iE 2 (.alc 36 [st ⟨#[]⟩,i64 0,.val (.slice none 0 0),.val (.slice none 0 0)]),
 iE 3 (.alc 28 [i64 0,i64 0])])
 (.seq
 (.reg [
 iM 4 0,
 iC 5 38 [.t 4,(.c (.fn (.func 39) [] []))],
 iP 6 (.ext (.t 5) 0),
 iP 7 (.ext (.t 5) 1),
 ⟨none,none,.e (.st 4 (.t 2) (.t 6))⟩,
 ⟨none,none,.e (.st 2 (.t 3) (.t 7))⟩])
 .ret))
def r14:List RS:=[.cn 2 4,.cn 3 2]
theorem c14:chkF Tryz.prog drawB Tryz.f14 i14 r14=true:=by kernel_rfl
def i17:IC :=
 (.seq
 (.reg [
 iP 4 (.mov (.c (bl false)))])
 (.seq
 (.reg [
 iM 10 0,
 iC 11 11 [.t 10],
 iM 9 11,
 iP 12 (.ext (.t 9) 0),
 iP 13 (.ext (.t 9) 1),
 iE 5 (.alc 25 [i64 0,i64 0,st ⟨#[]⟩,.val (.slice none 0 0),i64 0]),
 iE 6 (.alc 28 [i64 0,i64 0]),
 ⟨none,none,.e (.st 5 (.t 5) (.t 12))⟩,
 ⟨none,none,.e (.st 2 (.t 6) (.t 13))⟩])
 (.seq
 (.reg [
 iP 15 (.ldn 5 (.t 5)),
 iC 16 28 [.t 15],
 iM 14 16,
 iP 17 (.ext (.t 14) 0),
 iP 18 (.ext (.t 14) 1),
 iM 7 17,
 iM 8 18])
 (.seq
 (.reg [
 iP 19 (.ldn 2 (.t 6)),
 iP 20 (.bld [i64 0,i64 0] []),
 iP 21 (.eqf false [.i .i64,.i .i64] (.t 19) (.t 20)),
 iM 22 21,
 iG 23 22 true (.mov (.t 8)),
 iG 24 22 true (.bin .eql (.i .i64) (.t 23) (.c (i64 0))),
 iP 25 (.pick (.t 22) (.t 24) (.c (bl false))),
 iM 26 25,
 iG 27 26 true (.mov (.t 7)),
 iG 28 26 true (.mov (.t 1)),
 iG 29 26 true (.bin .eql .s (.t 27) (.t 28)),
 iP 30 (.pick (.t 26) (.t 29) (.c (bl false))),
 iM 4 30])
 .ret))))
def r17:List RS:=[.t 4]
theorem c17:chkF Tryz.prog drawB Tryz.f17 i17 r17=true:=by kernel_rfl
def i18:IC :=
 (.seq
 (.reg [
 iP 6 (.mov (.c (bl false)))])
 (.seq
 (.reg [
 iM 10 0,
 iC 11 11 [.t 10],
 iM 9 11,
 iP 12 (.ext (.t 9) 0),
 iP 13 (.ext (.t 9) 1),
 iE 7 (.alc 25 [i64 0,i64 0,st ⟨#[]⟩,.val (.slice none 0 0),i64 0]),
 iE 8 (.alc 28 [i64 0,i64 0]),
 ⟨none,none,.e (.st 5 (.t 7) (.t 12))⟩,
 ⟨none,none,.e (.st 2 (.t 8) (.t 13))⟩])
 (.seq
 (.reg [
 iP 14 (.ldn 2 (.t 8)),
 iM 15 1,
 iM 16 2,
 iP 17 (.bld [i64 0,i64 0] [(0,1,(.t 15)),(1,1,(.t 16))]),
 iP 18 (.eqf false [.i .i64,.i .i64] (.t 14) (.t 17)),
 iM 19 18,
 iG 20 19 true (.ldn 5 (.t 7)),
 iG 21 19 true (.bld [i64 0,i64 0,st ⟨#[]⟩,.val (.slice none 0 0),i64 0] []),
 ⟨(some 22),(some (19,true)),.q (.c (.fn (.func 13) [] [])) [(.t 20),(.t 21)]⟩,
 iP 23 (.pick (.t 19) (.t 22) (.c (bl false))),
 iM 6 23])
 .ret)))
def r18:List RS:=[.t 6]
theorem c18:chkF Tryz.prog drawB Tryz.f18 i18 r18=true:=by kernel_rfl
def l19_0:IC:=.keep [0,1,5,6]
 (.seq
 (.seq
 (.reg [
 iM 7 6,
 iM 8 1,
 iP 9 (.bin .lss (.i .i64) (.t 7) (.t 8))])
 (.cond (.t 9)
 .skip
 (.exit 0)))
 (.seq
 (.blk 1
 (.reg [
 iM 12 5,
 iM 13 0,
 iP 14 (.bin .add .s (.t 12) (.t 13)),
 iM 5 14]))
 (.reg [
 iM 10 6,
 iP 11 (.bin .add (.i .i64) (.t 10) (.c (i64 1))),
 iM 6 11])))
def i19:IC :=
 (.seq
 (.reg [
 iP 4 (.mov (.c (st ⟨#[]⟩)))])
 (.seq
 (.reg [
 iP 5 (.mov (.c (st ⟨#[]⟩)))])
 (.seq
 (.seq
 (.reg [
 iP 6 (.mov (.c (i64 0)))])
 (.blk 0
 (.loop l19_0)))
 (.seq
 (.reg [
 iM 15 5,
 iM 4 15])
 .ret))))
def r19:List RS:=[.t 4]
theorem c19:chkF Tryz.prog drawB Tryz.f19 i19 r19=true:=by kernel_rfl
def i20:IC :=
 (.seq
 (.reg [
 iE 1 (.box 36 (.t 0)),
 iP 2 (.mov (.c (st ⟨#[]⟩))),
 iP 3 (.mov (.c (i64 0)))])
 (.seq
 (.seq
 (.reg [
 iP 8 (.ldn 4 (.t 1)),
 iC 9 49 [.t 8],
 iP 10 (.not (.t 9))])
 (.cond (.t 10)
 (.seq
 (.reg [
 iP 2 (.mov (.c (st ⟨#[]⟩))),
 iP 3 (.mov (.c (i64 3)))])
 .ret)
 .skip))
 (.seq
 (.reg [
 iE 4 (.alc 85 [.val (.slice none 0 0)])])
 (.seq
 (.reg [
 iP 11 (.ldn 4 (.t 1)),
 iC 12 50 [.t 4,.t 11]])
 (.seq
 (.seq
 (.reg [
 iC 13 51 [.t 4]])
 (.cond (.t 13)
 (.seq
 (.reg [
 iP 2 (.mov (.c (st ⟨#[]⟩))),
 iP 3 (.mov (.c (i64 4)))])
 .ret)
 .skip))
 (.seq
 (.reg [
 iF 14 0 4,
 iL 15 14,
 iP 16 (.bys (.t 15)),
 iM 5 16])
 (.seq
 (.seq
 (.reg [
 iM 18 5,
 iC 19 14 [.t 18],
 iM 17 19,
 iP 20 (.ext (.t 17) 0),
 iP 21 (.ext (.t 17) 1),
 iE 6 (.alc 36 [st ⟨#[]⟩,i64 0,.val (.slice none 0 0),.val (.slice none 0 0)]),
 iE 7 (.alc 28 [i64 0,i64 0]),
 ⟨none,none,.e (.st 4 (.t 6) (.t 20))⟩,
 ⟨none,none,.e (.st 2 (.t 7) (.t 21))⟩])
 (.seq
 (.reg [
 iF 22 0 7,
 iL 23 22,
 iP 24 (.bin .neq (.i .i64) (.t 23) (.c (i64 0)))])
 (.cond (.t 24)
 (.seq
 (.drw [0,1,2,3] [
 iF 25 0 7,
 iL 26 25,
 iP 2 (.mov (.c (st ⟨#[]⟩))),
 iM 3 26])
 .ret)
 .skip)))
 (.seq
 (.reg [
 iM 27 5,
 iM 2 27,
 iP 3 (.mov (.c (i64 0)))])
 .ret))))))))
def r20:List RS:=[.t 2,.t 3]
theorem c20:chkF Tryz.prog drawB Tryz.f20 i20 r20=true:=by kernel_rfl
def ya26_0:IC :=
 (.seq
 (.reg [
 iE 5 (.alc 52 [i64 0,st ⟨#[]⟩,i64 0,i64 0]),
 ⟨none,none,.e (.st 4 (.t 5) (.t 13))⟩])
 (.reg [
 iM 6 14]))
def yb26_0:IC :=
 (.blk 1
 (.seq
 (.seq
 (.reg [
 iM 15 6,
 iP 16 (.ifn false true (.t 15)),
 iM 17 16,
 iG 18 17 true (.ld1 (.t 4)),
 iG 19 17 true (.len (.t 18)),
 iG 20 17 true (.bin .eql (.i .i64) (.t 19) (.c (i64 5000))),
 iP 21 (.pick (.t 17) (.t 20) (.c (bl false)))])
 (.cond (.t 21)
 (.reg [
 iF 22 3 5,
 iL 23 22,
 iP 24 (.bld [i64 0,i64 0] [(0,1,(.c (i64 12))),(1,1,(.t 23))]),
 iP 25 (.bld [i64 0,i64 0] [(0,2,(.t 24))]),
 iP 26 (.mki 115 (.t 25)),
 iM 6 26])
 .skip))
 (.seq
 (.seq
 (.reg [
 iM 27 6,
 iP 28 (.ifn true true (.t 27))])
 (.cond (.t 28)
 (.seq
 (.reg [
 iM 29 6,
 iC 30 71 [.t 29],
 ⟨none,none,.e (.st 1 (.t 2) (.c (.val (.slice none 0 0))))⟩,
 ⟨none,none,.e (.st 2 (.t 3) (.t 30))⟩])
 .ret)
 .skip))
 (.reg [
 iL 31 4,
 iP 32 (.ldn 4 (.t 5)),
 iE 33 (.bsl 52 4 1 [i64 0,st ⟨#[]⟩,i64 0,i64 0] [(0,(.t 32))]),
 iE 34 (.app 52 4 40 (.t 31) (.t 33)),
 ⟨none,none,.e (.st 1 (.t 4) (.t 34))⟩]))))
def i26:IC :=
 (.seq
 (.reg [
 iE 2 (.alc 48 [.val (.slice none 0 0)]),
 iE 3 (.alc 28 [i64 0,i64 0])])
 (.seq
 (.seq
 (.reg [
 iM 7 0,
 iP 8 (.lens (.t 7)),
 iP 9 (.bin .gtr (.i .i64) (.t 8) (.c (i64 20000)))])
 (.cond (.t 9)
 (.seq
 (.reg [
 iP 10 (.bld [i64 0,i64 0] [(0,1,(.c (i64 4))),(1,1,(.c (i64 20000)))]),
 ⟨none,none,.e (.st 1 (.t 2) (.c (.val (.slice none 0 0))))⟩,
 ⟨none,none,.e (.st 2 (.t 3) (.t 10))⟩])
 .ret)
 .skip))
 (.seq
 (.reg [
 iE 4 (.alc 48 [.val (.slice none 0 0)])])
 (.seq
 (.seq
 (.reg [
 iM 11 0,
 iC 12 70 [.t 11]])
 (.blk 0
 (.keep [2,3,4,12] (.rng 0 (.t 12) [13,14] ya26_0 yb26_0))))
 (.seq
 (.reg [
 iL 35 4,
 iP 36 (.bld [i64 0,i64 0] []),
 ⟨none,none,.e (.st 1 (.t 2) (.t 35))⟩,
 ⟨none,none,.e (.st 2 (.t 3) (.t 36))⟩])
 .ret)))))
def r26:List RS:=[.c1 2,.cn 3 2]
theorem c26:chkF Tryz.prog drawB Tryz.f26 i26 r26=true:=by kernel_rfl
def i28:IC :=
 (.seq
 (.reg [
 iE 1 (.box 25 (.t 0)),
 iP 2 (.mov (.c (st ⟨#[]⟩))),
 iP 3 (.mov (.c (i64 0)))])
 (.seq
 (.seq
 (.reg [
 iP 8 (.ldn 5 (.t 1)),
 iE 9 (.bsl 25 5 1 [i64 0,i64 0,st ⟨#[]⟩,.val (.slice none 0 0),i64 0] [(0,(.t 8))]),
 iC 10 72 [.t 9],
 iP 11 (.not (.t 10))])
 (.cond (.t 11)
 (.seq
 (.reg [
 iP 2 (.mov (.c (st ⟨#[]⟩))),
 iP 3 (.mov (.c (i64 3)))])
 .ret)
 .skip))
 (.seq
 (.reg [
 iE 4 (.alc 85 [.val (.slice none 0 0)])])
 (.seq
 (.reg [
 iP 12 (.ldn 5 (.t 1)),
 iC 13 73 [.t 4,.t 12]])
 (.seq
 (.seq
 (.reg [
 iC 14 51 [.t 4]])
 (.cond (.t 14)
 (.seq
 (.reg [
 iP 2 (.mov (.c (st ⟨#[]⟩))),
 iP 3 (.mov (.c (i64 4)))])
 .ret)
 .skip))
 (.seq
 (.reg [
 iF 15 0 4,
 iL 16 15,
 iP 17 (.bys (.t 16)),
 iM 5 17])
 (.seq
 (.seq
 (.reg [
 iM 19 5,
 iC 20 11 [.t 19],
 iM 18 20,
 iP 21 (.ext (.t 18) 0),
 iP 22 (.ext (.t 18) 1),
 iE 6 (.alc 25 [i64 0,i64 0,st ⟨#[]⟩,.val (.slice none 0 0),i64 0]),
 iE 7 (.alc 28 [i64 0,i64 0]),
 ⟨none,none,.e (.st 5 (.t 6) (.t 21))⟩,
 ⟨none,none,.e (.st 2 (.t 7) (.t 22))⟩])
 (.seq
 (.reg [
 iF 23 0 7,
 iL 24 23,
 iP 25 (.bin .neq (.i .i64) (.t 24) (.c (i64 0)))])
 (.cond (.t 25)
 (.seq
 (.drw [0,1,2,3] [
 iF 26 0 7,
 iL 27 26,
 iP 2 (.mov (.c (st ⟨#[]⟩))),
 iM 3 27])
 .ret)
 .skip)))
 (.seq
 (.reg [
 iM 28 5,
 iM 2 28,
 iP 3 (.mov (.c (i64 0)))])
 .ret))))))))
def r28:List RS:=[.t 2,.t 3]
theorem c28:chkF Tryz.prog drawB Tryz.f28 i28 r28=true:=by kernel_rfl
def i31a0:IC :=
 (.reg [
 iE 4 (.alc 25 [i64 0,i64 0,st ⟨#[]⟩,.val (.slice none 0 0),i64 0]),
 iE 5 (.alc 28 [i64 0,i64 0])])
def i31a1:IC :=
 (.reg [
 iM 9 0,
 iC 10 26 [.t 9],
 iM 8 10,
 iP 11 (.ext (.t 8) 0),
 iP 12 (.ext (.t 8) 1),
 iM 6 11,
 ⟨none,none,.e (.st 2 (.t 5) (.t 12))⟩])
def i31a2:IC :=
 (.seq
 (.reg [
 iF 13 0 5,
 iL 14 13,
 iP 15 (.bin .neq (.i .i64) (.t 14) (.c (i64 0)))])
 (.cond (.t 15)
 (.seq
 (.drw [0,1,2,3] [
 iP 16 (.ldn 5 (.t 4)),
 iP 17 (.ldn 2 (.t 5)),
 ⟨none,none,.e (.st 5 (.t 4) (.t 16))⟩,
 ⟨none,none,.e (.stw [16] 2 (.t 5) (.t 17))⟩])
 .ret)
 .skip))
def i31p:List IC:=[i31a0,i31a1,i31a2]
def i31s:Ins:=⟨(some 18),none,.p (.mkf (.func 76) [] [(.t 4),(.t 5)])⟩
def i31f:Od:=.t 18
def i31:IC :=
 (.seq
 (.reg [
 iM 19 6,
 iM 20 0,
 iP 21 (.lens (.t 20)),
 iP 22 (.bld [.val (.slice none 0 0),i64 0,i64 0] [(0,1,(.t 19)),(2,1,(.t 21))]),
 iC 23 78 [],
 iP 24 (.bld [.val (.slice none 0 0),i64 0,i64 0,.val (.map none),.val (.map none),.val (.map none),.val (.map none),.val (.map none),i64 0] [(0,3,(.t 22)),(3,5,(.t 23))]),
 iE 25 (.box 127 (.t 24)),
 iM 7 25])
 (.seq
 (.reg [
 iM 26 1,
 iM 27 7,
 iE 28 (.call (.t 26) [(.t 27)]),
 ⟨none,none,.e (.st 5 (.t 4) (.t 28))⟩])
 (.seq
 (.seq
 (.drw [0,1,2,3,4,5,6,7,8,9,10,11] [
 iM 29 7,
 iP 30 (.nck (.t 29)),
 iF 31 0 30,
 iF 32 1 31,
 iL 33 32,
 iM 34 7,
 iP 35 (.nck (.t 34)),
 iF 36 0 35,
 iF 37 0 36,
 iL 38 37,
 iP 39 (.len (.t 38)),
 iP 40 (.bin .lss (.i .i64) (.t 33) (.t 39))])
 (.cond (.t 40)
 (.reg [
 iM 41 7,
 iP 42 (.nck (.t 41)),
 iF 43 0 42,
 iC 44 79 [.t 43,(.c (i64 11))]])
 .skip))
 (.seq
 (.reg [
 iP 45 (.ldn 5 (.t 4)),
 iP 46 (.bld [i64 0,i64 0] []),
 ⟨none,none,.e (.st 5 (.t 4) (.t 45))⟩,
 ⟨none,none,.e (.st 2 (.t 5) (.t 46))⟩])
 .ret))))
def r31:List RS:=[.cn 4 5,.cn 5 2]
theorem c31:chkDs Tryz.prog drawB Tryz.f31 i31p i31s i31f i31 r31=true:=by kernel_rfl
def i32:IC :=
 (.seq
 (.reg [
 iE 2 (.alc 25 [i64 0,i64 0,st ⟨#[]⟩,.val (.slice none 0 0),i64 0])])
 (.seq
 (.reg [
 iM 3 0,
 iC 4 80 [.t 3,(.c (i64 0))],
 ⟨none,none,.e (.st 5 (.t 2) (.t 4))⟩])
 .ret))
def r32:List RS:=[.cn 2 5]
theorem c32:chkF Tryz.prog drawB Tryz.f32 i32 r32=true:=by kernel_rfl
def l37_0:IC:=.keep [0,1,5]
 (.seq
 (.seq
 (.reg [
 iM 11 5,
 iM 12 0,
 iP 13 (.len (.t 12)),
 iP 14 (.bin .lss (.i .i64) (.t 11) (.t 13))])
 (.cond (.t 14)
 .skip
 (.exit 0)))
 (.seq
 (.blk 1
 (.seq
 (.drw [0,1,2,3,4,5,6,7,8,9] [
 iM 17 0,
 iM 18 5,
 iP 19 (.ia 5 (.t 17) (.t 18)),
 iP 20 (.ldn 5 (.t 19)),
 iM 21 1,
 iM 22 5,
 iP 23 (.ia 5 (.t 21) (.t 22)),
 iP 24 (.ldn 5 (.t 23)),
 ⟨(some 25),none,.q (.c (.fn (.func 13) [] [])) [(.t 20),(.t 24)]⟩,
 iP 26 (.not (.t 25))])
 (.cond (.t 26)
 (.seq
 (.reg [
 iP 4 (.mov (.c (bl false)))])
 .ret)
 .skip)))
 (.reg [
 iM 15 5,
 iP 16 (.bin .add (.i .i64) (.t 15) (.c (i64 1))),
 iM 5 16])))
def i37:IC :=
 (.seq
 (.reg [
 iP 4 (.mov (.c (bl false)))])
 (.seq
 (.seq
 (.reg [
 iM 6 0,
 iP 7 (.len (.t 6)),
 iM 8 1,
 iP 9 (.len (.t 8)),
 iP 10 (.bin .neq (.i .i64) (.t 7) (.t 9))])
 (.cond (.t 10)
 (.seq
 (.reg [
 iP 4 (.mov (.c (bl false)))])
 .ret)
 .skip))
 (.seq
 (.seq
 (.reg [
 iP 5 (.mov (.c (i64 0)))])
 (.blk 0
 (.loop l37_0)))
 (.seq
 (.reg [
 iP 4 (.mov (.c (bl true)))])
 .ret))))
def r37:List RS:=[.t 4]
theorem c37:chkF Tryz.prog drawB Tryz.f37 i37 r37=true:=by kernel_rfl
def i38a0:IC :=
 (.reg [
 iE 4 (.alc 36 [st ⟨#[]⟩,i64 0,.val (.slice none 0 0),.val (.slice none 0 0)]),
 iE 5 (.alc 28 [i64 0,i64 0])])
def i38a1:IC :=
 (.reg [
 iM 9 0,
 iC 10 26 [.t 9],
 iM 8 10,
 iP 11 (.ext (.t 8) 0),
 iP 12 (.ext (.t 8) 1),
 iM 6 11,
 ⟨none,none,.e (.st 2 (.t 5) (.t 12))⟩])
def i38a2:IC :=
 (.seq
 (.reg [
 iF 13 0 5,
 iL 14 13,
 iP 15 (.bin .neq (.i .i64) (.t 14) (.c (i64 0)))])
 (.cond (.t 15)
 (.seq
 (.drw [0,1,2,3] [
 iP 16 (.ldn 4 (.t 4)),
 iP 17 (.ldn 2 (.t 5)),
 ⟨none,none,.e (.st 4 (.t 4) (.t 16))⟩,
 ⟨none,none,.e (.stw [16] 2 (.t 5) (.t 17))⟩])
 .ret)
 .skip))
def i38p:List IC:=[i38a0,i38a1,i38a2]
def i38s:Ins:=⟨(some 18),none,.p (.mkf (.func 86) [] [(.t 4),(.t 5)])⟩
def i38f:Od:=.t 18
def i38:IC :=
 (.seq
 (.reg [
 iM 19 6,
 iM 20 0,
 iP 21 (.lens (.t 20)),
 iP 22 (.bld [.val (.slice none 0 0),i64 0,i64 0] [(0,1,(.t 19)),(2,1,(.t 21))]),
 iC 23 78 [],
 iP 24 (.bld [.val (.slice none 0 0),i64 0,i64 0,.val (.map none),.val (.map none),.val (.map none),.val (.map none),.val (.map none),i64 0] [(0,3,(.t 22)),(3,5,(.t 23))]),
 iE 25 (.box 127 (.t 24)),
 iM 7 25])
 (.seq
 (.reg [
 iM 26 1,
 iM 27 7,
 iE 28 (.call (.t 26) [(.t 27)]),
 ⟨none,none,.e (.st 4 (.t 4) (.t 28))⟩])
 (.seq
 (.seq
 (.drw [0,1,2,3,4,5,6,7,8,9,10,11] [
 iM 29 7,
 iP 30 (.nck (.t 29)),
 iF 31 0 30,
 iF 32 1 31,
 iL 33 32,
 iM 34 7,
 iP 35 (.nck (.t 34)),
 iF 36 0 35,
 iF 37 0 36,
 iL 38 37,
 iP 39 (.len (.t 38)),
 iP 40 (.bin .lss (.i .i64) (.t 33) (.t 39))])
 (.cond (.t 40)
 (.reg [
 iM 41 7,
 iP 42 (.nck (.t 41)),
 iF 43 0 42,
 iC 44 79 [.t 43,(.c (i64 11))]])
 .skip))
 (.seq
 (.reg [
 iP 45 (.ldn 4 (.t 4)),
 iP 46 (.bld [i64 0,i64 0] []),
 ⟨none,none,.e (.st 4 (.t 4) (.t 45))⟩,
 ⟨none,none,.e (.st 2 (.t 5) (.t 46))⟩])
 .ret))))
def r38:List RS:=[.cn 4 4,.cn 5 2]
theorem c38:chkDs Tryz.prog drawB Tryz.f38 i38p i38s i38f i38 r38=true:=by kernel_rfl
def l39_0:IC:=.keep [0,2,3]
 (.seq
 (.seq
 (.reg [
 iM 31 0,
 iP 32 (.nck (.t 31)),
 iF 33 0 32,
 iC 34 90 [.t 33,(.c (st ⟨#[118,97,114]⟩))]])
 (.cond (.t 34)
 .skip
 (.exit 0)))
 (.blk 1
 (.seq
 (.reg [
 iM 35 0,
 iP 36 (.nck (.t 35)),
 iF 37 0 36,
 iC 38 91 [.t 37],
 iP 39 (.bld [st ⟨#[]⟩,i64 0,i64 0] [(2,1,(.t 38))]),
 iE 4 (.alc 75 [st ⟨#[]⟩,i64 0,i64 0]),
 ⟨none,none,.e (.st 3 (.t 4) (.t 39))⟩])
 (.seq
 (.drw [0,1,2,3,4,5,6,7,8,9] [
 iM 40 0,
 iP 41 (.nck (.t 40)),
 iF 42 0 41,
 iF 43 2 3,
 iL 44 43,
 iP 45 (.len (.t 44)),
 iP 46 (.bin .eql (.i .i64) (.t 45) (.c (i64 40))),
 iC 47 88 [.t 42,.t 46],
 iF 48 0 4,
 ⟨none,none,.e (.stw [44] 1 (.t 48) (.t 47))⟩])
 (.seq
 (.reg [
 iM 49 0,
 iP 50 (.nck (.t 49)),
 iF 51 0 50,
 iE 52 (.bsl 9 1 1 [st ⟨#[]⟩] [(0,(.c (st ⟨#[61]⟩)))]),
 iC 53 87 [.t 51,.t 52]])
 (.seq
 (.reg [
 iM 54 0,
 iP 55 (.nck (.t 54)),
 iF 56 0 55,
 iC 57 90 [.t 56,(.c (st ⟨#[45]⟩))],
 iM 5 57])
 (.seq
 (.reg [
 iM 58 0,
 iP 59 (.nck (.t 58)),
 iF 60 0 59,
 iC 61 89 [.t 60,(.c (bl false))],
 iF 62 1 4,
 ⟨none,none,.e (.st 1 (.t 62) (.t 61))⟩])
 (.seq
 (.seq
 (.reg [
 iM 63 5])
 (.cond (.t 63)
 (.reg [
 iF 64 1 4,
 iL 65 64,
 iP 66 (.neg .i64 (.t 65)),
 iF 67 1 4,
 ⟨none,none,.e (.st 1 (.t 67) (.t 66))⟩])
 .skip))
 (.seq
 (.reg [
 iM 68 0,
 iP 69 (.nck (.t 68)),
 iF 70 0 69,
 iE 71 (.bsl 9 1 1 [st ⟨#[]⟩] [(0,(.c (st ⟨#[59]⟩)))]),
 iC 72 87 [.t 70,.t 71]])
 (.reg [
 iF 73 2 3,
 iL 74 73,
 iP 75 (.ldn 3 (.t 4)),
 iE 76 (.bsl 75 3 1 [st ⟨#[]⟩,i64 0,i64 0] [(0,(.t 75))]),
 iE 77 (.app 75 3 32 (.t 74) (.t 76)),
 iF 78 2 3,
 ⟨none,none,.e (.st 1 (.t 78) (.t 77))⟩]))))))))))
def l39_1:IC:=.keep [0,2,3]
 (.seq
 (.seq
 (.drw [0,1,2,3,4,5,6,7,8,9,10,11,12,13,14,15,16,17] [
 iF 79 3 3,
 iL 80 79,
 iP 81 (.len (.t 80)),
 iP 82 (.bin .eql (.i .i64) (.t 81) (.c (i64 0))),
 iM 83 82,
 iG 84 83 false (.mov (.t 0)),
 iG 85 83 false (.nck (.t 84)),
 iG 86 83 false (.fa 0 (.t 85)),
 iG 87 83 false (.fa 1 (.t 86)),
 iG 88 83 false (.ld1 (.t 87)),
 iG 89 83 false (.mov (.t 0)),
 iG 90 83 false (.nck (.t 89)),
 iG 91 83 false (.fa 0 (.t 90)),
 iG 92 83 false (.fa 0 (.t 91)),
 iG 93 83 false (.ld1 (.t 92)),
 iG 94 83 false (.len (.t 93)),
 iG 95 83 false (.bin .lss (.i .i64) (.t 88) (.t 94)),
 iP 96 (.pick (.t 83) (.c (bl true)) (.t 95))])
 (.cond (.t 96)
 .skip
 (.exit 2)))
 (.blk 3
 (.seq
 (.seq
 (.reg [
 iM 97 0,
 iP 98 (.nck (.t 97)),
 iF 99 0 98,
 iC 100 92 [.t 99],
 iP 101 (.not (.t 100)),
 iM 102 101,
 iG 103 102 true (.mov (.t 0)),
 iG 104 102 true (.nck (.t 103)),
 iG 105 102 true (.fa 0 (.t 104)),
 ⟨(some 106),(some (102,true)),.e (.bsl 9 1 3 [st ⟨#[]⟩] [(0,(.c (st ⟨#[100,101,97,108]⟩))),(1,(.c (st ⟨#[116,117,114,110]⟩))),(2,(.c (st ⟨#[101,110,100]⟩)))])⟩,
 ⟨(some 107),(some (102,true)),.q (.c (.fn (.func 93) [] [])) [(.t 105),(.t 106)]⟩,
 iG 108 102 true (.not (.t 107)),
 iP 109 (.pick (.t 102) (.t 108) (.c (bl false)))])
 (.cond (.t 109)
 (.reg [
 iM 110 0,
 iP 111 (.nck (.t 110)),
 iF 112 0 111,
 iC 113 79 [.t 112,(.c (i64 11))]])
 .skip))
 (.seq
 (.seq
 (.reg [
 iF 114 3 3,
 iL 115 114,
 iP 116 (.len (.t 115)),
 iP 117 (.bin .eql (.i .i64) (.t 116) (.c (i64 100)))])
 (.cond (.t 117)
 (.reg [
 iM 118 0,
 iP 119 (.nck (.t 118)),
 iF 120 0 119,
 iC 121 79 [.t 120,(.c (i64 12))]])
 .skip))
 (.drw [0,1,2,3,4,5,6,7] [
 iF 122 3 3,
 iL 123 122,
 iM 124 0,
 iC 125 94 [.t 124],
 iE 126 (.bsl 78 12 1 [i64 0,st ⟨#[]⟩,st ⟨#[]⟩,i64 0,i64 0,.val (.slice none 0 0),bl false,.val (.slice none 0 0),.val (.slice none 0 0),.val (.slice none 0 0),.val (.slice none 0 0),i64 0] [(0,(.t 125))]),
 iE 127 (.app 78 12 192 (.t 123) (.t 126)),
 iF 128 3 3,
 ⟨none,none,.e (.stw [123] 1 (.t 128) (.t 127))⟩])))))
def i39:IC :=
 (.seq
 (.reg [
 iE 2 (.alc 36 [st ⟨#[]⟩,i64 0,.val (.slice none 0 0),.val (.slice none 0 0)])])
 (.seq
 (.reg [
 iE 3 (.alc 36 [st ⟨#[]⟩,i64 0,.val (.slice none 0 0),.val (.slice none 0 0)])])
 (.seq
 (.reg [
 iM 6 0,
 iP 7 (.nck (.t 6)),
 iF 8 0 7,
 iE 9 (.bsl 9 1 1 [st ⟨#[]⟩] [(0,(.c (st ⟨#[103,97,109,101]⟩)))]),
 iC 10 87 [.t 8,.t 9]])
 (.seq
 (.reg [
 iM 11 0,
 iP 12 (.nck (.t 11)),
 iF 13 0 12,
 iC 14 88 [.t 13,(.c (bl false))],
 iF 15 0 3,
 ⟨none,none,.e (.st 1 (.t 15) (.t 14))⟩])
 (.seq
 (.reg [
 iM 16 0,
 iP 17 (.nck (.t 16)),
 iF 18 0 17,
 iE 19 (.bsl 9 1 2 [st ⟨#[]⟩] [(0,(.c (st ⟨#[59]⟩))),(1,(.c (st ⟨#[112,108,97,121,101,114,115]⟩)))]),
 iC 20 87 [.t 18,.t 19]])
 (.seq
 (.reg [
 iM 21 0,
 iP 22 (.nck (.t 21)),
 iF 23 0 22,
 iC 24 89 [.t 23,(.c (bl false))],
 iF 25 1 3,
 ⟨none,none,.e (.st 1 (.t 25) (.t 24))⟩])
 (.seq
 (.reg [
 iM 26 0,
 iP 27 (.nck (.t 26)),
 iF 28 0 27,
 iE 29 (.bsl 9 1 1 [st ⟨#[]⟩] [(0,(.c (st ⟨#[59]⟩)))]),
 iC 30 87 [.t 28,.t 29]])
 (.seq
 (.blk 0
 (.loop l39_0))
 (.seq
 (.blk 2
 (.loop l39_1))
 (.seq
 (.reg [
 iP 129 (.ldn 4 (.t 3)),
 ⟨none,none,.e (.st 4 (.t 2) (.t 129))⟩])
 .ret))))))))))
def r39:List RS:=[.cn 2 4]
theorem c39:chkF Tryz.prog drawB Tryz.f39 i39 r39=true:=by kernel_rfl
def l49_0:IC:=.keep [1,22,23,24]
 (.seq
 (.reg [
 iP 25 (.bin .lss (.i .i64) (.t 24) (.t 23))])
 (.seq
 (.cond (.t 25)
 .skip
 (.exit 0))
 (.seq
 (.blk 1
 (.seq
 (.reg [
 iP 26 (.ia 3 (.t 22) (.t 24)),
 iP 27 (.ldn 3 (.t 26)),
 iE 4 (.alc 75 [st ⟨#[]⟩,i64 0,i64 0]),
 ⟨none,none,.e (.st 3 (.t 4) (.t 27))⟩])
 (.seq
 (.reg [
 iF 28 0 4,
 iL 29 28,
 iC 30 101 [.t 29],
 iP 31 (.not (.t 30)),
 iM 32 31,
 iG 33 32 false (.fa 1 (.t 4)),
 iG 34 32 false (.ld1 (.t 33)),
 ⟨(some 35),(some (32,false)),.q (.c (.fn (.func 102) [] [])) [(.c (i64 (-1000000000))),(.t 34),(.c (i64 1000000000))]⟩,
 iG 36 32 false (.not (.t 35)),
 iP 37 (.pick (.t 32) (.c (bl true)) (.t 36))])
 (.cond (.t 37)
 (.seq
 (.reg [
 iP 2 (.mov (.c (bl false)))])
 .ret)
 .skip))))
 (.reg [
 iP 38 (.bin .add (.i .i64) (.t 24) (.c (i64 1))),
 iM 24 38]))))
def i49:IC :=
 (.seq
 (.reg [
 iE 1 (.box 36 (.t 0)),
 iP 2 (.mov (.c (bl false)))])
 (.seq
 (.seq
 (.reg [
 iF 5 0 1,
 iL 6 5,
 iC 7 101 [.t 6],
 iP 8 (.not (.t 7)),
 iM 9 8,
 iG 10 9 false (.fa 1 (.t 1)),
 iG 11 9 false (.ld1 (.t 10)),
 ⟨(some 12),(some (9,false)),.q (.c (.fn (.func 102) [] [])) [(.c (i64 0)),(.t 11),(.c (i64 1000000000))]⟩,
 iG 13 9 false (.not (.t 12)),
 iP 14 (.pick (.t 9) (.c (bl true)) (.t 13)),
 iM 15 14,
 iG 16 15 false (.fa 3 (.t 1)),
 iG 17 15 false (.ld1 (.t 16)),
 iG 18 15 false (.len (.t 17)),
 iG 19 15 false (.bin .eql (.i .i64) (.t 18) (.c (i64 0))),
 iP 20 (.pick (.t 15) (.c (bl true)) (.t 19))])
 (.cond (.t 20)
 (.seq
 (.reg [
 iP 2 (.mov (.c (bl false)))])
 .ret)
 .skip))
 (.seq
 (.seq
 (.reg [
 iF 21 2 1,
 iL 22 21,
 iP 23 (.len (.t 22)),
 iP 24 (.mov (.c (i64 0)))])
 (.blk 0
 (.loop l49_0)))
 (.seq
 (.reg [
 iF 39 3 1,
 iL 40 39,
 iC 41 103 [.t 40,(.c (.fn (.func 104) [] []))],
 iM 2 41])
 .ret))))
def r49:List RS:=[.t 2]
theorem c49:chkF Tryz.prog drawB Tryz.f49 i49 r49=true:=by kernel_rfl
def l50_0:IC:=.keep [0,3,19,20,21]
 (.seq
 (.reg [
 iP 22 (.bin .lss (.i .i64) (.t 21) (.t 20))])
 (.seq
 (.cond (.t 22)
 .skip
 (.exit 0))
 (.seq
 (.blk 1
 (.seq
 (.reg [
 iP 23 (.ia 3 (.t 19) (.t 21)),
 iP 24 (.ldn 3 (.t 23)),
 iE 5 (.alc 75 [st ⟨#[]⟩,i64 0,i64 0]),
 ⟨none,none,.e (.st 3 (.t 5) (.t 24))⟩])
 (.seq
 (.reg [
 iM 25 0,
 iF 26 0 5,
 iL 27 26,
 iE 28 (.bsl 9 1 3 [st ⟨#[]⟩] [(0,(.c (st ⟨#[118,97,114,32]⟩))),(1,(.t 27)),(2,(.c (st ⟨#[32,61,32]⟩)))]),
 iC 29 105 [.t 25,.t 28]])
 (.seq
 (.seq
 (.reg [
 iF 30 1 5,
 iL 31 30,
 iP 32 (.bin .lss (.i .i64) (.t 31) (.c (i64 0)))])
 (.cond (.t 32)
 (.reg [
 iM 33 0,
 iF 34 1 5,
 iL 35 34,
 iP 36 (.neg .i64 (.t 35)),
 iC 37 106 [.t 36],
 iE 38 (.bsl 9 1 2 [st ⟨#[]⟩] [(0,(.c (st ⟨#[45,32]⟩))),(1,(.t 37))]),
 iC 39 105 [.t 33,.t 38]])
 (.reg [
 iM 40 0,
 iF 41 1 5,
 iL 42 41,
 iC 43 106 [.t 42],
 iE 44 (.bsl 9 1 1 [st ⟨#[]⟩] [(0,(.t 43))]),
 iC 45 105 [.t 40,.t 44]])))
 (.reg [
 iM 46 0,
 iE 47 (.bsl 9 1 1 [st ⟨#[]⟩] [(0,(.c (st ⟨#[59,10]⟩)))]),
 iC 48 105 [.t 46,.t 47]])))))
 (.reg [
 iP 49 (.bin .add (.i .i64) (.t 21) (.c (i64 1))),
 iM 21 49]))))
def l50_2:IC:=.keep [0,51,52,53,97,98,99]
 (.seq
 (.reg [
 iP 100 (.bin .lss (.i .i64) (.t 99) (.t 98))])
 (.seq
 (.cond (.t 100)
 .skip
 (.exit 5))
 (.seq
 (.blk 6
 (.seq
 (.reg [
 iP 101 (.ia 6 (.t 97) (.t 99)),
 iP 102 (.ldn 6 (.t 101)),
 iE 9 (.alc 89 [st ⟨#[]⟩,.val (.slice none 0 0),bl false,.val (.slice none 0 0),st ⟨#[]⟩,i64 0]),
 ⟨none,none,.e (.st 6 (.t 9) (.t 102))⟩])
 (.reg [
 iM 103 0,
 iP 104 (.ldn 6 (.t 9)),
 iC 105 108 [.t 103,.t 104]])))
 (.reg [
 iP 106 (.bin .add (.i .i64) (.t 99) (.c (i64 1))),
 iM 99 106]))))
def l50_1:IC:=.keep [0,51,52,53]
 (.seq
 (.reg [
 iP 54 (.bin .lss (.i .i64) (.t 53) (.t 52))])
 (.seq
 (.cond (.t 54)
 .skip
 (.exit 2))
 (.seq
 (.blk 3
 (.seq
 (.reg [
 iP 55 (.ia 12 (.t 51) (.t 53)),
 iP 56 (.ldn 12 (.t 55)),
 iE 7 (.alc 78 [i64 0,st ⟨#[]⟩,st ⟨#[]⟩,i64 0,i64 0,.val (.slice none 0 0),bl false,.val (.slice none 0 0),.val (.slice none 0 0),.val (.slice none 0 0),.val (.slice none 0 0),i64 0]),
 ⟨none,none,.e (.st 12 (.t 7) (.t 56))⟩])
 (.seq
 (.seq
 (.reg [
 iF 57 1 7,
 iL 58 57,
 iP 59 (.bin .neq .s (.t 58) (.c (st ⟨#[]⟩)))])
 (.cond (.t 59)
 (.reg [
 iM 60 0,
 iF 61 1 7,
 iL 62 61,
 iE 63 (.bsl 9 1 2 [st ⟨#[]⟩] [(0,(.t 62)),(1,(.c (st ⟨#[58,32]⟩)))]),
 iC 64 105 [.t 60,.t 63]])
 .skip))
 (.seq
 (.reg [
 iF 65 0 7,
 iL 66 65])
 (.blk 4
 (.seq
 (.reg [
 iP 78 (.bin .eql (.i .i64) (.t 66) (.c (i64 1))),
 iM 77 78])
 (.cond (.t 77)
 (.reg [
 iM 79 0,
 iP 80 (.ldn 12 (.t 7)),
 iC 81 107 [.t 79,.t 80]])
 (.seq
 (.reg [
 iP 83 (.bin .eql (.i .i64) (.t 66) (.c (i64 2))),
 iM 82 83])
 (.cond (.t 82)
 (.seq
 (.reg [
 iM 84 0,
 iE 85 (.bsl 9 1 1 [st ⟨#[]⟩] [(0,(.c (st ⟨#[116,117,114,110,32]⟩)))]),
 iC 86 105 [.t 84,.t 85]])
 (.seq
 (.reg [
 iM 87 0,
 iF 88 8 7,
 iL 89 88,
 iP 90 (.ia 5 (.t 89) (.c (i64 0))),
 iP 91 (.ldn 5 (.t 90)),
 iC 92 73 [.t 87,.t 91]])
 (.seq
 (.reg [
 iM 93 0,
 iE 94 (.bsl 9 1 1 [st ⟨#[]⟩] [(0,(.c (st ⟨#[32,123,10]⟩)))]),
 iC 95 105 [.t 93,.t 94]])
 (.seq
 (.seq
 (.reg [
 iF 96 9 7,
 iL 97 96,
 iP 98 (.len (.t 97)),
 iP 99 (.mov (.c (i64 0)))])
 (.blk 5
 (.loop l50_2)))
 (.reg [
 iM 107 0,
 iE 108 (.bsl 9 1 1 [st ⟨#[]⟩] [(0,(.c (st ⟨#[125,10]⟩)))]),
 iC 109 105 [.t 107,.t 108]])))))
 (.seq
 (.reg [
 iM 67 0,
 iE 68 (.bsl 9 1 1 [st ⟨#[]⟩] [(0,(.c (st ⟨#[101,110,100,32,123,32,112,97,121,32]⟩)))]),
 iC 69 105 [.t 67,.t 68]])
 (.seq
 (.reg [
 iM 70 0,
 iF 71 10 7,
 iL 72 71,
 iC 73 109 [.t 70,.t 72]])
 (.reg [
 iM 74 0,
 iE 75 (.bsl 9 1 1 [st ⟨#[]⟩] [(0,(.c (st ⟨#[59,32,125,10]⟩)))]),
 iC 76 105 [.t 74,.t 75]]))))))))))))
 (.reg [
 iP 110 (.bin .add (.i .i64) (.t 53) (.c (i64 1))),
 iM 53 110]))))
def i50:IC :=
 (.seq
 (.reg [
 iE 3 (.box 36 (.t 1))])
 (.seq
 (.drw [0,1,2,3,4,5,6,7] [
 iM 10 0,
 iF 11 0 3,
 iL 12 11,
 iF 13 1 3,
 iL 14 13,
 ⟨(some 15),none,.q (.c (.fn (.func 106) [] [])) [(.t 14)]⟩,
 iE 16 (.bsl 9 1 5 [st ⟨#[]⟩] [(0,(.c (st ⟨#[103,97,109,101,32]⟩))),(1,(.t 12)),(2,(.c (st ⟨#[59,10,112,108,97,121,101,114,115,32]⟩))),(3,(.t 15)),(4,(.c (st ⟨#[59,10]⟩)))]),
 iC 17 105 [.t 10,.t 16]])
 (.seq
 (.seq
 (.reg [
 iF 18 2 3,
 iL 19 18,
 iP 20 (.len (.t 19)),
 iP 21 (.mov (.c (i64 0)))])
 (.blk 0
 (.loop l50_0)))
 (.seq
 (.reg [
 iF 50 3 3,
 iL 51 50,
 iP 52 (.len (.t 51)),
 iP 53 (.mov (.c (i64 0)))])
 (.blk 2
 (.loop l50_1))))))
def r50:List RS:=[]
theorem c50:chkF Tryz.prog drawB Tryz.f50 i50 r50=true:=by kernel_rfl
def i51:IC :=
 (.seq
 (.reg [
 iP 2 (.mov (.c (bl false)))])
 (.seq
 (.reg [
 iM 3 0,
 iP 4 (.nck (.t 3)),
 iF 5 0 4,
 iL 6 5,
 iP 7 (.len (.t 6)),
 iP 8 (.bin .gtr (.i .i64) (.t 7) (.c (i64 20000))),
 iM 2 8])
 .ret))
def r51:List RS:=[.t 2]
theorem c51:chkF Tryz.prog drawB Tryz.f51 i51 r51=true:=by kernel_rfl
def i70:IC :=
 (.seq
 (.reg [
 iE 1 (.box 9 (.t 0)),
 iP 2 (.mov (.c (.val .nilFunc)))])
 (.seq
 (.reg [
 iP 3 (.mkf (.func 123) [] [(.t 1)]),
 iM 2 3])
 .ret))
def r70:List RS:=[.t 2]
theorem c70:chkF Tryz.prog drawB Tryz.f70 i70 r70=true:=by kernel_rfl
def i71:IC :=
 (.seq
 (.reg [
 iE 2 (.alc 28 [i64 0,i64 0])])
 (.seq
 (.reg [
 iE 3 (.alc 115 [i64 0,i64 0])])
 (.seq
 (.seq
 (.reg [
 iM 4 0,
 iP 5 (.mki 161 (.t 3)),
 iC 6 129 [.t 4,.t 5]])
 (.cond (.t 6)
 (.seq
 (.reg [
 iF 7 0 3,
 iP 8 (.ldn 2 (.t 7)),
 ⟨none,none,.e (.st 2 (.t 2) (.t 8))⟩])
 .ret)
 .skip))
 (.seq
 (.reg [
 iP 9 (.bld [i64 0,i64 0] []),
 ⟨none,none,.e (.st 2 (.t 2) (.t 9))⟩])
 .ret))))
def r71:List RS:=[.cn 2 2]
theorem c71:chkF Tryz.prog drawB Tryz.f71 i71 r71=true:=by kernel_rfl
def l72_1:IC:=.keep [3,4,42,43,44]
 (.seq
 (.reg [
 iP 45 (.bin .lss (.i .i64) (.t 44) (.t 43))])
 (.seq
 (.cond (.t 45)
 .skip
 (.exit 2))
 (.seq
 (.blk 3
 (.seq
 (.reg [
 iP 46 (.ia 5 (.t 42) (.t 44)),
 iP 47 (.ldn 5 (.t 46)),
 iE 7 (.alc 25 [i64 0,i64 0,st ⟨#[]⟩,.val (.slice none 0 0),i64 0]),
 ⟨none,none,.e (.st 5 (.t 7) (.t 47))⟩])
 (.seq
 (.seq
 (.reg [
 iP 48 (.ldn 5 (.t 7)),
 iC 49 130 [.t 48],
 iP 50 (.not (.t 49))])
 (.cond (.t 50)
 (.seq
 (.reg [
 iP 2 (.mov (.c (bl false)))])
 .ret)
 .skip))
 (.reg [
 iM 51 3,
 iF 52 3 7,
 iL 53 52,
 iE 54 (.bsl 23 1 1 [.val (.slice none 0 0)] [(0,(.t 53))]),
 iE 55 (.app 23 1 24 (.t 51) (.t 54)),
 iM 3 55]))))
 (.reg [
 iP 56 (.bin .add (.i .i64) (.t 44) (.c (i64 1))),
 iM 44 56]))))
def r72:List RS:=[.t 2]
def i73:IC :=
 (.seq
 (.reg [
 iE 3 (.box 25 (.t 1))])
 (.seq
 (.seq
 (.reg [
 iM 6 0,
 iC 7 51 [.t 6]])
 (.cond (.t 7)
 .ret
 .skip))
 (.seq
 (.reg [
 iF 9 0 3,
 iL 10 9,
 iC 11 131 [.t 10],
 iM 8 11,
 iP 12 (.ext (.t 8) 0),
 iP 13 (.ext (.t 8) 1),
 iM 4 12,
 iM 5 13])
 (.blk 0
 (.seq
 (.reg [
 iF 31 0 3,
 iL 32 31,
 iP 33 (.bin .eql (.i .i64) (.t 32) (.c (i64 1))),
 iM 30 33])
 (.cond (.t 30)
 (.reg [
 iM 34 0,
 iF 35 1 3,
 iL 36 35,
 iC 37 106 [.t 36],
 iE 38 (.bsl 9 1 1 [st ⟨#[]⟩] [(0,(.t 37))]),
 iC 39 105 [.t 34,.t 38]])
 (.seq
 (.reg [
 iF 41 0 3,
 iL 42 41,
 iP 43 (.bin .eql (.i .i64) (.t 42) (.c (i64 2))),
 iM 40 43])
 (.cond (.t 40)
 (.reg [
 iM 44 0,
 iF 45 2 3,
 iL 46 45,
 iE 47 (.bsl 9 1 1 [st ⟨#[]⟩] [(0,(.t 46))]),
 iC 48 105 [.t 44,.t 47]])
 (.seq
 (.reg [
 iF 50 0 3,
 iL 51 50,
 iC 52 132 [.t 51],
 iM 49 52])
 (.cond (.t 49)
 (.seq
 (.reg [
 iM 53 0,
 iM 54 4,
 iE 55 (.bsl 9 1 2 [st ⟨#[]⟩] [(0,(.t 54)),(1,(.c (st ⟨#[40]⟩)))]),
 iC 56 105 [.t 53,.t 55]])
 (.seq
 (.reg [
 iM 57 0,
 iF 58 3 3,
 iL 59 58,
 iC 60 109 [.t 57,.t 59]])
 (.reg [
 iM 61 0,
 iE 62 (.bsl 9 1 1 [st ⟨#[]⟩] [(0,(.c (st ⟨#[41]⟩)))]),
 iC 63 105 [.t 61,.t 62]])))
 (.seq
 (.reg [
 iM 65 5,
 iP 66 (.bin .eql (.i .i64) (.t 65) (.c (i64 1))),
 iM 64 66])
 (.cond (.t 64)
 (.seq
 (.reg [
 iM 67 0,
 iM 68 4,
 iE 69 (.bsl 9 1 2 [st ⟨#[]⟩] [(0,(.t 68)),(1,(.c (st ⟨#[32]⟩)))]),
 iC 70 105 [.t 67,.t 69]])
 (.reg [
 iM 71 0,
 iF 72 3 3,
 iL 73 72,
 iP 74 (.ia 5 (.t 73) (.c (i64 0))),
 iP 75 (.ldn 5 (.t 74)),
 iC 76 133 [.t 71,.t 75]]))
 (.seq
 (.reg [
 iM 14 0,
 iF 15 3 3,
 iL 16 15,
 iP 17 (.ia 5 (.t 16) (.c (i64 0))),
 iP 18 (.ldn 5 (.t 17)),
 iC 19 133 [.t 14,.t 18]])
 (.seq
 (.reg [
 iM 20 0,
 iM 21 4,
 iE 22 (.bsl 9 1 3 [st ⟨#[]⟩] [(0,(.c (st ⟨#[32]⟩))),(1,(.t 21)),(2,(.c (st ⟨#[32]⟩)))]),
 iC 23 105 [.t 20,.t 22]])
 (.reg [
 iM 24 0,
 iF 25 3 3,
 iL 26 25,
 iP 27 (.ia 5 (.t 26) (.c (i64 1))),
 iP 28 (.ldn 5 (.t 27)),
 iC 29 133 [.t 24,.t 28]])))))))))))))))
def r73:List RS:=[]
theorem c73:chkF Tryz.prog drawB Tryz.f73 i73 r73=true:=by kernel_rfl
def i76s:List Ins:=[iM 2 4]
def i76:IC :=
 (.seq
 (.reg [
 iM 5 2,
 iP 6 (.ifn true true (.t 5))])
 (.cond (.t 6)
 (.seq
 (.reg [
 iE 3 (.alc 25 [i64 0,i64 0,st ⟨#[]⟩,.val (.slice none 0 0),i64 0])])
 (.drw [0,1,2,3,4] [
 iP 7 (.ldn 5 (.t 3)),
 iM 8 2,
 ⟨(some 9),none,.q (.c (.fn (.func 77) [] [])) [(.t 8)]⟩,
 ⟨none,none,.e (.st 5 (.t 0) (.t 7))⟩,
 ⟨none,none,.e (.stw [7] 2 (.t 1) (.t 9))⟩]))
 .skip))
theorem c76:chkRc Tryz.prog drawB Tryz.f76 4 i76s i76=true:=by kernel_rfl
def i77:IC :=
 (.seq
 (.reg [
 iE 2 (.alc 28 [i64 0,i64 0])])
 (.seq
 (.seq
 (.reg [
 iM 6 0,
 iP 7 (.tas 28 true (.agg [i64 0,i64 0]) (.t 6)),
 iM 5 7,
 iP 8 (.ext (.t 5) 0),
 iP 9 (.ext (.t 5) 1),
 iE 3 (.alc 28 [i64 0,i64 0]),
 ⟨none,none,.e (.st 2 (.t 3) (.t 8))⟩,
 iM 4 9])
 (.seq
 (.reg [
 iM 10 4])
 (.cond (.t 10)
 (.seq
 (.reg [
 iP 11 (.ldn 2 (.t 3)),
 ⟨none,none,.e (.st 2 (.t 2) (.t 11))⟩])
 .ret)
 .skip)))
 (.seq
 (.reg [
 iP 12 (.bld [i64 0,i64 0] [(0,1,(.c (i64 11)))]),
 ⟨none,none,.e (.st 2 (.t 2) (.t 12))⟩])
 .ret)))
def r77:List RS:=[.cn 2 2]
theorem c77:chkF Tryz.prog drawB Tryz.f77 i77 r77=true:=by kernel_rfl
def i78:IC :=
 (.seq
 (.reg [
 iE 0 (.alc 124 [.val (.map none),.val (.map none),.val (.map none),.val (.map none),.val (.map none)])])
 (.seq
 (.reg [
 iE 1 (.mkm 123),
 ⟨none,none,.e (.mup .s (.t 1) (.c (st ⟨#[111,114]⟩)) (.c (i64 17)))⟩,
 iM 2 1,
 iE 3 (.mkm 123),
 ⟨none,none,.e (.mup .s (.t 3) (.c (st ⟨#[97,110,100]⟩)) (.c (i64 16)))⟩,
 iM 4 3,
 iE 5 (.mkm 123),
 ⟨none,none,.e (.mup .s (.t 5) (.c (st ⟨#[61,61]⟩)) (.c (i64 10)))⟩,
 ⟨none,none,.e (.mup .s (.t 5) (.c (st ⟨#[33,61]⟩)) (.c (i64 11)))⟩,
 ⟨none,none,.e (.mup .s (.t 5) (.c (st ⟨#[60]⟩)) (.c (i64 12)))⟩,
 ⟨none,none,.e (.mup .s (.t 5) (.c (st ⟨#[60,61]⟩)) (.c (i64 13)))⟩,
 ⟨none,none,.e (.mup .s (.t 5) (.c (st ⟨#[62]⟩)) (.c (i64 14)))⟩,
 ⟨none,none,.e (.mup .s (.t 5) (.c (st ⟨#[62,61]⟩)) (.c (i64 15)))⟩,
 iM 6 5,
 iE 7 (.mkm 123),
 ⟨none,none,.e (.mup .s (.t 7) (.c (st ⟨#[43]⟩)) (.c (i64 8)))⟩,
 ⟨none,none,.e (.mup .s (.t 7) (.c (st ⟨#[45]⟩)) (.c (i64 9)))⟩,
 iM 8 7,
 iE 9 (.mkm 123),
 ⟨none,none,.e (.mup .s (.t 9) (.c (st ⟨#[42]⟩)) (.c (i64 5)))⟩,
 ⟨none,none,.e (.mup .s (.t 9) (.c (st ⟨#[47]⟩)) (.c (i64 6)))⟩,
 ⟨none,none,.e (.mup .s (.t 9) (.c (st ⟨#[37]⟩)) (.c (i64 7)))⟩,
 iM 10 9,
 iP 11 (.bld [.val (.map none),.val (.map none),.val (.map none),.val (.map none),.val (.map none)] [(0,1,(.t 2)),(1,1,(.t 4)),(2,1,(.t 6)),(3,1,(.t 8)),(4,1,(.t 10))]),
 ⟨none,none,.e (.st 5 (.t 0) (.t 11))⟩])
 .ret))
def r78:List RS:=[.cn 0 5]
theorem c78:chkF Tryz.prog drawB Tryz.f78 i78 r78=true:=by kernel_rfl
def i79:IC :=
 (.reg [
 iM 4 1,
 iM 5 0,
 iC 6 91 [.t 5],
 iP 7 (.bld [i64 0,i64 0] [(0,1,(.t 4)),(1,1,(.t 6))]),
 iP 8 (.mki 28 (.t 7)),
 ⟨none,none,.e (.pan (.t 8))⟩])
def r79:List RS:=[]
theorem c79:chkF Tryz.prog drawB Tryz.f79 i79 r79=true:=by kernel_rfl
def l80_0:IC:=.keep [1,2,4,5]
 (.blk 1
 (.seq
 (.drw [0,1,2,3,4,5,6,7,8,9,10,11,12,13,14,15,16] [
 iL 30 2,
 iM 31 1,
 iP 32 (.nck (.t 30)),
 iF 33 3 32,
 iP 34 (.iap 5 1 (.t 33) (.t 31)),
 iL 35 34,
 iL 36 2,
 iP 37 (.nck (.t 36)),
 iF 38 0 37,
 ⟨(some 39),none,.q (.c (.fn (.func 139) [] [])) [(.t 38)]⟩,
 iP 40 (.fld1 1 (.t 39)),
 iP 41 (.lkp .s true (i64 0) (.t 35) (.t 40)),
 iM 29 41,
 iP 42 (.ext (.t 29) 0),
 iP 43 (.ext (.t 29) 1),
 iM 6 42,
 iM 7 43])
 (.seq
 (.seq
 (.reg [
 iM 44 7,
 iP 45 (.not (.t 44))])
 (.cond (.t 45)
 (.seq
 (.reg [
 iP 46 (.ldn 5 (.t 5)),
 ⟨none,none,.e (.st 5 (.t 4) (.t 46))⟩])
 .ret)
 .skip))
 (.seq
 (.reg [
 iL 47 2,
 iP 48 (.nck (.t 47)),
 iF 49 0 48,
 iC 50 91 [.t 49],
 iM 8 50])
 (.seq
 (.reg [
 iL 51 2,
 iP 52 (.nck (.t 51)),
 iF 53 0 52,
 iC 54 140 [.t 53]])
 (.seq
 (.drw [0,1,2,3,4,7,5,6,8,9] [
 iM 55 6,
 iP 56 (.ldn 5 (.t 5)),
 iL 57 2,
 iM 58 1,
 iP 59 (.bin .add (.i .i64) (.t 58) (.c (i64 1))),
 iM 62 8,
 iC 60 80 [.t 57,.t 59],
 iE 61 (.bsl 25 5 2 [i64 0,i64 0,st ⟨#[]⟩,.val (.slice none 0 0),i64 0] [(0,(.t 56)),(1,(.t 60))]),
 iP 63 (.bld [i64 0,i64 0,st ⟨#[]⟩,.val (.slice none 0 0),i64 0] [(0,1,(.t 55)),(3,1,(.t 61)),(4,1,(.t 62))]),
 ⟨none,none,.e (.stw [57,56] 5 (.t 5) (.t 63))⟩])
 (.seq
 (.reg [
 iM 64 1,
 iP 65 (.bin .eql (.i .i64) (.t 64) (.c (i64 2)))])
 (.cond (.t 65)
 (.seq
 (.reg [
 iP 66 (.ldn 5 (.t 5)),
 ⟨none,none,.e (.st 5 (.t 4) (.t 66))⟩])
 .ret)
 .skip))))))))
def i80:IC :=
 (.seq
 (.reg [
 iE 2 (.box 62 (.t 0)),
 iE 4 (.alc 25 [i64 0,i64 0,st ⟨#[]⟩,.val (.slice none 0 0),i64 0])])
 (.seq
 (.seq
 (.reg [
 iM 9 1,
 iP 10 (.bin .eql (.i .i64) (.t 9) (.c (i64 5)))])
 (.cond (.t 10)
 (.seq
 (.reg [
 iL 11 2,
 iC 12 136 [.t 11],
 ⟨none,none,.e (.st 5 (.t 4) (.t 12))⟩])
 .ret)
 .skip))
 (.seq
 (.seq
 (.reg [
 iM 13 1,
 iP 14 (.bin .eql (.i .i64) (.t 13) (.c (i64 2))),
 iM 15 14,
 iG 16 15 true (.ld1 (.t 2)),
 iG 17 15 true (.nck (.t 16)),
 iG 18 15 true (.fa 0 (.t 17)),
 ⟨(some 19),(some (15,true)),.e (.bsl 9 1 1 [st ⟨#[]⟩] [(0,(.c (st ⟨#[110,111,116]⟩)))])⟩,
 ⟨(some 20),(some (15,true)),.q (.c (.fn (.func 93) [] [])) [(.t 18),(.t 19)]⟩,
 iP 21 (.pick (.t 15) (.t 20) (.c (bl false)))])
 (.cond (.t 21)
 (.seq
 (.reg [
 iL 22 2,
 iP 23 (.mkf (.func 138) [] [(.t 2)]),
 iC 24 137 [.t 22,(.c (i64 4)),.t 23],
 ⟨none,none,.e (.st 5 (.t 4) (.t 24))⟩])
 .ret)
 .skip))
 (.seq
 (.reg [
 iL 25 2,
 iM 26 1,
 iP 27 (.bin .add (.i .i64) (.t 26) (.c (i64 1))),
 iC 28 80 [.t 25,.t 27],
 iE 5 (.alc 25 [i64 0,i64 0,st ⟨#[]⟩,.val (.slice none 0 0),i64 0]),
 ⟨none,none,.e (.st 5 (.t 5) (.t 28))⟩])
 (.blk 0
 (.loop l80_0))))))
def r80:List RS:=[.cn 4 5]
theorem c80:chkF Tryz.prog drawB Tryz.f80 i80 r80=true:=by kernel_rfl
def i86s:List Ins:=[iM 2 4]
def i86:IC :=
 (.seq
 (.reg [
 iM 5 2,
 iP 6 (.ifn true true (.t 5))])
 (.cond (.t 6)
 (.seq
 (.reg [
 iE 3 (.alc 36 [st ⟨#[]⟩,i64 0,.val (.slice none 0 0),.val (.slice none 0 0)])])
 (.drw [0,1,2,3,4] [
 iP 7 (.ldn 4 (.t 3)),
 iM 8 2,
 ⟨(some 9),none,.q (.c (.fn (.func 77) [] [])) [(.t 8)]⟩,
 ⟨none,none,.e (.st 4 (.t 0) (.t 7))⟩,
 ⟨none,none,.e (.stw [7] 2 (.t 1) (.t 9))⟩]))
 .skip))
theorem c86:chkRc Tryz.prog drawB Tryz.f86 4 i86s i86=true:=by kernel_rfl
def l87_0:IC:=.keep [0,6,7,8]
 (.seq
 (.reg [
 iP 9 (.bin .lss (.i .i64) (.t 8) (.t 7))])
 (.seq
 (.cond (.t 9)
 .skip
 (.exit 0))
 (.seq
 (.blk 1
 (.seq
 (.reg [
 iP 10 (.ia 1 (.t 6) (.t 8)),
 iL 11 10,
 iM 5 11])
 (.seq
 (.reg [
 iM 12 0,
 iM 13 5,
 iC 14 90 [.t 12,.t 13],
 iP 15 (.not (.t 14))])
 (.cond (.t 15)
 (.reg [
 iM 16 0,
 iC 17 79 [.t 16,(.c (i64 11))]])
 .skip))))
 (.reg [
 iP 18 (.bin .add (.i .i64) (.t 8) (.c (i64 1))),
 iM 8 18]))))
def i87:IC :=
 (.seq
 (.reg [
 iM 6 1,
 iP 7 (.len (.t 6)),
 iP 8 (.mov (.c (i64 0)))])
 (.blk 0
 (.loop l87_0)))
def r87:List RS:=[]
theorem c87:chkF Tryz.prog drawB Tryz.f87 i87 r87=true:=by kernel_rfl
def i88:IC :=
 (.seq
 (.reg [
 iP 4 (.mov (.c (st ⟨#[]⟩)))])
 (.seq
 (.seq
 (.reg [
 iM 5 0,
 iC 6 92 [.t 5],
 iP 7 (.not (.t 6))])
 (.cond (.t 7)
 (.reg [
 iM 8 0,
 iC 9 79 [.t 8,(.c (i64 11))]])
 .skip))
 (.seq
 (.seq
 (.reg [
 iM 10 1])
 (.cond (.t 10)
 (.reg [
 iM 11 0,
 iC 12 79 [.t 11,(.c (i64 12))]])
 .skip))
 (.seq
 (.reg [
 iM 13 0,
 iC 14 140 [.t 13],
 iP 15 (.fld1 1 (.t 14)),
 iM 4 15])
 .ret))))
def r88:List RS:=[.t 4]
theorem c88:chkF Tryz.prog drawB Tryz.f88 i88 r88=true:=by kernel_rfl
def i89:IC :=
 (.seq
 (.reg [
 iP 4 (.mov (.c (i64 0)))])
 (.seq
 (.seq
 (.reg [
 iM 5 0,
 iC 6 139 [.t 5],
 iP 7 (.fld1 0 (.t 6)),
 iP 8 (.bin .neq (.i .i64) (.t 7) (.c (i64 2)))])
 (.cond (.t 8)
 (.reg [
 iM 9 0,
 iC 10 79 [.t 9,(.c (i64 11))]])
 .skip))
 (.seq
 (.seq
 (.reg [
 iM 11 1])
 (.cond (.t 11)
 (.reg [
 iM 12 0,
 iC 13 79 [.t 12,(.c (i64 12))]])
 .skip))
 (.seq
 (.reg [
 iM 14 0,
 iC 15 140 [.t 14],
 iP 16 (.fld1 2 (.t 15)),
 iM 4 16])
 .ret))))
def r89:List RS:=[.t 4]
theorem c89:chkF Tryz.prog drawB Tryz.f89 i89 r89=true:=by kernel_rfl
def i90:IC :=
 (.seq
 (.reg [
 iP 4 (.mov (.c (bl false)))])
 (.seq
 (.seq
 (.reg [
 iM 5 0,
 iM 6 1,
 iE 7 (.bsl 9 1 1 [st ⟨#[]⟩] [(0,(.t 6))]),
 iC 8 93 [.t 5,.t 7],
 iP 9 (.not (.t 8))])
 (.cond (.t 9)
 (.seq
 (.reg [
 iP 4 (.mov (.c (bl false)))])
 .ret)
 .skip))
 (.seq
 (.reg [
 iM 10 0,
 iP 11 (.nck (.t 10)),
 iF 12 1 11,
 iL 13 12,
 iP 14 (.bin .add (.i .i64) (.t 13) (.c (i64 1))),
 iP 15 (.nck (.t 10)),
 iF 16 1 15,
 ⟨none,none,.e (.st 1 (.t 16) (.t 14))⟩])
 (.seq
 (.reg [
 iP 4 (.mov (.c (bl true)))])
 .ret))))
def r90:List RS:=[.t 4]
theorem c90:chkF Tryz.prog drawB Tryz.f90 i90 r90=true:=by kernel_rfl
def i91:IC :=
 (.seq
 (.reg [
 iP 2 (.mov (.c (i64 0)))])
 (.seq
 (.seq
 (.drw [0,1,2,3,4,5,6,7,8,9] [
 iM 3 0,
 iP 4 (.nck (.t 3)),
 iF 5 1 4,
 iL 6 5,
 iM 7 0,
 iP 8 (.nck (.t 7)),
 iF 9 0 8,
 iL 10 9,
 iP 11 (.len (.t 10)),
 iP 12 (.bin .lss (.i .i64) (.t 6) (.t 11))])
 (.cond (.t 12)
 (.seq
 (.drw [0,1,2,3,4,5,6,7,8,9,10,11] [
 iM 13 0,
 iP 14 (.nck (.t 13)),
 iF 15 0 14,
 iL 16 15,
 iM 17 0,
 iP 18 (.nck (.t 17)),
 iF 19 1 18,
 iL 20 19,
 iP 21 (.ia 4 (.t 16) (.t 20)),
 iF 22 3 21,
 iL 23 22,
 iM 2 23])
 .ret)
 .skip))
 (.seq
 (.reg [
 iM 24 0,
 iP 25 (.nck (.t 24)),
 iF 26 2 25,
 iL 27 26,
 iM 2 27])
 .ret)))
def r91:List RS:=[.t 2]
theorem c91:chkF Tryz.prog drawB Tryz.f91 i91 r91=true:=by kernel_rfl
def i92:IC :=
 (.seq
 (.reg [
 iP 2 (.mov (.c (bl false)))])
 (.seq
 (.reg [
 iM 4 0,
 iC 5 139 [.t 4],
 iE 3 (.alc 52 [i64 0,st ⟨#[]⟩,i64 0,i64 0]),
 ⟨none,none,.e (.st 4 (.t 3) (.t 5))⟩])
 (.seq
 (.reg [
 iF 6 0 3,
 iL 7 6,
 iP 8 (.bin .eql (.i .i64) (.t 7) (.c (i64 1))),
 iM 9 8,
 iG 10 9 true (.fa 1 (.t 3)),
 iG 11 9 true (.ld1 (.t 10)),
 ⟨(some 12),(some (9,true)),.q (.c (.fn (.func 146) [] [])) [(.t 11)]⟩,
 iG 13 9 true (.not (.t 12)),
 iP 14 (.pick (.t 9) (.t 13) (.c (bl false))),
 iM 2 14])
 .ret)))
def r92:List RS:=[.t 2]
theorem c92:chkF Tryz.prog drawB Tryz.f92 i92 r92=true:=by kernel_rfl
def l93_0:IC:=.keep [5,10,11,12]
 (.seq
 (.reg [
 iP 13 (.bin .lss (.i .i64) (.t 12) (.t 11))])
 (.seq
 (.cond (.t 13)
 .skip
 (.exit 0))
 (.seq
 (.blk 1
 (.seq
 (.reg [
 iP 14 (.ia 1 (.t 10) (.t 12)),
 iL 15 14,
 iM 7 15])
 (.seq
 (.reg [
 iF 16 1 5,
 iL 17 16,
 iM 18 7,
 iP 19 (.bin .eql .s (.t 17) (.t 18))])
 (.cond (.t 19)
 (.seq
 (.reg [
 iP 4 (.mov (.c (bl true)))])
 .ret)
 .skip))))
 (.reg [
 iP 20 (.bin .add (.i .i64) (.t 12) (.c (i64 1))),
 iM 12 20]))))
def i93:IC :=
 (.seq
 (.reg [
 iP 4 (.mov (.c (bl false)))])
 (.seq
 (.reg [
 iM 8 0,
 iC 9 139 [.t 8],
 iE 5 (.alc 52 [i64 0,st ⟨#[]⟩,i64 0,i64 0]),
 ⟨none,none,.e (.st 4 (.t 5) (.t 9))⟩])
 (.seq
 (.seq
 (.reg [
 iM 10 1,
 iP 11 (.len (.t 10)),
 iP 12 (.mov (.c (i64 0)))])
 (.blk 0
 (.loop l93_0)))
 (.seq
 (.reg [
 iP 4 (.mov (.c (bl false)))])
 .ret))))
def r93:List RS:=[.t 4]
theorem c93:chkF Tryz.prog drawB Tryz.f93 i93 r93=true:=by kernel_rfl
def i94:IC :=
 (.seq
 (.reg [
 iE 2 (.alc 78 [i64 0,st ⟨#[]⟩,st ⟨#[]⟩,i64 0,i64 0,.val (.slice none 0 0),bl false,.val (.slice none 0 0),.val (.slice none 0 0),.val (.slice none 0 0),.val (.slice none 0 0),i64 0])])
 (.seq
 (.reg [
 iE 3 (.alc 78 [i64 0,st ⟨#[]⟩,st ⟨#[]⟩,i64 0,i64 0,.val (.slice none 0 0),bl false,.val (.slice none 0 0),.val (.slice none 0 0),.val (.slice none 0 0),.val (.slice none 0 0),i64 0])])
 (.seq
 (.seq
 (.reg [
 iM 7 0,
 iP 8 (.nck (.t 7)),
 iF 9 0 8,
 iC 10 92 [.t 9]])
 (.cond (.t 10)
 (.seq
 (.reg [
 iM 11 0,
 iP 12 (.nck (.t 11)),
 iF 13 0 12,
 iC 14 88 [.t 13,(.c (bl false))],
 iF 15 1 3,
 ⟨none,none,.e (.st 1 (.t 15) (.t 14))⟩])
 (.reg [
 iM 16 0,
 iP 17 (.nck (.t 16)),
 iF 18 0 17,
 iE 19 (.bsl 9 1 1 [st ⟨#[]⟩] [(0,(.c (st ⟨#[58]⟩)))]),
 iC 20 87 [.t 18,.t 19]]))
 .skip))
 (.seq
 (.reg [
 iE 21 (.mkm 184),
 ⟨none,none,.e (.mup .s (.t 21) (.c (st ⟨#[100,101,97,108]⟩)) (.c (.fn (.func 147) [] [])))⟩,
 ⟨none,none,.e (.mup .s (.t 21) (.c (st ⟨#[116,117,114,110]⟩)) (.c (.fn (.func 148) [] [])))⟩,
 ⟨none,none,.e (.mup .s (.t 21) (.c (st ⟨#[101,110,100]⟩)) (.c (.fn (.func 149) [] [])))⟩,
 iM 22 21,
 iM 4 22])
 (.seq
 (.reg [
 iM 24 4,
 iM 25 0,
 iP 26 (.nck (.t 25)),
 iF 27 0 26,
 iC 28 139 [.t 27],
 iP 29 (.fld1 1 (.t 28)),
 iP 30 (.lkp .s true (.val .nilFunc) (.t 24) (.t 29)),
 iM 23 30,
 iP 31 (.ext (.t 23) 0),
 iP 32 (.ext (.t 23) 1),
 iM 5 31,
 iM 6 32])
 (.seq
 (.seq
 (.reg [
 iM 33 6,
 iP 34 (.not (.t 33))])
 (.cond (.t 34)
 (.reg [
 iM 35 0,
 iP 36 (.nck (.t 35)),
 iF 37 0 36,
 iC 38 79 [.t 37,(.c (i64 11))]])
 .skip))
 (.seq
 (.reg [
 iM 39 0,
 iP 40 (.nck (.t 39)),
 iF 41 0 40,
 iC 42 91 [.t 41],
 iF 43 11 3,
 ⟨none,none,.e (.st 1 (.t 43) (.t 42))⟩])
 (.seq
 (.reg [
 iM 44 0,
 iP 45 (.nck (.t 44)),
 iF 46 0 45,
 iC 47 140 [.t 46]])
 (.seq
 (.reg [
 iM 48 5,
 iM 49 0,
 iE 50 (.call (.t 48) [(.t 49),(.t 3)])])
 (.seq
 (.reg [
 iP 51 (.ldn 12 (.t 3)),
 ⟨none,none,.e (.st 12 (.t 2) (.t 51))⟩])
 .ret))))))))))
def r94:List RS:=[.cn 2 12]
theorem c94:chkF Tryz.prog drawB Tryz.f94 i94 r94=true:=by kernel_rfl
def i101:IC :=
 (.seq
 (.reg [
 iP 2 (.mov (.c (bl false)))])
 (.seq
 (.reg [
 iM 3 0,
 iP 4 (.bld [i64 0,st ⟨#[]⟩,i64 0,i64 0] [(0,1,(.c (i64 1))),(1,1,(.t 3))]),
 iC 5 134 [.t 4],
 iP 6 (.bin .eql (.i .i64) (.t 5) (.c (i64 0))),
 iM 7 6,
 iG 8 7 true (.mov (.t 0)),
 ⟨(some 9),(some (7,true)),.q (.c (.fn (.func 146) [] [])) [(.t 8)]⟩,
 iG 10 7 true (.not (.t 9)),
 iP 11 (.pick (.t 7) (.t 10) (.c (bl false))),
 iM 2 11])
 .ret))
def r101:List RS:=[.t 2]
theorem c101:chkF Tryz.prog drawB Tryz.f101 i101 r101=true:=by kernel_rfl
def i102:IC :=
 (.seq
 (.reg [
 iP 6 (.mov (.c (bl false)))])
 (.seq
 (.reg [
 iM 7 0,
 iM 8 1,
 iP 9 (.bin .leq (.i .i64) (.t 7) (.t 8)),
 iM 10 9,
 iG 11 10 true (.mov (.t 1)),
 iG 12 10 true (.mov (.t 2)),
 iG 13 10 true (.bin .leq (.i .i64) (.t 11) (.t 12)),
 iP 14 (.pick (.t 10) (.t 13) (.c (bl false))),
 iM 6 14])
 .ret))
def r102:List RS:=[.t 6]
theorem c102:chkF Tryz.prog drawB Tryz.f102 i102 r102=true:=by kernel_rfl
def i103:IC :=
 (.seq
 (.reg [
 iE 3 (.box 95 (.t 1)),
 iP 4 (.mov (.c (bl false)))])
 (.seq
 (.reg [
 iM 5 0,
 iP 6 (.mkf (.func 153) [] [(.t 3)]),
 iC 7 152 [.t 5,.t 6],
 iP 8 (.not (.t 7)),
 iM 4 8])
 .ret))
def r103:List RS:=[.t 4]
theorem c103:chkF Tryz.prog drawB Tryz.f103 i103 r103=true:=by kernel_rfl
def i104:IC :=
 (.seq
 (.reg [
 iE 1 (.box 78 (.t 0)),
 iP 2 (.mov (.c (bl false)))])
 (.seq
 (.seq
 (.reg [
 iF 5 1 1,
 iL 6 5,
 iP 7 (.bin .neq .s (.t 6) (.c (st ⟨#[]⟩))),
 iM 8 7,
 iG 9 8 true (.fa 1 (.t 1)),
 iG 10 8 true (.ld1 (.t 9)),
 ⟨(some 11),(some (8,true)),.q (.c (.fn (.func 101) [] [])) [(.t 10)]⟩,
 iG 12 8 true (.not (.t 11)),
 iP 13 (.pick (.t 8) (.t 12) (.c (bl false)))])
 (.cond (.t 13)
 (.seq
 (.reg [
 iP 2 (.mov (.c (bl false)))])
 .ret)
 .skip))
 (.seq
 (.reg [
 iE 3 (.alc 78 [i64 0,st ⟨#[]⟩,st ⟨#[]⟩,i64 0,i64 0,.val (.slice none 0 0),bl false,.val (.slice none 0 0),.val (.slice none 0 0),.val (.slice none 0 0),.val (.slice none 0 0),i64 0])])
 (.seq
 (.drw [0,1,2,3,4,5,6,7] [
 iF 14 0 1,
 iL 15 14,
 iF 16 1 1,
 iL 17 16,
 iF 18 0 3,
 ⟨none,none,.e (.st 1 (.t 18) (.t 15))⟩,
 iF 19 1 3,
 ⟨none,none,.e (.stw [15] 1 (.t 19) (.t 17))⟩])
 (.seq
 (.reg [
 iP 4 (.mov (.c (bl false)))])
 (.seq
 (.seq
 (.reg [
 iF 20 0 1,
 iL 21 20])
 (.blk 0
 (.seq
 (.reg [
 iP 23 (.bin .eql (.i .i64) (.t 21) (.c (i64 1))),
 iM 22 23])
 (.cond (.t 22)
 (.seq
 (.drw [0,1,2,3,4,5,6,7,8,9,10,11,12,13,14,15,16,17,18,19,20,21,22,23] [
 iF 24 2 1,
 iL 25 24,
 iF 26 3 1,
 iL 27 26,
 iF 28 4 1,
 iL 29 28,
 iF 30 5 1,
 iL 31 30,
 iF 32 6 1,
 iL 33 32,
 iF 34 7 1,
 iL 35 34,
 iF 36 2 3,
 ⟨none,none,.e (.st 1 (.t 36) (.t 25))⟩,
 iF 37 3 3,
 ⟨none,none,.e (.stw [25] 1 (.t 37) (.t 27))⟩,
 iF 38 4 3,
 ⟨none,none,.e (.stw [27,25] 1 (.t 38) (.t 29))⟩,
 iF 39 5 3,
 ⟨none,none,.e (.stw [29,27,25] 1 (.t 39) (.t 31))⟩,
 iF 40 6 3,
 ⟨none,none,.e (.stw [31,29,27,25] 1 (.t 40) (.t 33))⟩,
 iF 41 7 3,
 ⟨none,none,.e (.stw [33,31,29,27,25] 1 (.t 41) (.t 35))⟩])
 (.reg [
 iP 42 (.ldn 12 (.t 1)),
 iC 43 154 [.t 42],
 iM 4 43]))
 (.seq
 (.reg [
 iP 45 (.bin .eql (.i .i64) (.t 21) (.c (i64 2))),
 iM 44 45])
 (.cond (.t 44)
 (.seq
 (.drw [0,1,2,3,4,5,6,7] [
 iF 46 8 1,
 iL 47 46,
 iF 48 9 1,
 iL 49 48,
 iF 50 8 3,
 ⟨none,none,.e (.st 1 (.t 50) (.t 47))⟩,
 iF 51 9 3,
 ⟨none,none,.e (.stw [47] 1 (.t 51) (.t 49))⟩])
 (.reg [
 iF 52 8 1,
 iL 53 52,
 iP 54 (.len (.t 53)),
 iP 55 (.bin .eql (.i .i64) (.t 54) (.c (i64 1))),
 iM 56 55,
 iG 57 56 true (.fa 8 (.t 1)),
 iG 58 56 true (.ld1 (.t 57)),
 ⟨(some 59),(some (56,true)),.q (.c (.fn (.func 72) [] [])) [(.t 58)]⟩,
 iP 60 (.pick (.t 56) (.t 59) (.c (bl false))),
 iM 61 60,
 iG 62 61 true (.fa 9 (.t 1)),
 iG 63 61 true (.ld1 (.t 62)),
 iG 64 61 true (.len (.t 63)),
 iG 65 61 true (.bin .gtr (.i .i64) (.t 64) (.c (i64 0))),
 iP 66 (.pick (.t 61) (.t 65) (.c (bl false))),
 iM 67 66,
 iG 68 67 true (.fa 9 (.t 1)),
 iG 69 67 true (.ld1 (.t 68)),
 ⟨(some 70),(some (67,true)),.q (.c (.fn (.func 155) [] [])) [(.t 69),(.c (.fn (.func 156) [] []))]⟩,
 iP 71 (.pick (.t 67) (.t 70) (.c (bl false))),
 iM 4 71]))
 (.seq
 (.reg [
 iP 73 (.bin .eql (.i .i64) (.t 21) (.c (i64 3))),
 iM 72 73])
 (.cond (.t 72)
 (.seq
 (.reg [
 iF 74 10 1,
 iL 75 74,
 iF 76 10 3,
 ⟨none,none,.e (.st 1 (.t 76) (.t 75))⟩])
 (.reg [
 iF 77 10 1,
 iL 78 77,
 iP 79 (.len (.t 78)),
 iP 80 (.bin .gtr (.i .i64) (.t 79) (.c (i64 0))),
 iM 81 80,
 iG 82 81 true (.fa 10 (.t 1)),
 iG 83 81 true (.ld1 (.t 82)),
 ⟨(some 84),(some (81,true)),.q (.c (.fn (.func 72) [] [])) [(.t 83)]⟩,
 iP 85 (.pick (.t 81) (.t 84) (.c (bl false))),
 iM 4 85]))
 .skip))))))))
 (.seq
 (.reg [
 iM 86 4,
 iM 87 86,
 iG 88 87 true (.ldn 12 (.t 1)),
 iG 89 87 true (.ldn 12 (.t 3)),
 ⟨(some 90),(some (87,true)),.q (.c (.fn (.func 157) [] [])) [(.t 88),(.t 89)]⟩,
 iP 91 (.pick (.t 87) (.t 90) (.c (bl false))),
 iM 2 91])
 .ret)))))))
def r104:List RS:=[.t 2]
theorem c104:chkF Tryz.prog drawB Tryz.f104 i104 r104=true:=by kernel_rfl
def l105_0:IC:=.keep [0,6,7,8]
 (.seq
 (.reg [
 iP 9 (.bin .lss (.i .i64) (.t 8) (.t 7))])
 (.seq
 (.cond (.t 9)
 .skip
 (.exit 0))
 (.seq
 (.blk 1
 (.seq
 (.reg [
 iP 10 (.ia 1 (.t 6) (.t 8)),
 iL 11 10,
 iM 5 11])
 (.reg [
 iM 12 0,
 iM 13 0,
 iP 14 (.nck (.t 13)),
 iF 15 0 14,
 iL 16 15,
 iM 17 5,
 iE 18 (.aps 5 (.t 16) (.t 17)),
 iP 19 (.nck (.t 12)),
 iF 20 0 19,
 ⟨none,none,.e (.st 1 (.t 20) (.t 18))⟩])))
 (.reg [
 iP 21 (.bin .add (.i .i64) (.t 8) (.c (i64 1))),
 iM 8 21]))))
def i105:IC :=
 (.seq
 (.reg [
 iM 6 1,
 iP 7 (.len (.t 6)),
 iP 8 (.mov (.c (i64 0)))])
 (.blk 0
 (.loop l105_0)))
def r105:List RS:=[]
theorem c105:chkF Tryz.prog drawB Tryz.f105 i105 r105=true:=by kernel_rfl
def l107_0:IC:=.keep [0,3,20,21,22]
 (.seq
 (.reg [
 iP 23 (.bin .lss (.i .i64) (.t 22) (.t 21))])
 (.seq
 (.cond (.t 23)
 .skip
 (.exit 0))
 (.seq
 (.blk 1
 (.seq
 (.reg [
 iP 24 (.ia 5 (.t 20) (.t 22)),
 iP 25 (.ldn 5 (.t 24)),
 iE 5 (.alc 25 [i64 0,i64 0,st ⟨#[]⟩,.val (.slice none 0 0),i64 0]),
 ⟨none,none,.e (.st 5 (.t 5) (.t 25))⟩])
 (.seq
 (.reg [
 iM 26 0,
 iE 27 (.bsl 9 1 1 [st ⟨#[]⟩] [(0,(.c (st ⟨#[32,119,101,105,103,104,116,32]⟩)))]),
 iC 28 105 [.t 26,.t 27]])
 (.reg [
 iM 29 0,
 iP 30 (.ldn 5 (.t 5)),
 iC 31 73 [.t 29,.t 30]]))))
 (.reg [
 iP 32 (.bin .add (.i .i64) (.t 22) (.c (i64 1))),
 iM 22 32]))))
def l107_1:IC:=.keep [0,39,40,41]
 (.seq
 (.reg [
 iP 42 (.bin .lss (.i .i64) (.t 41) (.t 40))])
 (.seq
 (.cond (.t 42)
 .skip
 (.exit 2))
 (.seq
 (.blk 3
 (.seq
 (.reg [
 iM 43 41,
 iP 44 (.ia 1 (.t 39) (.t 41)),
 iL 45 44,
 iM 6 43,
 iM 7 45])
 (.seq
 (.seq
 (.reg [
 iM 46 6,
 iP 47 (.bin .eql (.i .i64) (.t 46) (.c (i64 0)))])
 (.cond (.t 47)
 (.reg [
 iM 48 0,
 iE 49 (.bsl 9 1 1 [st ⟨#[]⟩] [(0,(.c (st ⟨#[32,115,101,101,110,32,98,121,32]⟩)))]),
 iC 50 105 [.t 48,.t 49]])
 (.reg [
 iM 51 0,
 iE 52 (.bsl 9 1 1 [st ⟨#[]⟩] [(0,(.c (st ⟨#[44,32]⟩)))]),
 iC 53 105 [.t 51,.t 52]])))
 (.reg [
 iM 54 0,
 iM 55 7,
 iC 56 106 [.t 55],
 iE 57 (.bsl 9 1 1 [st ⟨#[]⟩] [(0,(.t 56))]),
 iC 58 105 [.t 54,.t 57]]))))
 (.reg [
 iP 59 (.bin .add (.i .i64) (.t 41) (.c (i64 1))),
 iM 41 59]))))
def i107:IC :=
 (.seq
 (.reg [
 iE 3 (.box 78 (.t 1))])
 (.seq
 (.drw [0,1,2,3,4,5,6,7,8,9,10] [
 iM 8 0,
 iF 9 2 3,
 iL 10 9,
 iF 11 3 3,
 iL 12 11,
 ⟨(some 13),none,.q (.c (.fn (.func 106) [] [])) [(.t 12)]⟩,
 iF 14 4 3,
 iL 15 14,
 ⟨(some 16),none,.q (.c (.fn (.func 106) [] [])) [(.t 15)]⟩,
 iE 17 (.bsl 9 1 6 [st ⟨#[]⟩] [(0,(.c (st ⟨#[100,101,97,108,32]⟩))),(1,(.t 10)),(2,(.c (st ⟨#[32,105,110,32]⟩))),(3,(.t 13)),(4,(.c (st ⟨#[32,46,46,32]⟩))),(5,(.t 16))]),
 iC 18 105 [.t 8,.t 17]])
 (.seq
 (.seq
 (.reg [
 iF 19 5 3,
 iL 20 19,
 iP 21 (.len (.t 20)),
 iP 22 (.mov (.c (i64 0)))])
 (.blk 0
 (.loop l107_0)))
 (.seq
 (.seq
 (.reg [
 iF 33 6 3,
 iL 34 33])
 (.cond (.t 34)
 (.reg [
 iM 35 0,
 iE 36 (.bsl 9 1 1 [st ⟨#[]⟩] [(0,(.c (st ⟨#[32,115,101,101,110,32,98,121,32,97,108,108]⟩)))]),
 iC 37 105 [.t 35,.t 36]])
 .skip))
 (.seq
 (.seq
 (.reg [
 iF 38 7 3,
 iL 39 38,
 iP 40 (.len (.t 39)),
 iP 41 (.mov (.c (i64 0)))])
 (.blk 2
 (.loop l107_1)))
 (.reg [
 iM 60 0,
 iE 61 (.bsl 9 1 1 [st ⟨#[]⟩] [(0,(.c (st ⟨#[59,10]⟩)))]),
 iC 62 105 [.t 60,.t 61]]))))))
def r107:List RS:=[]
theorem c107:chkF Tryz.prog drawB Tryz.f107 i107 r107=true:=by kernel_rfl
def l108_0:IC:=.keep [0,3,14,15,16]
 (.seq
 (.reg [
 iP 17 (.bin .lss (.i .i64) (.t 16) (.t 15))])
 (.seq
 (.cond (.t 17)
 .skip
 (.exit 0))
 (.seq
 (.blk 1
 (.seq
 (.reg [
 iP 18 (.ia 5 (.t 14) (.t 16)),
 iP 19 (.ldn 5 (.t 18)),
 iE 5 (.alc 25 [i64 0,i64 0,st ⟨#[]⟩,.val (.slice none 0 0),i64 0]),
 ⟨none,none,.e (.st 5 (.t 5) (.t 19))⟩])
 (.seq
 (.reg [
 iM 20 0,
 iE 21 (.bsl 9 1 1 [st ⟨#[]⟩] [(0,(.c (st ⟨#[32,119,104,101,110,32]⟩)))]),
 iC 22 105 [.t 20,.t 21]])
 (.reg [
 iM 23 0,
 iP 24 (.ldn 5 (.t 5)),
 iC 25 73 [.t 23,.t 24]]))))
 (.reg [
 iP 26 (.bin .add (.i .i64) (.t 16) (.c (i64 1))),
 iM 16 26]))))
def l108_1:IC:=.keep [0,3,36,37,38]
 (.seq
 (.reg [
 iP 39 (.bin .lss (.i .i64) (.t 38) (.t 37))])
 (.seq
 (.cond (.t 39)
 .skip
 (.exit 2))
 (.seq
 (.blk 3
 (.seq
 (.reg [
 iP 40 (.ia 7 (.t 36) (.t 38)),
 iP 41 (.ldn 7 (.t 40)),
 iE 7 (.alc 91 [st ⟨#[]⟩,i64 0,i64 0,st ⟨#[]⟩,.val (.slice none 0 0),i64 0,i64 0]),
 ⟨none,none,.e (.st 7 (.t 7) (.t 41))⟩])
 (.seq
 (.reg [
 iM 42 0,
 iF 43 0 7,
 iL 44 43,
 iE 45 (.bsl 9 1 3 [st ⟨#[]⟩] [(0,(.c (st ⟨#[32]⟩))),(1,(.t 44)),(2,(.c (st ⟨#[32,61,32]⟩)))]),
 iC 46 105 [.t 42,.t 45]])
 (.seq
 (.reg [
 iM 47 0,
 iF 48 1 7,
 iP 49 (.ldn 5 (.t 48)),
 iC 50 73 [.t 47,.t 49]])
 (.reg [
 iM 51 0,
 iE 52 (.bsl 9 1 1 [st ⟨#[]⟩] [(0,(.c (st ⟨#[59]⟩)))]),
 iC 53 105 [.t 51,.t 52]])))))
 (.reg [
 iP 54 (.bin .add (.i .i64) (.t 38) (.c (i64 1))),
 iM 38 54]))))
def i108:IC :=
 (.seq
 (.reg [
 iE 3 (.box 89 (.t 1))])
 (.seq
 (.reg [
 iM 8 0,
 iF 9 0 3,
 iL 10 9,
 iE 11 (.bsl 9 1 2 [st ⟨#[]⟩] [(0,(.c (st ⟨#[32,32,97,99,116,105,111,110,32]⟩))),(1,(.t 10))]),
 iC 12 105 [.t 8,.t 11]])
 (.seq
 (.seq
 (.reg [
 iF 13 1 3,
 iL 14 13,
 iP 15 (.len (.t 14)),
 iP 16 (.mov (.c (i64 0)))])
 (.blk 0
 (.loop l108_0)))
 (.seq
 (.seq
 (.reg [
 iF 27 2 3,
 iL 28 27])
 (.cond (.t 28)
 (.reg [
 iM 29 0,
 iE 30 (.bsl 9 1 1 [st ⟨#[]⟩] [(0,(.c (st ⟨#[32,104,105,100,100,101,110]⟩)))]),
 iC 31 105 [.t 29,.t 30]])
 .skip))
 (.seq
 (.reg [
 iM 32 0,
 iE 33 (.bsl 9 1 1 [st ⟨#[]⟩] [(0,(.c (st ⟨#[32,123]⟩)))]),
 iC 34 105 [.t 32,.t 33]])
 (.seq
 (.seq
 (.reg [
 iF 35 3 3,
 iL 36 35,
 iP 37 (.len (.t 36)),
 iP 38 (.mov (.c (i64 0)))])
 (.blk 2
 (.loop l108_1)))
 (.seq
 (.reg [
 iM 55 0,
 iE 56 (.bsl 9 1 1 [st ⟨#[]⟩] [(0,(.c (st ⟨#[32,125]⟩)))]),
 iC 57 105 [.t 55,.t 56]])
 (.seq
 (.seq
 (.reg [
 iF 58 4 3,
 iL 59 58,
 iP 60 (.bin .neq .s (.t 59) (.c (st ⟨#[]⟩)))])
 (.cond (.t 60)
 (.reg [
 iM 61 0,
 iF 62 4 3,
 iL 63 62,
 iE 64 (.bsl 9 1 3 [st ⟨#[]⟩] [(0,(.c (st ⟨#[32,103,111,116,111,32]⟩))),(1,(.t 63)),(2,(.c (st ⟨#[59]⟩)))]),
 iC 65 105 [.t 61,.t 64]])
 .skip))
 (.reg [
 iM 66 0,
 iE 67 (.bsl 9 1 1 [st ⟨#[]⟩] [(0,(.c (st ⟨#[10]⟩)))]),
 iC 68 105 [.t 66,.t 67]])))))))))
def r108:List RS:=[]
theorem c108:chkF Tryz.prog drawB Tryz.f108 i108 r108=true:=by kernel_rfl
def l109_0:IC:=.keep [0,6,7,8]
 (.seq
 (.reg [
 iP 9 (.bin .lss (.i .i64) (.t 8) (.t 7))])
 (.seq
 (.cond (.t 9)
 .skip
 (.exit 0))
 (.seq
 (.blk 1
 (.seq
 (.reg [
 iM 10 8,
 iP 11 (.ia 5 (.t 6) (.t 8)),
 iP 12 (.ldn 5 (.t 11)),
 iE 5 (.alc 25 [i64 0,i64 0,st ⟨#[]⟩,.val (.slice none 0 0),i64 0]),
 iM 4 10,
 ⟨none,none,.e (.st 5 (.t 5) (.t 12))⟩])
 (.seq
 (.seq
 (.reg [
 iM 13 4,
 iP 14 (.bin .gtr (.i .i64) (.t 13) (.c (i64 0)))])
 (.cond (.t 14)
 (.reg [
 iM 15 0,
 iE 16 (.bsl 9 1 1 [st ⟨#[]⟩] [(0,(.c (st ⟨#[44,32]⟩)))]),
 iC 17 105 [.t 15,.t 16]])
 .skip))
 (.reg [
 iM 18 0,
 iP 19 (.ldn 5 (.t 5)),
 iC 20 73 [.t 18,.t 19]]))))
 (.reg [
 iP 21 (.bin .add (.i .i64) (.t 8) (.c (i64 1))),
 iM 8 21]))))
def i109:IC :=
 (.seq
 (.reg [
 iM 6 1,
 iP 7 (.len (.t 6)),
 iP 8 (.mov (.c (i64 0)))])
 (.blk 0
 (.loop l109_0)))
def r109:List RS:=[]
theorem c109:chkF Tryz.prog drawB Tryz.f109 i109 r109=true:=by kernel_rfl
def l123_0:IC:=.keep [0,1,3]
 (.seq
 (.seq
 (.reg [
 iM 7 3,
 iL 8 1,
 iP 9 (.lens (.t 8)),
 iP 10 (.bin .lss (.i .i64) (.t 7) (.t 9))])
 (.cond (.t 10)
 .skip
 (.exit 0)))
 (.blk 1
 (.seq
 (.reg [
 iM 11 3,
 iP 12 (.bld [i64 0,st ⟨#[]⟩,i64 0,i64 0] [(3,1,(.t 11))]),
 iE 4 (.alc 52 [i64 0,st ⟨#[]⟩,i64 0,i64 0]),
 ⟨none,none,.e (.st 4 (.t 4) (.t 12))⟩])
 (.seq
 (.reg [
 iM 13 3,
 iM 5 13])
 (.seq
 (.seq
 (.reg [
 iL 14 1,
 iM 15 3,
 iP 16 (.ixs (.t 14) (.t 15)),
 iC 17 124 [.t 16]])
 (.blk 2
 (.seq
 (.reg [
 iP 26 (.bin .eql (.i .i64) (.t 17) (.c (i64 1))),
 iM 25 26])
 (.cond (.t 25)
 (.seq
 (.reg [
 iM 27 3,
 iP 28 (.bin .add (.i .i64) (.t 27) (.c (i64 1))),
 iM 3 28])
 (.exit 1))
 (.seq
 (.reg [
 iP 30 (.bin .eql (.i .i64) (.t 17) (.c (i64 2))),
 iM 29 30])
 (.cond (.t 29)
 (.reg [
 iL 31 1,
 iM 32 3,
 iE 33 (.bsl 154 1 2 [i64 0] [(0,(.c (i64 2))),(1,(.c (i64 3)))]),
 iC 34 125 [.t 31,.t 32,.t 33],
 iF 35 0 4,
 ⟨none,none,.e (.st 1 (.t 35) (.c (i64 1)))⟩,
 iM 5 34])
 (.seq
 (.reg [
 iP 37 (.bin .eql (.i .i64) (.t 17) (.c (i64 3))),
 iM 36 37])
 (.cond (.t 36)
 (.reg [
 iL 38 1,
 iM 39 3,
 iE 40 (.bsl 154 1 1 [i64 0] [(0,(.c (i64 3)))]),
 iC 41 125 [.t 38,.t 39,.t 40],
 iF 42 0 4,
 ⟨none,none,.e (.st 1 (.t 42) (.c (i64 2)))⟩,
 iM 5 41])
 (.seq
 (.reg [
 iP 44 (.bin .eql (.i .i64) (.t 17) (.c (i64 4))),
 iM 43 44])
 (.cond (.t 43)
 (.reg [
 iL 45 1,
 iM 46 3,
 iC 47 126 [.t 45,.t 46],
 iF 48 0 4,
 ⟨none,none,.e (.st 1 (.t 48) (.c (i64 3)))⟩,
 iM 5 47])
 (.seq
 (.reg [
 iL 18 1,
 iM 19 3,
 iP 20 (.ixs (.t 18) (.t 19)),
 iP 21 (.bin .eql (.i .u8) (.t 20) (.c (.val (.int .u8 35))))])
 (.cond (.t 21)
 (.seq
 (.reg [
 iL 22 1,
 iM 23 3,
 iC 24 127 [.t 22,.t 23],
 iM 3 24])
 (.exit 1))
 .skip))))))))))))
 (.seq
 (.reg [
 iL 49 1,
 iM 50 3,
 iM 51 5,
 iP 52 (.sls (.t 49) (some (.t 50)) (some (.t 51))),
 iF 53 1 4,
 ⟨none,none,.e (.st 1 (.t 53) (.t 52))⟩])
 (.seq
 (.seq
 (.reg [
 iL 54 1,
 iC 55 128 [.t 54,.t 4],
 iM 6 55])
 (.seq
 (.reg [
 iM 56 6,
 iP 57 (.bin .neq (.i .i64) (.t 56) (.c (i64 0)))])
 (.cond (.t 57)
 (.seq
 (.reg [
 iM 58 0,
 iP 59 (.bld [i64 0,st ⟨#[]⟩,i64 0,i64 0] []),
 iM 60 6,
 iM 61 3,
 iP 62 (.bld [i64 0,i64 0] [(0,1,(.t 60)),(1,1,(.t 61))]),
 iP 63 (.bld [i64 0,i64 0] [(0,2,(.t 62))]),
 iP 64 (.mki 115 (.t 63)),
 iE 65 (.call (.t 58) [(.t 59),(.t 64)])])
 (.exit 0))
 .skip)))
 (.seq
 (.seq
 (.reg [
 iM 66 0,
 iP 67 (.ldn 4 (.t 4)),
 iE 68 (.call (.t 66) [(.t 67),(.c (.val .nilIface))]),
 iP 69 (.not (.t 68))])
 (.cond (.t 69)
 (.exit 0)
 .skip))
 (.reg [
 iM 70 5,
 iM 3 70])))))))))
def i123:IC :=
 (.scp
 (.seq
 (.reg [
 iP 3 (.mov (.c (i64 0)))])
 (.seq
 .lab
 (.blk 0
 (.loop l123_0)))))
def r123:List RS:=[]
theorem c123:chkF Tryz.prog drawB Tryz.f123 i123 r123=true:=by kernel_rfl
def i124:IC :=
 (.seq
 (.reg [
 iP 2 (.mov (.c (i64 0)))])
 (.seq
 (.blk 0
 (.seq
 (.reg [
 iM 4 0,
 iP 5 (.cvi .i64 (.t 4)),
 iP 6 (.bin .lss (.i .i64) (.t 5) (.c (i64 33))),
 iM 7 6,
 iG 8 7 true (.mov (.t 0)),
 iG 9 7 true (.gix 0 33 1 gv0 (.t 8)),
 iG 10 7 true (.ld1 (.t 9)),
 iP 11 (.pick (.t 7) (.t 10) (.c (bl false))),
 iM 3 11])
 (.cond (.t 3)
 (.seq
 (.reg [
 iP 2 (.mov (.c (i64 1)))])
 .ret)
 (.seq
 (.reg [
 iM 13 0,
 iP 14 (.bin .leq (.i .u8) (.c (.val (.int .u8 97))) (.t 13)),
 iM 15 14,
 iG 16 15 true (.mov (.t 0)),
 iG 17 15 true (.bin .leq (.i .u8) (.t 16) (.c (.val (.int .u8 122)))),
 iP 18 (.pick (.t 15) (.t 17) (.c (bl false))),
 iM 19 18,
 iG 20 19 false (.mov (.t 0)),
 iG 21 19 false (.bin .leq (.i .u8) (.c (.val (.int .u8 65))) (.t 20)),
 iG 22 19 false (.mov (.t 21)),
 iG 23 22 true (.mov (.t 0)),
 iG 24 22 true (.bin .leq (.i .u8) (.t 23) (.c (.val (.int .u8 90)))),
 iG 25 19 false (.pick (.t 22) (.t 24) (.c (bl false))),
 iP 26 (.pick (.t 19) (.c (bl true)) (.t 25)),
 iM 27 26,
 iG 28 27 false (.mov (.t 0)),
 iG 29 27 false (.bin .eql (.i .u8) (.t 28) (.c (.val (.int .u8 95)))),
 iP 30 (.pick (.t 27) (.c (bl true)) (.t 29)),
 iM 12 30])
 (.cond (.t 12)
 (.seq
 (.reg [
 iP 2 (.mov (.c (i64 2)))])
 .ret)
 (.seq
 (.reg [
 iM 32 0,
 iP 33 (.bin .leq (.i .u8) (.c (.val (.int .u8 48))) (.t 32)),
 iM 34 33,
 iG 35 34 true (.mov (.t 0)),
 iG 36 34 true (.bin .leq (.i .u8) (.t 35) (.c (.val (.int .u8 57)))),
 iP 37 (.pick (.t 34) (.t 36) (.c (bl false))),
 iM 31 37])
 (.cond (.t 31)
 (.seq
 (.reg [
 iP 2 (.mov (.c (i64 3)))])
 .ret)
 (.seq
 (.reg [
 iM 39 0,
 iP 40 (.cvi .i64 (.t 39)),
 iP 41 (.bin .lss (.i .i64) (.t 40) (.c (i64 126))),
 iM 42 41,
 iG 43 42 true (.mov (.t 0)),
 iG 44 42 true (.gix 1 126 1 gv1 (.t 43)),
 iG 45 42 true (.ld1 (.t 44)),
 iP 46 (.pick (.t 42) (.t 45) (.c (bl false))),
 iM 38 46])
 (.cond (.t 38)
 (.seq
 (.reg [
 iP 2 (.mov (.c (i64 4)))])
 .ret)
 .skip)))))))))
 (.seq
 (.reg [
 iP 2 (.mov (.c (i64 0)))])
 .ret)))
def r124:List RS:=[.t 2]
theorem c124:chkF Tryz.prog drawB Tryz.f124 i124 r124=true:=by kernel_rfl
def l125_1:IC:=.keep [0,2,7,15,16,17]
 (.seq
 (.reg [
 iP 18 (.bin .lss (.i .i64) (.t 17) (.t 16))])
 (.seq
 (.cond (.t 18)
 .skip
 (.exit 2))
 (.seq
 (.blk 3
 (.seq
 (.reg [
 iP 19 (.ia 1 (.t 15) (.t 17)),
 iL 20 19,
 iM 9 20])
 (.seq
 (.reg [
 iM 21 0,
 iM 22 7,
 iP 23 (.ixs (.t 21) (.t 22)),
 iC 24 124 [.t 23],
 iM 25 9,
 iP 26 (.bin .eql (.i .i64) (.t 24) (.t 25))])
 (.cond (.t 26)
 (.seq
 (.reg [
 iM 27 7,
 iP 28 (.bin .add (.i .i64) (.t 27) (.c (i64 1))),
 iM 7 28])
 (.exit 1))
 .skip))))
 (.reg [
 iP 29 (.bin .add (.i .i64) (.t 17) (.c (i64 1))),
 iM 17 29]))))
def l125_0:IC:=.keep [0,2,7]
 (.seq
 (.seq
 (.reg [
 iM 11 7,
 iM 12 0,
 iP 13 (.lens (.t 12)),
 iP 14 (.bin .lss (.i .i64) (.t 11) (.t 13))])
 (.cond (.t 14)
 .skip
 (.exit 0)))
 (.blk 1
 (.seq
 (.seq
 (.reg [
 iM 15 2,
 iP 16 (.len (.t 15)),
 iP 17 (.mov (.c (i64 0)))])
 (.blk 2
 (.loop l125_1)))
 (.exit 0))))
def i125:IC :=
 (.seq
 (.reg [
 iP 6 (.mov (.c (i64 0)))])
 (.scp
 (.seq
 (.reg [
 iM 10 1,
 iM 7 10])
 (.seq
 .lab
 (.seq
 (.blk 0
 (.loop l125_0))
 (.seq
 (.reg [
 iM 30 7,
 iM 6 30])
 .ret))))))
def r125:List RS:=[.t 6]
theorem c125:chkF Tryz.prog drawB Tryz.f125 i125 r125=true:=by kernel_rfl
def l126_0:IC:=.keep [1,5,11,12]
 (.seq
 (.reg [
 iP 13 (.bin .lss (.i .i64) (.t 12) (.c (i64 5)))])
 (.seq
 (.cond (.t 13)
 .skip
 (.exit 0))
 (.seq
 (.blk 1
 (.seq
 (.reg [
 iP 14 (.ixa 5 1 true (.t 11) (.t 12)),
 iM 7 14])
 (.seq
 (.reg [
 iM 15 5,
 iM 16 7,
 iC 17 164 [.t 15,.t 16]])
 (.cond (.t 17)
 (.seq
 (.reg [
 iM 18 1,
 iM 19 7,
 iP 20 (.lens (.t 19)),
 iP 21 (.bin .add (.i .i64) (.t 18) (.t 20)),
 iM 4 21])
 .ret)
 .skip))))
 (.reg [
 iP 22 (.bin .add (.i .i64) (.t 12) (.c (i64 1))),
 iM 12 22]))))
def i126:IC :=
 (.seq
 (.reg [
 iP 4 (.mov (.c (i64 0)))])
 (.seq
 (.reg [
 iM 8 0,
 iM 9 1,
 iP 10 (.sls (.t 8) (some (.t 9)) none),
 iM 5 10])
 (.seq
 (.seq
 (.reg [
 iP 11 (.bld [st ⟨#[]⟩,st ⟨#[]⟩,st ⟨#[]⟩,st ⟨#[]⟩,st ⟨#[]⟩] [(0,1,(.c (st ⟨#[61,61]⟩))),(1,1,(.c (st ⟨#[33,61]⟩))),(2,1,(.c (st ⟨#[60,61]⟩))),(3,1,(.c (st ⟨#[62,61]⟩))),(4,1,(.c (st ⟨#[46,46]⟩)))]),
 iP 12 (.mov (.c (i64 0)))])
 (.blk 0
 (.loop l126_0)))
 (.seq
 (.seq
 (.reg [
 iM 23 5,
 iP 24 (.ixs (.t 23) (.c (i64 0))),
 iP 25 (.bin .eql (.i .u8) (.t 24) (.c (.val (.int .u8 33)))),
 iM 26 25,
 iG 27 26 false (.mov (.t 5)),
 iG 28 26 false (.ixs (.t 27) (.c (i64 0))),
 iG 29 26 false (.bin .eql (.i .u8) (.t 28) (.c (.val (.int .u8 46)))),
 iP 30 (.pick (.t 26) (.c (bl true)) (.t 29))])
 (.cond (.t 30)
 (.seq
 (.reg [
 iM 31 1,
 iM 4 31])
 .ret)
 .skip))
 (.seq
 (.reg [
 iM 32 1,
 iP 33 (.bin .add (.i .i64) (.t 32) (.c (i64 1))),
 iM 4 33])
 .ret)))))
def r126:List RS:=[.t 4]
theorem c126:chkF Tryz.prog drawB Tryz.f126 i126 r126=true:=by kernel_rfl
def i127:IC :=
 (.seq
 (.reg [
 iP 4 (.mov (.c (i64 0)))])
 (.seq
 (.seq
 (.reg [
 iM 6 0,
 iM 7 1,
 iP 8 (.sls (.t 6) (some (.t 7)) none),
 iC 9 165 [.t 8,(.c (.val (.int .u8 10)))],
 iM 5 9])
 (.seq
 (.reg [
 iM 10 5,
 iP 11 (.bin .geq (.i .i64) (.t 10) (.c (i64 0)))])
 (.cond (.t 11)
 (.seq
 (.reg [
 iM 12 1,
 iM 13 5,
 iP 14 (.bin .add (.i .i64) (.t 12) (.t 13)),
 iM 4 14])
 .ret)
 .skip)))
 (.seq
 (.reg [
 iM 15 0,
 iP 16 (.lens (.t 15)),
 iM 4 16])
 .ret)))
def r127:List RS:=[.t 4]
theorem c127:chkF Tryz.prog drawB Tryz.f127 i127 r127=true:=by kernel_rfl
def l128_0:IC:=.keep [1,73,74,75]
 (.seq
 (.reg [
 iP 76 (.bin .lss (.i .i64) (.t 75) (.t 74))])
 (.seq
 (.cond (.t 76)
 .skip
 (.exit 0))
 (.seq
 (.blk 1
 (.seq
 (.reg [
 iP 77 (.ia 1 (.t 73) (.t 75)),
 iL 78 77,
 iM 6 78])
 (.seq
 (.reg [
 iM 79 1,
 iM 80 1,
 iP 81 (.nck (.t 80)),
 iF 82 2 81,
 iL 83 82,
 iP 84 (.bin .mul (.i .i64) (.c (i64 10)) (.t 83)),
 iM 85 6,
 iP 86 (.bin .sub (.i .u8) (.t 85) (.c (.val (.int .u8 48)))),
 iP 87 (.cvi .i64 (.t 86)),
 iP 88 (.bin .add (.i .i64) (.t 84) (.t 87)),
 iP 89 (.nck (.t 79)),
 iF 90 2 89,
 ⟨none,none,.e (.st 1 (.t 90) (.t 88))⟩])
 (.seq
 (.reg [
 iM 91 1,
 iP 92 (.nck (.t 91)),
 iF 93 2 92,
 iL 94 93,
 iP 95 (.bin .gtr (.i .i64) (.t 94) (.c (i64 1000000000)))])
 (.cond (.t 95)
 (.seq
 (.reg [
 iP 4 (.mov (.c (i64 2)))])
 .ret)
 .skip)))))
 (.reg [
 iP 96 (.bin .add (.i .i64) (.t 75) (.c (i64 1))),
 iM 75 96]))))
def i128:IC :=
 (.seq
 (.reg [
 iP 4 (.mov (.c (i64 0)))])
 (.seq
 (.seq
 (.reg [
 iM 7 1,
 iP 8 (.nck (.t 7)),
 iF 9 1 8,
 iL 10 9,
 iP 11 (.bin .eql .s (.t 10) (.c (st ⟨#[]⟩))),
 iM 12 11,
 iG 13 12 false (.mov (.t 1)),
 iG 14 12 false (.nck (.t 13)),
 iG 15 12 false (.fa 0 (.t 14)),
 iG 16 12 false (.ld1 (.t 15)),
 iG 17 12 false (.bin .eql (.i .i64) (.t 16) (.c (i64 1))),
 iG 18 12 false (.mov (.t 17)),
 iG 19 18 true (.mov (.t 1)),
 iG 20 18 true (.nck (.t 19)),
 iG 21 18 true (.fa 3 (.t 20)),
 iG 22 18 true (.ld1 (.t 21)),
 iG 23 18 true (.bin .gtr (.i .i64) (.t 22) (.c (i64 0))),
 iG 24 12 false (.pick (.t 18) (.t 23) (.c (bl false))),
 iG 25 12 false (.mov (.t 24)),
 iG 26 25 true (.mov (.t 0)),
 iG 27 25 true (.mov (.t 1)),
 iG 28 25 true (.nck (.t 27)),
 iG 29 25 true (.fa 3 (.t 28)),
 iG 30 25 true (.ld1 (.t 29)),
 iG 31 25 true (.bin .sub (.i .i64) (.t 30) (.c (i64 1))),
 iG 32 25 true (.ixs (.t 26) (.t 31)),
 ⟨(some 33),(some (25,true)),.q (.c (.fn (.func 124) [] [])) [(.t 32)]⟩,
 iG 34 25 true (.bin .eql (.i .i64) (.t 33) (.c (i64 3))),
 iG 35 12 false (.pick (.t 25) (.t 34) (.c (bl false))),
 iP 36 (.pick (.t 12) (.c (bl true)) (.t 35))])
 (.cond (.t 36)
 (.seq
 (.reg [
 iP 4 (.mov (.c (i64 11)))])
 .ret)
 .skip))
 (.seq
 (.seq
 (.reg [
 iM 37 1,
 iP 38 (.nck (.t 37)),
 iF 39 0 38,
 iL 40 39,
 iP 41 (.bin .eql (.i .i64) (.t 40) (.c (i64 1))),
 iM 42 41,
 iG 43 42 true (.mov (.t 1)),
 iG 44 42 true (.nck (.t 43)),
 iG 45 42 true (.fa 1 (.t 44)),
 iG 46 42 true (.ld1 (.t 45)),
 iG 47 42 true (.lens (.t 46)),
 iG 48 42 true (.bin .gtr (.i .i64) (.t 47) (.c (i64 40))),
 iP 49 (.pick (.t 42) (.t 48) (.c (bl false)))])
 (.cond (.t 49)
 (.seq
 (.reg [
 iP 4 (.mov (.c (i64 4)))])
 .ret)
 .skip))
 (.seq
 (.seq
 (.reg [
 iM 50 1,
 iP 51 (.nck (.t 50)),
 iF 52 0 51,
 iL 53 52,
 iP 54 (.bin .neq (.i .i64) (.t 53) (.c (i64 2)))])
 (.cond (.t 54)
 (.seq
 (.reg [
 iP 4 (.mov (.c (i64 0)))])
 .ret)
 .skip))
 (.seq
 (.seq
 (.reg [
 iM 55 1,
 iP 56 (.nck (.t 55)),
 iF 57 1 56,
 iL 58 57,
 iP 59 (.lens (.t 58)),
 iP 60 (.bin .gtr (.i .i64) (.t 59) (.c (i64 1))),
 iM 61 60,
 iG 62 61 true (.mov (.t 1)),
 iG 63 61 true (.nck (.t 62)),
 iG 64 61 true (.fa 1 (.t 63)),
 iG 65 61 true (.ld1 (.t 64)),
 iG 66 61 true (.ixs (.t 65) (.c (i64 0))),
 iG 67 61 true (.bin .eql (.i .u8) (.t 66) (.c (.val (.int .u8 48)))),
 iP 68 (.pick (.t 61) (.t 67) (.c (bl false)))])
 (.cond (.t 68)
 (.seq
 (.reg [
 iP 4 (.mov (.c (i64 3)))])
 .ret)
 .skip))
 (.seq
 (.seq
 (.reg [
 iM 69 1,
 iP 70 (.nck (.t 69)),
 iF 71 1 70,
 iL 72 71,
 iE 73 (.sby (.t 72)),
 iP 74 (.len (.t 73)),
 iP 75 (.mov (.c (i64 0)))])
 (.blk 0
 (.loop l128_0)))
 (.seq
 (.reg [
 iP 4 (.mov (.c (i64 0)))])
 .ret)))))))
def r128:List RS:=[.t 4]
theorem c128:chkF Tryz.prog drawB Tryz.f128 i128 r128=true:=by kernel_rfl
def i130:IC :=
 (.seq
 (.reg [
 iE 1 (.box 25 (.t 0)),
 iP 2 (.mov (.c (bl false)))])
 (.seq
 (.seq
 (.reg [
 iF 5 0 1,
 iL 6 5])
 (.blk 0
 (.seq
 (.reg [
 iP 8 (.bin .eql (.i .i64) (.t 6) (.c (i64 1))),
 iM 7 8])
 (.cond (.t 7)
 (.seq
 (.reg [
 iF 9 2 1,
 iL 10 9,
 iP 11 (.bin .eql .s (.t 10) (.c (st ⟨#[]⟩))),
 iM 12 11,
 iG 13 12 true (.fa 3 (.t 1)),
 iG 14 12 true (.ld1 (.t 13)),
 iG 15 12 true (.len (.t 14)),
 iG 16 12 true (.bin .eql (.i .i64) (.t 15) (.c (i64 0))),
 iP 17 (.pick (.t 12) (.t 16) (.c (bl false))),
 iM 18 17,
 iG 19 18 true (.fa 1 (.t 1)),
 iG 20 18 true (.ld1 (.t 19)),
 ⟨(some 21),(some (18,true)),.q (.c (.fn (.func 102) [] [])) [(.c (i64 0)),(.t 20),(.c (i64 1000000000))]⟩,
 iP 22 (.pick (.t 18) (.t 21) (.c (bl false))),
 iM 2 22])
 .ret)
 (.seq
 (.reg [
 iP 24 (.bin .eql (.i .i64) (.t 6) (.c (i64 2))),
 iM 23 24])
 (.cond (.t 23)
 (.seq
 (.reg [
 iF 25 1 1,
 iL 26 25,
 iP 27 (.bin .eql (.i .i64) (.t 26) (.c (i64 0))),
 iM 28 27,
 iG 29 28 true (.fa 3 (.t 1)),
 iG 30 28 true (.ld1 (.t 29)),
 iG 31 28 true (.len (.t 30)),
 iG 32 28 true (.bin .eql (.i .i64) (.t 31) (.c (i64 0))),
 iP 33 (.pick (.t 28) (.t 32) (.c (bl false))),
 iM 34 33,
 iG 35 34 true (.fa 2 (.t 1)),
 iG 36 34 true (.ld1 (.t 35)),
 ⟨(some 37),(some (34,true)),.q (.c (.fn (.func 101) [] [])) [(.t 36)]⟩,
 iP 38 (.pick (.t 34) (.t 37) (.c (bl false))),
 iM 2 38])
 .ret)
 .skip))))))
 (.seq
 (.reg [
 iF 40 0 1,
 iL 41 40,
 iC 42 131 [.t 41],
 iM 39 42,
 iP 43 (.ext (.t 39) 0),
 iP 44 (.ext (.t 39) 1),
 iM 3 43,
 iM 4 44])
 (.seq
 (.reg [
 iM 45 4,
 iP 46 (.bin .gtr (.i .i64) (.t 45) (.c (i64 0))),
 iM 47 46,
 iG 48 47 true (.fa 3 (.t 1)),
 iG 49 47 true (.ld1 (.t 48)),
 iG 50 47 true (.len (.t 49)),
 iG 51 47 true (.mov (.t 4)),
 iG 52 47 true (.bin .eql (.i .i64) (.t 50) (.t 51)),
 iP 53 (.pick (.t 47) (.t 52) (.c (bl false))),
 iM 54 53,
 iG 55 54 true (.fa 1 (.t 1)),
 iG 56 54 true (.ld1 (.t 55)),
 iG 57 54 true (.bin .eql (.i .i64) (.t 56) (.c (i64 0))),
 iP 58 (.pick (.t 54) (.t 57) (.c (bl false))),
 iM 59 58,
 iG 60 59 true (.fa 2 (.t 1)),
 iG 61 59 true (.ld1 (.t 60)),
 iG 62 59 true (.bin .eql .s (.t 61) (.c (st ⟨#[]⟩))),
 iP 63 (.pick (.t 59) (.t 62) (.c (bl false))),
 iM 2 63])
 .ret))))
def r130:List RS:=[.t 2]
theorem c130:chkF Tryz.prog drawB Tryz.f130 i130 r130=true:=by kernel_rfl
def i131:IC :=
 (.seq
 (.reg [
 iP 2 (.mov (.c (st ⟨#[]⟩))),
 iP 3 (.mov (.c (i64 0)))])
 (.seq
 (.seq
 (.reg [
 iM 5 0])
 (.blk 0
 (.seq
 (.reg [
 iP 7 (.bin .eql (.i .i64) (.t 5) (.c (i64 3))),
 iM 6 7])
 (.cond (.t 6)
 (.seq
 (.reg [
 iP 2 (.mov (.c (st ⟨#[45]⟩))),
 iP 3 (.mov (.c (i64 1)))])
 .ret)
 (.seq
 (.reg [
 iP 9 (.bin .eql (.i .i64) (.t 5) (.c (i64 4))),
 iM 8 9])
 (.cond (.t 8)
 (.seq
 (.reg [
 iP 2 (.mov (.c (st ⟨#[110,111,116]⟩))),
 iP 3 (.mov (.c (i64 1)))])
 .ret)
 (.seq
 (.reg [
 iP 11 (.bin .eql (.i .i64) (.t 5) (.c (i64 18))),
 iM 10 11])
 (.cond (.t 10)
 (.seq
 (.reg [
 iP 2 (.mov (.c (st ⟨#[109,105,110]⟩))),
 iP 3 (.mov (.c (i64 2)))])
 .ret)
 (.seq
 (.reg [
 iP 13 (.bin .eql (.i .i64) (.t 5) (.c (i64 19))),
 iM 12 13])
 (.cond (.t 12)
 (.seq
 (.reg [
 iP 2 (.mov (.c (st ⟨#[109,97,120]⟩))),
 iP 3 (.mov (.c (i64 2)))])
 .ret)
 (.seq
 (.reg [
 iP 15 (.bin .eql (.i .i64) (.t 5) (.c (i64 20))),
 iM 14 15])
 (.cond (.t 14)
 (.seq
 (.reg [
 iP 2 (.mov (.c (st ⟨#[105,102]⟩))),
 iP 3 (.mov (.c (i64 3)))])
 .ret)
 .skip))))))))))))
 (.seq
 (.seq
 (.reg [
 iM 16 0,
 iP 17 (.bin .lss (.i .i64) (.t 16) (.c (i64 5))),
 iM 18 17,
 iG 19 18 false (.mov (.t 0)),
 iG 20 18 false (.bin .gtr (.i .i64) (.t 19) (.c (i64 17))),
 iP 21 (.pick (.t 18) (.c (bl true)) (.t 20))])
 (.cond (.t 21)
 (.seq
 (.reg [
 iP 2 (.mov (.c (st ⟨#[]⟩))),
 iP 3 (.mov (.c (i64 0)))])
 .ret)
 .skip))
 (.seq
 (.reg [
 iP 22 (.bld [st ⟨#[]⟩,st ⟨#[]⟩,st ⟨#[]⟩,st ⟨#[]⟩,st ⟨#[]⟩,st ⟨#[]⟩,st ⟨#[]⟩,st ⟨#[]⟩,st ⟨#[]⟩,st ⟨#[]⟩,st ⟨#[]⟩,st ⟨#[]⟩,st ⟨#[]⟩] [(0,1,(.c (st ⟨#[42]⟩))),(1,1,(.c (st ⟨#[47]⟩))),(2,1,(.c (st ⟨#[37]⟩))),(3,1,(.c (st ⟨#[43]⟩))),(4,1,(.c (st ⟨#[45]⟩))),(5,1,(.c (st ⟨#[61,61]⟩))),(6,1,(.c (st ⟨#[33,61]⟩))),(7,1,(.c (st ⟨#[60]⟩))),(8,1,(.c (st ⟨#[60,61]⟩))),(9,1,(.c (st ⟨#[62]⟩))),(10,1,(.c (st ⟨#[62,61]⟩))),(11,1,(.c (st ⟨#[97,110,100]⟩))),(12,1,(.c (st ⟨#[111,114]⟩)))]),
 iE 4 (.alc 208 [st ⟨#[]⟩,st ⟨#[]⟩,st ⟨#[]⟩,st ⟨#[]⟩,st ⟨#[]⟩,st ⟨#[]⟩,st ⟨#[]⟩,st ⟨#[]⟩,st ⟨#[]⟩,st ⟨#[]⟩,st ⟨#[]⟩,st ⟨#[]⟩,st ⟨#[]⟩]),
 ⟨none,none,.e (.st 13 (.t 4) (.t 22))⟩])
 (.seq
 (.reg [
 iM 23 0,
 iP 24 (.bin .sub (.i .i64) (.t 23) (.c (i64 5))),
 iP 25 (.iap 13 1 (.t 4) (.t 24)),
 iL 26 25,
 iM 2 26,
 iP 3 (.mov (.c (i64 2)))])
 .ret)))))
def r131:List RS:=[.t 2,.t 3]
theorem c131:chkF Tryz.prog drawB Tryz.f131 i131 r131=true:=by kernel_rfl
def i132:IC :=
 (.seq
 (.reg [
 iP 2 (.mov (.c (bl false)))])
 (.seq
 (.reg [
 iM 3 0,
 iP 4 (.bin .eql (.i .i64) (.t 3) (.c (i64 18))),
 iM 5 4,
 iG 6 5 false (.mov (.t 0)),
 iG 7 5 false (.bin .eql (.i .i64) (.t 6) (.c (i64 19))),
 iP 8 (.pick (.t 5) (.c (bl true)) (.t 7)),
 iM 9 8,
 iG 10 9 false (.mov (.t 0)),
 iG 11 9 false (.bin .eql (.i .i64) (.t 10) (.c (i64 20))),
 iP 12 (.pick (.t 9) (.c (bl true)) (.t 11)),
 iM 2 12])
 .ret))
def r132:List RS:=[.t 2]
theorem c132:chkF Tryz.prog drawB Tryz.f132 i132 r132=true:=by kernel_rfl
def i133:IC :=
 (.seq
 (.reg [
 iE 3 (.box 25 (.t 1))])
 (.seq
 (.seq
 (.reg [
 iF 4 0 3,
 iL 5 4,
 iP 6 (.bin .eql (.i .i64) (.t 5) (.c (i64 1))),
 iM 7 6,
 iG 8 7 false (.fa 0 (.t 3)),
 iG 9 7 false (.ld1 (.t 8)),
 iG 10 7 false (.bin .eql (.i .i64) (.t 9) (.c (i64 2))),
 iP 11 (.pick (.t 7) (.c (bl true)) (.t 10)),
 iM 12 11,
 iG 13 12 false (.fa 0 (.t 3)),
 iG 14 12 false (.ld1 (.t 13)),
 ⟨(some 15),(some (12,false)),.q (.c (.fn (.func 132) [] [])) [(.t 14)]⟩,
 iP 16 (.pick (.t 12) (.c (bl true)) (.t 15))])
 (.cond (.t 16)
 (.seq
 (.reg [
 iM 17 0,
 iP 18 (.ldn 5 (.t 3)),
 iC 19 73 [.t 17,.t 18]])
 .ret)
 .skip))
 (.seq
 (.reg [
 iM 20 0,
 iE 21 (.bsl 9 1 1 [st ⟨#[]⟩] [(0,(.c (st ⟨#[40]⟩)))]),
 iC 22 105 [.t 20,.t 21]])
 (.seq
 (.reg [
 iM 23 0,
 iP 24 (.ldn 5 (.t 3)),
 iC 25 73 [.t 23,.t 24]])
 (.reg [
 iM 26 0,
 iE 27 (.bsl 9 1 1 [st ⟨#[]⟩] [(0,(.c (st ⟨#[41]⟩)))]),
 iC 28 105 [.t 26,.t 27]])))))
def r133:List RS:=[]
theorem c133:chkF Tryz.prog drawB Tryz.f133 i133 r133=true:=by kernel_rfl
def i134:IC :=
 (.seq
 (.reg [
 iE 1 (.box 52 (.t 0)),
 iP 2 (.mov (.c (i64 0)))])
 (.seq
 (.reg [
 iE 3 (.alc 52 [i64 0,st ⟨#[]⟩,i64 0,i64 0])])
 (.seq
 (.reg [
 iP 6 (.mkf (.func 170) [] [(.t 3),(.t 1)]),
 iM 4 6])
 (.seq
 (.seq
 (.reg [
 iF 7 1 1,
 iL 8 7,
 iM 9 4,
 iC 10 171 [.t 8,.t 9,(.c (i64 3))],
 iM 5 10])
 (.seq
 (.reg [
 iM 11 5,
 iP 12 (.bin .neq (.i .i64) (.t 11) (.c (i64 0)))])
 (.cond (.t 12)
 (.seq
 (.reg [
 iM 13 5,
 iM 2 13])
 .ret)
 .skip)))
 (.seq
 (.reg [
 iF 14 2 1,
 iL 15 14,
 iP 16 (.mkf (.func 173) [] [(.t 3)]),
 iC 17 172 [.t 15,.t 16,(.c (i64 2))],
 iM 2 17])
 .ret)))))
def r134:List RS:=[.t 2]
theorem c134:chkF Tryz.prog drawB Tryz.f134 i134 r134=true:=by kernel_rfl
def i136:IC :=
 (.seq
 (.reg [
 iE 2 (.alc 25 [i64 0,i64 0,st ⟨#[]⟩,.val (.slice none 0 0),i64 0])])
 (.seq
 (.reg [
 iM 4 0,
 iP 5 (.nck (.t 4)),
 iF 6 0 5,
 iC 7 91 [.t 6],
 iM 3 7])
 (.seq
 (.blk 0
 (.seq
 (.reg [
 iM 9 0,
 iP 10 (.nck (.t 9)),
 iF 11 0 10,
 iE 12 (.bsl 9 1 1 [st ⟨#[]⟩] [(0,(.c (st ⟨#[45]⟩)))]),
 iC 13 93 [.t 11,.t 12],
 iM 8 13])
 (.cond (.t 8)
 (.seq
 (.reg [
 iM 14 0,
 iM 15 0,
 iP 16 (.mkf (.func 136) [(.t 15)] []),
 iC 17 137 [.t 14,(.c (i64 3)),.t 16],
 ⟨none,none,.e (.st 5 (.t 2) (.t 17))⟩])
 .ret)
 (.seq
 (.reg [
 iM 19 0,
 iP 20 (.nck (.t 19)),
 iF 21 0 20,
 iE 22 (.bsl 9 1 1 [st ⟨#[]⟩] [(0,(.c (st ⟨#[40]⟩)))]),
 iC 23 93 [.t 21,.t 22],
 iM 18 23])
 (.cond (.t 18)
 (.seq
 (.reg [
 iM 24 0,
 iC 25 177 [.t 24,(.c (i64 1))],
 iP 26 (.ia 5 (.t 25) (.c (i64 0))),
 iP 27 (.ldn 5 (.t 26)),
 ⟨none,none,.e (.st 5 (.t 2) (.t 27))⟩])
 .ret)
 (.seq
 (.reg [
 iM 29 0,
 iP 30 (.nck (.t 29)),
 iF 31 0 30,
 iC 32 90 [.t 31,(.c (st ⟨#[109,105,110]⟩))],
 iM 28 32])
 (.cond (.t 28)
 (.seq
 (.reg [
 iM 33 0,
 iC 34 177 [.t 33,(.c (i64 2))],
 iM 35 3,
 iP 36 (.bld [i64 0,i64 0,st ⟨#[]⟩,.val (.slice none 0 0),i64 0] [(0,1,(.c (i64 18))),(3,1,(.t 34)),(4,1,(.t 35))]),
 ⟨none,none,.e (.st 5 (.t 2) (.t 36))⟩])
 .ret)
 (.seq
 (.reg [
 iM 38 0,
 iP 39 (.nck (.t 38)),
 iF 40 0 39,
 iC 41 90 [.t 40,(.c (st ⟨#[109,97,120]⟩))],
 iM 37 41])
 (.cond (.t 37)
 (.seq
 (.reg [
 iM 42 0,
 iC 43 177 [.t 42,(.c (i64 2))],
 iM 44 3,
 iP 45 (.bld [i64 0,i64 0,st ⟨#[]⟩,.val (.slice none 0 0),i64 0] [(0,1,(.c (i64 19))),(3,1,(.t 43)),(4,1,(.t 44))]),
 ⟨none,none,.e (.st 5 (.t 2) (.t 45))⟩])
 .ret)
 (.seq
 (.reg [
 iM 47 0,
 iP 48 (.nck (.t 47)),
 iF 49 0 48,
 iC 50 90 [.t 49,(.c (st ⟨#[105,102]⟩))],
 iM 46 50])
 (.cond (.t 46)
 (.seq
 (.reg [
 iM 51 0,
 iC 52 177 [.t 51,(.c (i64 3))],
 iM 53 3,
 iP 54 (.bld [i64 0,i64 0,st ⟨#[]⟩,.val (.slice none 0 0),i64 0] [(0,1,(.c (i64 20))),(3,1,(.t 52)),(4,1,(.t 53))]),
 ⟨none,none,.e (.st 5 (.t 2) (.t 54))⟩])
 .ret)
 (.seq
 (.reg [
 iM 56 0,
 iP 57 (.nck (.t 56)),
 iF 58 0 57,
 iC 59 139 [.t 58],
 iP 60 (.fld1 0 (.t 59)),
 iP 61 (.bin .eql (.i .i64) (.t 60) (.c (i64 2))),
 iM 55 61])
 (.cond (.t 55)
 (.seq
 (.reg [
 iM 62 0,
 iP 63 (.nck (.t 62)),
 iF 64 0 63,
 iC 65 140 [.t 64],
 iP 66 (.fld1 2 (.t 65)),
 iM 67 3,
 iP 68 (.bld [i64 0,i64 0,st ⟨#[]⟩,.val (.slice none 0 0),i64 0] [(0,1,(.c (i64 1))),(1,1,(.t 66)),(4,1,(.t 67))]),
 ⟨none,none,.e (.st 5 (.t 2) (.t 68))⟩])
 .ret)
 (.seq
 (.reg [
 iM 70 0,
 iP 71 (.nck (.t 70)),
 iF 72 0 71,
 iC 73 92 [.t 72],
 iP 74 (.not (.t 73)),
 iM 69 74])
 (.cond (.t 69)
 (.reg [
 iM 75 0,
 iP 76 (.nck (.t 75)),
 iF 77 0 76,
 iC 78 79 [.t 77,(.c (i64 11))]])
 .skip)))))))))))))))
 (.seq
 (.reg [
 iM 79 0,
 iP 80 (.nck (.t 79)),
 iF 81 0 80,
 iC 82 140 [.t 81],
 iP 83 (.fld1 1 (.t 82)),
 iM 84 3,
 iP 85 (.bld [i64 0,i64 0,st ⟨#[]⟩,.val (.slice none 0 0),i64 0] [(0,1,(.c (i64 2))),(2,1,(.t 83)),(4,1,(.t 84))]),
 ⟨none,none,.e (.st 5 (.t 2) (.t 85))⟩])
 .ret))))
def r136:List RS:=[.cn 2 5]
theorem c136:chkF Tryz.prog drawB Tryz.f136 i136 r136=true:=by kernel_rfl
def i137:IC :=
 (.seq
 (.reg [
 iE 6 (.alc 25 [i64 0,i64 0,st ⟨#[]⟩,.val (.slice none 0 0),i64 0])])
 (.seq
 (.reg [
 iM 9 0,
 iP 10 (.nck (.t 9)),
 iF 11 0 10,
 iC 12 91 [.t 11],
 iM 7 12])
 (.seq
 (.reg [
 iM 13 0,
 iC 14 178 [.t 13]])
 (.seq
 (.reg [
 iM 15 1,
 iM 16 2,
 iE 17 (.call (.t 16) []),
 iE 18 (.bsl 25 5 1 [i64 0,i64 0,st ⟨#[]⟩,.val (.slice none 0 0),i64 0] [(0,(.t 17))]),
 iM 19 7,
 iP 20 (.bld [i64 0,i64 0,st ⟨#[]⟩,.val (.slice none 0 0),i64 0] [(0,1,(.t 15)),(3,1,(.t 18)),(4,1,(.t 19))]),
 iE 8 (.alc 25 [i64 0,i64 0,st ⟨#[]⟩,.val (.slice none 0 0),i64 0]),
 ⟨none,none,.e (.st 5 (.t 8) (.t 20))⟩])
 (.seq
 (.reg [
 iM 21 0,
 iP 22 (.nck (.t 21)),
 iF 23 8 22,
 iL 24 23,
 iP 25 (.bin .sub (.i .i64) (.t 24) (.c (i64 1))),
 iP 26 (.nck (.t 21)),
 iF 27 8 26,
 ⟨none,none,.e (.st 1 (.t 27) (.t 25))⟩])
 (.seq
 (.reg [
 iP 28 (.ldn 5 (.t 8)),
 ⟨none,none,.e (.st 5 (.t 6) (.t 28))⟩])
 .ret))))))
def r137:List RS:=[.cn 6 5]
theorem c137:chkF Tryz.prog drawB Tryz.f137 i137 r137=true:=by kernel_rfl
def i138:IC :=
 (.seq
 (.reg [
 iE 1 (.alc 25 [i64 0,i64 0,st ⟨#[]⟩,.val (.slice none 0 0),i64 0])])
 (.seq
 (.reg [
 iL 2 0,
 iC 3 80 [.t 2,(.c (i64 2))],
 ⟨none,none,.e (.st 5 (.t 1) (.t 3))⟩])
 .ret))
def r138:List RS:=[.cn 1 5]
theorem c138:chkF Tryz.prog drawB Tryz.f138 i138 r138=true:=by kernel_rfl
def i139:IC :=
 (.seq
 (.reg [
 iE 2 (.alc 52 [i64 0,st ⟨#[]⟩,i64 0,i64 0])])
 (.seq
 (.seq
 (.drw [0,1,2,3,4,5,6,7,8,9] [
 iM 3 0,
 iP 4 (.nck (.t 3)),
 iF 5 1 4,
 iL 6 5,
 iM 7 0,
 iP 8 (.nck (.t 7)),
 iF 9 0 8,
 iL 10 9,
 iP 11 (.len (.t 10)),
 iP 12 (.bin .lss (.i .i64) (.t 6) (.t 11))])
 (.cond (.t 12)
 (.seq
 (.drw [0,1,2,3,4,5,6,7,8,9,10] [
 iM 13 0,
 iP 14 (.nck (.t 13)),
 iF 15 0 14,
 iL 16 15,
 iM 17 0,
 iP 18 (.nck (.t 17)),
 iF 19 1 18,
 iL 20 19,
 iP 21 (.ia 4 (.t 16) (.t 20)),
 iP 22 (.ldn 4 (.t 21)),
 ⟨none,none,.e (.st 4 (.t 2) (.t 22))⟩])
 .ret)
 .skip))
 (.seq
 (.reg [
 iP 23 (.bld [i64 0,st ⟨#[]⟩,i64 0,i64 0] []),
 ⟨none,none,.e (.st 4 (.t 2) (.t 23))⟩])
 .ret)))
def r139:List RS:=[.cn 2 4]
theorem c139:chkF Tryz.prog drawB Tryz.f139 i139 r139=true:=by kernel_rfl
def i140:IC :=
 (.seq
 (.reg [
 iE 2 (.alc 52 [i64 0,st ⟨#[]⟩,i64 0,i64 0])])
 (.seq
 (.reg [
 iM 4 0,
 iC 5 139 [.t 4],
 iE 3 (.alc 52 [i64 0,st ⟨#[]⟩,i64 0,i64 0]),
 ⟨none,none,.e (.st 4 (.t 3) (.t 5))⟩])
 (.seq
 (.reg [
 iM 6 0,
 iP 7 (.nck (.t 6)),
 iF 8 1 7,
 iL 9 8,
 iP 10 (.bin .add (.i .i64) (.t 9) (.c (i64 1))),
 iP 11 (.nck (.t 6)),
 iF 12 1 11,
 ⟨none,none,.e (.st 1 (.t 12) (.t 10))⟩])
 (.seq
 (.reg [
 iP 13 (.ldn 4 (.t 3)),
 ⟨none,none,.e (.st 4 (.t 2) (.t 13))⟩])
 .ret))))
def r140:List RS:=[.cn 2 4]
theorem c140:chkF Tryz.prog drawB Tryz.f140 i140 r140=true:=by kernel_rfl
def i146:IC :=
 (.seq
 (.reg [
 iP 2 (.mov (.c (bl false)))])
 (.seq
 (.seq
 (.reg [
 iM 3 0])
 (.blk 0
 (.seq
 (.seq
 (.reg [
 iP 5 (.bin .eql .s (.t 3) (.c (st ⟨#[103,97,109,101]⟩))),
 iM 4 5])
 (.cond (.t 4)
 .skip
 (.seq
 (.reg [
 iP 6 (.bin .eql .s (.t 3) (.c (st ⟨#[112,108,97,121,101,114,115]⟩))),
 iM 4 6])
 (.cond (.t 4)
 .skip
 (.seq
 (.reg [
 iP 7 (.bin .eql .s (.t 3) (.c (st ⟨#[118,97,114]⟩))),
 iM 4 7])
 (.cond (.t 4)
 .skip
 (.seq
 (.reg [
 iP 8 (.bin .eql .s (.t 3) (.c (st ⟨#[100,101,97,108]⟩))),
 iM 4 8])
 (.cond (.t 4)
 .skip
 (.seq
 (.reg [
 iP 9 (.bin .eql .s (.t 3) (.c (st ⟨#[105,110]⟩))),
 iM 4 9])
 (.cond (.t 4)
 .skip
 (.seq
 (.reg [
 iP 10 (.bin .eql .s (.t 3) (.c (st ⟨#[119,101,105,103,104,116]⟩))),
 iM 4 10])
 (.cond (.t 4)
 .skip
 (.seq
 (.reg [
 iP 11 (.bin .eql .s (.t 3) (.c (st ⟨#[115,101,101,110]⟩))),
 iM 4 11])
 (.cond (.t 4)
 .skip
 (.seq
 (.reg [
 iP 12 (.bin .eql .s (.t 3) (.c (st ⟨#[98,121]⟩))),
 iM 4 12])
 (.cond (.t 4)
 .skip
 (.seq
 (.reg [
 iP 13 (.bin .eql .s (.t 3) (.c (st ⟨#[97,108,108]⟩))),
 iM 4 13])
 (.cond (.t 4)
 .skip
 (.seq
 (.reg [
 iP 14 (.bin .eql .s (.t 3) (.c (st ⟨#[116,117,114,110]⟩))),
 iM 4 14])
 (.cond (.t 4)
 .skip
 (.seq
 (.reg [
 iP 15 (.bin .eql .s (.t 3) (.c (st ⟨#[97,99,116,105,111,110]⟩))),
 iM 4 15])
 (.cond (.t 4)
 .skip
 (.seq
 (.reg [
 iP 16 (.bin .eql .s (.t 3) (.c (st ⟨#[119,104,101,110]⟩))),
 iM 4 16])
 (.cond (.t 4)
 .skip
 (.seq
 (.reg [
 iP 17 (.bin .eql .s (.t 3) (.c (st ⟨#[104,105,100,100,101,110]⟩))),
 iM 4 17])
 (.cond (.t 4)
 .skip
 (.seq
 (.reg [
 iP 18 (.bin .eql .s (.t 3) (.c (st ⟨#[103,111,116,111]⟩))),
 iM 4 18])
 (.cond (.t 4)
 .skip
 (.seq
 (.reg [
 iP 19 (.bin .eql .s (.t 3) (.c (st ⟨#[101,110,100]⟩))),
 iM 4 19])
 (.cond (.t 4)
 .skip
 (.seq
 (.reg [
 iP 20 (.bin .eql .s (.t 3) (.c (st ⟨#[112,97,121]⟩))),
 iM 4 20])
 (.cond (.t 4)
 .skip
 (.seq
 (.reg [
 iP 21 (.bin .eql .s (.t 3) (.c (st ⟨#[111,114]⟩))),
 iM 4 21])
 (.cond (.t 4)
 .skip
 (.seq
 (.reg [
 iP 22 (.bin .eql .s (.t 3) (.c (st ⟨#[97,110,100]⟩))),
 iM 4 22])
 (.cond (.t 4)
 .skip
 (.seq
 (.reg [
 iP 23 (.bin .eql .s (.t 3) (.c (st ⟨#[110,111,116]⟩))),
 iM 4 23])
 (.cond (.t 4)
 .skip
 (.seq
 (.reg [
 iP 24 (.bin .eql .s (.t 3) (.c (st ⟨#[109,105,110]⟩))),
 iM 4 24])
 (.cond (.t 4)
 .skip
 (.seq
 (.reg [
 iP 25 (.bin .eql .s (.t 3) (.c (st ⟨#[109,97,120]⟩))),
 iM 4 25])
 (.cond (.t 4)
 .skip
 (.reg [
 iP 26 (.bin .eql .s (.t 3) (.c (st ⟨#[105,102]⟩))),
 iM 4 26])))))))))))))))))))))))))))))))))))))))))))
 (.cond (.t 4)
 (.seq
 (.reg [
 iP 2 (.mov (.c (bl true)))])
 .ret)
 .skip))))
 (.seq
 (.reg [
 iP 2 (.mov (.c (bl false)))])
 .ret)))
def r146:List RS:=[.t 2]
theorem c146:chkF Tryz.prog drawB Tryz.f146 i146 r146=true:=by kernel_rfl
def l147_0:IC:=.keep [0,1]
 (.seq
 (.seq
 (.reg [
 iM 74 0,
 iP 75 (.nck (.t 74)),
 iF 76 0 75,
 iC 77 90 [.t 76,(.c (st ⟨#[44]⟩))]])
 (.cond (.t 77)
 .skip
 (.exit 0)))
 (.blk 1
 (.drw [0,1,2,3,4,5,6,7,8,9,10,11,12,13,14,15,16,17,18,19] [
 iM 78 1,
 iM 79 1,
 iP 80 (.nck (.t 79)),
 iF 81 7 80,
 iL 82 81,
 iM 83 0,
 iP 84 (.nck (.t 83)),
 iF 85 0 84,
 iM 86 1,
 iP 87 (.nck (.t 86)),
 iF 88 7 87,
 iL 89 88,
 iP 90 (.len (.t 89)),
 iP 91 (.bin .eql (.i .i64) (.t 90) (.c (i64 32))),
 iC 92 89 [.t 85,.t 91],
 iE 93 (.bsl 3 1 1 [i64 0] [(0,(.t 92))]),
 iE 94 (.app 3 1 8 (.t 82) (.t 93)),
 iP 95 (.nck (.t 78)),
 iF 96 7 95,
 ⟨none,none,.e (.stw [89,82] 1 (.t 96) (.t 94))⟩])))
def i147:IC :=
 (.seq
 (.reg [
 iM 4 1,
 iP 5 (.nck (.t 4)),
 iF 6 0 5,
 ⟨none,none,.e (.st 1 (.t 6) (.c (i64 1)))⟩])
 (.seq
 (.reg [
 iM 7 1,
 iM 8 0,
 iP 9 (.nck (.t 8)),
 iF 10 0 9,
 iC 11 88 [.t 10,(.c (bl false))],
 iP 12 (.nck (.t 7)),
 iF 13 2 12,
 ⟨none,none,.e (.st 1 (.t 13) (.t 11))⟩])
 (.seq
 (.reg [
 iM 14 0,
 iP 15 (.nck (.t 14)),
 iF 16 0 15,
 iE 17 (.bsl 9 1 1 [st ⟨#[]⟩] [(0,(.c (st ⟨#[105,110]⟩)))]),
 iC 18 87 [.t 16,.t 17]])
 (.seq
 (.reg [
 iM 19 1,
 iM 20 0,
 iP 21 (.nck (.t 20)),
 iF 22 0 21,
 iC 23 89 [.t 22,(.c (bl false))],
 iP 24 (.nck (.t 19)),
 iF 25 3 24,
 ⟨none,none,.e (.st 1 (.t 25) (.t 23))⟩])
 (.seq
 (.reg [
 iM 26 0,
 iP 27 (.nck (.t 26)),
 iF 28 0 27,
 iE 29 (.bsl 9 1 1 [st ⟨#[]⟩] [(0,(.c (st ⟨#[46,46]⟩)))]),
 iC 30 87 [.t 28,.t 29]])
 (.seq
 (.reg [
 iM 31 1,
 iM 32 0,
 iP 33 (.nck (.t 32)),
 iF 34 0 33,
 iC 35 89 [.t 34,(.c (bl false))],
 iP 36 (.nck (.t 31)),
 iF 37 4 36,
 ⟨none,none,.e (.st 1 (.t 37) (.t 35))⟩])
 (.seq
 (.reg [
 iM 38 1,
 iM 39 0,
 iM 40 0,
 iP 41 (.mkf (.func 32) [(.t 40)] []),
 iC 42 181 [.t 39,(.c (st ⟨#[119,101,105,103,104,116]⟩)),.t 41],
 iP 43 (.nck (.t 38)),
 iF 44 5 43,
 ⟨none,none,.e (.st 1 (.t 44) (.t 42))⟩])
 (.seq
 (.seq
 (.reg [
 iM 45 0,
 iP 46 (.nck (.t 45)),
 iF 47 0 46,
 iC 48 90 [.t 47,(.c (st ⟨#[115,101,101,110]⟩))]])
 (.cond (.t 48)
 (.seq
 (.reg [
 iM 49 0,
 iP 50 (.nck (.t 49)),
 iF 51 0 50,
 iE 52 (.bsl 9 1 1 [st ⟨#[]⟩] [(0,(.c (st ⟨#[98,121]⟩)))]),
 iC 53 87 [.t 51,.t 52]])
 (.seq
 (.reg [
 iM 54 1,
 iM 55 0,
 iP 56 (.nck (.t 55)),
 iF 57 0 56,
 iC 58 90 [.t 57,(.c (st ⟨#[97,108,108]⟩))],
 iP 59 (.nck (.t 54)),
 iF 60 6 59,
 ⟨none,none,.e (.st 1 (.t 60) (.t 58))⟩])
 (.seq
 (.reg [
 iM 61 1,
 iP 62 (.nck (.t 61)),
 iF 63 6 62,
 iL 64 63,
 iP 65 (.not (.t 64))])
 (.cond (.t 65)
 (.seq
 (.reg [
 iM 66 1,
 iM 67 0,
 iP 68 (.nck (.t 67)),
 iF 69 0 68,
 iC 70 89 [.t 69,(.c (bl false))],
 iE 71 (.bsl 3 1 1 [i64 0] [(0,(.t 70))]),
 iP 72 (.nck (.t 66)),
 iF 73 7 72,
 ⟨none,none,.e (.st 1 (.t 73) (.t 71))⟩])
 (.blk 0
 (.loop l147_0)))
 .skip))))
 .skip))
 (.reg [
 iM 97 0,
 iP 98 (.nck (.t 97)),
 iF 99 0 98,
 iE 100 (.bsl 9 1 1 [st ⟨#[]⟩] [(0,(.c (st ⟨#[59]⟩)))]),
 iC 101 87 [.t 99,.t 100]])))))))))
def r147:List RS:=[]
theorem c147:chkF Tryz.prog drawB Tryz.f147 i147 r147=true:=by kernel_rfl
def l148_0:IC:=.keep [0,1]
 (.seq
 (.seq
 (.reg [
 iM 18 1,
 iP 19 (.nck (.t 18)),
 iF 20 9 19,
 iL 21 20,
 iP 22 (.len (.t 21)),
 iP 23 (.bin .eql (.i .i64) (.t 22) (.c (i64 0))),
 iM 24 23,
 iG 25 24 false (.mov (.t 0)),
 iG 26 24 false (.nck (.t 25)),
 iG 27 24 false (.fa 0 (.t 26)),
 ⟨(some 28),(some (24,false)),.e (.bsl 9 1 1 [st ⟨#[]⟩] [(0,(.c (st ⟨#[97,99,116,105,111,110]⟩)))])⟩,
 ⟨(some 29),(some (24,false)),.q (.c (.fn (.func 93) [] [])) [(.t 27),(.t 28)]⟩,
 iP 30 (.pick (.t 24) (.c (bl true)) (.t 29))])
 (.cond (.t 30)
 .skip
 (.exit 0)))
 (.blk 1
 (.seq
 (.seq
 (.reg [
 iM 31 0,
 iP 32 (.nck (.t 31)),
 iF 33 0 32,
 iE 34 (.bsl 9 1 1 [st ⟨#[]⟩] [(0,(.c (st ⟨#[97,99,116,105,111,110]⟩)))]),
 iC 35 93 [.t 33,.t 34],
 iP 36 (.not (.t 35))])
 (.cond (.t 36)
 (.reg [
 iM 37 0,
 iP 38 (.nck (.t 37)),
 iF 39 0 38,
 iC 40 79 [.t 39,(.c (i64 11))]])
 .skip))
 (.seq
 (.seq
 (.reg [
 iM 41 1,
 iP 42 (.nck (.t 41)),
 iF 43 9 42,
 iL 44 43,
 iP 45 (.len (.t 44)),
 iP 46 (.bin .eql (.i .i64) (.t 45) (.c (i64 10)))])
 (.cond (.t 46)
 (.reg [
 iM 47 0,
 iP 48 (.nck (.t 47)),
 iF 49 0 48,
 iC 50 79 [.t 49,(.c (i64 12))]])
 .skip))
 (.drw [0,1,2,3,4,5,6,7,8,9,10,11] [
 iM 51 1,
 iM 52 1,
 iP 53 (.nck (.t 52)),
 iF 54 9 53,
 iL 55 54,
 iM 56 0,
 iC 57 182 [.t 56],
 iE 58 (.bsl 89 6 1 [st ⟨#[]⟩,.val (.slice none 0 0),bl false,.val (.slice none 0 0),st ⟨#[]⟩,i64 0] [(0,(.t 57))]),
 iE 59 (.app 89 6 96 (.t 55) (.t 58)),
 iP 60 (.nck (.t 51)),
 iF 61 9 60,
 ⟨none,none,.e (.stw [55] 1 (.t 61) (.t 59))⟩])))))
def i148:IC :=
 (.seq
 (.reg [
 iM 4 1,
 iP 5 (.nck (.t 4)),
 iF 6 0 5,
 ⟨none,none,.e (.st 1 (.t 6) (.c (i64 2)))⟩])
 (.seq
 (.reg [
 iM 7 1,
 iM 8 0,
 iC 9 32 [.t 8],
 iE 10 (.bsl 25 5 1 [i64 0,i64 0,st ⟨#[]⟩,.val (.slice none 0 0),i64 0] [(0,(.t 9))]),
 iP 11 (.nck (.t 7)),
 iF 12 8 11,
 ⟨none,none,.e (.st 1 (.t 12) (.t 10))⟩])
 (.seq
 (.reg [
 iM 13 0,
 iP 14 (.nck (.t 13)),
 iF 15 0 14,
 iE 16 (.bsl 9 1 1 [st ⟨#[]⟩] [(0,(.c (st ⟨#[123]⟩)))]),
 iC 17 87 [.t 15,.t 16]])
 (.seq
 (.blk 0
 (.loop l148_0))
 (.reg [
 iM 62 0,
 iP 63 (.nck (.t 62)),
 iF 64 0 63,
 iE 65 (.bsl 9 1 1 [st ⟨#[]⟩] [(0,(.c (st ⟨#[125]⟩)))]),
 iC 66 87 [.t 64,.t 65]])))))
def r148:List RS:=[]
theorem c148:chkF Tryz.prog drawB Tryz.f148 i148 r148=true:=by kernel_rfl
def l149_0:IC:=.keep [0,1]
 (.seq
 (.seq
 (.reg [
 iM 18 0,
 iP 19 (.nck (.t 18)),
 iF 20 0 19,
 iC 21 90 [.t 20,(.c (st ⟨#[44]⟩))]])
 (.cond (.t 21)
 .skip
 (.exit 0)))
 (.blk 1
 (.seq
 (.seq
 (.reg [
 iM 22 1,
 iP 23 (.nck (.t 22)),
 iF 24 10 23,
 iL 25 24,
 iP 26 (.len (.t 25)),
 iP 27 (.bin .eql (.i .i64) (.t 26) (.c (i64 32)))])
 (.cond (.t 27)
 (.seq
 (.seq
 (.reg [
 iM 28 0,
 iC 29 183 [.t 28],
 iP 30 (.not (.t 29))])
 (.cond (.t 30)
 (.reg [
 iM 31 0,
 iP 32 (.nck (.t 31)),
 iF 33 0 32,
 iC 34 79 [.t 33,(.c (i64 11))]])
 .skip))
 (.reg [
 iM 35 0,
 iP 36 (.nck (.t 35)),
 iF 37 0 36,
 iC 38 79 [.t 37,(.c (i64 12))]]))
 .skip))
 (.drq [] 9 [0,1,2,3,4,6,7,5,8] [
 iM 39 1,
 iP 40 (.nck (.t 39)),
 iF 41 10 40,
 iL 42 41,
 iM 43 0,
 iP 45 (.len (.t 42)),
 iP 46 (.kro 25 5 1 [i64 0,i64 0,st ⟨#[]⟩,.val (.slice none 0 0),i64 0] [(0,(.agg [i64 0,i64 0,st ⟨#[]⟩,.val (.slice none 0 0),i64 0]))]),
 iC 44 32 [.t 43],
 iE 47 (.app 25 5 64 (.t 42) (.t 46))] [[9,10,11,12,13],[9,11,10,12,13],[9,11,12,10,13],[9,11,12,13,10],[11,9,10,12,13],[11,9,12,10,13],[11,9,12,13,10],[11,12,9,10,13],[11,12,9,13,10],[11,12,13,9,10]] [
 iP 48 (.ia 5 (.t 47) (.t 45)),
 ⟨none,none,.e (.st 5 (.t 48) (.t 44))⟩,
 iP 49 (.nck (.t 39)),
 iF 50 10 49,
 ⟨none,none,.e (.st 1 (.t 50) (.t 47))⟩]))))
def i149:IC :=
 (.seq
 (.reg [
 iM 4 1,
 iP 5 (.nck (.t 4)),
 iF 6 0 5,
 ⟨none,none,.e (.st 1 (.t 6) (.c (i64 3)))⟩])
 (.seq
 (.reg [
 iM 7 0,
 iP 8 (.nck (.t 7)),
 iF 9 0 8,
 iE 10 (.bsl 9 1 2 [st ⟨#[]⟩] [(0,(.c (st ⟨#[123]⟩))),(1,(.c (st ⟨#[112,97,121]⟩)))]),
 iC 11 87 [.t 9,.t 10]])
 (.seq
 (.reg [
 iM 12 1,
 iM 13 0,
 iC 14 32 [.t 13],
 iE 15 (.bsl 25 5 1 [i64 0,i64 0,st ⟨#[]⟩,.val (.slice none 0 0),i64 0] [(0,(.t 14))]),
 iP 16 (.nck (.t 12)),
 iF 17 10 16,
 ⟨none,none,.e (.st 1 (.t 17) (.t 15))⟩])
 (.seq
 (.blk 0
 (.loop l149_0))
 (.reg [
 iM 51 0,
 iP 52 (.nck (.t 51)),
 iF 53 0 52,
 iE 54 (.bsl 9 1 2 [st ⟨#[]⟩] [(0,(.c (st ⟨#[59]⟩))),(1,(.c (st ⟨#[125]⟩)))]),
 iC 55 87 [.t 53,.t 54]])))))
def r149:List RS:=[]
theorem c149:chkF Tryz.prog drawB Tryz.f149 i149 r149=true:=by kernel_rfl
def i152:IC :=
 (.seq
 (.reg [
 iP 4 (.mov (.c (bl false)))])
 (.seq
 (.reg [
 iM 5 0,
 iM 6 1,
 iC 7 184 [.t 5,.t 6],
 iP 8 (.bin .geq (.i .i64) (.t 7) (.c (i64 0))),
 iM 4 8])
 .ret))
def r152:List RS:=[.t 4]
theorem c152:chkF Tryz.prog drawB Tryz.f152 i152 r152=true:=by kernel_rfl
def i153:IC :=
 (.seq
 (.reg [
 iE 2 (.box 78 (.t 0)),
 iP 3 (.mov (.c (bl false)))])
 (.seq
 (.reg [
 iL 4 1,
 iP 5 (.ldn 12 (.t 2)),
 iE 6 (.call (.t 4) [(.t 5)]),
 iP 7 (.not (.t 6)),
 iM 3 7])
 .ret))
def r153:List RS:=[.t 3]
theorem c153:chkF Tryz.prog drawB Tryz.f153 i153 r153=true:=by kernel_rfl
def i154:IC :=
 (.seq
 (.reg [
 iE 1 (.box 78 (.t 0)),
 iP 2 (.mov (.c (bl false)))])
 (.seq
 (.reg [
 iP 3 (.mov (.c (.fn (.func 185) [] [])))])
 (.seq
 (.reg [
 iF 4 2 1,
 iL 5 4,
 iC 6 101 [.t 5],
 iM 7 6,
 iG 8 7 true (.mov (.t 3)),
 iG 9 7 true (.fa 3 (.t 1)),
 iG 10 7 true (.ld1 (.t 9)),
 ⟨(some 11),(some (7,true)),.e (.call (.t 8) [(.t 10)])⟩,
 iP 12 (.pick (.t 7) (.t 11) (.c (bl false))),
 iM 13 12,
 iG 14 13 true (.mov (.t 3)),
 iG 15 13 true (.fa 4 (.t 1)),
 iG 16 13 true (.ld1 (.t 15)),
 ⟨(some 17),(some (13,true)),.e (.call (.t 14) [(.t 16)])⟩,
 iP 18 (.pick (.t 13) (.t 17) (.c (bl false))),
 iM 19 18,
 iG 20 19 true (.fa 7 (.t 1)),
 iG 21 19 true (.ld1 (.t 20)),
 iG 22 19 true (.mov (.t 3)),
 ⟨(some 23),(some (19,true)),.q (.c (.fn (.func 186) [] [])) [(.t 21),(.t 22)]⟩,
 iP 24 (.pick (.t 19) (.t 23) (.c (bl false))),
 iM 25 24,
 iG 26 25 true (.fa 5 (.t 1)),
 iG 27 25 true (.ld1 (.t 26)),
 iG 28 25 true (.len (.t 27)),
 iG 29 25 true (.bin .leq (.i .i64) (.t 28) (.c (i64 1))),
 iP 30 (.pick (.t 25) (.t 29) (.c (bl false))),
 iM 31 30,
 iG 32 31 true (.fa 5 (.t 1)),
 iG 33 31 true (.ld1 (.t 32)),
 ⟨(some 34),(some (31,true)),.q (.c (.fn (.func 72) [] [])) [(.t 33)]⟩,
 iP 35 (.pick (.t 31) (.t 34) (.c (bl false))),
 iM 36 35,
 iG 37 36 true (.fa 6 (.t 1)),
 iG 38 36 true (.ld1 (.t 37)),
 iG 39 36 true (.mov (.t 38)),
 iG 40 39 true (.fa 7 (.t 1)),
 iG 41 39 true (.ld1 (.t 40)),
 iG 42 39 true (.len (.t 41)),
 iG 43 39 true (.bin .gtr (.i .i64) (.t 42) (.c (i64 0))),
 iG 44 36 true (.pick (.t 39) (.t 43) (.c (bl false))),
 iG 45 36 true (.not (.t 44)),
 iP 46 (.pick (.t 36) (.t 45) (.c (bl false))),
 iM 2 46])
 .ret)))
def r154:List RS:=[.t 2]
theorem c154:chkF Tryz.prog drawB Tryz.f154 i154 r154=true:=by kernel_rfl
def i155:IC :=
 (.seq
 (.reg [
 iE 3 (.box 148 (.t 1)),
 iP 4 (.mov (.c (bl false)))])
 (.seq
 (.reg [
 iM 5 0,
 iP 6 (.mkf (.func 188) [] [(.t 3)]),
 iC 7 187 [.t 5,.t 6],
 iP 8 (.not (.t 7)),
 iM 4 8])
 .ret))
def r155:List RS:=[.t 4]
theorem c155:chkF Tryz.prog drawB Tryz.f155 i155 r155=true:=by kernel_rfl
def i156:IC :=
 (.seq
 (.reg [
 iE 1 (.box 89 (.t 0)),
 iP 2 (.mov (.c (bl false)))])
 (.seq
 (.reg [
 iP 3 (.mov (.c (.fn (.func 189) [] [])))])
 (.seq
 (.reg [
 iF 4 0 1,
 iL 5 4,
 iC 6 101 [.t 5],
 iM 7 6,
 iG 8 7 true (.fa 1 (.t 1)),
 iG 9 7 true (.ld1 (.t 8)),
 iG 10 7 true (.len (.t 9)),
 iG 11 7 true (.bin .leq (.i .i64) (.t 10) (.c (i64 1))),
 iP 12 (.pick (.t 7) (.t 11) (.c (bl false))),
 iM 13 12,
 iG 14 13 true (.fa 1 (.t 1)),
 iG 15 13 true (.ld1 (.t 14)),
 ⟨(some 16),(some (13,true)),.q (.c (.fn (.func 72) [] [])) [(.t 15)]⟩,
 iP 17 (.pick (.t 13) (.t 16) (.c (bl false))),
 iM 18 17,
 iG 19 18 true (.fa 3 (.t 1)),
 iG 20 18 true (.ld1 (.t 19)),
 iG 21 18 true (.mov (.t 3)),
 ⟨(some 22),(some (18,true)),.q (.c (.fn (.func 190) [] [])) [(.t 20),(.t 21)]⟩,
 iP 23 (.pick (.t 18) (.t 22) (.c (bl false))),
 iM 24 23,
 iG 25 24 true (.fa 4 (.t 1)),
 iG 26 24 true (.ld1 (.t 25)),
 iG 27 24 true (.bin .eql .s (.t 26) (.c (st ⟨#[]⟩))),
 iG 28 24 true (.mov (.t 27)),
 iG 29 28 false (.fa 4 (.t 1)),
 iG 30 28 false (.ld1 (.t 29)),
 ⟨(some 31),(some (28,false)),.q (.c (.fn (.func 101) [] [])) [(.t 30)]⟩,
 iG 32 24 true (.pick (.t 28) (.c (bl true)) (.t 31)),
 iP 33 (.pick (.t 24) (.t 32) (.c (bl false))),
 iM 2 33])
 .ret)))
def r156:List RS:=[.t 2]
theorem c156:chkF Tryz.prog drawB Tryz.f156 i156 r156=true:=by kernel_rfl
def i157:IC :=
 (.seq
 (.reg [
 iE 2 (.box 78 (.t 0)),
 iE 3 (.box 78 (.t 1)),
 iP 4 (.mov (.c (bl false)))])
 (.seq
 (.reg [
 iF 5 2 2,
 iL 6 5,
 iF 7 2 3,
 iL 8 7,
 iP 9 (.bin .eql .s (.t 6) (.t 8)),
 iM 10 9,
 iG 11 10 true (.fa 3 (.t 2)),
 iG 12 10 true (.ld1 (.t 11)),
 iG 13 10 true (.fa 3 (.t 3)),
 iG 14 10 true (.ld1 (.t 13)),
 iG 15 10 true (.bin .eql (.i .i64) (.t 12) (.t 14)),
 iP 16 (.pick (.t 10) (.t 15) (.c (bl false))),
 iM 17 16,
 iG 18 17 true (.fa 4 (.t 2)),
 iG 19 17 true (.ld1 (.t 18)),
 iG 20 17 true (.fa 4 (.t 3)),
 iG 21 17 true (.ld1 (.t 20)),
 iG 22 17 true (.bin .eql (.i .i64) (.t 19) (.t 21)),
 iP 23 (.pick (.t 17) (.t 22) (.c (bl false))),
 iM 24 23,
 iG 25 24 true (.fa 6 (.t 2)),
 iG 26 24 true (.ld1 (.t 25)),
 iG 27 24 true (.fa 6 (.t 3)),
 iG 28 24 true (.ld1 (.t 27)),
 iG 29 24 true (.bin .eql .b (.t 26) (.t 28)),
 iP 30 (.pick (.t 24) (.t 29) (.c (bl false))),
 iM 31 30,
 iG 32 31 true (.fa 5 (.t 2)),
 iG 33 31 true (.ld1 (.t 32)),
 iG 34 31 true (.len (.t 33)),
 iG 35 31 true (.fa 5 (.t 3)),
 iG 36 31 true (.ld1 (.t 35)),
 iG 37 31 true (.len (.t 36)),
 iG 38 31 true (.bin .eql (.i .i64) (.t 34) (.t 37)),
 iP 39 (.pick (.t 31) (.t 38) (.c (bl false))),
 iM 40 39,
 iG 41 40 true (.fa 7 (.t 2)),
 iG 42 40 true (.ld1 (.t 41)),
 iG 43 40 true (.len (.t 42)),
 iG 44 40 true (.fa 7 (.t 3)),
 iG 45 40 true (.ld1 (.t 44)),
 iG 46 40 true (.len (.t 45)),
 iG 47 40 true (.bin .eql (.i .i64) (.t 43) (.t 46)),
 iP 48 (.pick (.t 40) (.t 47) (.c (bl false))),
 iM 49 48,
 iG 50 49 true (.fa 8 (.t 2)),
 iG 51 49 true (.ld1 (.t 50)),
 iG 52 49 true (.len (.t 51)),
 iG 53 49 true (.fa 8 (.t 3)),
 iG 54 49 true (.ld1 (.t 53)),
 iG 55 49 true (.len (.t 54)),
 iG 56 49 true (.bin .eql (.i .i64) (.t 52) (.t 55)),
 iP 57 (.pick (.t 49) (.t 56) (.c (bl false))),
 iM 58 57,
 iG 59 58 true (.fa 9 (.t 2)),
 iG 60 58 true (.ld1 (.t 59)),
 iG 61 58 true (.len (.t 60)),
 iG 62 58 true (.fa 9 (.t 3)),
 iG 63 58 true (.ld1 (.t 62)),
 iG 64 58 true (.len (.t 63)),
 iG 65 58 true (.bin .eql (.i .i64) (.t 61) (.t 64)),
 iP 66 (.pick (.t 58) (.t 65) (.c (bl false))),
 iM 67 66,
 iG 68 67 true (.fa 10 (.t 2)),
 iG 69 67 true (.ld1 (.t 68)),
 iG 70 67 true (.len (.t 69)),
 iG 71 67 true (.fa 10 (.t 3)),
 iG 72 67 true (.ld1 (.t 71)),
 iG 73 67 true (.len (.t 72)),
 iG 74 67 true (.bin .eql (.i .i64) (.t 70) (.t 73)),
 iP 75 (.pick (.t 67) (.t 74) (.c (bl false))),
 iM 4 75])
 .ret))
def r157:List RS:=[.t 4]
theorem c157:chkF Tryz.prog drawB Tryz.f157 i157 r157=true:=by kernel_rfl
def ya170_0:IC :=
 (.seq
 (.reg [
 iE 5 (.alc 52 [i64 0,st ⟨#[]⟩,i64 0,i64 0]),
 ⟨none,none,.e (.st 4 (.t 5) (.t 28))⟩])
 (.reg [
 iM 6 29]))
def yb170_0:IC :=
 (.blk 1
 (.seq
 (.reg [
 iP 30 (.ldn 4 (.t 5)),
 ⟨none,none,.e (.st 4 (.t 1) (.t 30))⟩])
 (.seq
 (.reg [
 iM 31 6,
 iP 32 (.ifn false true (.t 31)),
 iM 33 32,
 iG 34 33 true (.fa 1 (.t 5)),
 iG 35 33 true (.ld1 (.t 34)),
 iG 36 33 true (.ld1 (.t 3)),
 iG 37 33 true (.bin .eql .s (.t 35) (.t 36)),
 iP 38 (.pick (.t 33) (.t 37) (.c (bl false))),
 iM 39 38,
 iG 40 39 true (.fa 0 (.t 5)),
 iG 41 39 true (.ld1 (.t 40)),
 iG 42 39 true (.fa 0 (.t 2)),
 iG 43 39 true (.ld1 (.t 42)),
 iG 44 39 true (.bin .eql (.i .i64) (.t 41) (.t 43)),
 iP 45 (.pick (.t 39) (.t 44) (.c (bl false))),
 ⟨none,none,.e (.st 1 (.t 4) (.t 45))⟩])
 .ret)))
def i170:IC :=
 (.seq
 (.reg [
 iE 3 (.box 9 (.t 0)),
 iE 4 (.alc 4 [bl false])])
 (.seq
 (.seq
 (.reg [
 iL 7 3,
 iP 8 (.lens (.t 7)),
 iP 9 (.bin .eql (.i .i64) (.t 8) (.c (i64 0))),
 iM 10 9,
 iG 11 10 false (.ld1 (.t 3)),
 iG 12 10 false (.lens (.t 11)),
 iG 13 10 false (.bin .gtr (.i .i64) (.t 12) (.c (i64 40))),
 iP 14 (.pick (.t 10) (.c (bl true)) (.t 13)),
 iM 15 14,
 iG 16 15 false (.ld1 (.t 3)),
 iG 17 15 false (.ixs (.t 16) (.c (i64 0))),
 ⟨(some 18),(some (15,false)),.q (.c (.fn (.func 124) [] [])) [(.t 17)]⟩,
 iG 19 15 false (.bin .eql (.i .i64) (.t 18) (.c (i64 1))),
 iP 20 (.pick (.t 15) (.c (bl true)) (.t 19)),
 iM 21 20,
 iG 22 21 false (.ld1 (.t 3)),
 iG 23 21 false (.ixs (.t 22) (.c (i64 0))),
 iG 24 21 false (.bin .eql (.i .u8) (.t 23) (.c (.val (.int .u8 35)))),
 iP 25 (.pick (.t 21) (.c (bl true)) (.t 24))])
 (.cond (.t 25)
 (.seq
 (.reg [
 ⟨none,none,.e (.st 1 (.t 4) (.c (bl false)))⟩])
 .ret)
 .skip))
 (.seq
 (.seq
 (.reg [
 iL 26 3,
 iC 27 70 [.t 26]])
 (.blk 0
 (.keep [1,2,3,4,27] (.rng 1 (.t 27) [28,29] ya170_0 yb170_0))))
 (.seq
 (.reg [
 ⟨none,none,.e (.st 1 (.t 4) (.c (bl false)))⟩])
 .ret))))
def r170:List RS:=[.c1 4]
theorem c170:chkF Tryz.prog drawB Tryz.f170 i170 r170=true:=by kernel_rfl
def i171:IC :=
 (.seq
 (.reg [
 iP 6 (.mov (.c (i64 0)))])
 (.seq
 (.seq
 (.reg [
 iM 7 1,
 iM 8 0,
 iE 9 (.call (.t 7) [(.t 8)])])
 (.cond (.t 9)
 (.seq
 (.reg [
 iP 6 (.mov (.c (i64 0)))])
 .ret)
 .skip))
 (.seq
 (.reg [
 iM 10 2,
 iM 6 10])
 .ret)))
def r171:List RS:=[.t 6]
theorem c171:chkF Tryz.prog drawB Tryz.f171 i171 r171=true:=by kernel_rfl
def i172:IC :=
 (.seq
 (.reg [
 iP 6 (.mov (.c (i64 0)))])
 (.seq
 (.seq
 (.reg [
 iM 7 1,
 iM 8 0,
 iE 9 (.call (.t 7) [(.t 8)])])
 (.cond (.t 9)
 (.seq
 (.reg [
 iP 6 (.mov (.c (i64 0)))])
 .ret)
 .skip))
 (.seq
 (.reg [
 iM 10 2,
 iM 6 10])
 .ret)))
def r172:List RS:=[.t 6]
theorem c172:chkF Tryz.prog drawB Tryz.f172 i172 r172=true:=by kernel_rfl
def i173:IC :=
 (.seq
 (.reg [
 iP 3 (.mov (.c (bl false)))])
 (.seq
 (.reg [
 iM 4 0,
 iF 5 2 1,
 iL 6 5,
 iP 7 (.bin .eql (.i .i64) (.t 4) (.t 6)),
 iM 3 7])
 .ret))
def r173:List RS:=[.t 3]
theorem c173:chkF Tryz.prog drawB Tryz.f173 i173 r173=true:=by kernel_rfl
def l177_0:IC:=.keep [0,1,5]
 (.seq
 (.seq
 (.reg [
 iM 21 5,
 iP 22 (.len (.t 21)),
 iM 23 1,
 iP 24 (.bin .lss (.i .i64) (.t 22) (.t 23))])
 (.cond (.t 24)
 .skip
 (.exit 0)))
 (.blk 1
 (.seq
 (.reg [
 iM 25 0,
 iP 26 (.nck (.t 25)),
 iF 27 0 26,
 iE 28 (.bsl 9 1 1 [st ⟨#[]⟩] [(0,(.c (st ⟨#[44]⟩)))]),
 iC 29 87 [.t 27,.t 28]])
 (.reg [
 iM 30 5,
 iM 31 0,
 iC 32 32 [.t 31],
 iE 33 (.bsl 25 5 1 [i64 0,i64 0,st ⟨#[]⟩,.val (.slice none 0 0),i64 0] [(0,(.t 32))]),
 iE 34 (.app 25 5 64 (.t 30) (.t 33)),
 iM 5 34]))))
def i177:IC :=
 (.seq
 (.reg [
 iP 4 (.mov (.c (.val (.slice none 0 0))))])
 (.seq
 (.seq
 (.reg [
 iM 6 0,
 iP 7 (.nck (.t 6)),
 iF 8 0 7,
 iE 9 (.bsl 9 1 1 [st ⟨#[]⟩] [(0,(.c (st ⟨#[40]⟩)))]),
 iC 10 93 [.t 8,.t 9],
 iP 11 (.not (.t 10))])
 (.cond (.t 11)
 (.reg [
 iM 12 0,
 iP 13 (.nck (.t 12)),
 iF 14 0 13,
 iC 15 79 [.t 14,(.c (i64 11))]])
 .skip))
 (.seq
 (.reg [
 iM 16 0,
 iC 17 178 [.t 16]])
 (.seq
 (.reg [
 iM 18 0,
 iC 19 32 [.t 18],
 iE 20 (.bsl 25 5 1 [i64 0,i64 0,st ⟨#[]⟩,.val (.slice none 0 0),i64 0] [(0,(.t 19))]),
 iM 5 20])
 (.seq
 (.blk 0
 (.loop l177_0))
 (.seq
 (.reg [
 iM 35 0,
 iP 36 (.nck (.t 35)),
 iF 37 0 36,
 iE 38 (.bsl 9 1 1 [st ⟨#[]⟩] [(0,(.c (st ⟨#[41]⟩)))]),
 iC 39 87 [.t 37,.t 38]])
 (.seq
 (.reg [
 iM 40 0,
 iP 41 (.nck (.t 40)),
 iF 42 8 41,
 iL 43 42,
 iP 44 (.bin .sub (.i .i64) (.t 43) (.c (i64 1))),
 iP 45 (.nck (.t 40)),
 iF 46 8 45,
 ⟨none,none,.e (.st 1 (.t 46) (.t 44))⟩])
 (.seq
 (.reg [
 iM 47 5,
 iM 4 47])
 .ret))))))))
def r177:List RS:=[.t 4]
theorem c177:chkF Tryz.prog drawB Tryz.f177 i177 r177=true:=by kernel_rfl
def i178:IC :=
 (.seq
 (.reg [
 iM 2 0,
 iP 3 (.nck (.t 2)),
 iF 4 8 3,
 iL 5 4,
 iP 6 (.bin .add (.i .i64) (.t 5) (.c (i64 1))),
 iP 7 (.nck (.t 2)),
 iF 8 8 7,
 ⟨none,none,.e (.st 1 (.t 8) (.t 6))⟩])
 (.seq
 (.seq
 (.reg [
 iM 9 0,
 iP 10 (.nck (.t 9)),
 iF 11 8 10,
 iL 12 11,
 iP 13 (.bin .gtr (.i .i64) (.t 12) (.c (i64 40)))])
 (.cond (.t 13)
 (.reg [
 iM 14 0,
 iP 15 (.nck (.t 14)),
 iF 16 0 15,
 iC 17 79 [.t 16,(.c (i64 5))]])
 .skip))
 (.reg [
 iM 18 0,
 iP 19 (.nck (.t 18)),
 iF 20 0 19,
 iC 21 140 [.t 20]])))
def r178:List RS:=[]
theorem c178:chkF Tryz.prog drawB Tryz.f178 i178 r178=true:=by kernel_rfl
def i181:IC :=
 (.seq
 (.reg [
 iP 6 (.mov (.c (.val (.slice none 0 0))))])
 (.seq
 (.seq
 (.reg [
 iM 7 0,
 iP 8 (.nck (.t 7)),
 iF 9 0 8,
 iM 10 1,
 iC 11 90 [.t 9,.t 10],
 iP 12 (.not (.t 11))])
 (.cond (.t 12)
 (.seq
 (.reg [
 iP 6 (.mov (.c (.val (.slice none 0 0))))])
 .ret)
 .skip))
 (.seq
 (.reg [
 iM 13 2,
 iE 14 (.call (.t 13) []),
 iE 15 (.bsl 25 5 1 [i64 0,i64 0,st ⟨#[]⟩,.val (.slice none 0 0),i64 0] [(0,(.t 14))]),
 iM 6 15])
 .ret)))
def r181:List RS:=[.t 6]
theorem c181:chkF Tryz.prog drawB Tryz.f181 i181 r181=true:=by kernel_rfl
def l182_0:IC:=.keep [1,2,3]
 (.seq
 (.seq
 (.reg [
 iL 38 1,
 iP 39 (.nck (.t 38)),
 iF 40 0 39,
 iC 41 90 [.t 40,(.c (st ⟨#[125]⟩))],
 iP 42 (.not (.t 41))])
 (.cond (.t 42)
 .skip
 (.exit 0)))
 (.blk 1
 (.seq
 (.reg [
 iL 43 1,
 iP 44 (.nck (.t 43)),
 iF 45 0 44,
 iC 46 91 [.t 45],
 iP 47 (.bld [st ⟨#[]⟩,i64 0,i64 0,st ⟨#[]⟩,.val (.slice none 0 0),i64 0,i64 0] [(6,1,(.t 46))]),
 iE 4 (.alc 91 [st ⟨#[]⟩,i64 0,i64 0,st ⟨#[]⟩,.val (.slice none 0 0),i64 0,i64 0]),
 ⟨none,none,.e (.st 7 (.t 4) (.t 47))⟩])
 (.seq
 (.drw [0,1,2,3,4,5,6,7,8,9] [
 iL 48 1,
 iP 49 (.nck (.t 48)),
 iF 50 0 49,
 iF 51 3 3,
 iL 52 51,
 iP 53 (.len (.t 52)),
 iP 54 (.bin .eql (.i .i64) (.t 53) (.c (i64 32))),
 iC 55 88 [.t 50,.t 54],
 iF 56 0 4,
 ⟨none,none,.e (.stw [52,48] 1 (.t 56) (.t 55))⟩])
 (.seq
 (.reg [
 iL 57 1,
 iP 58 (.nck (.t 57)),
 iF 59 0 58,
 iE 60 (.bsl 9 1 1 [st ⟨#[]⟩] [(0,(.c (st ⟨#[61]⟩)))]),
 iC 61 87 [.t 59,.t 60]])
 (.seq
 (.reg [
 iL 62 1,
 iC 63 32 [.t 62],
 iF 64 1 4,
 ⟨none,none,.e (.st 5 (.t 64) (.t 63))⟩])
 (.seq
 (.reg [
 iL 65 1,
 iP 66 (.nck (.t 65)),
 iF 67 0 66,
 iE 68 (.bsl 9 1 1 [st ⟨#[]⟩] [(0,(.c (st ⟨#[59]⟩)))]),
 iC 69 87 [.t 67,.t 68]])
 (.reg [
 iF 70 3 3,
 iL 71 70,
 iP 72 (.ldn 7 (.t 4)),
 iE 73 (.bsl 91 7 1 [st ⟨#[]⟩,i64 0,i64 0,st ⟨#[]⟩,.val (.slice none 0 0),i64 0,i64 0] [(0,(.t 72))]),
 iE 74 (.app 91 7 88 (.t 71) (.t 73)),
 iF 75 3 3,
 ⟨none,none,.e (.st 1 (.t 75) (.t 74))⟩]))))))))
def l182_1:IC:=.keep [2,3,79,80,81]
 (.seq
 (.reg [
 iP 82 (.bin .lss (.i .i64) (.t 81) (.t 80))])
 (.seq
 (.cond (.t 82)
 .skip
 (.exit 2))
 (.seq
 (.blk 3
 (.seq
 (.reg [
 iP 83 (.ia 1 (.t 79) (.t 81)),
 iL 84 83,
 iM 7 84])
 (.reg [
 iM 85 7,
 iF 86 4 3,
 ⟨none,none,.e (.st 1 (.t 86) (.t 85))⟩])))
 (.reg [
 iP 87 (.bin .add (.i .i64) (.t 81) (.c (i64 1))),
 iM 81 87]))))
def i182:IC :=
 (.seq
 (.reg [
 iE 1 (.box 62 (.t 0)),
 iE 2 (.alc 89 [st ⟨#[]⟩,.val (.slice none 0 0),bl false,.val (.slice none 0 0),st ⟨#[]⟩,i64 0])])
 (.seq
 (.reg [
 iL 8 1,
 iP 9 (.nck (.t 8)),
 iF 10 0 9,
 iC 11 91 [.t 10],
 iP 12 (.bld [st ⟨#[]⟩,.val (.slice none 0 0),bl false,.val (.slice none 0 0),st ⟨#[]⟩,i64 0] [(5,1,(.t 11))]),
 iE 3 (.alc 89 [st ⟨#[]⟩,.val (.slice none 0 0),bl false,.val (.slice none 0 0),st ⟨#[]⟩,i64 0]),
 ⟨none,none,.e (.st 6 (.t 3) (.t 12))⟩])
 (.seq
 (.reg [
 iL 13 1,
 iP 14 (.nck (.t 13)),
 iF 15 0 14,
 iE 16 (.bsl 9 1 1 [st ⟨#[]⟩] [(0,(.c (st ⟨#[97,99,116,105,111,110]⟩)))]),
 iC 17 87 [.t 15,.t 16]])
 (.seq
 (.reg [
 iL 18 1,
 iP 19 (.nck (.t 18)),
 iF 20 0 19,
 iC 21 88 [.t 20,(.c (bl false))],
 iF 22 0 3,
 ⟨none,none,.e (.st 1 (.t 22) (.t 21))⟩])
 (.seq
 (.reg [
 iL 23 1,
 iL 24 1,
 iP 25 (.mkf (.func 32) [(.t 24)] []),
 iC 26 181 [.t 23,(.c (st ⟨#[119,104,101,110]⟩)),.t 25],
 iF 27 1 3,
 ⟨none,none,.e (.st 1 (.t 27) (.t 26))⟩])
 (.seq
 (.reg [
 iL 28 1,
 iP 29 (.nck (.t 28)),
 iF 30 0 29,
 iC 31 90 [.t 30,(.c (st ⟨#[104,105,100,100,101,110]⟩))],
 iF 32 2 3,
 ⟨none,none,.e (.st 1 (.t 32) (.t 31))⟩])
 (.seq
 (.reg [
 iL 33 1,
 iP 34 (.nck (.t 33)),
 iF 35 0 34,
 iE 36 (.bsl 9 1 1 [st ⟨#[]⟩] [(0,(.c (st ⟨#[123]⟩)))]),
 iC 37 87 [.t 35,.t 36]])
 (.seq
 (.blk 0
 (.loop l182_0))
 (.seq
 (.reg [
 iP 76 (.mkf (.func 201) [] [(.t 1)]),
 iM 5 76])
 (.seq
 (.seq
 (.reg [
 iL 77 1,
 iM 78 5,
 iC 79 202 [.t 77,(.c (st ⟨#[103,111,116,111]⟩)),.t 78],
 iP 80 (.len (.t 79)),
 iP 81 (.mov (.c (i64 0)))])
 (.blk 2
 (.loop l182_1)))
 (.seq
 (.reg [
 iP 88 (.ldn 6 (.t 3)),
 ⟨none,none,.e (.st 6 (.t 2) (.t 88))⟩])
 .ret)))))))))))
def r182:List RS:=[.cn 2 6]
theorem c182:chkF Tryz.prog drawB Tryz.f182 i182 r182=true:=by kernel_rfl
def i183:IC :=
 (.seq
 (.reg [
 iP 2 (.mov (.c (bl false)))])
 (.seq
 (.reg [
 iM 3 0,
 iP 4 (.nck (.t 3)),
 iF 5 0 4,
 iC 6 92 [.t 5],
 iM 7 6,
 iG 8 7 false (.mov (.t 0)),
 iG 9 7 false (.nck (.t 8)),
 iG 10 7 false (.fa 0 (.t 9)),
 ⟨(some 11),(some (7,false)),.q (.c (.fn (.func 139) [] [])) [(.t 10)]⟩,
 iG 12 7 false (.fld1 0 (.t 11)),
 iG 13 7 false (.bin .eql (.i .i64) (.t 12) (.c (i64 2))),
 iP 14 (.pick (.t 7) (.c (bl true)) (.t 13)),
 iM 15 14,
 iG 16 15 false (.mov (.t 0)),
 iG 17 15 false (.nck (.t 16)),
 iG 18 15 false (.fa 0 (.t 17)),
 ⟨(some 19),(some (15,false)),.e (.bsl 9 1 6 [st ⟨#[]⟩] [(0,(.c (st ⟨#[110,111,116]⟩))),(1,(.c (st ⟨#[45]⟩))),(2,(.c (st ⟨#[40]⟩))),(3,(.c (st ⟨#[109,105,110]⟩))),(4,(.c (st ⟨#[109,97,120]⟩))),(5,(.c (st ⟨#[105,102]⟩)))])⟩,
 ⟨(some 20),(some (15,false)),.q (.c (.fn (.func 93) [] [])) [(.t 18),(.t 19)]⟩,
 iP 21 (.pick (.t 15) (.c (bl true)) (.t 20)),
 iM 2 21])
 .ret))
def r183:List RS:=[.t 2]
theorem c183:chkF Tryz.prog drawB Tryz.f183 i183 r183=true:=by kernel_rfl
def l184_0:IC:=.keep [0,1,7,8]
 (.seq
 (.reg [
 iP 9 (.bin .lss (.i .i64) (.t 8) (.t 7))])
 (.seq
 (.cond (.t 9)
 .skip
 (.exit 0))
 (.seq
 (.blk 1
 (.seq
 (.reg [
 iM 10 8,
 iM 5 10])
 (.seq
 (.reg [
 iM 11 1,
 iM 12 0,
 iM 13 5,
 iP 14 (.ia 12 (.t 12) (.t 13)),
 iP 15 (.ldn 12 (.t 14)),
 iE 16 (.call (.t 11) [(.t 15)])])
 (.cond (.t 16)
 (.seq
 (.reg [
 iM 17 5,
 iM 4 17])
 .ret)
 .skip))))
 (.reg [
 iP 18 (.bin .add (.i .i64) (.t 8) (.c (i64 1))),
 iM 8 18]))))
def i184:IC :=
 (.seq
 (.reg [
 iP 4 (.mov (.c (i64 0)))])
 (.seq
 (.seq
 (.reg [
 iM 6 0,
 iP 7 (.len (.t 6)),
 iP 8 (.mov (.c (i64 0)))])
 (.blk 0
 (.loop l184_0)))
 (.seq
 (.reg [
 iP 4 (.mov (.c (i64 (-1))))])
 .ret)))
def r184:List RS:=[.t 4]
theorem c184:chkF Tryz.prog drawB Tryz.f184 i184 r184=true:=by kernel_rfl
def i185:IC :=
 (.seq
 (.reg [
 iP 2 (.mov (.c (bl false)))])
 (.seq
 (.reg [
 iM 3 0,
 iC 4 102 [(.c (i64 0)),.t 3,(.c (i64 1000000000))],
 iM 2 4])
 .ret))
def r185:List RS:=[.t 2]
theorem c185:chkF Tryz.prog drawB Tryz.f185 i185 r185=true:=by kernel_rfl
def i186:IC :=
 (.seq
 (.reg [
 iE 3 (.box 168 (.t 1)),
 iP 4 (.mov (.c (bl false)))])
 (.seq
 (.reg [
 iM 5 0,
 iP 6 (.mkf (.func 204) [] [(.t 3)]),
 iC 7 203 [.t 5,.t 6],
 iP 8 (.not (.t 7)),
 iM 4 8])
 .ret))
def r186:List RS:=[.t 4]
theorem c186:chkF Tryz.prog drawB Tryz.f186 i186 r186=true:=by kernel_rfl
def i187:IC :=
 (.seq
 (.reg [
 iP 4 (.mov (.c (bl false)))])
 (.seq
 (.reg [
 iM 5 0,
 iM 6 1,
 iC 7 205 [.t 5,.t 6],
 iP 8 (.bin .geq (.i .i64) (.t 7) (.c (i64 0))),
 iM 4 8])
 .ret))
def r187:List RS:=[.t 4]
theorem c187:chkF Tryz.prog drawB Tryz.f187 i187 r187=true:=by kernel_rfl
def i188:IC :=
 (.seq
 (.reg [
 iE 2 (.box 89 (.t 0)),
 iP 3 (.mov (.c (bl false)))])
 (.seq
 (.reg [
 iL 4 1,
 iP 5 (.ldn 6 (.t 2)),
 iE 6 (.call (.t 4) [(.t 5)]),
 iP 7 (.not (.t 6)),
 iM 3 7])
 .ret))
def r188:List RS:=[.t 3]
theorem c188:chkF Tryz.prog drawB Tryz.f188 i188 r188=true:=by kernel_rfl
def r189:List RS:=[.t 2]
def i190:IC :=
 (.seq
 (.reg [
 iE 3 (.box 221 (.t 1)),
 iP 4 (.mov (.c (bl false)))])
 (.seq
 (.reg [
 iM 5 0,
 iP 6 (.mkf (.func 207) [] [(.t 3)]),
 iC 7 206 [.t 5,.t 6],
 iP 8 (.not (.t 7)),
 iM 4 8])
 .ret))
def r190:List RS:=[.t 4]
theorem c190:chkF Tryz.prog drawB Tryz.f190 i190 r190=true:=by kernel_rfl
def i201:IC :=
 (.seq
 (.reg [
 iP 1 (.mov (.c (st ⟨#[]⟩)))])
 (.seq
 (.reg [
 iL 3 0,
 iP 4 (.nck (.t 3)),
 iF 5 0 4,
 iC 6 88 [.t 5,(.c (bl false))],
 iM 2 6])
 (.seq
 (.reg [
 iL 7 0,
 iP 8 (.nck (.t 7)),
 iF 9 0 8,
 iE 10 (.bsl 9 1 1 [st ⟨#[]⟩] [(0,(.c (st ⟨#[59]⟩)))]),
 iC 11 87 [.t 9,.t 10]])
 (.seq
 (.reg [
 iM 12 2,
 iM 1 12])
 .ret))))
def r201:List RS:=[.t 1]
theorem c201:chkF Tryz.prog drawB Tryz.f201 i201 r201=true:=by kernel_rfl
def i202:IC :=
 (.seq
 (.reg [
 iP 6 (.mov (.c (.val (.slice none 0 0))))])
 (.seq
 (.seq
 (.reg [
 iM 7 0,
 iP 8 (.nck (.t 7)),
 iF 9 0 8,
 iM 10 1,
 iC 11 90 [.t 9,.t 10],
 iP 12 (.not (.t 11))])
 (.cond (.t 12)
 (.seq
 (.reg [
 iP 6 (.mov (.c (.val (.slice none 0 0))))])
 .ret)
 .skip))
 (.seq
 (.reg [
 iM 13 2,
 iE 14 (.call (.t 13) []),
 iE 15 (.bsl 9 1 1 [st ⟨#[]⟩] [(0,(.t 14))]),
 iM 6 15])
 .ret)))
def r202:List RS:=[.t 6]
theorem c202:chkF Tryz.prog drawB Tryz.f202 i202 r202=true:=by kernel_rfl
def i203:IC :=
 (.seq
 (.reg [
 iP 4 (.mov (.c (bl false)))])
 (.seq
 (.reg [
 iM 5 0,
 iM 6 1,
 iC 7 216 [.t 5,.t 6],
 iP 8 (.bin .geq (.i .i64) (.t 7) (.c (i64 0))),
 iM 4 8])
 .ret))
def r203:List RS:=[.t 4]
theorem c203:chkF Tryz.prog drawB Tryz.f203 i203 r203=true:=by kernel_rfl
def i204:IC :=
 (.seq
 (.reg [
 iP 3 (.mov (.c (bl false)))])
 (.seq
 (.reg [
 iL 4 1,
 iM 5 0,
 iE 6 (.call (.t 4) [(.t 5)]),
 iP 7 (.not (.t 6)),
 iM 3 7])
 .ret))
def r204:List RS:=[.t 3]
theorem c204:chkF Tryz.prog drawB Tryz.f204 i204 r204=true:=by kernel_rfl
def l205_0:IC:=.keep [0,1,7,8]
 (.seq
 (.reg [
 iP 9 (.bin .lss (.i .i64) (.t 8) (.t 7))])
 (.seq
 (.cond (.t 9)
 .skip
 (.exit 0))
 (.seq
 (.blk 1
 (.seq
 (.reg [
 iM 10 8,
 iM 5 10])
 (.seq
 (.reg [
 iM 11 1,
 iM 12 0,
 iM 13 5,
 iP 14 (.ia 6 (.t 12) (.t 13)),
 iP 15 (.ldn 6 (.t 14)),
 iE 16 (.call (.t 11) [(.t 15)])])
 (.cond (.t 16)
 (.seq
 (.reg [
 iM 17 5,
 iM 4 17])
 .ret)
 .skip))))
 (.reg [
 iP 18 (.bin .add (.i .i64) (.t 8) (.c (i64 1))),
 iM 8 18]))))
def i205:IC :=
 (.seq
 (.reg [
 iP 4 (.mov (.c (i64 0)))])
 (.seq
 (.seq
 (.reg [
 iM 6 0,
 iP 7 (.len (.t 6)),
 iP 8 (.mov (.c (i64 0)))])
 (.blk 0
 (.loop l205_0)))
 (.seq
 (.reg [
 iP 4 (.mov (.c (i64 (-1))))])
 .ret)))
def r205:List RS:=[.t 4]
theorem c205:chkF Tryz.prog drawB Tryz.f205 i205 r205=true:=by kernel_rfl
def i206:IC :=
 (.seq
 (.reg [
 iP 4 (.mov (.c (bl false)))])
 (.seq
 (.reg [
 iM 5 0,
 iM 6 1,
 iC 7 217 [.t 5,.t 6],
 iP 8 (.bin .geq (.i .i64) (.t 7) (.c (i64 0))),
 iM 4 8])
 .ret))
def r206:List RS:=[.t 4]
theorem c206:chkF Tryz.prog drawB Tryz.f206 i206 r206=true:=by kernel_rfl
def i207:IC :=
 (.seq
 (.reg [
 iE 2 (.box 91 (.t 0)),
 iP 3 (.mov (.c (bl false)))])
 (.seq
 (.reg [
 iL 4 1,
 iP 5 (.ldn 7 (.t 2)),
 iE 6 (.call (.t 4) [(.t 5)]),
 iP 7 (.not (.t 6)),
 iM 3 7])
 .ret))
def r207:List RS:=[.t 3]
theorem c207:chkF Tryz.prog drawB Tryz.f207 i207 r207=true:=by kernel_rfl
def l216_0:IC:=.keep [0,1,7,8]
 (.seq
 (.reg [
 iP 9 (.bin .lss (.i .i64) (.t 8) (.t 7))])
 (.seq
 (.cond (.t 9)
 .skip
 (.exit 0))
 (.seq
 (.blk 1
 (.seq
 (.reg [
 iM 10 8,
 iM 5 10])
 (.seq
 (.reg [
 iM 11 1,
 iM 12 0,
 iM 13 5,
 iP 14 (.ia 1 (.t 12) (.t 13)),
 iL 15 14,
 iE 16 (.call (.t 11) [(.t 15)])])
 (.cond (.t 16)
 (.seq
 (.reg [
 iM 17 5,
 iM 4 17])
 .ret)
 .skip))))
 (.reg [
 iP 18 (.bin .add (.i .i64) (.t 8) (.c (i64 1))),
 iM 8 18]))))
def i216:IC :=
 (.seq
 (.reg [
 iP 4 (.mov (.c (i64 0)))])
 (.seq
 (.seq
 (.reg [
 iM 6 0,
 iP 7 (.len (.t 6)),
 iP 8 (.mov (.c (i64 0)))])
 (.blk 0
 (.loop l216_0)))
 (.seq
 (.reg [
 iP 4 (.mov (.c (i64 (-1))))])
 .ret)))
def r216:List RS:=[.t 4]
theorem c216:chkF Tryz.prog drawB Tryz.f216 i216 r216=true:=by kernel_rfl
def l217_0:IC:=.keep [0,1,7,8]
 (.seq
 (.reg [
 iP 9 (.bin .lss (.i .i64) (.t 8) (.t 7))])
 (.seq
 (.cond (.t 9)
 .skip
 (.exit 0))
 (.seq
 (.blk 1
 (.seq
 (.reg [
 iM 10 8,
 iM 5 10])
 (.seq
 (.reg [
 iM 11 1,
 iM 12 0,
 iM 13 5,
 iP 14 (.ia 7 (.t 12) (.t 13)),
 iP 15 (.ldn 7 (.t 14)),
 iE 16 (.call (.t 11) [(.t 15)])])
 (.cond (.t 16)
 (.seq
 (.reg [
 iM 17 5,
 iM 4 17])
 .ret)
 .skip))))
 (.reg [
 iP 18 (.bin .add (.i .i64) (.t 8) (.c (i64 1))),
 iM 8 18]))))
def i217:IC :=
 (.seq
 (.reg [
 iP 4 (.mov (.c (i64 0)))])
 (.seq
 (.seq
 (.reg [
 iM 6 0,
 iP 7 (.len (.t 6)),
 iP 8 (.mov (.c (i64 0)))])
 (.blk 0
 (.loop l217_0)))
 (.seq
 (.reg [
 iP 4 (.mov (.c (i64 (-1))))])
 .ret)))
def r217:List RS:=[.t 4]
theorem c217:chkF Tryz.prog drawB Tryz.f217 i217 r217=true:=by kernel_rfl
end Go.Proofs.YtmkdpmfhlfhjkaaGreatDoor
