/-
  The instructions of the functions, written by a program of ours off the translation; that they are theirs is looked at by the kernel (c39 ..).
-/
import Derived.Test.YtffafdbipfadoaaAbQ
import Derived.Test.YtffafdbipfadoaaRows
set_option linter.all false
namespace Go.Proofs.Ytffafdbipfadoaa
open Go.Ab
/-- parlour/parlourlaw35.ClockCalls -/
def i3 : IC :=
  (.seq
   (.reg [
     ⟨(some 6), none, .e (.box 24 (.t 0))⟩,
     ⟨(some 12), none, .p (.mov (.c (bl false)))⟩])
   (.seq
    (.seq
     (.reg [
       ⟨(some 28), none, .p (.fa 0 (.t 6))⟩,
       ⟨(some 29), none, .p (.ld1 (.t 28))⟩,
       ⟨(some 30), none, .p (.len (.t 29))⟩,
       ⟨(some 31), none, .p (.bin .gtr (.i .i64) (.t 30) (.c (i64 20)))⟩,
       ⟨(some 32), none, .p (.mov (.t 31))⟩,
       ⟨(some 33), (some (32, false)), .p (.mov (.t 1))⟩,
       ⟨(some 34), (some (32, false)), .p (.len (.t 33))⟩,
       ⟨(some 35), (some (32, false)), .p (.bin .gtr (.i .i64) (.t 34) (.c (i64 20)))⟩,
       ⟨(some 36), none, .p (.pick (.t 32) (.c (bl true)) (.t 35))⟩])
     (.cond (.t 36)
      (.seq
       (.reg [
         ⟨(some 37), none, .e (.call (.c (.fn (.func 9) [] [])) [])⟩,
         ⟨(some 12), none, .p (.mov (.t 37))⟩])
       .ret)
      .skip))
    (.seq
     (.reg [
       ⟨(some 38), none, .e (.bsl 3 1 0 [i64 0] [])⟩,
       ⟨(some 39), none, .p (.fa 0 (.t 6))⟩,
       ⟨(some 40), none, .p (.ld1 (.t 39))⟩,
       ⟨(some 41), none, .e (.app 3 1 8 (.t 38) (.t 40))⟩,
       ⟨(some 13), none, .p (.mov (.t 41))⟩])
     (.seq
      (.reg [
        ⟨(some 43), none, .p (.mov (.t 1))⟩,
        ⟨(some 44), none, .p (.mov (.t 2))⟩,
        ⟨(some 45), none, .p (.mov (.t 3))⟩,
        ⟨(some 46), none, .e (.call (.c (.fn (.func 10) [] [])) [(.t 43), (.t 44), (.t 45)])⟩,
        ⟨(some 42), none, .p (.mov (.t 46))⟩,
        ⟨(some 47), none, .p (.ext (.t 42) 0)⟩,
        ⟨(some 48), none, .p (.ext (.t 42) 1)⟩,
        ⟨(some 14), none, .e (.alc 24 [.slc [] 0, i64 0, i64 0, i64 0, i64 0, i64 0, i64 0])⟩,
        ⟨none, none, .e (.st 7 (.t 14) (.t 47))⟩,
        ⟨(some 15), none, .p (.mov (.t 48))⟩])
      (.seq
       (.reg [
         ⟨(some 50), none, .p (.mov (.t 1))⟩,
         ⟨(some 51), none, .p (.mov (.t 2))⟩,
         ⟨(some 52), none, .p (.mov (.t 3))⟩,
         ⟨(some 53), none, .e (.call (.c (.fn (.func 11) [] [])) [(.t 50), (.t 51), (.t 52)])⟩,
         ⟨(some 49), none, .p (.mov (.t 53))⟩,
         ⟨(some 54), none, .p (.ext (.t 49) 0)⟩,
         ⟨(some 55), none, .p (.ext (.t 49) 1)⟩,
         ⟨(some 16), none, .e (.alc 24 [.slc [] 0, i64 0, i64 0, i64 0, i64 0, i64 0, i64 0])⟩,
         ⟨none, none, .e (.st 7 (.t 16) (.t 54))⟩,
         ⟨(some 17), none, .p (.mov (.t 55))⟩])
       (.seq
        (.seq
         (.drw [0, 1, 2, 3, 4, 5, 6, 7, 8, 9, 10, 11, 12, 13, 14, 15] [
           ⟨(some 56), none, .p (.ldn 7 (.t 14))⟩,
           ⟨(some 57), none, .p (.ldn 7 (.t 16))⟩,
           ⟨(some 58), none, .q (.c (.fn (.func 12) [] [])) [(.t 56), (.t 57)]⟩,
           ⟨(some 59), none, .p (.not (.t 58))⟩,
           ⟨(some 60), none, .p (.mov (.t 59))⟩,
           ⟨(some 61), (some (60, false)), .p (.mov (.t 15))⟩,
           ⟨(some 62), (some (60, false)), .p (.mov (.t 17))⟩,
           ⟨(some 63), (some (60, false)), .p (.bin .neq (.i .i64) (.t 61) (.t 62))⟩,
           ⟨(some 64), none, .p (.pick (.t 60) (.c (bl true)) (.t 63))⟩,
           ⟨(some 65), none, .p (.mov (.t 64))⟩,
           ⟨(some 66), (some (65, false)), .p (.ldn 7 (.t 6))⟩,
           ⟨(some 67), (some (65, false)), .q (.c (.fn (.func 13) [] [])) [(.t 66)]⟩,
           ⟨(some 68), (some (65, false)), .p (.ldn 7 (.t 6))⟩,
           ⟨(some 69), (some (65, false)), .q (.c (.fn (.func 14) [] [])) [(.t 68)]⟩,
           ⟨(some 70), (some (65, false)), .p (.bin .neq (.i .i64) (.t 67) (.t 69))⟩,
           ⟨(some 71), none, .p (.pick (.t 65) (.c (bl true)) (.t 70))⟩])
         (.cond (.t 71)
          (.seq
           (.reg [
             ⟨(some 12), none, .p (.mov (.c (bl false)))⟩])
           .ret)
          .skip))
        (.seq
         (.reg [
           ⟨(some 73), none, .p (.ldn 7 (.t 6))⟩,
           ⟨(some 74), none, .p (.mov (.t 4))⟩,
           ⟨(some 75), none, .p (.mov (.t 5))⟩,
           ⟨(some 76), none, .e (.call (.c (.fn (.func 15) [] [])) [(.t 73), (.t 74), (.t 75)])⟩,
           ⟨(some 72), none, .p (.mov (.t 76))⟩,
           ⟨(some 77), none, .p (.ext (.t 72) 0)⟩,
           ⟨(some 78), none, .p (.ext (.t 72) 1)⟩,
           ⟨none, none, .e (.st 7 (.t 14) (.t 77))⟩,
           ⟨(some 15), none, .p (.mov (.t 78))⟩])
         (.seq
          (.reg [
            ⟨(some 80), none, .p (.ldn 7 (.t 6))⟩,
            ⟨(some 81), none, .p (.mov (.t 4))⟩,
            ⟨(some 82), none, .p (.mov (.t 5))⟩,
            ⟨(some 83), none, .e (.call (.c (.fn (.func 16) [] [])) [(.t 80), (.t 81), (.t 82)])⟩,
            ⟨(some 79), none, .p (.mov (.t 83))⟩,
            ⟨(some 84), none, .p (.ext (.t 79) 0)⟩,
            ⟨(some 85), none, .p (.ext (.t 79) 1)⟩,
            ⟨none, none, .e (.st 7 (.t 16) (.t 84))⟩,
            ⟨(some 17), none, .p (.mov (.t 85))⟩])
          (.seq
           (.reg [
             ⟨(some 87), none, .p (.ldn 7 (.t 6))⟩,
             ⟨(some 88), none, .p (.mov (.t 5))⟩,
             ⟨(some 89), none, .e (.call (.c (.fn (.func 17) [] [])) [(.t 87), (.t 88)])⟩,
             ⟨(some 86), none, .p (.mov (.t 89))⟩,
             ⟨(some 90), none, .p (.ext (.t 86) 0)⟩,
             ⟨(some 91), none, .p (.ext (.t 86) 1)⟩,
             ⟨(some 18), none, .e (.alc 24 [.slc [] 0, i64 0, i64 0, i64 0, i64 0, i64 0, i64 0])⟩,
             ⟨none, none, .e (.st 7 (.t 18) (.t 90))⟩,
             ⟨(some 19), none, .p (.mov (.t 91))⟩])
           (.seq
            (.reg [
              ⟨(some 93), none, .p (.ldn 7 (.t 6))⟩,
              ⟨(some 94), none, .p (.mov (.t 5))⟩,
              ⟨(some 95), none, .e (.call (.c (.fn (.func 18) [] [])) [(.t 93), (.t 94)])⟩,
              ⟨(some 92), none, .p (.mov (.t 95))⟩,
              ⟨(some 96), none, .p (.ext (.t 92) 0)⟩,
              ⟨(some 97), none, .p (.ext (.t 92) 1)⟩,
              ⟨(some 20), none, .e (.alc 24 [.slc [] 0, i64 0, i64 0, i64 0, i64 0, i64 0, i64 0])⟩,
              ⟨none, none, .e (.st 7 (.t 20) (.t 96))⟩,
              ⟨(some 21), none, .p (.mov (.t 97))⟩])
            (.seq
             (.seq
              (.reg [
                ⟨(some 98), none, .p (.ldn 7 (.t 14))⟩,
                ⟨(some 99), none, .p (.ldn 7 (.t 16))⟩,
                ⟨(some 100), none, .e (.call (.c (.fn (.func 12) [] [])) [(.t 98), (.t 99)])⟩,
                ⟨(some 101), none, .p (.not (.t 100))⟩,
                ⟨(some 102), none, .p (.mov (.t 101))⟩,
                ⟨(some 103), (some (102, false)), .p (.mov (.t 15))⟩,
                ⟨(some 104), (some (102, false)), .p (.mov (.t 17))⟩,
                ⟨(some 105), (some (102, false)), .p (.bin .neq (.i .i64) (.t 103) (.t 104))⟩,
                ⟨(some 106), none, .p (.pick (.t 102) (.c (bl true)) (.t 105))⟩,
                ⟨(some 107), none, .p (.mov (.t 106))⟩,
                ⟨(some 108), (some (107, false)), .p (.ldn 7 (.t 18))⟩,
                ⟨(some 109), (some (107, false)), .p (.ldn 7 (.t 20))⟩,
                ⟨(some 110), (some (107, false)), .q (.c (.fn (.func 12) [] [])) [(.t 108), (.t 109)]⟩,
                ⟨(some 111), (some (107, false)), .p (.not (.t 110))⟩,
                ⟨(some 112), none, .p (.pick (.t 107) (.c (bl true)) (.t 111))⟩,
                ⟨(some 113), none, .p (.mov (.t 112))⟩,
                ⟨(some 114), (some (113, false)), .p (.mov (.t 19))⟩,
                ⟨(some 115), (some (113, false)), .p (.mov (.t 21))⟩,
                ⟨(some 116), (some (113, false)), .p (.bin .neq (.i .i64) (.t 114) (.t 115))⟩,
                ⟨(some 117), none, .p (.pick (.t 113) (.c (bl true)) (.t 116))⟩])
              (.cond (.t 117)
               (.seq
                (.reg [
                  ⟨(some 12), none, .p (.mov (.c (bl false)))⟩])
                .ret)
               .skip))
             (.seq
              (.reg [
                ⟨(some 119), none, .p (.ldn 7 (.t 6))⟩,
                ⟨(some 120), none, .p (.mov (.t 5))⟩,
                ⟨(some 121), none, .e (.call (.c (.fn (.func 19) [] [])) [(.t 119), (.t 120)])⟩,
                ⟨(some 118), none, .p (.mov (.t 121))⟩,
                ⟨(some 122), none, .p (.ext (.t 118) 0)⟩,
                ⟨(some 123), none, .p (.ext (.t 118) 1)⟩,
                ⟨(some 124), none, .p (.ext (.t 118) 2)⟩,
                ⟨(some 22), none, .p (.mov (.t 122))⟩,
                ⟨(some 23), none, .p (.mov (.t 123))⟩,
                ⟨(some 15), none, .p (.mov (.t 124))⟩])
              (.seq
               (.reg [
                 ⟨(some 126), none, .p (.ldn 7 (.t 6))⟩,
                 ⟨(some 127), none, .p (.mov (.t 5))⟩,
                 ⟨(some 128), none, .e (.call (.c (.fn (.func 20) [] [])) [(.t 126), (.t 127)])⟩,
                 ⟨(some 125), none, .p (.mov (.t 128))⟩,
                 ⟨(some 129), none, .p (.ext (.t 125) 0)⟩,
                 ⟨(some 130), none, .p (.ext (.t 125) 1)⟩,
                 ⟨(some 131), none, .p (.ext (.t 125) 2)⟩,
                 ⟨(some 24), none, .p (.mov (.t 129))⟩,
                 ⟨(some 25), none, .p (.mov (.t 130))⟩,
                 ⟨(some 17), none, .p (.mov (.t 131))⟩])
               (.seq
                (.reg [
                  ⟨(some 133), none, .p (.ldn 7 (.t 6))⟩,
                  ⟨(some 134), none, .e (.call (.c (.fn (.func 21) [] [])) [(.t 133)])⟩,
                  ⟨(some 132), none, .p (.mov (.t 134))⟩,
                  ⟨(some 135), none, .p (.ext (.t 132) 0)⟩,
                  ⟨(some 136), none, .p (.ext (.t 132) 1)⟩,
                  ⟨(some 26), none, .p (.mov (.t 135))⟩,
                  ⟨(some 19), none, .p (.mov (.t 136))⟩])
                (.seq
                 (.reg [
                   ⟨(some 138), none, .p (.ldn 7 (.t 6))⟩,
                   ⟨(some 139), none, .e (.call (.c (.fn (.func 22) [] [])) [(.t 138)])⟩,
                   ⟨(some 137), none, .p (.mov (.t 139))⟩,
                   ⟨(some 140), none, .p (.ext (.t 137) 0)⟩,
                   ⟨(some 141), none, .p (.ext (.t 137) 1)⟩,
                   ⟨(some 27), none, .p (.mov (.t 140))⟩,
                   ⟨(some 21), none, .p (.mov (.t 141))⟩])
                 (.seq
                  (.reg [
                    ⟨(some 142), none, .p (.mov (.t 22))⟩,
                    ⟨(some 143), none, .p (.mov (.t 24))⟩,
                    ⟨(some 144), none, .e (.call (.c (.fn (.func 23) [] [])) [(.t 142), (.t 143)])⟩,
                    ⟨(some 145), none, .p (.mov (.t 144))⟩,
                    ⟨(some 146), (some (145, true)), .p (.mov (.t 23))⟩,
                    ⟨(some 147), (some (145, true)), .p (.mov (.t 25))⟩,
                    ⟨(some 148), (some (145, true)), .p (.bin .eql (.i .i64) (.t 146) (.t 147))⟩,
                    ⟨(some 149), none, .p (.pick (.t 145) (.t 148) (.c (bl false)))⟩,
                    ⟨(some 150), none, .p (.mov (.t 149))⟩,
                    ⟨(some 151), (some (150, true)), .p (.mov (.t 15))⟩,
                    ⟨(some 152), (some (150, true)), .p (.mov (.t 17))⟩,
                    ⟨(some 153), (some (150, true)), .p (.bin .eql (.i .i64) (.t 151) (.t 152))⟩,
                    ⟨(some 154), none, .p (.pick (.t 150) (.t 153) (.c (bl false)))⟩,
                    ⟨(some 155), none, .p (.mov (.t 154))⟩,
                    ⟨(some 156), (some (155, true)), .p (.mov (.t 26))⟩,
                    ⟨(some 157), (some (155, true)), .p (.mov (.t 27))⟩,
                    ⟨(some 158), (some (155, true)), .p (.bin .eql (.i .i64) (.t 156) (.t 157))⟩,
                    ⟨(some 159), none, .p (.pick (.t 155) (.t 158) (.c (bl false)))⟩,
                    ⟨(some 160), none, .p (.mov (.t 159))⟩,
                    ⟨(some 161), (some (160, true)), .p (.mov (.t 19))⟩,
                    ⟨(some 162), (some (160, true)), .p (.mov (.t 21))⟩,
                    ⟨(some 163), (some (160, true)), .p (.bin .eql (.i .i64) (.t 161) (.t 162))⟩,
                    ⟨(some 164), none, .p (.pick (.t 160) (.t 163) (.c (bl false)))⟩,
                    ⟨(some 165), none, .p (.mov (.t 164))⟩,
                    ⟨(some 166), (some (165, true)), .p (.fa 0 (.t 6))⟩,
                    ⟨(some 167), (some (165, true)), .p (.ld1 (.t 166))⟩,
                    ⟨(some 168), (some (165, true)), .p (.mov (.t 13))⟩,
                    ⟨(some 169), (some (165, true)), .q (.c (.fn (.func 23) [] [])) [(.t 167), (.t 168)]⟩,
                    ⟨(some 170), none, .p (.pick (.t 165) (.t 169) (.c (bl false)))⟩,
                    ⟨(some 171), none, .p (.mov (.t 170))⟩,
                    ⟨(some 172), (some (171, true)), .q (.c (.fn (.func 9) [] [])) []⟩,
                    ⟨(some 173), none, .p (.pick (.t 171) (.t 172) (.c (bl false)))⟩,
                    ⟨(some 12), none, .p (.mov (.t 173))⟩])
                  .ret))))))))))))))))
def r3 : List RS := [.t 12]
theorem c3 : chkF Try.prog drawB Try.f3 i3 r3 = true := by kernel_rfl
/-- parlour/parlourlaw35.ClockKnown -/
def i4 : IC :=
  (.seq
   (.reg [
     ⟨(some 0), none, .p (.mov (.c (bl false)))⟩])
   (.seq
    (.reg [
      ⟨(some 19), none, .e (.call (.c (.fn (.func 24) [] [])) [])⟩,
      ⟨(some 20), none, .e (.call (.c (.fn (.func 16) [] [])) [(.t 19), (.c (i64 0)), (.c (i64 10))])⟩,
      ⟨(some 18), none, .p (.mov (.t 20))⟩,
      ⟨(some 21), none, .p (.ext (.t 18) 0)⟩,
      ⟨(some 22), none, .p (.ext (.t 18) 1)⟩,
      ⟨(some 1), none, .e (.alc 24 [.slc [] 0, i64 0, i64 0, i64 0, i64 0, i64 0, i64 0])⟩,
      ⟨none, none, .e (.st 7 (.t 1) (.t 21))⟩,
      ⟨(some 2), none, .p (.mov (.t 22))⟩])
    (.seq
     (.reg [
       ⟨(some 23), none, .p (.ldn 7 (.t 1))⟩,
       ⟨(some 24), none, .e (.call (.c (.fn (.func 25) [] [])) [(.t 23), (.c (i64 60)), (.c (i64 1000)), (.c (i64 2000)), (.c (i64 (-1)))])⟩,
       ⟨(some 25), none, .p (.mov (.t 24))⟩,
       ⟨(some 26), (some (25, true)), .p (.ldn 7 (.t 1))⟩,
       ⟨(some 27), (some (25, true)), .q (.c (.fn (.func 25) [] [])) [(.t 26), (.c (i64 1060)), (.c (i64 0)), (.c (i64 2000)), (.c (i64 (-1)))]⟩,
       ⟨(some 28), none, .p (.pick (.t 25) (.t 27) (.c (bl false)))⟩,
       ⟨(some 29), none, .p (.mov (.t 28))⟩,
       ⟨(some 30), (some (29, true)), .p (.ldn 7 (.t 1))⟩,
       ⟨(some 31), (some (29, true)), .q (.c (.fn (.func 25) [] [])) [(.t 30), (.c (i64 1061)), (.c (i64 0)), (.c (i64 2000)), (.c (i64 0))]⟩,
       ⟨(some 32), none, .p (.pick (.t 29) (.t 31) (.c (bl false)))⟩,
       ⟨(some 3), none, .p (.mov (.t 32))⟩])
     (.seq
      (.reg [
        ⟨(some 34), none, .p (.ldn 7 (.t 1))⟩,
        ⟨(some 35), none, .e (.call (.c (.fn (.func 17) [] [])) [(.t 34), (.c (i64 60))])⟩,
        ⟨(some 33), none, .p (.mov (.t 35))⟩,
        ⟨(some 36), none, .p (.ext (.t 33) 0)⟩,
        ⟨(some 37), none, .p (.ext (.t 33) 1)⟩,
        ⟨(some 4), none, .e (.alc 24 [.slc [] 0, i64 0, i64 0, i64 0, i64 0, i64 0, i64 0])⟩,
        ⟨none, none, .e (.st 7 (.t 4) (.t 36))⟩,
        ⟨(some 5), none, .p (.mov (.t 37))⟩])
      (.seq
       (.reg [
         ⟨(some 39), none, .p (.ldn 7 (.t 1))⟩,
         ⟨(some 40), none, .e (.call (.c (.fn (.func 17) [] [])) [(.t 39), (.c (i64 560))])⟩,
         ⟨(some 38), none, .p (.mov (.t 40))⟩,
         ⟨(some 41), none, .p (.ext (.t 38) 0)⟩,
         ⟨(some 42), none, .p (.ext (.t 38) 1)⟩,
         ⟨(some 6), none, .e (.alc 24 [.slc [] 0, i64 0, i64 0, i64 0, i64 0, i64 0, i64 0])⟩,
         ⟨none, none, .e (.st 7 (.t 6) (.t 41))⟩,
         ⟨(some 7), none, .p (.mov (.t 42))⟩])
       (.seq
        (.reg [
          ⟨(some 44), none, .p (.ldn 7 (.t 1))⟩,
          ⟨(some 45), none, .e (.call (.c (.fn (.func 17) [] [])) [(.t 44), (.c (i64 1061))])⟩,
          ⟨(some 43), none, .p (.mov (.t 45))⟩,
          ⟨(some 46), none, .p (.ext (.t 43) 0)⟩,
          ⟨(some 47), none, .p (.ext (.t 43) 1)⟩,
          ⟨(some 8), none, .e (.alc 24 [.slc [] 0, i64 0, i64 0, i64 0, i64 0, i64 0, i64 0])⟩,
          ⟨none, none, .e (.st 7 (.t 8) (.t 46))⟩,
          ⟨(some 9), none, .p (.mov (.t 47))⟩])
        (.seq
         (.reg [
           ⟨(some 48), none, .p (.mov (.t 5))⟩,
           ⟨(some 49), none, .p (.bin .eql (.i .i64) (.t 48) (.c (i64 0)))⟩,
           ⟨(some 50), none, .p (.mov (.t 49))⟩,
           ⟨(some 51), (some (50, true)), .p (.fa 0 (.t 4))⟩,
           ⟨(some 52), (some (50, true)), .p (.ld1 (.t 51))⟩,
           ⟨(some 53), (some (50, true)), .e (.bsl 3 1 2 [i64 0] [(0, (.c (i64 1100))), (1, (.c (i64 2000)))])⟩,
           ⟨(some 54), (some (50, true)), .q (.c (.fn (.func 23) [] [])) [(.t 52), (.t 53)]⟩,
           ⟨(some 55), none, .p (.pick (.t 50) (.t 54) (.c (bl false)))⟩,
           ⟨(some 56), none, .p (.mov (.t 55))⟩,
           ⟨(some 57), (some (56, true)), .p (.mov (.t 7))⟩,
           ⟨(some 58), (some (56, true)), .p (.bin .eql (.i .i64) (.t 57) (.c (i64 0)))⟩,
           ⟨(some 59), none, .p (.pick (.t 56) (.t 58) (.c (bl false)))⟩,
           ⟨(some 60), none, .p (.mov (.t 59))⟩,
           ⟨(some 61), (some (60, true)), .p (.fa 0 (.t 6))⟩,
           ⟨(some 62), (some (60, true)), .p (.ld1 (.t 61))⟩,
           ⟨(some 63), (some (60, true)), .e (.bsl 3 1 2 [i64 0] [(0, (.c (i64 600))), (1, (.c (i64 2000)))])⟩,
           ⟨(some 64), (some (60, true)), .q (.c (.fn (.func 23) [] [])) [(.t 62), (.t 63)]⟩,
           ⟨(some 65), none, .p (.pick (.t 60) (.t 64) (.c (bl false)))⟩,
           ⟨(some 66), none, .p (.mov (.t 65))⟩,
           ⟨(some 67), (some (66, true)), .p (.mov (.t 9))⟩,
           ⟨(some 68), (some (66, true)), .p (.bin .eql (.i .i64) (.t 67) (.c (i64 0)))⟩,
           ⟨(some 69), none, .p (.pick (.t 66) (.t 68) (.c (bl false)))⟩,
           ⟨(some 70), none, .p (.mov (.t 69))⟩,
           ⟨(some 71), (some (70, true)), .p (.fa 0 (.t 8))⟩,
           ⟨(some 72), (some (70, true)), .p (.ld1 (.t 71))⟩,
           ⟨(some 73), (some (70, true)), .e (.bsl 3 1 2 [i64 0] [(0, (.c (i64 0))), (1, (.c (i64 2000)))])⟩,
           ⟨(some 74), (some (70, true)), .q (.c (.fn (.func 23) [] [])) [(.t 72), (.t 73)]⟩,
           ⟨(some 75), none, .p (.pick (.t 70) (.t 74) (.c (bl false)))⟩,
           ⟨(some 76), none, .p (.mov (.t 75))⟩,
           ⟨(some 77), (some (76, true)), .p (.fa 6 (.t 8))⟩,
           ⟨(some 78), (some (76, true)), .p (.ld1 (.t 77))⟩,
           ⟨(some 79), (some (76, true)), .p (.bin .eql (.i .i64) (.t 78) (.c (i64 0)))⟩,
           ⟨(some 80), none, .p (.pick (.t 76) (.t 79) (.c (bl false)))⟩,
           ⟨(some 10), none, .p (.mov (.t 80))⟩])
         (.seq
          (.reg [
            ⟨(some 82), none, .p (.ldn 7 (.t 1))⟩,
            ⟨(some 83), none, .e (.call (.c (.fn (.func 15) [] [])) [(.t 82), (.c (i64 0)), (.c (i64 10))])⟩,
            ⟨(some 81), none, .p (.mov (.t 83))⟩,
            ⟨(some 84), none, .p (.ext (.t 81) 0)⟩,
            ⟨(some 85), none, .p (.ext (.t 81) 1)⟩,
            ⟨(some 5), none, .p (.mov (.t 85))⟩])
          (.seq
           (.reg [
             ⟨(some 87), none, .e (.call (.c (.fn (.func 24) [] [])) [])⟩,
             ⟨(some 88), none, .e (.call (.c (.fn (.func 15) [] [])) [(.t 87), (.c (i64 2)), (.c (i64 0))])⟩,
             ⟨(some 86), none, .p (.mov (.t 88))⟩,
             ⟨(some 89), none, .p (.ext (.t 86) 0)⟩,
             ⟨(some 90), none, .p (.ext (.t 86) 1)⟩,
             ⟨(some 7), none, .p (.mov (.t 90))⟩])
           (.seq
            (.reg [
              ⟨(some 92), none, .p (.ldn 7 (.t 1))⟩,
              ⟨(some 93), none, .e (.call (.c (.fn (.func 17) [] [])) [(.t 92), (.c (i64 9))])⟩,
              ⟨(some 91), none, .p (.mov (.t 93))⟩,
              ⟨(some 94), none, .p (.ext (.t 91) 0)⟩,
              ⟨(some 95), none, .p (.ext (.t 91) 1)⟩,
              ⟨(some 9), none, .p (.mov (.t 95))⟩])
            (.seq
             (.reg [
               ⟨(some 97), none, .e (.call (.c (.fn (.func 24) [] [])) [])⟩,
               ⟨(some 98), none, .e (.call (.c (.fn (.func 17) [] [])) [(.t 97), (.c (i64 0))])⟩,
               ⟨(some 96), none, .p (.mov (.t 98))⟩,
               ⟨(some 99), none, .p (.ext (.t 96) 0)⟩,
               ⟨(some 100), none, .p (.ext (.t 96) 1)⟩,
               ⟨(some 11), none, .e (.alc 24 [.slc [] 0, i64 0, i64 0, i64 0, i64 0, i64 0, i64 0])⟩,
               ⟨none, none, .e (.st 7 (.t 11) (.t 99))⟩,
               ⟨(some 12), none, .p (.mov (.t 100))⟩])
             (.seq
              (.reg [
                ⟨(some 101), none, .p (.mov (.t 5))⟩,
                ⟨(some 102), none, .p (.bin .eql (.i .i64) (.t 101) (.c (i64 13)))⟩,
                ⟨(some 103), none, .p (.mov (.t 102))⟩,
                ⟨(some 104), (some (103, true)), .p (.mov (.t 7))⟩,
                ⟨(some 105), (some (103, true)), .p (.bin .eql (.i .i64) (.t 104) (.c (i64 2)))⟩,
                ⟨(some 106), none, .p (.pick (.t 103) (.t 105) (.c (bl false)))⟩,
                ⟨(some 107), none, .p (.mov (.t 106))⟩,
                ⟨(some 108), (some (107, true)), .p (.mov (.t 9))⟩,
                ⟨(some 109), (some (107, true)), .p (.bin .eql (.i .i64) (.t 108) (.c (i64 9)))⟩,
                ⟨(some 110), none, .p (.pick (.t 107) (.t 109) (.c (bl false)))⟩,
                ⟨(some 111), none, .p (.mov (.t 110))⟩,
                ⟨(some 112), (some (111, true)), .p (.mov (.t 12))⟩,
                ⟨(some 113), (some (111, true)), .p (.bin .eql (.i .i64) (.t 112) (.c (i64 13)))⟩,
                ⟨(some 114), none, .p (.pick (.t 111) (.t 113) (.c (bl false)))⟩,
                ⟨(some 13), none, .p (.mov (.t 114))⟩])
              (.seq
               (.reg [
                 ⟨(some 116), none, .e (.call (.c (.fn (.func 24) [] [])) [])⟩,
                 ⟨(some 117), none, .p (.bld [i64 0, i64 0, i64 0] [(0, 1, (.c (i64 0))), (1, 1, (.c (i64 10))), (2, 1, (.c (i64 560)))])⟩,
                 ⟨(some 118), none, .p (.bld [i64 0, i64 0, i64 0] [(0, 1, (.c (i64 1))), (1, 1, (.c (i64 560))), (2, 1, (.c (i64 700)))])⟩,
                 ⟨(some 119), none, .e (.bsl 46 3 2 [i64 0, i64 0, i64 0] [(0, (.t 117)), (1, (.t 118))])⟩,
                 ⟨(some 120), none, .e (.call (.c (.fn (.func 26) [] [])) [(.t 116), (.t 119)])⟩,
                 ⟨(some 115), none, .p (.mov (.t 120))⟩,
                 ⟨(some 121), none, .p (.ext (.t 115) 0)⟩,
                 ⟨(some 122), none, .p (.ext (.t 115) 1)⟩,
                 ⟨(some 14), none, .e (.alc 24 [.slc [] 0, i64 0, i64 0, i64 0, i64 0, i64 0, i64 0])⟩,
                 ⟨(some 15), none, .e (.alc 42 [i64 0, i64 0])⟩,
                 ⟨none, none, .e (.st 7 (.t 14) (.t 121))⟩,
                 ⟨none, none, .e (.st 2 (.t 15) (.t 122))⟩])
               (.seq
                (.reg [
                  ⟨(some 124), none, .e (.call (.c (.fn (.func 10) [] [])) [(.c (.slc [] 0)), (.c (i64 0)), (.c (i64 0))])⟩,
                  ⟨(some 123), none, .p (.mov (.t 124))⟩,
                  ⟨(some 125), none, .p (.ext (.t 123) 0)⟩,
                  ⟨(some 126), none, .p (.ext (.t 123) 1)⟩,
                  ⟨(some 5), none, .p (.mov (.t 126))⟩])
                (.seq
                 (.reg [
                   ⟨(some 128), none, .e (.bsl 3 1 1 [i64 0] [(0, (.c (i64 5)))])⟩,
                   ⟨(some 129), none, .e (.call (.c (.fn (.func 10) [] [])) [(.t 128), (.c (i64 (-1))), (.c (i64 0))])⟩,
                   ⟨(some 127), none, .p (.mov (.t 129))⟩,
                   ⟨(some 130), none, .p (.ext (.t 127) 0)⟩,
                   ⟨(some 131), none, .p (.ext (.t 127) 1)⟩,
                   ⟨(some 7), none, .p (.mov (.t 131))⟩])
                 (.seq
                  (.reg [
                    ⟨(some 133), none, .p (.ldn 7 (.t 1))⟩,
                    ⟨(some 134), none, .e (.call (.c (.fn (.func 18) [] [])) [(.t 133), (.c (i64 1061))])⟩,
                    ⟨(some 132), none, .p (.mov (.t 134))⟩,
                    ⟨(some 135), none, .p (.ext (.t 132) 0)⟩,
                    ⟨(some 136), none, .p (.ext (.t 132) 1)⟩,
                    ⟨(some 16), none, .e (.alc 24 [.slc [] 0, i64 0, i64 0, i64 0, i64 0, i64 0, i64 0])⟩,
                    ⟨none, none, .e (.st 7 (.t 16) (.t 135))⟩,
                    ⟨(some 17), none, .p (.mov (.t 136))⟩])
                  (.seq
                   (.reg [
                     ⟨(some 138), none, .p (.ldn 7 (.t 16))⟩,
                     ⟨(some 139), none, .e (.call (.c (.fn (.func 15) [] [])) [(.t 138), (.c (i64 1)), (.c (i64 2000))])⟩,
                     ⟨(some 137), none, .p (.mov (.t 139))⟩,
                     ⟨(some 140), none, .p (.ext (.t 137) 0)⟩,
                     ⟨(some 141), none, .p (.ext (.t 137) 1)⟩,
                     ⟨(some 9), none, .p (.mov (.t 141))⟩])
                   (.seq
                    (.reg [
                      ⟨(some 142), none, .e (.call (.c (.fn (.func 9) [] [])) [])⟩,
                      ⟨(some 143), none, .p (.mov (.t 142))⟩,
                      ⟨(some 144), (some (143, true)), .p (.mov (.t 3))⟩,
                      ⟨(some 145), none, .p (.pick (.t 143) (.t 144) (.c (bl false)))⟩,
                      ⟨(some 146), none, .p (.mov (.t 145))⟩,
                      ⟨(some 147), (some (146, true)), .p (.mov (.t 10))⟩,
                      ⟨(some 148), none, .p (.pick (.t 146) (.t 147) (.c (bl false)))⟩,
                      ⟨(some 149), none, .p (.mov (.t 148))⟩,
                      ⟨(some 150), (some (149, true)), .p (.mov (.t 13))⟩,
                      ⟨(some 151), none, .p (.pick (.t 149) (.t 150) (.c (bl false)))⟩,
                      ⟨(some 152), none, .p (.mov (.t 151))⟩,
                      ⟨(some 153), (some (152, true)), .p (.ldn 2 (.t 15))⟩,
                      ⟨(some 154), (some (152, true)), .p (.bld [i64 0, i64 0] [])⟩,
                      ⟨(some 155), (some (152, true)), .p (.eqf false [.i .i64, .i .i64] (.t 153) (.t 154))⟩,
                      ⟨(some 156), none, .p (.pick (.t 152) (.t 155) (.c (bl false)))⟩,
                      ⟨(some 157), none, .p (.mov (.t 156))⟩,
                      ⟨(some 158), (some (157, true)), .p (.fa 0 (.t 14))⟩,
                      ⟨(some 159), (some (157, true)), .p (.ld1 (.t 158))⟩,
                      ⟨(some 160), (some (157, true)), .e (.bsl 3 1 2 [i64 0] [(0, (.c (i64 600))), (1, (.c (i64 2010)))])⟩,
                      ⟨(some 161), (some (157, true)), .q (.c (.fn (.func 23) [] [])) [(.t 159), (.t 160)]⟩,
                      ⟨(some 162), none, .p (.pick (.t 157) (.t 161) (.c (bl false)))⟩,
                      ⟨(some 163), none, .p (.mov (.t 162))⟩,
                      ⟨(some 164), (some (163, true)), .p (.mov (.t 5))⟩,
                      ⟨(some 165), (some (163, true)), .p (.bin .eql (.i .i64) (.t 164) (.c (i64 2)))⟩,
                      ⟨(some 166), none, .p (.pick (.t 163) (.t 165) (.c (bl false)))⟩,
                      ⟨(some 167), none, .p (.mov (.t 166))⟩,
                      ⟨(some 168), (some (167, true)), .p (.mov (.t 7))⟩,
                      ⟨(some 169), (some (167, true)), .p (.bin .eql (.i .i64) (.t 168) (.c (i64 2)))⟩,
                      ⟨(some 170), none, .p (.pick (.t 167) (.t 169) (.c (bl false)))⟩,
                      ⟨(some 171), none, .p (.mov (.t 170))⟩,
                      ⟨(some 172), (some (171, true)), .p (.mov (.t 9))⟩,
                      ⟨(some 173), (some (171, true)), .p (.bin .eql (.i .i64) (.t 172) (.c (i64 17)))⟩,
                      ⟨(some 174), none, .p (.pick (.t 171) (.t 173) (.c (bl false)))⟩,
                      ⟨(some 0), none, .p (.mov (.t 174))⟩])
                    .ret))))))))))))))))))
def r4 : List RS := [.t 0]
theorem c4 : chkF Try.prog drawB Try.f4 i4 r4 = true := by kernel_rfl
/-- parlour/parlourlaw35.ClockRuns -/
def i5 : IC :=
  (.seq
   (.reg [
     ⟨(some 2), none, .e (.box 24 (.t 0))⟩,
     ⟨(some 4), none, .p (.mov (.c (bl false)))⟩])
   (.seq
    (.seq
     (.reg [
       ⟨(some 9), none, .p (.fa 0 (.t 2))⟩,
       ⟨(some 10), none, .p (.ld1 (.t 9))⟩,
       ⟨(some 11), none, .p (.len (.t 10))⟩,
       ⟨(some 12), none, .p (.bin .gtr (.i .i64) (.t 11) (.c (i64 20)))⟩,
       ⟨(some 13), none, .p (.mov (.t 12))⟩,
       ⟨(some 14), (some (13, false)), .p (.mov (.t 1))⟩,
       ⟨(some 15), (some (13, false)), .p (.len (.t 14))⟩,
       ⟨(some 16), (some (13, false)), .p (.bin .gtr (.i .i64) (.t 15) (.c (i64 100)))⟩,
       ⟨(some 17), none, .p (.pick (.t 13) (.c (bl true)) (.t 16))⟩])
     (.cond (.t 17)
      (.seq
       (.reg [
         ⟨(some 18), none, .e (.call (.c (.fn (.func 9) [] [])) [])⟩,
         ⟨(some 4), none, .p (.mov (.t 18))⟩])
       .ret)
      .skip))
    (.seq
     (.reg [
       ⟨(some 20), none, .p (.ldn 7 (.t 2))⟩,
       ⟨(some 21), none, .p (.mov (.t 1))⟩,
       ⟨(some 22), none, .e (.call (.c (.fn (.func 26) [] [])) [(.t 20), (.t 21)])⟩,
       ⟨(some 19), none, .p (.mov (.t 22))⟩,
       ⟨(some 23), none, .p (.ext (.t 19) 0)⟩,
       ⟨(some 24), none, .p (.ext (.t 19) 1)⟩,
       ⟨(some 5), none, .e (.alc 24 [.slc [] 0, i64 0, i64 0, i64 0, i64 0, i64 0, i64 0])⟩,
       ⟨(some 6), none, .e (.alc 42 [i64 0, i64 0])⟩,
       ⟨none, none, .e (.st 7 (.t 5) (.t 23))⟩,
       ⟨none, none, .e (.st 2 (.t 6) (.t 24))⟩])
     (.seq
      (.reg [
        ⟨(some 26), none, .p (.ldn 7 (.t 2))⟩,
        ⟨(some 27), none, .p (.mov (.t 1))⟩,
        ⟨(some 28), none, .e (.call (.c (.fn (.func 27) [] [])) [(.t 26), (.t 27)])⟩,
        ⟨(some 25), none, .p (.mov (.t 28))⟩,
        ⟨(some 29), none, .p (.ext (.t 25) 0)⟩,
        ⟨(some 30), none, .p (.ext (.t 25) 1)⟩,
        ⟨(some 7), none, .e (.alc 24 [.slc [] 0, i64 0, i64 0, i64 0, i64 0, i64 0, i64 0])⟩,
        ⟨(some 8), none, .e (.alc 42 [i64 0, i64 0])⟩,
        ⟨none, none, .e (.st 7 (.t 7) (.t 29))⟩,
        ⟨none, none, .e (.st 2 (.t 8) (.t 30))⟩])
      (.seq
       (.reg [
         ⟨(some 31), none, .p (.ldn 7 (.t 5))⟩,
         ⟨(some 32), none, .p (.ldn 7 (.t 7))⟩,
         ⟨(some 33), none, .e (.call (.c (.fn (.func 12) [] [])) [(.t 31), (.t 32)])⟩,
         ⟨(some 34), none, .p (.mov (.t 33))⟩,
         ⟨(some 35), (some (34, true)), .p (.ldn 2 (.t 6))⟩,
         ⟨(some 36), (some (34, true)), .p (.ldn 2 (.t 8))⟩,
         ⟨(some 37), (some (34, true)), .p (.eqf false [.i .i64, .i .i64] (.t 35) (.t 36))⟩,
         ⟨(some 38), none, .p (.pick (.t 34) (.t 37) (.c (bl false)))⟩,
         ⟨(some 39), none, .p (.mov (.t 38))⟩,
         ⟨(some 40), (some (39, true)), .q (.c (.fn (.func 9) [] [])) []⟩,
         ⟨(some 41), none, .p (.pick (.t 39) (.t 40) (.c (bl false)))⟩,
         ⟨(some 4), none, .p (.mov (.t 41))⟩])
       .ret)))))
def r5 : List RS := [.t 4]
theorem c5 : chkF Try.prog drawB Try.f5 i5 r5 = true := by kernel_rfl
def l6_0 : IC := .keep [2, 7, 8, 10, 13, 14, 16, 18, 20]
  (.seq
   (.seq
    (.reg [
      ⟨(some 122), none, .p (.mov (.t 20))⟩,
      ⟨(some 123), none, .p (.mov (.t 10))⟩,
      ⟨(some 124), none, .p (.len (.t 123))⟩,
      ⟨(some 125), none, .p (.bin .lss (.i .i64) (.t 122) (.t 124))⟩])
    (.cond (.t 125)
     .skip
     (.exit 0)))
   (.seq
    (.blk 1
     (.seq
      (.drw [0, 1, 2, 3, 4, 5, 6, 7, 8, 9, 10, 11, 12, 13, 14, 15, 16, 17, 18, 19, 20, 21, 22, 23, 24, 25, 26, 27, 28, 29, 30, 31, 32, 33, 34, 35, 36, 37, 38, 39] [
        ⟨(some 128), none, .p (.mov (.t 13))⟩,
        ⟨(some 129), none, .p (.mov (.t 20))⟩,
        ⟨(some 130), none, .p (.ia 1 (.t 128) (.t 129))⟩,
        ⟨(some 131), none, .p (.ld1 (.t 130))⟩,
        ⟨(some 132), none, .p (.mov (.t 10))⟩,
        ⟨(some 133), none, .p (.mov (.t 20))⟩,
        ⟨(some 134), none, .p (.ia 1 (.t 132) (.t 133))⟩,
        ⟨(some 135), none, .p (.ld1 (.t 134))⟩,
        ⟨(some 136), none, .p (.bin .gtr (.i .i64) (.t 131) (.t 135))⟩,
        ⟨(some 137), none, .p (.mov (.t 136))⟩,
        ⟨(some 138), (some (137, false)), .p (.mov (.t 20))⟩,
        ⟨(some 139), (some (137, false)), .p (.fa 3 (.t 8))⟩,
        ⟨(some 140), (some (137, false)), .p (.ld1 (.t 139))⟩,
        ⟨(some 141), (some (137, false)), .p (.bin .neq (.i .i64) (.t 138) (.t 140))⟩,
        ⟨(some 142), (some (137, false)), .p (.mov (.t 141))⟩,
        ⟨(some 143), (some (142, true)), .p (.mov (.t 10))⟩,
        ⟨(some 144), (some (142, true)), .p (.mov (.t 20))⟩,
        ⟨(some 145), (some (142, true)), .p (.ia 1 (.t 143) (.t 144))⟩,
        ⟨(some 146), (some (142, true)), .p (.ld1 (.t 145))⟩,
        ⟨(some 147), (some (142, true)), .p (.fa 0 (.t 8))⟩,
        ⟨(some 148), (some (142, true)), .p (.ld1 (.t 147))⟩,
        ⟨(some 149), (some (142, true)), .p (.mov (.t 20))⟩,
        ⟨(some 150), (some (142, true)), .p (.ia 1 (.t 148) (.t 149))⟩,
        ⟨(some 151), (some (142, true)), .p (.ld1 (.t 150))⟩,
        ⟨(some 152), (some (142, true)), .p (.bin .neq (.i .i64) (.t 146) (.t 151))⟩,
        ⟨(some 153), (some (142, true)), .p (.mov (.t 152))⟩,
        ⟨(some 154), (some (153, false)), .p (.fa 0 (.t 16))⟩,
        ⟨(some 155), (some (153, false)), .p (.ld1 (.t 154))⟩,
        ⟨(some 156), (some (153, false)), .p (.mov (.t 20))⟩,
        ⟨(some 157), (some (153, false)), .p (.ia 1 (.t 155) (.t 156))⟩,
        ⟨(some 158), (some (153, false)), .p (.ld1 (.t 157))⟩,
        ⟨(some 159), (some (153, false)), .p (.fa 0 (.t 8))⟩,
        ⟨(some 160), (some (153, false)), .p (.ld1 (.t 159))⟩,
        ⟨(some 161), (some (153, false)), .p (.mov (.t 20))⟩,
        ⟨(some 162), (some (153, false)), .p (.ia 1 (.t 160) (.t 161))⟩,
        ⟨(some 163), (some (153, false)), .p (.ld1 (.t 162))⟩,
        ⟨(some 164), (some (153, false)), .p (.bin .neq (.i .i64) (.t 158) (.t 163))⟩,
        ⟨(some 165), (some (142, true)), .p (.pick (.t 153) (.c (bl true)) (.t 164))⟩,
        ⟨(some 166), (some (137, false)), .p (.pick (.t 142) (.t 165) (.c (bl false)))⟩,
        ⟨(some 167), none, .p (.pick (.t 137) (.c (bl true)) (.t 166))⟩])
      (.cond (.t 167)
       (.seq
        (.reg [
          ⟨(some 6), none, .p (.mov (.c (bl false)))⟩])
        .ret)
       .skip)))
    (.reg [
      ⟨(some 126), none, .p (.mov (.t 20))⟩,
      ⟨(some 127), none, .p (.bin .add (.i .i64) (.t 126) (.c (i64 1)))⟩,
      ⟨(some 20), none, .p (.mov (.t 127))⟩])))
/-- parlour/parlourlaw35.ClockLooks -/
def i6 : IC :=
  (.seq
   (.reg [
     ⟨(some 6), none, .p (.mov (.c (bl false)))⟩])
   (.seq
    (.reg [
      ⟨(some 25), none, .e (.call (.c (.fn (.func 4) [] [])) [])⟩,
      ⟨(some 7), none, .p (.mov (.t 25))⟩])
    (.seq
     (.seq
      (.reg [
        ⟨(some 26), none, .p (.mov (.t 0))⟩,
        ⟨(some 27), none, .p (.len (.t 26))⟩,
        ⟨(some 28), none, .p (.bin .gtr (.i .i64) (.t 27) (.c (i64 20)))⟩])
      (.cond (.t 28)
       (.seq
        (.reg [
          ⟨(some 29), none, .p (.mov (.t 7))⟩,
          ⟨(some 6), none, .p (.mov (.t 29))⟩])
        .ret)
       .skip))
     (.seq
      (.reg [
        ⟨(some 31), none, .p (.mov (.t 0))⟩,
        ⟨(some 32), none, .e (.call (.c (.fn (.func 28) [] [])) [(.t 31)])⟩,
        ⟨(some 30), none, .p (.mov (.t 32))⟩,
        ⟨(some 33), none, .p (.ext (.t 30) 0)⟩,
        ⟨(some 34), none, .p (.ext (.t 30) 1)⟩,
        ⟨(some 8), none, .e (.alc 24 [.slc [] 0, i64 0, i64 0, i64 0, i64 0, i64 0, i64 0])⟩,
        ⟨none, none, .e (.st 7 (.t 8) (.t 33))⟩,
        ⟨(some 9), none, .p (.mov (.t 34))⟩])
      (.seq
       (.seq
        (.reg [
          ⟨(some 35), none, .p (.mov (.t 9))⟩,
          ⟨(some 36), none, .p (.not (.t 35))⟩])
        (.cond (.t 36)
         (.seq
          (.reg [
            ⟨(some 6), none, .p (.mov (.c (bl false)))⟩])
          .ret)
         .skip))
       (.seq
        (.reg [
          ⟨(some 37), none, .p (.mov (.t 1))⟩,
          ⟨(some 38), none, .e (.call (.c (.fn (.func 29) [] [])) [(.t 37), (.c (i64 8001))])⟩,
          ⟨(some 39), none, .p (.bin .add (.i .i64) (.c (i64 1000)) (.t 38))⟩,
          ⟨(some 40), none, .p (.mov (.t 2))⟩,
          ⟨(some 41), none, .e (.call (.c (.fn (.func 29) [] [])) [(.t 40), (.c (i64 8001))])⟩,
          ⟨(some 42), none, .p (.bin .add (.i .i64) (.c (i64 1000)) (.t 41))⟩,
          ⟨(some 1), none, .p (.mov (.t 39))⟩,
          ⟨(some 2), none, .p (.mov (.t 42))⟩])
        (.seq
         (.reg [
           ⟨(some 43), none, .p (.mov (.t 1))⟩,
           ⟨(some 44), none, .p (.mov (.t 2))⟩,
           ⟨(some 45), none, .p (.mm false .i64 (.t 43) (.t 44))⟩,
           ⟨(some 46), none, .p (.mov (.t 1))⟩,
           ⟨(some 47), none, .p (.mov (.t 2))⟩,
           ⟨(some 48), none, .p (.mm true .i64 (.t 46) (.t 47))⟩,
           ⟨(some 1), none, .p (.mov (.t 45))⟩,
           ⟨(some 2), none, .p (.mov (.t 48))⟩])
         (.seq
          (.reg [
            ⟨(some 50), none, .p (.ldn 7 (.t 8))⟩,
            ⟨(some 51), none, .p (.mov (.t 1))⟩,
            ⟨(some 52), none, .e (.call (.c (.fn (.func 19) [] [])) [(.t 50), (.t 51)])⟩,
            ⟨(some 49), none, .p (.mov (.t 52))⟩,
            ⟨(some 53), none, .p (.ext (.t 49) 0)⟩,
            ⟨(some 54), none, .p (.ext (.t 49) 1)⟩,
            ⟨(some 55), none, .p (.ext (.t 49) 2)⟩,
            ⟨(some 10), none, .p (.mov (.t 53))⟩,
            ⟨(some 11), none, .p (.mov (.t 54))⟩,
            ⟨(some 12), none, .p (.mov (.t 55))⟩])
          (.seq
           (.reg [
             ⟨(some 57), none, .p (.ldn 7 (.t 8))⟩,
             ⟨(some 58), none, .p (.mov (.t 2))⟩,
             ⟨(some 59), none, .e (.call (.c (.fn (.func 19) [] [])) [(.t 57), (.t 58)])⟩,
             ⟨(some 56), none, .p (.mov (.t 59))⟩,
             ⟨(some 60), none, .p (.ext (.t 56) 0)⟩,
             ⟨(some 61), none, .p (.ext (.t 56) 1)⟩,
             ⟨(some 62), none, .p (.ext (.t 56) 2)⟩,
             ⟨(some 13), none, .p (.mov (.t 60))⟩,
             ⟨(some 14), none, .p (.mov (.t 61))⟩,
             ⟨(some 15), none, .p (.mov (.t 62))⟩])
           (.seq
            (.reg [
              ⟨(some 64), none, .p (.ldn 7 (.t 8))⟩,
              ⟨(some 65), none, .p (.mov (.t 2))⟩,
              ⟨(some 66), none, .e (.call (.c (.fn (.func 17) [] [])) [(.t 64), (.t 65)])⟩,
              ⟨(some 63), none, .p (.mov (.t 66))⟩,
              ⟨(some 67), none, .p (.ext (.t 63) 0)⟩,
              ⟨(some 68), none, .p (.ext (.t 63) 1)⟩,
              ⟨(some 16), none, .e (.alc 24 [.slc [] 0, i64 0, i64 0, i64 0, i64 0, i64 0, i64 0])⟩,
              ⟨none, none, .e (.st 7 (.t 16) (.t 67))⟩,
              ⟨(some 17), none, .p (.mov (.t 68))⟩])
            (.seq
             (.reg [
               ⟨(some 70), none, .p (.ldn 7 (.t 8))⟩,
               ⟨(some 71), none, .e (.call (.c (.fn (.func 21) [] [])) [(.t 70)])⟩,
               ⟨(some 69), none, .p (.mov (.t 71))⟩,
               ⟨(some 72), none, .p (.ext (.t 69) 0)⟩,
               ⟨(some 73), none, .p (.ext (.t 69) 1)⟩,
               ⟨(some 18), none, .p (.mov (.t 72))⟩,
               ⟨(some 19), none, .p (.mov (.t 73))⟩])
             (.seq
              (.seq
               (.reg [
                 ⟨(some 74), none, .p (.mov (.t 12))⟩,
                 ⟨(some 75), none, .p (.bin .neq (.i .i64) (.t 74) (.c (i64 0)))⟩,
                 ⟨(some 76), none, .p (.mov (.t 75))⟩,
                 ⟨(some 77), (some (76, false)), .p (.mov (.t 15))⟩,
                 ⟨(some 78), (some (76, false)), .p (.bin .neq (.i .i64) (.t 77) (.c (i64 0)))⟩,
                 ⟨(some 79), none, .p (.pick (.t 76) (.c (bl true)) (.t 78))⟩,
                 ⟨(some 80), none, .p (.mov (.t 79))⟩,
                 ⟨(some 81), (some (80, false)), .p (.mov (.t 17))⟩,
                 ⟨(some 82), (some (80, false)), .p (.bin .neq (.i .i64) (.t 81) (.c (i64 0)))⟩,
                 ⟨(some 83), none, .p (.pick (.t 80) (.c (bl true)) (.t 82))⟩,
                 ⟨(some 84), none, .p (.mov (.t 83))⟩,
                 ⟨(some 85), (some (84, false)), .p (.mov (.t 19))⟩,
                 ⟨(some 86), (some (84, false)), .p (.bin .neq (.i .i64) (.t 85) (.c (i64 0)))⟩,
                 ⟨(some 87), none, .p (.pick (.t 84) (.c (bl true)) (.t 86))⟩,
                 ⟨(some 88), none, .p (.mov (.t 87))⟩,
                 ⟨(some 89), (some (88, false)), .p (.mov (.t 10))⟩,
                 ⟨(some 90), (some (88, false)), .p (.len (.t 89))⟩,
                 ⟨(some 91), (some (88, false)), .p (.fa 0 (.t 8))⟩,
                 ⟨(some 92), (some (88, false)), .p (.ld1 (.t 91))⟩,
                 ⟨(some 93), (some (88, false)), .p (.len (.t 92))⟩,
                 ⟨(some 94), (some (88, false)), .p (.bin .neq (.i .i64) (.t 90) (.t 93))⟩,
                 ⟨(some 95), none, .p (.pick (.t 88) (.c (bl true)) (.t 94))⟩,
                 ⟨(some 96), none, .p (.mov (.t 95))⟩,
                 ⟨(some 97), (some (96, false)), .p (.mov (.t 13))⟩,
                 ⟨(some 98), (some (96, false)), .p (.len (.t 97))⟩,
                 ⟨(some 99), (some (96, false)), .p (.fa 0 (.t 8))⟩,
                 ⟨(some 100), (some (96, false)), .p (.ld1 (.t 99))⟩,
                 ⟨(some 101), (some (96, false)), .p (.len (.t 100))⟩,
                 ⟨(some 102), (some (96, false)), .p (.bin .neq (.i .i64) (.t 98) (.t 101))⟩,
                 ⟨(some 103), none, .p (.pick (.t 96) (.c (bl true)) (.t 102))⟩,
                 ⟨(some 104), none, .p (.mov (.t 103))⟩,
                 ⟨(some 105), (some (104, false)), .p (.fa 0 (.t 16))⟩,
                 ⟨(some 106), (some (104, false)), .p (.ld1 (.t 105))⟩,
                 ⟨(some 107), (some (104, false)), .p (.len (.t 106))⟩,
                 ⟨(some 108), (some (104, false)), .p (.fa 0 (.t 8))⟩,
                 ⟨(some 109), (some (104, false)), .p (.ld1 (.t 108))⟩,
                 ⟨(some 110), (some (104, false)), .p (.len (.t 109))⟩,
                 ⟨(some 111), (some (104, false)), .p (.bin .neq (.i .i64) (.t 107) (.t 110))⟩,
                 ⟨(some 112), none, .p (.pick (.t 104) (.c (bl true)) (.t 111))⟩,
                 ⟨(some 113), none, .p (.mov (.t 112))⟩,
                 ⟨(some 114), (some (113, false)), .p (.mov (.t 11))⟩,
                 ⟨(some 115), (some (113, false)), .p (.bin .geq (.i .i64) (.t 114) (.c (i64 0)))⟩,
                 ⟨(some 116), (some (113, false)), .p (.mov (.t 115))⟩,
                 ⟨(some 117), (some (116, true)), .p (.mov (.t 14))⟩,
                 ⟨(some 118), (some (116, true)), .p (.mov (.t 11))⟩,
                 ⟨(some 119), (some (116, true)), .p (.bin .neq (.i .i64) (.t 117) (.t 118))⟩,
                 ⟨(some 120), (some (113, false)), .p (.pick (.t 116) (.t 119) (.c (bl false)))⟩,
                 ⟨(some 121), none, .p (.pick (.t 113) (.c (bl true)) (.t 120))⟩])
               (.cond (.t 121)
                (.seq
                 (.reg [
                   ⟨(some 6), none, .p (.mov (.c (bl false)))⟩])
                 .ret)
                .skip))
              (.seq
               (.seq
                (.reg [
                  ⟨(some 20), none, .p (.mov (.c (i64 0)))⟩])
                (.blk 0
                 (.loop l6_0)))
               (.seq
                (.seq
                 (.drw [0, 1, 2, 3, 4, 5, 6, 7, 8, 9, 10, 11, 12, 13, 14, 15, 16, 17, 18, 19, 20, 21, 22, 23, 24, 25, 26, 27, 28, 29, 30, 31, 32, 33, 34, 35, 36, 37, 38, 39, 40, 41, 42, 43, 44, 45, 46, 47, 48, 49, 50, 51, 52, 53, 54, 55] [
                   ⟨(some 168), none, .p (.mov (.t 14))⟩,
                   ⟨(some 169), none, .p (.bin .geq (.i .i64) (.t 168) (.c (i64 0)))⟩,
                   ⟨(some 170), none, .p (.mov (.t 169))⟩,
                   ⟨(some 171), (some (170, true)), .p (.mov (.t 14))⟩,
                   ⟨(some 172), (some (170, true)), .p (.fa 3 (.t 8))⟩,
                   ⟨(some 173), (some (170, true)), .p (.ld1 (.t 172))⟩,
                   ⟨(some 174), (some (170, true)), .p (.bin .neq (.i .i64) (.t 171) (.t 173))⟩,
                   ⟨(some 175), (some (170, true)), .p (.mov (.t 174))⟩,
                   ⟨(some 176), (some (175, false)), .p (.fa 6 (.t 16))⟩,
                   ⟨(some 177), (some (175, false)), .p (.ld1 (.t 176))⟩,
                   ⟨(some 178), (some (175, false)), .p (.mov (.t 14))⟩,
                   ⟨(some 179), (some (175, false)), .p (.bin .neq (.i .i64) (.t 177) (.t 178))⟩,
                   ⟨(some 180), (some (170, true)), .p (.pick (.t 175) (.c (bl true)) (.t 179))⟩,
                   ⟨(some 181), (some (170, true)), .p (.mov (.t 180))⟩,
                   ⟨(some 182), (some (181, false)), .p (.fa 0 (.t 16))⟩,
                   ⟨(some 183), (some (181, false)), .p (.ld1 (.t 182))⟩,
                   ⟨(some 184), (some (181, false)), .p (.mov (.t 14))⟩,
                   ⟨(some 185), (some (181, false)), .p (.ia 1 (.t 183) (.t 184))⟩,
                   ⟨(some 186), (some (181, false)), .p (.ld1 (.t 185))⟩,
                   ⟨(some 187), (some (181, false)), .p (.bin .neq (.i .i64) (.t 186) (.c (i64 0)))⟩,
                   ⟨(some 188), (some (170, true)), .p (.pick (.t 181) (.c (bl true)) (.t 187))⟩,
                   ⟨(some 189), none, .p (.pick (.t 170) (.t 188) (.c (bl false)))⟩,
                   ⟨(some 190), none, .p (.mov (.t 189))⟩,
                   ⟨(some 191), (some (190, false)), .p (.mov (.t 14))⟩,
                   ⟨(some 192), (some (190, false)), .p (.bin .lss (.i .i64) (.t 191) (.c (i64 0)))⟩,
                   ⟨(some 193), (some (190, false)), .p (.mov (.t 192))⟩,
                   ⟨(some 194), (some (193, true)), .p (.fa 6 (.t 16))⟩,
                   ⟨(some 195), (some (193, true)), .p (.ld1 (.t 194))⟩,
                   ⟨(some 196), (some (193, true)), .p (.bin .neq (.i .i64) (.t 195) (.c (i64 (-1))))⟩,
                   ⟨(some 197), (some (193, true)), .p (.mov (.t 196))⟩,
                   ⟨(some 198), (some (197, false)), .p (.fa 0 (.t 16))⟩,
                   ⟨(some 199), (some (197, false)), .p (.ld1 (.t 198))⟩,
                   ⟨(some 200), (some (197, false)), .p (.fa 3 (.t 8))⟩,
                   ⟨(some 201), (some (197, false)), .p (.ld1 (.t 200))⟩,
                   ⟨(some 202), (some (197, false)), .p (.ia 1 (.t 199) (.t 201))⟩,
                   ⟨(some 203), (some (197, false)), .p (.ld1 (.t 202))⟩,
                   ⟨(some 204), (some (197, false)), .p (.mov (.t 13))⟩,
                   ⟨(some 205), (some (197, false)), .p (.fa 3 (.t 8))⟩,
                   ⟨(some 206), (some (197, false)), .p (.ld1 (.t 205))⟩,
                   ⟨(some 207), (some (197, false)), .p (.ia 1 (.t 204) (.t 206))⟩,
                   ⟨(some 208), (some (197, false)), .p (.ld1 (.t 207))⟩,
                   ⟨(some 209), (some (197, false)), .p (.fa 1 (.t 8))⟩,
                   ⟨(some 210), (some (197, false)), .p (.ld1 (.t 209))⟩,
                   ⟨(some 211), (some (197, false)), .p (.bin .add (.i .i64) (.t 208) (.t 210))⟩,
                   ⟨(some 212), (some (197, false)), .p (.bin .neq (.i .i64) (.t 203) (.t 211))⟩,
                   ⟨(some 213), (some (193, true)), .p (.pick (.t 197) (.c (bl true)) (.t 212))⟩,
                   ⟨(some 214), (some (190, false)), .p (.pick (.t 193) (.t 213) (.c (bl false)))⟩,
                   ⟨(some 215), none, .p (.pick (.t 190) (.c (bl true)) (.t 214))⟩,
                   ⟨(some 216), none, .p (.mov (.t 215))⟩,
                   ⟨(some 217), (some (216, false)), .p (.mov (.t 14))⟩,
                   ⟨(some 218), (some (216, false)), .p (.bin .geq (.i .i64) (.t 217) (.c (i64 0)))⟩,
                   ⟨(some 219), (some (216, false)), .p (.mov (.t 2))⟩,
                   ⟨(some 220), (some (216, false)), .p (.mov (.t 18))⟩,
                   ⟨(some 221), (some (216, false)), .p (.bin .geq (.i .i64) (.t 219) (.t 220))⟩,
                   ⟨(some 222), (some (216, false)), .p (.bin .neq .b (.t 218) (.t 221))⟩,
                   ⟨(some 223), none, .p (.pick (.t 216) (.c (bl true)) (.t 222))⟩])
                 (.cond (.t 223)
                  (.seq
                   (.reg [
                     ⟨(some 6), none, .p (.mov (.c (bl false)))⟩])
                   .ret)
                  .skip))
                (.seq
                 (.reg [
                   ⟨(some 225), none, .p (.ldn 7 (.t 8))⟩,
                   ⟨(some 226), none, .p (.mov (.t 18))⟩,
                   ⟨(some 227), none, .p (.bin .sub (.i .i64) (.t 226) (.c (i64 1)))⟩,
                   ⟨(some 228), none, .e (.call (.c (.fn (.func 19) [] [])) [(.t 225), (.t 227)])⟩,
                   ⟨(some 224), none, .p (.mov (.t 228))⟩,
                   ⟨(some 229), none, .p (.ext (.t 224) 0)⟩,
                   ⟨(some 230), none, .p (.ext (.t 224) 1)⟩,
                   ⟨(some 231), none, .p (.ext (.t 224) 2)⟩,
                   ⟨(some 21), none, .p (.mov (.t 229))⟩,
                   ⟨(some 22), none, .p (.mov (.t 230))⟩,
                   ⟨(some 12), none, .p (.mov (.t 231))⟩])
                 (.seq
                  (.reg [
                    ⟨(some 233), none, .p (.ldn 7 (.t 8))⟩,
                    ⟨(some 234), none, .p (.mov (.t 18))⟩,
                    ⟨(some 235), none, .e (.call (.c (.fn (.func 19) [] [])) [(.t 233), (.t 234)])⟩,
                    ⟨(some 232), none, .p (.mov (.t 235))⟩,
                    ⟨(some 236), none, .p (.ext (.t 232) 0)⟩,
                    ⟨(some 237), none, .p (.ext (.t 232) 1)⟩,
                    ⟨(some 238), none, .p (.ext (.t 232) 2)⟩,
                    ⟨(some 23), none, .p (.mov (.t 236))⟩,
                    ⟨(some 24), none, .p (.mov (.t 237))⟩,
                    ⟨(some 15), none, .p (.mov (.t 238))⟩])
                  (.seq
                   (.reg [
                     ⟨(some 239), none, .p (.mov (.t 7))⟩,
                     ⟨(some 240), none, .p (.mov (.t 239))⟩,
                     ⟨(some 241), (some (240, true)), .p (.mov (.t 12))⟩,
                     ⟨(some 242), (some (240, true)), .p (.bin .eql (.i .i64) (.t 241) (.c (i64 0)))⟩,
                     ⟨(some 243), none, .p (.pick (.t 240) (.t 242) (.c (bl false)))⟩,
                     ⟨(some 244), none, .p (.mov (.t 243))⟩,
                     ⟨(some 245), (some (244, true)), .p (.mov (.t 15))⟩,
                     ⟨(some 246), (some (244, true)), .p (.bin .eql (.i .i64) (.t 245) (.c (i64 0)))⟩,
                     ⟨(some 247), none, .p (.pick (.t 244) (.t 246) (.c (bl false)))⟩,
                     ⟨(some 248), none, .p (.mov (.t 247))⟩,
                     ⟨(some 249), (some (248, true)), .p (.mov (.t 22))⟩,
                     ⟨(some 250), (some (248, true)), .p (.bin .eql (.i .i64) (.t 249) (.c (i64 (-1))))⟩,
                     ⟨(some 251), none, .p (.pick (.t 248) (.t 250) (.c (bl false)))⟩,
                     ⟨(some 252), none, .p (.mov (.t 251))⟩,
                     ⟨(some 253), (some (252, true)), .p (.mov (.t 24))⟩,
                     ⟨(some 254), (some (252, true)), .p (.fa 3 (.t 8))⟩,
                     ⟨(some 255), (some (252, true)), .p (.ld1 (.t 254))⟩,
                     ⟨(some 256), (some (252, true)), .p (.bin .eql (.i .i64) (.t 253) (.t 255))⟩,
                     ⟨(some 257), none, .p (.pick (.t 252) (.t 256) (.c (bl false)))⟩,
                     ⟨(some 6), none, .p (.mov (.t 257))⟩])
                   .ret)))))))))))))))))
def r6 : List RS := [.t 6]
theorem c6 : chkF Try.prog drawB Try.f6 i6 r6 = true := by kernel_rfl
def l7_1 : IC := .keep [0, 1, 2, 7, 8, 9, 11, 12, 13, 14, 15]
  (.seq
   (.seq
    (.reg [
      ⟨(some 47), none, .p (.mov (.t 15))⟩,
      ⟨(some 48), none, .p (.bin .lss (.i .i64) (.t 47) (.c (i64 30)))⟩,
      ⟨(some 49), none, .p (.mov (.t 48))⟩,
      ⟨(some 50), (some (49, true)), .p (.mov (.t 15))⟩,
      ⟨(some 51), (some (49, true)), .p (.bin .mul (.i .i64) (.c (i64 3)) (.t 50))⟩,
      ⟨(some 52), (some (49, true)), .p (.mov (.t 0))⟩,
      ⟨(some 53), (some (49, true)), .p (.len (.t 52))⟩,
      ⟨(some 54), (some (49, true)), .p (.bin .lss (.i .i64) (.t 51) (.t 53))⟩,
      ⟨(some 55), none, .p (.pick (.t 49) (.t 54) (.c (bl false)))⟩])
    (.cond (.t 55)
     .skip
     (.exit 2)))
   (.seq
    (.blk 3
     (.seq
      (.reg [
        ⟨(some 58), none, .p (.mov (.t 8))⟩,
        ⟨(some 59), none, .p (.mov (.t 9))⟩,
        ⟨(some 60), none, .p (.len (.t 59))⟩,
        ⟨(some 61), none, .e (.call (.c (.fn (.func 30) [] [])) [(.t 58), (.t 60)])⟩,
        ⟨(some 62), none, .p (.mov (.t 13))⟩,
        ⟨(some 63), none, .p (.mov (.t 8))⟩,
        ⟨(some 64), none, .e (.call (.c (.fn (.func 30) [] [])) [(.t 63), (.c (i64 1000))])⟩,
        ⟨(some 65), none, .p (.bin .add (.i .i64) (.t 62) (.t 64))⟩,
        ⟨(some 66), none, .p (.bld [i64 0, i64 0, i64 0] [(0, 1, (.t 61)), (1, 1, (.t 65))])⟩,
        ⟨(some 16), none, .e (.alc 46 [i64 0, i64 0, i64 0])⟩,
        ⟨none, none, .e (.st 3 (.t 16) (.t 66))⟩])
      (.seq
       (.drw [0, 1, 2, 3, 4, 5, 6] [
         ⟨(some 67), none, .p (.fa 1 (.t 16))⟩,
         ⟨(some 68), none, .p (.ld1 (.t 67))⟩,
         ⟨(some 69), none, .p (.mov (.t 8))⟩,
         ⟨(some 70), none, .e (.call (.c (.fn (.func 30) [] [])) [(.t 69), (.c (i64 20000))])⟩,
         ⟨(some 71), none, .p (.bin .add (.i .i64) (.t 68) (.t 70))⟩,
         ⟨(some 72), none, .p (.fa 2 (.t 16))⟩,
         ⟨none, none, .e (.st 1 (.t 72) (.t 71))⟩])
       (.seq
        (.drw [0, 1, 2, 3, 4, 5, 6, 7, 8, 9, 10, 11, 12, 13, 14, 15, 16, 17, 18, 19, 20] [
          ⟨(some 73), none, .p (.mov (.t 9))⟩,
          ⟨(some 74), none, .p (.fa 0 (.t 16))⟩,
          ⟨(some 75), none, .p (.ld1 (.t 74))⟩,
          ⟨(some 76), none, .p (.mov (.t 9))⟩,
          ⟨(some 77), none, .p (.fa 0 (.t 16))⟩,
          ⟨(some 78), none, .p (.ld1 (.t 77))⟩,
          ⟨(some 79), none, .p (.ia 1 (.t 76) (.t 78))⟩,
          ⟨(some 80), none, .p (.ld1 (.t 79))⟩,
          ⟨(some 81), none, .p (.fa 2 (.t 16))⟩,
          ⟨(some 82), none, .p (.ld1 (.t 81))⟩,
          ⟨(some 83), none, .p (.fa 1 (.t 16))⟩,
          ⟨(some 84), none, .p (.ld1 (.t 83))⟩,
          ⟨(some 85), none, .p (.bin .sub (.i .i64) (.t 82) (.t 84))⟩,
          ⟨(some 86), none, .p (.mov (.t 2))⟩,
          ⟨(some 87), none, .p (.bin .sub (.i .i64) (.t 85) (.t 86))⟩,
          ⟨(some 88), none, .p (.mm true .i64 (.c (i64 0)) (.t 87))⟩,
          ⟨(some 89), none, .p (.bin .sub (.i .i64) (.t 80) (.t 88))⟩,
          ⟨(some 90), none, .p (.mov (.t 1))⟩,
          ⟨(some 91), none, .p (.bin .add (.i .i64) (.t 89) (.t 90))⟩,
          ⟨(some 92), none, .p (.ia 1 (.t 73) (.t 75))⟩,
          ⟨none, none, .e (.st 1 (.t 92) (.t 91))⟩])
        (.seq
         (.reg [
           ⟨(some 93), none, .p (.fa 2 (.t 16))⟩,
           ⟨(some 94), none, .p (.ld1 (.t 93))⟩,
           ⟨(some 13), none, .p (.mov (.t 94))⟩])
         (.reg [
           ⟨(some 95), none, .p (.mov (.t 14))⟩,
           ⟨(some 96), none, .p (.ldn 3 (.t 16))⟩,
           ⟨(some 97), none, .e (.bsl 46 3 1 [i64 0, i64 0, i64 0] [(0, (.t 96))])⟩,
           ⟨(some 98), none, .e (.app 46 3 24 (.t 95) (.t 97))⟩,
           ⟨(some 14), none, .p (.mov (.t 98))⟩]))))))
    (.reg [
      ⟨(some 56), none, .p (.mov (.t 15))⟩,
      ⟨(some 57), none, .p (.bin .add (.i .i64) (.t 56) (.c (i64 1)))⟩,
      ⟨(some 15), none, .p (.mov (.t 57))⟩])))
def l7_0 : IC := .keep [0, 1, 2, 7, 8, 9, 10]
  (.seq
   (.seq
    (.reg [
      ⟨(some 29), none, .p (.mov (.t 10))⟩,
      ⟨(some 30), none, .p (.bin .gtr (.i .i64) (.t 29) (.c (i64 0)))⟩])
    (.cond (.t 30)
     .skip
     (.exit 0)))
   (.seq
    (.blk 1
     (.reg [
       ⟨(some 33), none, .p (.mov (.t 9))⟩,
       ⟨(some 34), none, .e (.bsl 3 1 1 [i64 0] [(0, (.c (i64 3600000)))])⟩,
       ⟨(some 35), none, .e (.app 3 1 8 (.t 33) (.t 34))⟩,
       ⟨(some 9), none, .p (.mov (.t 35))⟩]))
    (.reg [
      ⟨(some 31), none, .p (.mov (.t 10))⟩,
      ⟨(some 32), none, .p (.bin .sub (.i .i64) (.t 31) (.c (i64 1)))⟩,
      ⟨(some 10), none, .p (.mov (.t 32))⟩])))
/-- parlour/parlourlaw35.ClockTurns -/
def i7 : IC :=
  (.seq
   (.reg [
     ⟨(some 6), none, .p (.mov (.c (bl false)))⟩])
   (.seq
    (.reg [
      ⟨(some 18), none, .e (.call (.c (.fn (.func 4) [] [])) [])⟩,
      ⟨(some 7), none, .p (.mov (.t 18))⟩])
    (.seq
     (.seq
      (.reg [
        ⟨(some 19), none, .p (.mov (.t 0))⟩,
        ⟨(some 20), none, .p (.len (.t 19))⟩,
        ⟨(some 21), none, .p (.bin .gtr (.i .i64) (.t 20) (.c (i64 90)))⟩])
      (.cond (.t 21)
       (.seq
        (.reg [
          ⟨(some 22), none, .p (.mov (.t 7))⟩,
          ⟨(some 6), none, .p (.mov (.t 22))⟩])
        .ret)
       .skip))
     (.seq
      (.reg [
        ⟨(some 23), none, .p (.mov (.t 0))⟩,
        ⟨(some 24), none, .p (.bld [.slc [] 0, i64 0] [(0, 1, (.t 23))])⟩,
        ⟨(some 25), none, .e (.box 55 (.t 24))⟩,
        ⟨(some 8), none, .p (.mov (.t 25))⟩])
      (.seq
       (.reg [
         ⟨(some 9), none, .e (.nil 3 1 (.c (.val (.slice none 0 0))))⟩])
       (.seq
        (.seq
         (.reg [
           ⟨(some 26), none, .p (.mov (.t 8))⟩,
           ⟨(some 27), none, .e (.call (.c (.fn (.func 30) [] [])) [(.t 26), (.c (i64 3))])⟩,
           ⟨(some 28), none, .p (.bin .add (.i .i64) (.c (i64 2)) (.t 27))⟩,
           ⟨(some 10), none, .p (.mov (.t 28))⟩])
         (.blk 0
          (.loop l7_0)))
        (.seq
         (.reg [
           ⟨(some 36), none, .p (.mov (.t 1))⟩,
           ⟨(some 37), none, .e (.call (.c (.fn (.func 29) [] [])) [(.t 36), (.c (i64 5000))])⟩,
           ⟨(some 38), none, .p (.mov (.t 2))⟩,
           ⟨(some 39), none, .e (.call (.c (.fn (.func 29) [] [])) [(.t 38), (.c (i64 5000))])⟩,
           ⟨(some 1), none, .p (.mov (.t 37))⟩,
           ⟨(some 2), none, .p (.mov (.t 39))⟩])
         (.seq
          (.reg [
            ⟨(some 41), none, .p (.mov (.t 9))⟩,
            ⟨(some 42), none, .p (.mov (.t 1))⟩,
            ⟨(some 43), none, .p (.mov (.t 2))⟩,
            ⟨(some 44), none, .e (.call (.c (.fn (.func 10) [] [])) [(.t 41), (.t 42), (.t 43)])⟩,
            ⟨(some 40), none, .p (.mov (.t 44))⟩,
            ⟨(some 45), none, .p (.ext (.t 40) 0)⟩,
            ⟨(some 46), none, .p (.ext (.t 40) 1)⟩,
            ⟨(some 11), none, .e (.alc 24 [.slc [] 0, i64 0, i64 0, i64 0, i64 0, i64 0, i64 0])⟩,
            ⟨none, none, .e (.st 7 (.t 11) (.t 45))⟩,
            ⟨(some 12), none, .p (.mov (.t 46))⟩])
          (.seq
           (.reg [
             ⟨(some 13), none, .p (.mov (.c (i64 0)))⟩])
           (.seq
            (.reg [
              ⟨(some 14), none, .e (.nil 46 3 (.c (.val (.slice none 0 0))))⟩])
            (.seq
             (.seq
              (.reg [
                ⟨(some 15), none, .p (.mov (.c (i64 0)))⟩])
              (.blk 2
               (.loop l7_1)))
             (.seq
              (.reg [
                ⟨(some 100), none, .p (.ldn 7 (.t 11))⟩,
                ⟨(some 101), none, .p (.mov (.t 14))⟩,
                ⟨(some 102), none, .e (.call (.c (.fn (.func 26) [] [])) [(.t 100), (.t 101)])⟩,
                ⟨(some 99), none, .p (.mov (.t 102))⟩,
                ⟨(some 103), none, .p (.ext (.t 99) 0)⟩,
                ⟨(some 104), none, .p (.ext (.t 99) 1)⟩,
                ⟨(some 17), none, .e (.alc 42 [i64 0, i64 0])⟩,
                ⟨none, none, .e (.st 7 (.t 11) (.t 103))⟩,
                ⟨none, none, .e (.st 2 (.t 17) (.t 104))⟩])
              (.seq
               (.reg [
                 ⟨(some 105), none, .p (.mov (.t 7))⟩,
                 ⟨(some 106), none, .p (.mov (.t 105))⟩,
                 ⟨(some 107), (some (106, true)), .p (.mov (.t 12))⟩,
                 ⟨(some 108), (some (106, true)), .p (.bin .eql (.i .i64) (.t 107) (.c (i64 0)))⟩,
                 ⟨(some 109), none, .p (.pick (.t 106) (.t 108) (.c (bl false)))⟩,
                 ⟨(some 110), none, .p (.mov (.t 109))⟩,
                 ⟨(some 111), (some (110, true)), .p (.ldn 2 (.t 17))⟩,
                 ⟨(some 112), (some (110, true)), .p (.bld [i64 0, i64 0] [])⟩,
                 ⟨(some 113), (some (110, true)), .p (.eqf false [.i .i64, .i .i64] (.t 111) (.t 112))⟩,
                 ⟨(some 114), none, .p (.pick (.t 110) (.t 113) (.c (bl false)))⟩,
                 ⟨(some 115), none, .p (.mov (.t 114))⟩,
                 ⟨(some 116), (some (115, true)), .p (.fa 0 (.t 11))⟩,
                 ⟨(some 117), (some (115, true)), .p (.ld1 (.t 116))⟩,
                 ⟨(some 118), (some (115, true)), .p (.mov (.t 9))⟩,
                 ⟨(some 119), (some (115, true)), .q (.c (.fn (.func 23) [] [])) [(.t 117), (.t 118)]⟩,
                 ⟨(some 120), none, .p (.pick (.t 115) (.t 119) (.c (bl false)))⟩,
                 ⟨(some 121), none, .p (.mov (.t 120))⟩,
                 ⟨(some 122), (some (121, true)), .p (.fa 6 (.t 11))⟩,
                 ⟨(some 123), (some (121, true)), .p (.ld1 (.t 122))⟩,
                 ⟨(some 124), (some (121, true)), .p (.bin .eql (.i .i64) (.t 123) (.c (i64 (-1))))⟩,
                 ⟨(some 125), none, .p (.pick (.t 121) (.t 124) (.c (bl false)))⟩,
                 ⟨(some 126), none, .p (.mov (.t 125))⟩,
                 ⟨(some 127), (some (126, true)), .p (.fa 3 (.t 11))⟩,
                 ⟨(some 128), (some (126, true)), .p (.ld1 (.t 127))⟩,
                 ⟨(some 129), (some (126, true)), .p (.bin .eql (.i .i64) (.t 128) (.c (i64 (-1))))⟩,
                 ⟨(some 130), none, .p (.pick (.t 126) (.t 129) (.c (bl false)))⟩,
                 ⟨(some 131), none, .p (.mov (.t 130))⟩,
                 ⟨(some 132), (some (131, true)), .p (.fa 5 (.t 11))⟩,
                 ⟨(some 133), (some (131, true)), .p (.ld1 (.t 132))⟩,
                 ⟨(some 134), (some (131, true)), .p (.mov (.t 13))⟩,
                 ⟨(some 135), (some (131, true)), .p (.bin .eql (.i .i64) (.t 133) (.t 134))⟩,
                 ⟨(some 136), none, .p (.pick (.t 131) (.t 135) (.c (bl false)))⟩,
                 ⟨(some 6), none, .p (.mov (.t 136))⟩])
               .ret)))))))))))))
def r7 : List RS := [.t 6]
theorem c7 : chkF Try.prog drawB Try.f7 i7 r7 = true := by kernel_rfl
/-- parlour/parlourlaw35.ClockLater -/
def i8 : IC :=
  (.seq
   (.reg [
     ⟨(some 6), none, .p (.mov (.c (bl false)))⟩])
   (.seq
    (.reg [
      ⟨(some 25), none, .e (.call (.c (.fn (.func 4) [] [])) [])⟩,
      ⟨(some 7), none, .p (.mov (.t 25))⟩])
    (.seq
     (.seq
      (.reg [
        ⟨(some 26), none, .p (.mov (.t 0))⟩,
        ⟨(some 27), none, .p (.len (.t 26))⟩,
        ⟨(some 28), none, .p (.bin .gtr (.i .i64) (.t 27) (.c (i64 20)))⟩])
      (.cond (.t 28)
       (.seq
        (.reg [
          ⟨(some 29), none, .p (.mov (.t 7))⟩,
          ⟨(some 6), none, .p (.mov (.t 29))⟩])
        .ret)
       .skip))
     (.seq
      (.reg [
        ⟨(some 31), none, .p (.mov (.t 0))⟩,
        ⟨(some 32), none, .e (.call (.c (.fn (.func 28) [] [])) [(.t 31)])⟩,
        ⟨(some 30), none, .p (.mov (.t 32))⟩,
        ⟨(some 33), none, .p (.ext (.t 30) 0)⟩,
        ⟨(some 34), none, .p (.ext (.t 30) 1)⟩,
        ⟨(some 8), none, .e (.alc 24 [.slc [] 0, i64 0, i64 0, i64 0, i64 0, i64 0, i64 0])⟩,
        ⟨none, none, .e (.st 7 (.t 8) (.t 33))⟩,
        ⟨(some 9), none, .p (.mov (.t 34))⟩])
      (.seq
       (.seq
        (.reg [
          ⟨(some 35), none, .p (.mov (.t 9))⟩,
          ⟨(some 36), none, .p (.not (.t 35))⟩])
        (.cond (.t 36)
         (.seq
          (.reg [
            ⟨(some 6), none, .p (.mov (.c (bl false)))⟩])
          .ret)
         .skip))
       (.seq
        (.reg [
          ⟨(some 37), none, .p (.mov (.t 1))⟩,
          ⟨(some 38), none, .e (.call (.c (.fn (.func 29) [] [])) [(.t 37), (.c (i64 8001))])⟩,
          ⟨(some 39), none, .p (.bin .add (.i .i64) (.c (i64 1000)) (.t 38))⟩,
          ⟨(some 40), none, .p (.mov (.t 2))⟩,
          ⟨(some 41), none, .e (.call (.c (.fn (.func 29) [] [])) [(.t 40), (.c (i64 1000000001))])⟩,
          ⟨(some 1), none, .p (.mov (.t 39))⟩,
          ⟨(some 2), none, .p (.mov (.t 41))⟩])
        (.seq
         (.reg [
           ⟨(some 42), none, .p (.ldn 7 (.t 8))⟩,
           ⟨(some 10), none, .e (.alc 24 [.slc [] 0, i64 0, i64 0, i64 0, i64 0, i64 0, i64 0])⟩,
           ⟨none, none, .e (.st 7 (.t 10) (.t 42))⟩])
         (.seq
          (.drw [0, 1, 2, 3, 4, 5, 6, 7, 8, 9, 10, 11] [
            ⟨(some 43), none, .p (.fa 4 (.t 8))⟩,
            ⟨(some 44), none, .p (.ld1 (.t 43))⟩,
            ⟨(some 45), none, .p (.mov (.t 2))⟩,
            ⟨(some 46), none, .p (.bin .add (.i .i64) (.t 44) (.t 45))⟩,
            ⟨(some 47), none, .p (.fa 5 (.t 8))⟩,
            ⟨(some 48), none, .p (.ld1 (.t 47))⟩,
            ⟨(some 49), none, .p (.mov (.t 2))⟩,
            ⟨(some 50), none, .p (.bin .add (.i .i64) (.t 48) (.t 49))⟩,
            ⟨(some 51), none, .p (.fa 4 (.t 10))⟩,
            ⟨none, none, .e (.st 1 (.t 51) (.t 46))⟩,
            ⟨(some 52), none, .p (.fa 5 (.t 10))⟩,
            ⟨none, none, .e (.st 1 (.t 52) (.t 50))⟩])
          (.seq
           (.reg [
             ⟨(some 54), none, .p (.ldn 7 (.t 8))⟩,
             ⟨(some 55), none, .p (.mov (.t 1))⟩,
             ⟨(some 56), none, .e (.call (.c (.fn (.func 19) [] [])) [(.t 54), (.t 55)])⟩,
             ⟨(some 53), none, .p (.mov (.t 56))⟩,
             ⟨(some 57), none, .p (.ext (.t 53) 0)⟩,
             ⟨(some 58), none, .p (.ext (.t 53) 1)⟩,
             ⟨(some 59), none, .p (.ext (.t 53) 2)⟩,
             ⟨(some 11), none, .p (.mov (.t 57))⟩,
             ⟨(some 12), none, .p (.mov (.t 58))⟩,
             ⟨(some 13), none, .p (.mov (.t 59))⟩])
           (.seq
            (.reg [
              ⟨(some 61), none, .p (.ldn 7 (.t 10))⟩,
              ⟨(some 62), none, .p (.mov (.t 1))⟩,
              ⟨(some 63), none, .p (.mov (.t 2))⟩,
              ⟨(some 64), none, .p (.bin .add (.i .i64) (.t 62) (.t 63))⟩,
              ⟨(some 65), none, .e (.call (.c (.fn (.func 19) [] [])) [(.t 61), (.t 64)])⟩,
              ⟨(some 60), none, .p (.mov (.t 65))⟩,
              ⟨(some 66), none, .p (.ext (.t 60) 0)⟩,
              ⟨(some 67), none, .p (.ext (.t 60) 1)⟩,
              ⟨(some 68), none, .p (.ext (.t 60) 2)⟩,
              ⟨(some 14), none, .p (.mov (.t 66))⟩,
              ⟨(some 15), none, .p (.mov (.t 67))⟩,
              ⟨(some 16), none, .p (.mov (.t 68))⟩])
            (.seq
             (.reg [
               ⟨(some 70), none, .p (.ldn 7 (.t 8))⟩,
               ⟨(some 71), none, .p (.mov (.t 1))⟩,
               ⟨(some 72), none, .e (.call (.c (.fn (.func 17) [] [])) [(.t 70), (.t 71)])⟩,
               ⟨(some 69), none, .p (.mov (.t 72))⟩,
               ⟨(some 73), none, .p (.ext (.t 69) 0)⟩,
               ⟨(some 74), none, .p (.ext (.t 69) 1)⟩,
               ⟨(some 17), none, .e (.alc 24 [.slc [] 0, i64 0, i64 0, i64 0, i64 0, i64 0, i64 0])⟩,
               ⟨none, none, .e (.st 7 (.t 17) (.t 73))⟩,
               ⟨(some 18), none, .p (.mov (.t 74))⟩])
             (.seq
              (.reg [
                ⟨(some 76), none, .p (.ldn 7 (.t 10))⟩,
                ⟨(some 77), none, .p (.mov (.t 1))⟩,
                ⟨(some 78), none, .p (.mov (.t 2))⟩,
                ⟨(some 79), none, .p (.bin .add (.i .i64) (.t 77) (.t 78))⟩,
                ⟨(some 80), none, .e (.call (.c (.fn (.func 17) [] [])) [(.t 76), (.t 79)])⟩,
                ⟨(some 75), none, .p (.mov (.t 80))⟩,
                ⟨(some 81), none, .p (.ext (.t 75) 0)⟩,
                ⟨(some 82), none, .p (.ext (.t 75) 1)⟩,
                ⟨(some 19), none, .e (.alc 24 [.slc [] 0, i64 0, i64 0, i64 0, i64 0, i64 0, i64 0])⟩,
                ⟨none, none, .e (.st 7 (.t 19) (.t 81))⟩,
                ⟨(some 20), none, .p (.mov (.t 82))⟩])
              (.seq
               (.reg [
                 ⟨(some 83), none, .p (.fa 5 (.t 17))⟩,
                 ⟨(some 84), none, .p (.ld1 (.t 83))⟩,
                 ⟨(some 85), none, .p (.mov (.t 2))⟩,
                 ⟨(some 86), none, .p (.bin .add (.i .i64) (.t 84) (.t 85))⟩,
                 ⟨(some 87), none, .p (.fa 5 (.t 17))⟩,
                 ⟨none, none, .e (.st 1 (.t 87) (.t 86))⟩])
               (.seq
                (.reg [
                  ⟨(some 89), none, .p (.ldn 7 (.t 8))⟩,
                  ⟨(some 90), none, .e (.call (.c (.fn (.func 21) [] [])) [(.t 89)])⟩,
                  ⟨(some 88), none, .p (.mov (.t 90))⟩,
                  ⟨(some 91), none, .p (.ext (.t 88) 0)⟩,
                  ⟨(some 92), none, .p (.ext (.t 88) 1)⟩,
                  ⟨(some 21), none, .p (.mov (.t 91))⟩,
                  ⟨(some 22), none, .p (.mov (.t 92))⟩])
                (.seq
                 (.reg [
                   ⟨(some 94), none, .p (.ldn 7 (.t 10))⟩,
                   ⟨(some 95), none, .e (.call (.c (.fn (.func 21) [] [])) [(.t 94)])⟩,
                   ⟨(some 93), none, .p (.mov (.t 95))⟩,
                   ⟨(some 96), none, .p (.ext (.t 93) 0)⟩,
                   ⟨(some 97), none, .p (.ext (.t 93) 1)⟩,
                   ⟨(some 23), none, .p (.mov (.t 96))⟩,
                   ⟨(some 24), none, .p (.mov (.t 97))⟩])
                 (.seq
                  (.reg [
                    ⟨(some 98), none, .p (.mov (.t 7))⟩,
                    ⟨(some 99), none, .p (.mov (.t 98))⟩,
                    ⟨(some 100), (some (99, true)), .p (.mov (.t 13))⟩,
                    ⟨(some 101), (some (99, true)), .p (.bin .eql (.i .i64) (.t 100) (.c (i64 0)))⟩,
                    ⟨(some 102), none, .p (.pick (.t 99) (.t 101) (.c (bl false)))⟩,
                    ⟨(some 103), none, .p (.mov (.t 102))⟩,
                    ⟨(some 104), (some (103, true)), .p (.mov (.t 16))⟩,
                    ⟨(some 105), (some (103, true)), .p (.bin .eql (.i .i64) (.t 104) (.c (i64 0)))⟩,
                    ⟨(some 106), none, .p (.pick (.t 103) (.t 105) (.c (bl false)))⟩,
                    ⟨(some 107), none, .p (.mov (.t 106))⟩,
                    ⟨(some 108), (some (107, true)), .p (.mov (.t 11))⟩,
                    ⟨(some 109), (some (107, true)), .p (.mov (.t 14))⟩,
                    ⟨(some 110), (some (107, true)), .q (.c (.fn (.func 23) [] [])) [(.t 108), (.t 109)]⟩,
                    ⟨(some 111), none, .p (.pick (.t 107) (.t 110) (.c (bl false)))⟩,
                    ⟨(some 112), none, .p (.mov (.t 111))⟩,
                    ⟨(some 113), (some (112, true)), .p (.mov (.t 12))⟩,
                    ⟨(some 114), (some (112, true)), .p (.mov (.t 15))⟩,
                    ⟨(some 115), (some (112, true)), .p (.bin .eql (.i .i64) (.t 113) (.t 114))⟩,
                    ⟨(some 116), none, .p (.pick (.t 112) (.t 115) (.c (bl false)))⟩,
                    ⟨(some 117), none, .p (.mov (.t 116))⟩,
                    ⟨(some 118), (some (117, true)), .p (.mov (.t 18))⟩,
                    ⟨(some 119), (some (117, true)), .p (.bin .eql (.i .i64) (.t 118) (.c (i64 0)))⟩,
                    ⟨(some 120), none, .p (.pick (.t 117) (.t 119) (.c (bl false)))⟩,
                    ⟨(some 121), none, .p (.mov (.t 120))⟩,
                    ⟨(some 122), (some (121, true)), .p (.mov (.t 20))⟩,
                    ⟨(some 123), (some (121, true)), .p (.bin .eql (.i .i64) (.t 122) (.c (i64 0)))⟩,
                    ⟨(some 124), none, .p (.pick (.t 121) (.t 123) (.c (bl false)))⟩,
                    ⟨(some 125), none, .p (.mov (.t 124))⟩,
                    ⟨(some 126), (some (125, true)), .p (.ldn 7 (.t 17))⟩,
                    ⟨(some 127), (some (125, true)), .p (.ldn 7 (.t 19))⟩,
                    ⟨(some 128), (some (125, true)), .q (.c (.fn (.func 12) [] [])) [(.t 126), (.t 127)]⟩,
                    ⟨(some 129), none, .p (.pick (.t 125) (.t 128) (.c (bl false)))⟩,
                    ⟨(some 130), none, .p (.mov (.t 129))⟩,
                    ⟨(some 131), (some (130, true)), .p (.mov (.t 22))⟩,
                    ⟨(some 132), (some (130, true)), .p (.bin .eql (.i .i64) (.t 131) (.c (i64 0)))⟩,
                    ⟨(some 133), none, .p (.pick (.t 130) (.t 132) (.c (bl false)))⟩,
                    ⟨(some 134), none, .p (.mov (.t 133))⟩,
                    ⟨(some 135), (some (134, true)), .p (.mov (.t 24))⟩,
                    ⟨(some 136), (some (134, true)), .p (.bin .eql (.i .i64) (.t 135) (.c (i64 0)))⟩,
                    ⟨(some 137), none, .p (.pick (.t 134) (.t 136) (.c (bl false)))⟩,
                    ⟨(some 138), none, .p (.mov (.t 137))⟩,
                    ⟨(some 139), (some (138, true)), .p (.mov (.t 23))⟩,
                    ⟨(some 140), (some (138, true)), .p (.mov (.t 21))⟩,
                    ⟨(some 141), (some (138, true)), .p (.mov (.t 2))⟩,
                    ⟨(some 142), (some (138, true)), .p (.bin .add (.i .i64) (.t 140) (.t 141))⟩,
                    ⟨(some 143), (some (138, true)), .p (.bin .eql (.i .i64) (.t 139) (.t 142))⟩,
                    ⟨(some 144), none, .p (.pick (.t 138) (.t 143) (.c (bl false)))⟩,
                    ⟨(some 6), none, .p (.mov (.t 144))⟩])
                  .ret))))))))))))))))
def r8 : List RS := [.t 6]
theorem c8 : chkF Try.prog drawB Try.f8 i8 r8 = true := by kernel_rfl
/-- parlour/parlourlaw35.awake -/
def i9 : IC :=
  (.seq
   (.reg [
     ⟨(some 0), none, .p (.mov (.c (bl false)))⟩])
   (.seq
    (.reg [
      ⟨(some 8), none, .e (.bsl 3 1 2 [i64 0] [(0, (.c (i64 1000))), (1, (.c (i64 2000)))])⟩,
      ⟨(some 9), none, .e (.call (.c (.fn (.func 10) [] [])) [(.t 8), (.c (i64 100)), (.c (i64 50))])⟩,
      ⟨(some 7), none, .p (.mov (.t 9))⟩,
      ⟨(some 10), none, .p (.ext (.t 7) 0)⟩,
      ⟨(some 11), none, .p (.ext (.t 7) 1)⟩,
      ⟨(some 1), none, .e (.alc 24 [.slc [] 0, i64 0, i64 0, i64 0, i64 0, i64 0, i64 0])⟩,
      ⟨none, none, .e (.st 7 (.t 1) (.t 10))⟩,
      ⟨(some 2), none, .p (.mov (.t 11))⟩])
    (.seq
     (.reg [
       ⟨(some 13), none, .e (.call (.c (.fn (.func 24) [] [])) [])⟩,
       ⟨(some 14), none, .e (.call (.c (.fn (.func 15) [] [])) [(.t 13), (.c (i64 0)), (.c (i64 10))])⟩,
       ⟨(some 12), none, .p (.mov (.t 14))⟩,
       ⟨(some 15), none, .p (.ext (.t 12) 0)⟩,
       ⟨(some 16), none, .p (.ext (.t 12) 1)⟩,
       ⟨(some 3), none, .e (.alc 24 [.slc [] 0, i64 0, i64 0, i64 0, i64 0, i64 0, i64 0])⟩,
       ⟨none, none, .e (.st 7 (.t 3) (.t 15))⟩,
       ⟨(some 4), none, .p (.mov (.t 16))⟩])
     (.seq
      (.reg [
        ⟨(some 18), none, .p (.ldn 7 (.t 3))⟩,
        ⟨(some 19), none, .e (.call (.c (.fn (.func 21) [] [])) [(.t 18)])⟩,
        ⟨(some 17), none, .p (.mov (.t 19))⟩,
        ⟨(some 20), none, .p (.ext (.t 17) 0)⟩,
        ⟨(some 21), none, .p (.ext (.t 17) 1)⟩,
        ⟨(some 5), none, .p (.mov (.t 20))⟩,
        ⟨(some 6), none, .p (.mov (.t 21))⟩])
      (.seq
       (.drw [0, 1, 2, 3, 4, 5, 6, 7, 8, 9, 10, 11, 12, 13, 14, 15, 16, 17, 18, 19, 20, 21, 22, 23, 24, 25, 26, 27, 28, 29, 30, 31, 32, 33] [
         ⟨(some 22), none, .p (.mov (.t 2))⟩,
         ⟨(some 23), none, .p (.bin .eql (.i .i64) (.t 22) (.c (i64 0)))⟩,
         ⟨(some 24), none, .p (.mov (.t 23))⟩,
         ⟨(some 25), (some (24, true)), .p (.ldn 7 (.t 1))⟩,
         ⟨(some 26), (some (24, true)), .q (.c (.fn (.func 24) [] [])) []⟩,
         ⟨(some 27), (some (24, true)), .q (.c (.fn (.func 12) [] [])) [(.t 25), (.t 26)]⟩,
         ⟨(some 28), none, .p (.pick (.t 24) (.t 27) (.c (bl false)))⟩,
         ⟨(some 29), none, .p (.mov (.t 28))⟩,
         ⟨(some 30), (some (29, true)), .p (.mov (.t 4))⟩,
         ⟨(some 31), (some (29, true)), .p (.bin .eql (.i .i64) (.t 30) (.c (i64 0)))⟩,
         ⟨(some 32), none, .p (.pick (.t 29) (.t 31) (.c (bl false)))⟩,
         ⟨(some 33), none, .p (.mov (.t 32))⟩,
         ⟨(some 34), (some (33, true)), .p (.fa 3 (.t 3))⟩,
         ⟨(some 35), (some (33, true)), .p (.ld1 (.t 34))⟩,
         ⟨(some 36), (some (33, true)), .p (.bin .eql (.i .i64) (.t 35) (.c (i64 0)))⟩,
         ⟨(some 37), none, .p (.pick (.t 33) (.t 36) (.c (bl false)))⟩,
         ⟨(some 38), none, .p (.mov (.t 37))⟩,
         ⟨(some 39), (some (38, true)), .p (.fa 4 (.t 3))⟩,
         ⟨(some 40), (some (38, true)), .p (.ld1 (.t 39))⟩,
         ⟨(some 41), (some (38, true)), .p (.bin .eql (.i .i64) (.t 40) (.c (i64 10)))⟩,
         ⟨(some 42), none, .p (.pick (.t 38) (.t 41) (.c (bl false)))⟩,
         ⟨(some 43), none, .p (.mov (.t 42))⟩,
         ⟨(some 44), (some (43, true)), .p (.mov (.t 6))⟩,
         ⟨(some 45), (some (43, true)), .p (.bin .eql (.i .i64) (.t 44) (.c (i64 0)))⟩,
         ⟨(some 46), none, .p (.pick (.t 43) (.t 45) (.c (bl false)))⟩,
         ⟨(some 47), none, .p (.mov (.t 46))⟩,
         ⟨(some 48), (some (47, true)), .p (.mov (.t 5))⟩,
         ⟨(some 49), (some (47, true)), .p (.bin .eql (.i .i64) (.t 48) (.c (i64 1061)))⟩,
         ⟨(some 50), none, .p (.pick (.t 47) (.t 49) (.c (bl false)))⟩,
         ⟨(some 51), none, .p (.mov (.t 50))⟩,
         ⟨(some 52), (some (51, true)), .p (.ldn 7 (.t 3))⟩,
         ⟨(some 53), (some (51, true)), .q (.c (.fn (.func 25) [] [])) [(.t 52), (.c (i64 61)), (.c (i64 999)), (.c (i64 2000)), (.c (i64 (-1)))]⟩,
         ⟨(some 54), none, .p (.pick (.t 51) (.t 53) (.c (bl false)))⟩,
         ⟨(some 0), none, .p (.mov (.t 54))⟩])
       .ret)))))
def r9 : List RS := [.t 0]
theorem c9 : chkF Try.prog drawB Try.f9 i9 r9 = true := by kernel_rfl
/-- parlour/clock.New -/
def i10 : IC :=
  (.seq
   (.reg [
     ⟨(some 6), none, .e (.alc 24 [.slc [] 0, i64 0, i64 0, i64 0, i64 0, i64 0, i64 0])⟩,
     ⟨(some 7), none, .p (.mov (.c (i64 0)))⟩])
   (.seq
    (.reg [
      ⟨(some 9), none, .p (.mov (.t 0))⟩,
      ⟨(some 10), none, .p (.mov (.t 1))⟩,
      ⟨(some 11), none, .p (.mov (.t 2))⟩,
      ⟨(some 12), none, .p (.bld [.slc [] 0, i64 0, i64 0, i64 0, i64 0, i64 0, i64 0] [(0, 1, (.t 9)), (1, 1, (.t 10)), (2, 1, (.t 11)), (3, 1, (.c (i64 (-1)))), (6, 1, (.c (i64 (-1))))])⟩,
      ⟨(some 8), none, .e (.alc 24 [.slc [] 0, i64 0, i64 0, i64 0, i64 0, i64 0, i64 0])⟩,
      ⟨none, none, .e (.st 7 (.t 8) (.t 12))⟩])
    (.seq
     (.seq
      (.reg [
        ⟨(some 13), none, .p (.ldn 7 (.t 8))⟩,
        ⟨(some 14), none, .e (.call (.c (.fn (.func 13) [] [])) [(.t 13)])⟩,
        ⟨(some 15), none, .p (.bin .neq (.i .i64) (.t 14) (.c (i64 0)))⟩])
      (.cond (.t 15)
       (.seq
        (.reg [
          ⟨(some 16), none, .p (.bld [.slc [] 0, i64 0, i64 0, i64 0, i64 0, i64 0, i64 0] [])⟩,
          ⟨none, none, .e (.st 7 (.t 6) (.t 16))⟩,
          ⟨(some 7), none, .p (.mov (.c (i64 2)))⟩])
        .ret)
       .skip))
     (.seq
      (.reg [
        ⟨(some 17), none, .p (.ldn 7 (.t 8))⟩,
        ⟨(some 18), none, .e (.call (.c (.fn (.func 31) [] [])) [(.t 17)])⟩,
        ⟨none, none, .e (.st 7 (.t 6) (.t 18))⟩,
        ⟨(some 7), none, .p (.mov (.c (i64 0)))⟩])
      .ret))))
def r10 : List RS := [.cn 6 7, .t 7]
theorem c10 : chkF Try.prog drawB Try.f10 i10 r10 = true := by kernel_rfl
/-- parlour/parlourref35.New -/
def i11 : IC :=
  (.seq
   (.reg [
     ⟨(some 6), none, .e (.alc 24 [.slc [] 0, i64 0, i64 0, i64 0, i64 0, i64 0, i64 0])⟩,
     ⟨(some 7), none, .p (.mov (.c (i64 0)))⟩])
   (.seq
    (.reg [
      ⟨(some 9), none, .p (.mov (.t 0))⟩,
      ⟨(some 10), none, .p (.mov (.t 1))⟩,
      ⟨(some 11), none, .p (.mov (.t 2))⟩,
      ⟨(some 12), none, .p (.bld [.slc [] 0, i64 0, i64 0, i64 0, i64 0, i64 0, i64 0] [(0, 1, (.t 9)), (1, 1, (.t 10)), (2, 1, (.t 11)), (3, 1, (.c (i64 (-1)))), (6, 1, (.c (i64 (-1))))])⟩,
      ⟨(some 13), none, .e (.call (.c (.fn (.func 32) [] [])) [(.t 12)])⟩,
      ⟨(some 8), none, .e (.alc 24 [.slc [] 0, i64 0, i64 0, i64 0, i64 0, i64 0, i64 0])⟩,
      ⟨none, none, .e (.st 7 (.t 8) (.t 13))⟩])
    (.seq
     (.seq
      (.reg [
        ⟨(some 14), none, .p (.ldn 7 (.t 8))⟩,
        ⟨(some 15), none, .e (.call (.c (.fn (.func 14) [] [])) [(.t 14)])⟩,
        ⟨(some 16), none, .p (.bin .neq (.i .i64) (.t 15) (.c (i64 0)))⟩])
      (.cond (.t 16)
       (.seq
        (.reg [
          ⟨(some 17), none, .p (.bld [.slc [] 0, i64 0, i64 0, i64 0, i64 0, i64 0, i64 0] [])⟩,
          ⟨none, none, .e (.st 7 (.t 6) (.t 17))⟩,
          ⟨(some 7), none, .p (.mov (.c (i64 2)))⟩])
        .ret)
       .skip))
     (.seq
      (.reg [
        ⟨(some 18), none, .p (.ldn 7 (.t 8))⟩,
        ⟨none, none, .e (.st 7 (.t 6) (.t 18))⟩,
        ⟨(some 7), none, .p (.mov (.c (i64 0)))⟩])
      .ret))))
def r11 : List RS := [.cn 6 7, .t 7]
theorem c11 : chkF Try.prog drawB Try.f11 i11 r11 = true := by kernel_rfl
/-- parlour/parlourlaw35.alike -/
def i12 : IC :=
  (.seq
   (.reg [
     ⟨(some 2), none, .e (.box 24 (.t 0))⟩,
     ⟨(some 3), none, .e (.box 24 (.t 1))⟩,
     ⟨(some 4), none, .p (.mov (.c (bl false)))⟩])
   (.seq
    (.reg [
      ⟨(some 5), none, .p (.fa 0 (.t 2))⟩,
      ⟨(some 6), none, .p (.ld1 (.t 5))⟩,
      ⟨(some 7), none, .p (.fa 0 (.t 3))⟩,
      ⟨(some 8), none, .p (.ld1 (.t 7))⟩,
      ⟨(some 9), none, .e (.call (.c (.fn (.func 23) [] [])) [(.t 6), (.t 8)])⟩,
      ⟨(some 10), none, .p (.mov (.t 9))⟩,
      ⟨(some 11), (some (10, true)), .p (.fa 1 (.t 2))⟩,
      ⟨(some 12), (some (10, true)), .p (.ld1 (.t 11))⟩,
      ⟨(some 13), (some (10, true)), .p (.fa 1 (.t 3))⟩,
      ⟨(some 14), (some (10, true)), .p (.ld1 (.t 13))⟩,
      ⟨(some 15), (some (10, true)), .p (.bin .eql (.i .i64) (.t 12) (.t 14))⟩,
      ⟨(some 16), none, .p (.pick (.t 10) (.t 15) (.c (bl false)))⟩,
      ⟨(some 17), none, .p (.mov (.t 16))⟩,
      ⟨(some 18), (some (17, true)), .p (.fa 2 (.t 2))⟩,
      ⟨(some 19), (some (17, true)), .p (.ld1 (.t 18))⟩,
      ⟨(some 20), (some (17, true)), .p (.fa 2 (.t 3))⟩,
      ⟨(some 21), (some (17, true)), .p (.ld1 (.t 20))⟩,
      ⟨(some 22), (some (17, true)), .p (.bin .eql (.i .i64) (.t 19) (.t 21))⟩,
      ⟨(some 23), none, .p (.pick (.t 17) (.t 22) (.c (bl false)))⟩,
      ⟨(some 24), none, .p (.mov (.t 23))⟩,
      ⟨(some 25), (some (24, true)), .p (.fa 3 (.t 2))⟩,
      ⟨(some 26), (some (24, true)), .p (.ld1 (.t 25))⟩,
      ⟨(some 27), (some (24, true)), .p (.fa 3 (.t 3))⟩,
      ⟨(some 28), (some (24, true)), .p (.ld1 (.t 27))⟩,
      ⟨(some 29), (some (24, true)), .p (.bin .eql (.i .i64) (.t 26) (.t 28))⟩,
      ⟨(some 30), none, .p (.pick (.t 24) (.t 29) (.c (bl false)))⟩,
      ⟨(some 31), none, .p (.mov (.t 30))⟩,
      ⟨(some 32), (some (31, true)), .p (.fa 4 (.t 2))⟩,
      ⟨(some 33), (some (31, true)), .p (.ld1 (.t 32))⟩,
      ⟨(some 34), (some (31, true)), .p (.fa 4 (.t 3))⟩,
      ⟨(some 35), (some (31, true)), .p (.ld1 (.t 34))⟩,
      ⟨(some 36), (some (31, true)), .p (.bin .eql (.i .i64) (.t 33) (.t 35))⟩,
      ⟨(some 37), none, .p (.pick (.t 31) (.t 36) (.c (bl false)))⟩,
      ⟨(some 38), none, .p (.mov (.t 37))⟩,
      ⟨(some 39), (some (38, true)), .p (.fa 5 (.t 2))⟩,
      ⟨(some 40), (some (38, true)), .p (.ld1 (.t 39))⟩,
      ⟨(some 41), (some (38, true)), .p (.fa 5 (.t 3))⟩,
      ⟨(some 42), (some (38, true)), .p (.ld1 (.t 41))⟩,
      ⟨(some 43), (some (38, true)), .p (.bin .eql (.i .i64) (.t 40) (.t 42))⟩,
      ⟨(some 44), none, .p (.pick (.t 38) (.t 43) (.c (bl false)))⟩,
      ⟨(some 45), none, .p (.mov (.t 44))⟩,
      ⟨(some 46), (some (45, true)), .p (.fa 6 (.t 2))⟩,
      ⟨(some 47), (some (45, true)), .p (.ld1 (.t 46))⟩,
      ⟨(some 48), (some (45, true)), .p (.fa 6 (.t 3))⟩,
      ⟨(some 49), (some (45, true)), .p (.ld1 (.t 48))⟩,
      ⟨(some 50), (some (45, true)), .p (.bin .eql (.i .i64) (.t 47) (.t 49))⟩,
      ⟨(some 51), none, .p (.pick (.t 45) (.t 50) (.c (bl false)))⟩,
      ⟨(some 4), none, .p (.mov (.t 51))⟩])
    .ret))
def r12 : List RS := [.t 4]
theorem c12 : chkF Try.prog drawB Try.f12 i12 r12 = true := by kernel_rfl
def l13_0 : IC := .keep [1, 5, 6, 7]
  (.seq
   (.reg [
     ⟨(some 8), none, .p (.bin .lss (.i .i64) (.t 7) (.t 6))⟩])
   (.seq
    (.cond (.t 8)
     .skip
     (.exit 0))
    (.seq
     (.blk 1
      (.seq
       (.reg [
         ⟨(some 9), none, .p (.ia 1 (.t 5) (.t 7))⟩,
         ⟨(some 10), none, .p (.ldn 1 (.t 9))⟩,
         ⟨(some 4), none, .e (.alc 64 [.val .nilFunc])⟩,
         ⟨none, none, .e (.st 1 (.t 4) (.t 10))⟩])
       (.seq
        (.reg [
          ⟨(some 11), none, .p (.fa 0 (.t 4))⟩,
          ⟨(some 12), none, .p (.ld1 (.t 11))⟩,
          ⟨(some 13), none, .p (.ldn 7 (.t 1))⟩,
          ⟨(some 14), none, .e (.call (.t 12) [(.t 13)])⟩,
          ⟨(some 15), none, .p (.not (.t 14))⟩])
        (.cond (.t 15)
         (.seq
          (.reg [
            ⟨(some 2), none, .p (.mov (.c (i64 13)))⟩])
          .ret)
         .skip))))
     (.reg [
       ⟨(some 16), none, .p (.bin .add (.i .i64) (.t 7) (.c (i64 1)))⟩,
       ⟨(some 7), none, .p (.mov (.t 16))⟩]))))
/-- parlour/clock.Check -/
def i13 : IC :=
  (.seq
   (.reg [
     ⟨(some 1), none, .e (.box 24 (.t 0))⟩,
     ⟨(some 2), none, .p (.mov (.c (i64 0)))⟩])
   (.seq
    (.seq
     (.reg [
       ⟨(some 5), none, .e (.call (.c (.fn (.func 33) [] [])) [])⟩,
       ⟨(some 6), none, .p (.len (.t 5))⟩,
       ⟨(some 7), none, .p (.mov (.c (i64 0)))⟩])
     (.blk 0
      (.loop l13_0)))
    (.seq
     (.reg [
       ⟨(some 2), none, .p (.mov (.c (i64 0)))⟩])
     .ret)))
def r13 : List RS := [.t 2]
theorem c13 : chkF Try.prog drawB Try.f13 i13 r13 = true := by kernel_rfl
def l14_0 : IC := .keep [1, 3, 4]
  (.seq
   (.seq
    (.reg [
      ⟨(some 93), none, .p (.mov (.t 4))⟩,
      ⟨(some 94), none, .p (.mov (.t 3))⟩,
      ⟨(some 95), none, .p (.bin .lss (.i .i64) (.t 93) (.t 94))⟩])
    (.cond (.t 95)
     .skip
     (.exit 0)))
   (.seq
    (.blk 1
     (.seq
      (.reg [
        ⟨(some 98), none, .p (.fa 0 (.t 1))⟩,
        ⟨(some 99), none, .p (.ld1 (.t 98))⟩,
        ⟨(some 100), none, .p (.mov (.t 4))⟩,
        ⟨(some 101), none, .p (.ia 1 (.t 99) (.t 100))⟩,
        ⟨(some 102), none, .p (.ld1 (.t 101))⟩,
        ⟨(some 103), none, .p (.bin .lss (.i .i64) (.t 102) (.c (i64 0)))⟩,
        ⟨(some 104), none, .p (.mov (.t 103))⟩,
        ⟨(some 105), (some (104, false)), .p (.fa 0 (.t 1))⟩,
        ⟨(some 106), (some (104, false)), .p (.ld1 (.t 105))⟩,
        ⟨(some 107), (some (104, false)), .p (.mov (.t 4))⟩,
        ⟨(some 108), (some (104, false)), .p (.ia 1 (.t 106) (.t 107))⟩,
        ⟨(some 109), (some (104, false)), .p (.ld1 (.t 108))⟩,
        ⟨(some 110), (some (104, false)), .p (.bin .gtr (.i .i64) (.t 109) (.c (i64 1000000000)))⟩,
        ⟨(some 111), none, .p (.pick (.t 104) (.c (bl true)) (.t 110))⟩])
      (.cond (.t 111)
       (.seq
        (.reg [
          ⟨(some 2), none, .p (.mov (.c (i64 13)))⟩])
        .ret)
       .skip)))
    (.reg [
      ⟨(some 96), none, .p (.mov (.t 4))⟩,
      ⟨(some 97), none, .p (.bin .add (.i .i64) (.t 96) (.c (i64 1)))⟩,
      ⟨(some 4), none, .p (.mov (.t 97))⟩])))
/-- parlour/parlourref35.Check -/
def i14 : IC :=
  (.seq
   (.reg [
     ⟨(some 1), none, .e (.box 24 (.t 0))⟩,
     ⟨(some 2), none, .p (.mov (.c (i64 0)))⟩])
   (.seq
    (.reg [
      ⟨(some 5), none, .p (.fa 0 (.t 1))⟩,
      ⟨(some 6), none, .p (.ld1 (.t 5))⟩,
      ⟨(some 7), none, .p (.len (.t 6))⟩,
      ⟨(some 3), none, .p (.mov (.t 7))⟩])
    (.seq
     (.seq
      (.reg [
        ⟨(some 8), none, .p (.mov (.t 3))⟩,
        ⟨(some 9), none, .p (.bin .lss (.i .i64) (.t 8) (.c (i64 1)))⟩,
        ⟨(some 10), none, .p (.mov (.t 9))⟩,
        ⟨(some 11), (some (10, false)), .p (.mov (.t 3))⟩,
        ⟨(some 12), (some (10, false)), .p (.bin .gtr (.i .i64) (.t 11) (.c (i64 4)))⟩,
        ⟨(some 13), none, .p (.pick (.t 10) (.c (bl true)) (.t 12))⟩,
        ⟨(some 14), none, .p (.mov (.t 13))⟩,
        ⟨(some 15), (some (14, false)), .p (.fa 1 (.t 1))⟩,
        ⟨(some 16), (some (14, false)), .p (.ld1 (.t 15))⟩,
        ⟨(some 17), (some (14, false)), .p (.bin .lss (.i .i64) (.t 16) (.c (i64 0)))⟩,
        ⟨(some 18), none, .p (.pick (.t 14) (.c (bl true)) (.t 17))⟩,
        ⟨(some 19), none, .p (.mov (.t 18))⟩,
        ⟨(some 20), (some (19, false)), .p (.fa 1 (.t 1))⟩,
        ⟨(some 21), (some (19, false)), .p (.ld1 (.t 20))⟩,
        ⟨(some 22), (some (19, false)), .p (.bin .gtr (.i .i64) (.t 21) (.c (i64 10000000)))⟩,
        ⟨(some 23), none, .p (.pick (.t 19) (.c (bl true)) (.t 22))⟩,
        ⟨(some 24), none, .p (.mov (.t 23))⟩,
        ⟨(some 25), (some (24, false)), .p (.fa 2 (.t 1))⟩,
        ⟨(some 26), (some (24, false)), .p (.ld1 (.t 25))⟩,
        ⟨(some 27), (some (24, false)), .p (.bin .lss (.i .i64) (.t 26) (.c (i64 0)))⟩,
        ⟨(some 28), none, .p (.pick (.t 24) (.c (bl true)) (.t 27))⟩,
        ⟨(some 29), none, .p (.mov (.t 28))⟩,
        ⟨(some 30), (some (29, false)), .p (.fa 2 (.t 1))⟩,
        ⟨(some 31), (some (29, false)), .p (.ld1 (.t 30))⟩,
        ⟨(some 32), (some (29, false)), .p (.bin .gtr (.i .i64) (.t 31) (.c (i64 10000000)))⟩,
        ⟨(some 33), none, .p (.pick (.t 29) (.c (bl true)) (.t 32))⟩,
        ⟨(some 34), none, .p (.mov (.t 33))⟩,
        ⟨(some 35), (some (34, false)), .p (.fa 4 (.t 1))⟩,
        ⟨(some 36), (some (34, false)), .p (.ld1 (.t 35))⟩,
        ⟨(some 37), (some (34, false)), .p (.bin .lss (.i .i64) (.t 36) (.c (i64 0)))⟩,
        ⟨(some 38), none, .p (.pick (.t 34) (.c (bl true)) (.t 37))⟩,
        ⟨(some 39), none, .p (.mov (.t 38))⟩,
        ⟨(some 40), (some (39, false)), .p (.fa 4 (.t 1))⟩,
        ⟨(some 41), (some (39, false)), .p (.ld1 (.t 40))⟩,
        ⟨(some 42), (some (39, false)), .p (.fa 5 (.t 1))⟩,
        ⟨(some 43), (some (39, false)), .p (.ld1 (.t 42))⟩,
        ⟨(some 44), (some (39, false)), .p (.bin .gtr (.i .i64) (.t 41) (.t 43))⟩,
        ⟨(some 45), none, .p (.pick (.t 39) (.c (bl true)) (.t 44))⟩,
        ⟨(some 46), none, .p (.mov (.t 45))⟩,
        ⟨(some 47), (some (46, false)), .p (.fa 5 (.t 1))⟩,
        ⟨(some 48), (some (46, false)), .p (.ld1 (.t 47))⟩,
        ⟨(some 49), (some (46, false)), .p (.bin .gtr (.i .i64) (.t 48) (.c (i64 1000000000000)))⟩,
        ⟨(some 50), none, .p (.pick (.t 46) (.c (bl true)) (.t 49))⟩,
        ⟨(some 51), none, .p (.mov (.t 50))⟩,
        ⟨(some 52), (some (51, false)), .p (.fa 3 (.t 1))⟩,
        ⟨(some 53), (some (51, false)), .p (.ld1 (.t 52))⟩,
        ⟨(some 54), (some (51, false)), .p (.bin .lss (.i .i64) (.t 53) (.c (i64 (-1))))⟩,
        ⟨(some 55), none, .p (.pick (.t 51) (.c (bl true)) (.t 54))⟩,
        ⟨(some 56), none, .p (.mov (.t 55))⟩,
        ⟨(some 57), (some (56, false)), .p (.fa 3 (.t 1))⟩,
        ⟨(some 58), (some (56, false)), .p (.ld1 (.t 57))⟩,
        ⟨(some 59), (some (56, false)), .p (.mov (.t 3))⟩,
        ⟨(some 60), (some (56, false)), .p (.bin .geq (.i .i64) (.t 58) (.t 59))⟩,
        ⟨(some 61), none, .p (.pick (.t 56) (.c (bl true)) (.t 60))⟩,
        ⟨(some 62), none, .p (.mov (.t 61))⟩,
        ⟨(some 63), (some (62, false)), .p (.fa 6 (.t 1))⟩,
        ⟨(some 64), (some (62, false)), .p (.ld1 (.t 63))⟩,
        ⟨(some 65), (some (62, false)), .p (.bin .lss (.i .i64) (.t 64) (.c (i64 (-1))))⟩,
        ⟨(some 66), none, .p (.pick (.t 62) (.c (bl true)) (.t 65))⟩,
        ⟨(some 67), none, .p (.mov (.t 66))⟩,
        ⟨(some 68), (some (67, false)), .p (.fa 6 (.t 1))⟩,
        ⟨(some 69), (some (67, false)), .p (.ld1 (.t 68))⟩,
        ⟨(some 70), (some (67, false)), .p (.mov (.t 3))⟩,
        ⟨(some 71), (some (67, false)), .p (.bin .geq (.i .i64) (.t 69) (.t 70))⟩,
        ⟨(some 72), none, .p (.pick (.t 67) (.c (bl true)) (.t 71))⟩,
        ⟨(some 73), none, .p (.mov (.t 72))⟩,
        ⟨(some 74), (some (73, false)), .p (.fa 3 (.t 1))⟩,
        ⟨(some 75), (some (73, false)), .p (.ld1 (.t 74))⟩,
        ⟨(some 76), (some (73, false)), .p (.bin .geq (.i .i64) (.t 75) (.c (i64 0)))⟩,
        ⟨(some 77), (some (73, false)), .p (.mov (.t 76))⟩,
        ⟨(some 78), (some (77, true)), .p (.fa 6 (.t 1))⟩,
        ⟨(some 79), (some (77, true)), .p (.ld1 (.t 78))⟩,
        ⟨(some 80), (some (77, true)), .p (.bin .geq (.i .i64) (.t 79) (.c (i64 0)))⟩,
        ⟨(some 81), (some (73, false)), .p (.pick (.t 77) (.t 80) (.c (bl false)))⟩,
        ⟨(some 82), none, .p (.pick (.t 73) (.c (bl true)) (.t 81))⟩,
        ⟨(some 83), none, .p (.mov (.t 82))⟩,
        ⟨(some 84), (some (83, false)), .p (.fa 3 (.t 1))⟩,
        ⟨(some 85), (some (83, false)), .p (.ld1 (.t 84))⟩,
        ⟨(some 86), (some (83, false)), .p (.bin .lss (.i .i64) (.t 85) (.c (i64 0)))⟩,
        ⟨(some 87), (some (83, false)), .p (.mov (.t 86))⟩,
        ⟨(some 88), (some (87, true)), .p (.fa 4 (.t 1))⟩,
        ⟨(some 89), (some (87, true)), .p (.ld1 (.t 88))⟩,
        ⟨(some 90), (some (87, true)), .p (.bin .neq (.i .i64) (.t 89) (.c (i64 0)))⟩,
        ⟨(some 91), (some (83, false)), .p (.pick (.t 87) (.t 90) (.c (bl false)))⟩,
        ⟨(some 92), none, .p (.pick (.t 83) (.c (bl true)) (.t 91))⟩])
      (.cond (.t 92)
       (.seq
        (.reg [
          ⟨(some 2), none, .p (.mov (.c (i64 13)))⟩])
        .ret)
       .skip))
     (.seq
      (.seq
       (.reg [
         ⟨(some 4), none, .p (.mov (.c (i64 0)))⟩])
       (.blk 0
        (.loop l14_0)))
      (.seq
       (.seq
        (.reg [
          ⟨(some 112), none, .p (.fa 6 (.t 1))⟩,
          ⟨(some 113), none, .p (.ld1 (.t 112))⟩,
          ⟨(some 114), none, .p (.bin .geq (.i .i64) (.t 113) (.c (i64 0)))⟩,
          ⟨(some 115), none, .p (.mov (.t 114))⟩,
          ⟨(some 116), (some (115, true)), .p (.fa 0 (.t 1))⟩,
          ⟨(some 117), (some (115, true)), .p (.ld1 (.t 116))⟩,
          ⟨(some 118), (some (115, true)), .p (.fa 6 (.t 1))⟩,
          ⟨(some 119), (some (115, true)), .p (.ld1 (.t 118))⟩,
          ⟨(some 120), (some (115, true)), .p (.ia 1 (.t 117) (.t 119))⟩,
          ⟨(some 121), (some (115, true)), .p (.ld1 (.t 120))⟩,
          ⟨(some 122), (some (115, true)), .p (.bin .neq (.i .i64) (.t 121) (.c (i64 0)))⟩,
          ⟨(some 123), none, .p (.pick (.t 115) (.t 122) (.c (bl false)))⟩])
        (.cond (.t 123)
         (.seq
          (.reg [
            ⟨(some 2), none, .p (.mov (.c (i64 13)))⟩])
          .ret)
         .skip))
       (.seq
        (.reg [
          ⟨(some 2), none, .p (.mov (.c (i64 0)))⟩])
        .ret))))))
def r14 : List RS := [.t 2]
theorem c14 : chkF Try.prog drawB Try.f14 i14 r14 = true := by kernel_rfl
/-- parlour/clock.Start -/
def i15 : IC :=
  (.seq
   (.reg [
     ⟨(some 3), none, .e (.box 24 (.t 0))⟩,
     ⟨(some 6), none, .e (.alc 24 [.slc [] 0, i64 0, i64 0, i64 0, i64 0, i64 0, i64 0])⟩,
     ⟨(some 7), none, .p (.mov (.c (i64 0)))⟩])
   (.seq
    (.seq
     (.reg [
       ⟨(some 11), none, .p (.ldn 7 (.t 3))⟩,
       ⟨(some 12), none, .p (.mov (.t 2))⟩,
       ⟨(some 13), none, .e (.call (.c (.fn (.func 34) [] [])) [(.t 11), (.t 12)])⟩,
       ⟨(some 8), none, .p (.mov (.t 13))⟩])
     (.seq
      (.reg [
        ⟨(some 14), none, .p (.mov (.t 8))⟩,
        ⟨(some 15), none, .p (.bin .neq (.i .i64) (.t 14) (.c (i64 0)))⟩])
      (.cond (.t 15)
       (.seq
        (.reg [
          ⟨(some 16), none, .p (.bld [.slc [] 0, i64 0, i64 0, i64 0, i64 0, i64 0, i64 0] [])⟩,
          ⟨(some 17), none, .p (.mov (.t 8))⟩,
          ⟨none, none, .e (.st 7 (.t 6) (.t 16))⟩,
          ⟨(some 7), none, .p (.mov (.t 17))⟩])
        .ret)
       .skip)))
    (.seq
     (.seq
      (.reg [
        ⟨(some 18), none, .p (.ldn 7 (.t 3))⟩,
        ⟨(some 19), none, .e (.call (.c (.fn (.func 35) [] [])) [(.t 18), (.c (bl false))])⟩,
        ⟨(some 9), none, .p (.mov (.t 19))⟩])
      (.seq
       (.reg [
         ⟨(some 20), none, .p (.mov (.t 9))⟩,
         ⟨(some 21), none, .p (.bin .neq (.i .i64) (.t 20) (.c (i64 0)))⟩])
       (.cond (.t 21)
        (.seq
         (.reg [
           ⟨(some 22), none, .p (.bld [.slc [] 0, i64 0, i64 0, i64 0, i64 0, i64 0, i64 0] [])⟩,
           ⟨(some 23), none, .p (.mov (.t 9))⟩,
           ⟨none, none, .e (.st 7 (.t 6) (.t 22))⟩,
           ⟨(some 7), none, .p (.mov (.t 23))⟩])
         .ret)
        .skip)))
     (.seq
      (.seq
       (.reg [
         ⟨(some 24), none, .p (.fa 0 (.t 3))⟩,
         ⟨(some 25), none, .p (.ld1 (.t 24))⟩,
         ⟨(some 26), none, .p (.len (.t 25))⟩,
         ⟨(some 27), none, .p (.bin .sub (.i .i64) (.t 26) (.c (i64 1)))⟩,
         ⟨(some 28), none, .p (.mov (.t 1))⟩,
         ⟨(some 29), none, .e (.bsl 3 1 1 [i64 0] [(0, (.t 28))])⟩,
         ⟨(some 30), none, .e (.call (.c (.fn (.func 36) [] [])) [(.c (i64 0)), (.t 27), (.t 29)])⟩,
         ⟨(some 31), none, .p (.not (.t 30))⟩])
       (.cond (.t 31)
        (.seq
         (.reg [
           ⟨(some 32), none, .p (.bld [.slc [] 0, i64 0, i64 0, i64 0, i64 0, i64 0, i64 0] [])⟩,
           ⟨none, none, .e (.st 7 (.t 6) (.t 32))⟩,
           ⟨(some 7), none, .p (.mov (.c (i64 2)))⟩])
         .ret)
        .skip))
      (.seq
       (.reg [
         ⟨(some 33), none, .p (.ldn 7 (.t 3))⟩,
         ⟨(some 34), none, .e (.call (.c (.fn (.func 31) [] [])) [(.t 33)])⟩,
         ⟨(some 10), none, .e (.alc 57 [.slc [] 0, i64 0, i64 0, i64 0, i64 0, i64 0, i64 0])⟩,
         ⟨none, none, .e (.st 7 (.t 10) (.t 34))⟩])
       (.seq
        (.reg [
          ⟨(some 35), none, .p (.mov (.t 1))⟩,
          ⟨(some 36), none, .p (.mov (.t 2))⟩,
          ⟨(some 37), none, .p (.mov (.t 2))⟩,
          ⟨(some 38), none, .p (.fa 3 (.t 10))⟩,
          ⟨none, none, .e (.st 1 (.t 38) (.t 35))⟩,
          ⟨(some 39), none, .p (.fa 4 (.t 10))⟩,
          ⟨none, none, .e (.st 1 (.t 39) (.t 36))⟩,
          ⟨(some 40), none, .p (.fa 5 (.t 10))⟩,
          ⟨none, none, .e (.st 1 (.t 40) (.t 37))⟩])
        (.seq
         (.reg [
           ⟨(some 41), none, .p (.ldn 7 (.t 10))⟩,
           ⟨none, none, .e (.st 7 (.t 6) (.t 41))⟩,
           ⟨(some 7), none, .p (.mov (.c (i64 0)))⟩])
         .ret)))))))
def r15 : List RS := [.cn 6 7, .t 7]
theorem c15 : chkF Try.prog drawB Try.f15 i15 r15 = true := by kernel_rfl
/-- parlour/parlourref35.Start -/
def i16 : IC :=
  (.seq
   (.reg [
     ⟨(some 3), none, .e (.box 24 (.t 0))⟩,
     ⟨(some 6), none, .e (.alc 24 [.slc [] 0, i64 0, i64 0, i64 0, i64 0, i64 0, i64 0])⟩,
     ⟨(some 7), none, .p (.mov (.c (i64 0)))⟩])
   (.seq
    (.seq
     (.reg [
       ⟨(some 9), none, .p (.ldn 7 (.t 3))⟩,
       ⟨(some 10), none, .p (.mov (.t 2))⟩,
       ⟨(some 11), none, .e (.call (.c (.fn (.func 37) [] [])) [(.t 9), (.t 10)])⟩,
       ⟨(some 8), none, .p (.mov (.t 11))⟩])
     (.seq
      (.reg [
        ⟨(some 12), none, .p (.mov (.t 8))⟩,
        ⟨(some 13), none, .p (.bin .neq (.i .i64) (.t 12) (.c (i64 0)))⟩])
      (.cond (.t 13)
       (.seq
        (.reg [
          ⟨(some 14), none, .p (.bld [.slc [] 0, i64 0, i64 0, i64 0, i64 0, i64 0, i64 0] [])⟩,
          ⟨(some 15), none, .p (.mov (.t 8))⟩,
          ⟨none, none, .e (.st 7 (.t 6) (.t 14))⟩,
          ⟨(some 7), none, .p (.mov (.t 15))⟩])
        .ret)
       .skip)))
    (.seq
     (.seq
      (.reg [
        ⟨(some 16), none, .p (.fa 6 (.t 3))⟩,
        ⟨(some 17), none, .p (.ld1 (.t 16))⟩,
        ⟨(some 18), none, .p (.bin .geq (.i .i64) (.t 17) (.c (i64 0)))⟩])
      (.cond (.t 18)
       (.seq
        (.reg [
          ⟨(some 19), none, .p (.bld [.slc [] 0, i64 0, i64 0, i64 0, i64 0, i64 0, i64 0] [])⟩,
          ⟨none, none, .e (.st 7 (.t 6) (.t 19))⟩,
          ⟨(some 7), none, .p (.mov (.c (i64 17)))⟩])
        .ret)
       .skip))
     (.seq
      (.seq
       (.reg [
         ⟨(some 20), none, .p (.fa 3 (.t 3))⟩,
         ⟨(some 21), none, .p (.ld1 (.t 20))⟩,
         ⟨(some 22), none, .p (.bin .geq (.i .i64) (.t 21) (.c (i64 0)))⟩])
       (.cond (.t 22)
        (.seq
         (.reg [
           ⟨(some 23), none, .p (.bld [.slc [] 0, i64 0, i64 0, i64 0, i64 0, i64 0, i64 0] [])⟩,
           ⟨none, none, .e (.st 7 (.t 6) (.t 23))⟩,
           ⟨(some 7), none, .p (.mov (.c (i64 13)))⟩])
         .ret)
        .skip))
      (.seq
       (.seq
        (.reg [
          ⟨(some 24), none, .p (.mov (.t 1))⟩,
          ⟨(some 25), none, .p (.bin .lss (.i .i64) (.t 24) (.c (i64 0)))⟩,
          ⟨(some 26), none, .p (.mov (.t 25))⟩,
          ⟨(some 27), (some (26, false)), .p (.mov (.t 1))⟩,
          ⟨(some 28), (some (26, false)), .p (.fa 0 (.t 3))⟩,
          ⟨(some 29), (some (26, false)), .p (.ld1 (.t 28))⟩,
          ⟨(some 30), (some (26, false)), .p (.len (.t 29))⟩,
          ⟨(some 31), (some (26, false)), .p (.bin .geq (.i .i64) (.t 27) (.t 30))⟩,
          ⟨(some 32), none, .p (.pick (.t 26) (.c (bl true)) (.t 31))⟩])
        (.cond (.t 32)
         (.seq
          (.reg [
            ⟨(some 33), none, .p (.bld [.slc [] 0, i64 0, i64 0, i64 0, i64 0, i64 0, i64 0] [])⟩,
            ⟨none, none, .e (.st 7 (.t 6) (.t 33))⟩,
            ⟨(some 7), none, .p (.mov (.c (i64 2)))⟩])
          .ret)
         .skip))
       (.seq
        (.reg [
          ⟨(some 34), none, .p (.ldn 7 (.t 3))⟩,
          ⟨(some 35), none, .e (.call (.c (.fn (.func 32) [] [])) [(.t 34)])⟩,
          ⟨none, none, .e (.st 7 (.t 3) (.t 35))⟩])
        (.seq
         (.reg [
           ⟨(some 36), none, .p (.mov (.t 1))⟩,
           ⟨(some 37), none, .p (.mov (.t 2))⟩,
           ⟨(some 38), none, .p (.mov (.t 2))⟩,
           ⟨(some 39), none, .p (.fa 3 (.t 3))⟩,
           ⟨none, none, .e (.st 1 (.t 39) (.t 36))⟩,
           ⟨(some 40), none, .p (.fa 4 (.t 3))⟩,
           ⟨none, none, .e (.st 1 (.t 40) (.t 37))⟩,
           ⟨(some 41), none, .p (.fa 5 (.t 3))⟩,
           ⟨none, none, .e (.st 1 (.t 41) (.t 38))⟩])
         (.seq
          (.reg [
            ⟨(some 42), none, .p (.ldn 7 (.t 3))⟩,
            ⟨none, none, .e (.st 7 (.t 6) (.t 42))⟩,
            ⟨(some 7), none, .p (.mov (.c (i64 0)))⟩])
          .ret))))))))
def r16 : List RS := [.cn 6 7, .t 7]
theorem c16 : chkF Try.prog drawB Try.f16 i16 r16 = true := by kernel_rfl
/-- parlour/clock.Stop -/
def i17 : IC :=
  (.seq
   (.reg [
     ⟨(some 2), none, .e (.box 24 (.t 0))⟩,
     ⟨(some 4), none, .e (.alc 24 [.slc [] 0, i64 0, i64 0, i64 0, i64 0, i64 0, i64 0])⟩,
     ⟨(some 5), none, .p (.mov (.c (i64 0)))⟩])
   (.seq
    (.seq
     (.reg [
       ⟨(some 9), none, .p (.ldn 7 (.t 2))⟩,
       ⟨(some 10), none, .p (.mov (.t 1))⟩,
       ⟨(some 11), none, .e (.call (.c (.fn (.func 34) [] [])) [(.t 9), (.t 10)])⟩,
       ⟨(some 6), none, .p (.mov (.t 11))⟩])
     (.seq
      (.reg [
        ⟨(some 12), none, .p (.mov (.t 6))⟩,
        ⟨(some 13), none, .p (.bin .neq (.i .i64) (.t 12) (.c (i64 0)))⟩])
      (.cond (.t 13)
       (.seq
        (.reg [
          ⟨(some 14), none, .p (.bld [.slc [] 0, i64 0, i64 0, i64 0, i64 0, i64 0, i64 0] [])⟩,
          ⟨(some 15), none, .p (.mov (.t 6))⟩,
          ⟨none, none, .e (.st 7 (.t 4) (.t 14))⟩,
          ⟨(some 5), none, .p (.mov (.t 15))⟩])
        .ret)
       .skip)))
    (.seq
     (.seq
      (.reg [
        ⟨(some 16), none, .p (.ldn 7 (.t 2))⟩,
        ⟨(some 17), none, .e (.call (.c (.fn (.func 35) [] [])) [(.t 16), (.c (bl true))])⟩,
        ⟨(some 7), none, .p (.mov (.t 17))⟩])
      (.seq
       (.reg [
         ⟨(some 18), none, .p (.mov (.t 7))⟩,
         ⟨(some 19), none, .p (.bin .neq (.i .i64) (.t 18) (.c (i64 0)))⟩])
       (.cond (.t 19)
        (.seq
         (.reg [
           ⟨(some 20), none, .p (.bld [.slc [] 0, i64 0, i64 0, i64 0, i64 0, i64 0, i64 0] [])⟩,
           ⟨(some 21), none, .p (.mov (.t 7))⟩,
           ⟨none, none, .e (.st 7 (.t 4) (.t 20))⟩,
           ⟨(some 5), none, .p (.mov (.t 21))⟩])
         .ret)
        .skip)))
     (.seq
      (.reg [
        ⟨(some 22), none, .p (.ldn 7 (.t 2))⟩,
        ⟨(some 23), none, .e (.call (.c (.fn (.func 31) [] [])) [(.t 22)])⟩,
        ⟨(some 8), none, .e (.alc 57 [.slc [] 0, i64 0, i64 0, i64 0, i64 0, i64 0, i64 0])⟩,
        ⟨none, none, .e (.st 7 (.t 8) (.t 23))⟩])
      (.seq
       (.seq
        (.reg [
          ⟨(some 24), none, .p (.ldn 7 (.t 8))⟩,
          ⟨(some 25), none, .p (.mov (.t 1))⟩,
          ⟨(some 26), none, .e (.call (.c (.fn (.func 38) [] [])) [(.t 24), (.t 25)])⟩])
        (.cond (.t 26)
         (.drw [0, 1, 2, 3, 4, 5, 6, 7, 8, 9] [
           ⟨(some 27), none, .p (.fa 0 (.t 8))⟩,
           ⟨(some 28), none, .p (.ld1 (.t 27))⟩,
           ⟨(some 29), none, .p (.fa 3 (.t 8))⟩,
           ⟨(some 30), none, .p (.ld1 (.t 29))⟩,
           ⟨(some 31), none, .p (.fa 3 (.t 8))⟩,
           ⟨(some 32), none, .p (.ld1 (.t 31))⟩,
           ⟨(some 33), none, .p (.ia 1 (.t 28) (.t 30))⟩,
           ⟨none, none, .e (.st 1 (.t 33) (.c (i64 0)))⟩,
           ⟨(some 34), none, .p (.fa 6 (.t 8))⟩,
           ⟨none, none, .e (.st 1 (.t 34) (.t 32))⟩])
         (.drw [0, 1, 2, 3, 4, 5, 6, 7, 8, 9, 10, 11, 12, 13, 14, 15, 16, 17, 18, 19] [
           ⟨(some 35), none, .p (.fa 0 (.t 8))⟩,
           ⟨(some 36), none, .p (.ld1 (.t 35))⟩,
           ⟨(some 37), none, .p (.fa 3 (.t 8))⟩,
           ⟨(some 38), none, .p (.ld1 (.t 37))⟩,
           ⟨(some 39), none, .p (.fa 0 (.t 8))⟩,
           ⟨(some 40), none, .p (.ld1 (.t 39))⟩,
           ⟨(some 41), none, .p (.fa 3 (.t 8))⟩,
           ⟨(some 42), none, .p (.ld1 (.t 41))⟩,
           ⟨(some 43), none, .p (.ia 1 (.t 40) (.t 42))⟩,
           ⟨(some 44), none, .p (.ld1 (.t 43))⟩,
           ⟨(some 45), none, .p (.ldn 7 (.t 8))⟩,
           ⟨(some 46), none, .p (.mov (.t 1))⟩,
           ⟨(some 47), none, .q (.c (.fn (.func 39) [] [])) [(.t 45), (.t 46)]⟩,
           ⟨(some 48), none, .p (.bin .sub (.i .i64) (.t 44) (.t 47))⟩,
           ⟨(some 49), none, .p (.fa 1 (.t 8))⟩,
           ⟨(some 50), none, .p (.ld1 (.t 49))⟩,
           ⟨(some 51), none, .p (.bin .add (.i .i64) (.t 48) (.t 50))⟩,
           ⟨(some 52), none, .p (.mm false .i64 (.t 51) (.c (i64 1000000000)))⟩,
           ⟨(some 53), none, .p (.ia 1 (.t 36) (.t 38))⟩,
           ⟨none, none, .e (.st 1 (.t 53) (.t 52))⟩])))
       (.seq
        (.reg [
          ⟨(some 54), none, .p (.mov (.t 1))⟩,
          ⟨(some 55), none, .p (.fa 3 (.t 8))⟩,
          ⟨none, none, .e (.st 1 (.t 55) (.c (i64 (-1))))⟩,
          ⟨(some 56), none, .p (.fa 4 (.t 8))⟩,
          ⟨none, none, .e (.st 1 (.t 56) (.c (i64 0)))⟩,
          ⟨(some 57), none, .p (.fa 5 (.t 8))⟩,
          ⟨none, none, .e (.st 1 (.t 57) (.t 54))⟩])
        (.seq
         (.reg [
           ⟨(some 58), none, .p (.ldn 7 (.t 8))⟩,
           ⟨none, none, .e (.st 7 (.t 4) (.t 58))⟩,
           ⟨(some 5), none, .p (.mov (.c (i64 0)))⟩])
         .ret)))))))
def r17 : List RS := [.cn 4 7, .t 5]
theorem c17 : chkF Try.prog drawB Try.f17 i17 r17 = true := by kernel_rfl
/-- parlour/parlourref35.Stop -/
def i18 : IC :=
  (.seq
   (.reg [
     ⟨(some 2), none, .e (.box 24 (.t 0))⟩,
     ⟨(some 4), none, .e (.alc 24 [.slc [] 0, i64 0, i64 0, i64 0, i64 0, i64 0, i64 0])⟩,
     ⟨(some 5), none, .p (.mov (.c (i64 0)))⟩])
   (.seq
    (.seq
     (.reg [
       ⟨(some 9), none, .p (.ldn 7 (.t 2))⟩,
       ⟨(some 10), none, .p (.mov (.t 1))⟩,
       ⟨(some 11), none, .e (.call (.c (.fn (.func 37) [] [])) [(.t 9), (.t 10)])⟩,
       ⟨(some 6), none, .p (.mov (.t 11))⟩])
     (.seq
      (.reg [
        ⟨(some 12), none, .p (.mov (.t 6))⟩,
        ⟨(some 13), none, .p (.bin .neq (.i .i64) (.t 12) (.c (i64 0)))⟩])
      (.cond (.t 13)
       (.seq
        (.reg [
          ⟨(some 14), none, .p (.bld [.slc [] 0, i64 0, i64 0, i64 0, i64 0, i64 0, i64 0] [])⟩,
          ⟨(some 15), none, .p (.mov (.t 6))⟩,
          ⟨none, none, .e (.st 7 (.t 4) (.t 14))⟩,
          ⟨(some 5), none, .p (.mov (.t 15))⟩])
        .ret)
       .skip)))
    (.seq
     (.seq
      (.reg [
        ⟨(some 16), none, .p (.fa 6 (.t 2))⟩,
        ⟨(some 17), none, .p (.ld1 (.t 16))⟩,
        ⟨(some 18), none, .p (.bin .geq (.i .i64) (.t 17) (.c (i64 0)))⟩])
      (.cond (.t 18)
       (.seq
        (.reg [
          ⟨(some 19), none, .p (.bld [.slc [] 0, i64 0, i64 0, i64 0, i64 0, i64 0, i64 0] [])⟩,
          ⟨none, none, .e (.st 7 (.t 4) (.t 19))⟩,
          ⟨(some 5), none, .p (.mov (.c (i64 17)))⟩])
        .ret)
       .skip))
     (.seq
      (.seq
       (.reg [
         ⟨(some 20), none, .p (.fa 3 (.t 2))⟩,
         ⟨(some 21), none, .p (.ld1 (.t 20))⟩,
         ⟨(some 22), none, .p (.bin .lss (.i .i64) (.t 21) (.c (i64 0)))⟩])
       (.cond (.t 22)
        (.seq
         (.reg [
           ⟨(some 23), none, .p (.bld [.slc [] 0, i64 0, i64 0, i64 0, i64 0, i64 0, i64 0] [])⟩,
           ⟨none, none, .e (.st 7 (.t 4) (.t 23))⟩,
           ⟨(some 5), none, .p (.mov (.c (i64 13)))⟩])
         .ret)
        .skip))
      (.seq
       (.reg [
         ⟨(some 24), none, .p (.ldn 7 (.t 2))⟩,
         ⟨(some 25), none, .e (.call (.c (.fn (.func 32) [] [])) [(.t 24)])⟩,
         ⟨none, none, .e (.st 7 (.t 2) (.t 25))⟩])
       (.seq
        (.drw [0, 1, 2, 3, 4, 5, 6] [
          ⟨(some 26), none, .p (.fa 3 (.t 2))⟩,
          ⟨(some 27), none, .p (.ld1 (.t 26))⟩,
          ⟨(some 28), none, .p (.ldn 7 (.t 2))⟩,
          ⟨(some 29), none, .p (.mov (.t 1))⟩,
          ⟨(some 30), none, .q (.c (.fn (.func 40) [] [])) [(.t 28), (.t 29)]⟩,
          ⟨(some 7), none, .p (.mov (.t 27))⟩,
          ⟨(some 8), none, .p (.mov (.t 30))⟩])
        (.seq
         (.seq
          (.reg [
            ⟨(some 31), none, .p (.mov (.t 8))⟩,
            ⟨(some 32), none, .p (.fa 0 (.t 2))⟩,
            ⟨(some 33), none, .p (.ld1 (.t 32))⟩,
            ⟨(some 34), none, .p (.mov (.t 7))⟩,
            ⟨(some 35), none, .p (.ia 1 (.t 33) (.t 34))⟩,
            ⟨(some 36), none, .p (.ld1 (.t 35))⟩,
            ⟨(some 37), none, .p (.bin .gtr (.i .i64) (.t 31) (.t 36))⟩])
          (.cond (.t 37)
           (.reg [
             ⟨(some 38), none, .p (.fa 0 (.t 2))⟩,
             ⟨(some 39), none, .p (.ld1 (.t 38))⟩,
             ⟨(some 40), none, .p (.mov (.t 7))⟩,
             ⟨(some 41), none, .p (.mov (.t 7))⟩,
             ⟨(some 42), none, .p (.ia 1 (.t 39) (.t 40))⟩,
             ⟨none, none, .e (.st 1 (.t 42) (.c (i64 0)))⟩,
             ⟨(some 43), none, .p (.fa 6 (.t 2))⟩,
             ⟨none, none, .e (.st 1 (.t 43) (.t 41))⟩])
           (.drw [0, 1, 2, 3, 4, 5, 6, 7, 8, 9, 10, 11, 12, 13, 14, 15] [
             ⟨(some 44), none, .p (.fa 0 (.t 2))⟩,
             ⟨(some 45), none, .p (.ld1 (.t 44))⟩,
             ⟨(some 46), none, .p (.mov (.t 7))⟩,
             ⟨(some 47), none, .p (.fa 0 (.t 2))⟩,
             ⟨(some 48), none, .p (.ld1 (.t 47))⟩,
             ⟨(some 49), none, .p (.mov (.t 7))⟩,
             ⟨(some 50), none, .p (.ia 1 (.t 48) (.t 49))⟩,
             ⟨(some 51), none, .p (.ld1 (.t 50))⟩,
             ⟨(some 52), none, .p (.mov (.t 8))⟩,
             ⟨(some 53), none, .p (.bin .sub (.i .i64) (.t 51) (.t 52))⟩,
             ⟨(some 54), none, .p (.fa 1 (.t 2))⟩,
             ⟨(some 55), none, .p (.ld1 (.t 54))⟩,
             ⟨(some 56), none, .p (.bin .add (.i .i64) (.t 53) (.t 55))⟩,
             ⟨(some 57), none, .p (.mm false .i64 (.t 56) (.c (i64 1000000000)))⟩,
             ⟨(some 58), none, .p (.ia 1 (.t 45) (.t 46))⟩,
             ⟨none, none, .e (.st 1 (.t 58) (.t 57))⟩])))
         (.seq
          (.reg [
            ⟨(some 59), none, .p (.mov (.t 1))⟩,
            ⟨(some 60), none, .p (.fa 3 (.t 2))⟩,
            ⟨none, none, .e (.st 1 (.t 60) (.c (i64 (-1))))⟩,
            ⟨(some 61), none, .p (.fa 4 (.t 2))⟩,
            ⟨none, none, .e (.st 1 (.t 61) (.c (i64 0)))⟩,
            ⟨(some 62), none, .p (.fa 5 (.t 2))⟩,
            ⟨none, none, .e (.st 1 (.t 62) (.t 59))⟩])
          (.seq
           (.reg [
             ⟨(some 63), none, .p (.ldn 7 (.t 2))⟩,
             ⟨none, none, .e (.st 7 (.t 4) (.t 63))⟩,
             ⟨(some 5), none, .p (.mov (.c (i64 0)))⟩])
           .ret)))))))))
def r18 : List RS := [.cn 4 7, .t 5]
theorem c18 : chkF Try.prog drawB Try.f18 i18 r18 = true := by kernel_rfl
/-- parlour/clock.Look -/
def i19 : IC :=
  (.seq
   (.reg [
     ⟨(some 2), none, .e (.box 24 (.t 0))⟩,
     ⟨(some 4), none, .p (.mov (.c (.slc [] 0)))⟩,
     ⟨(some 5), none, .p (.mov (.c (i64 0)))⟩,
     ⟨(some 6), none, .p (.mov (.c (i64 0)))⟩])
   (.seq
    (.seq
     (.reg [
       ⟨(some 9), none, .p (.ldn 7 (.t 2))⟩,
       ⟨(some 10), none, .p (.mov (.t 1))⟩,
       ⟨(some 11), none, .e (.call (.c (.fn (.func 34) [] [])) [(.t 9), (.t 10)])⟩,
       ⟨(some 7), none, .p (.mov (.t 11))⟩])
     (.seq
      (.reg [
        ⟨(some 12), none, .p (.mov (.t 7))⟩,
        ⟨(some 13), none, .p (.bin .neq (.i .i64) (.t 12) (.c (i64 0)))⟩])
      (.cond (.t 13)
       (.seq
        (.reg [
          ⟨(some 14), none, .p (.mov (.t 7))⟩,
          ⟨(some 4), none, .p (.mov (.c (.slc [] 0)))⟩,
          ⟨(some 5), none, .p (.mov (.c (i64 0)))⟩,
          ⟨(some 6), none, .p (.mov (.t 14))⟩])
        .ret)
       .skip)))
    (.seq
     (.reg [
       ⟨(some 15), none, .p (.ldn 7 (.t 2))⟩,
       ⟨(some 16), none, .e (.call (.c (.fn (.func 31) [] [])) [(.t 15)])⟩,
       ⟨(some 8), none, .e (.alc 57 [.slc [] 0, i64 0, i64 0, i64 0, i64 0, i64 0, i64 0])⟩,
       ⟨none, none, .e (.st 7 (.t 8) (.t 16))⟩])
     (.seq
      (.seq
       (.reg [
         ⟨(some 17), none, .p (.fa 3 (.t 8))⟩,
         ⟨(some 18), none, .p (.ld1 (.t 17))⟩,
         ⟨(some 19), none, .p (.bin .lss (.i .i64) (.t 18) (.c (i64 0)))⟩])
       (.cond (.t 19)
        (.seq
         (.drw [0, 1, 2, 3, 4, 5, 6] [
           ⟨(some 20), none, .p (.fa 0 (.t 8))⟩,
           ⟨(some 21), none, .p (.ld1 (.t 20))⟩,
           ⟨(some 22), none, .p (.fa 6 (.t 8))⟩,
           ⟨(some 23), none, .p (.ld1 (.t 22))⟩,
           ⟨(some 4), none, .p (.mov (.t 21))⟩,
           ⟨(some 5), none, .p (.mov (.t 23))⟩,
           ⟨(some 6), none, .p (.mov (.c (i64 0)))⟩])
         .ret)
        .skip))
      (.seq
       (.seq
        (.reg [
          ⟨(some 24), none, .p (.ldn 7 (.t 8))⟩,
          ⟨(some 25), none, .p (.mov (.t 1))⟩,
          ⟨(some 26), none, .e (.call (.c (.fn (.func 38) [] [])) [(.t 24), (.t 25)])⟩])
        (.cond (.t 26)
         (.reg [
           ⟨(some 27), none, .p (.fa 3 (.t 8))⟩,
           ⟨(some 28), none, .p (.ld1 (.t 27))⟩,
           ⟨(some 29), none, .p (.fa 6 (.t 8))⟩,
           ⟨none, none, .e (.st 1 (.t 29) (.t 28))⟩])
         .skip))
       (.seq
        (.drw [0, 1, 2, 3, 4, 5, 6, 7, 8, 9, 10, 11, 12, 13, 14, 15, 16] [
          ⟨(some 30), none, .p (.fa 0 (.t 8))⟩,
          ⟨(some 31), none, .p (.ld1 (.t 30))⟩,
          ⟨(some 32), none, .p (.fa 3 (.t 8))⟩,
          ⟨(some 33), none, .p (.ld1 (.t 32))⟩,
          ⟨(some 34), none, .p (.fa 0 (.t 8))⟩,
          ⟨(some 35), none, .p (.ld1 (.t 34))⟩,
          ⟨(some 36), none, .p (.fa 3 (.t 8))⟩,
          ⟨(some 37), none, .p (.ld1 (.t 36))⟩,
          ⟨(some 38), none, .p (.ia 1 (.t 35) (.t 37))⟩,
          ⟨(some 39), none, .p (.ld1 (.t 38))⟩,
          ⟨(some 40), none, .p (.ldn 7 (.t 8))⟩,
          ⟨(some 41), none, .p (.mov (.t 1))⟩,
          ⟨(some 42), none, .q (.c (.fn (.func 39) [] [])) [(.t 40), (.t 41)]⟩,
          ⟨(some 43), none, .p (.bin .sub (.i .i64) (.t 39) (.t 42))⟩,
          ⟨(some 44), none, .p (.mm true .i64 (.c (i64 0)) (.t 43))⟩,
          ⟨(some 45), none, .p (.ia 1 (.t 31) (.t 33))⟩,
          ⟨none, none, .e (.st 1 (.t 45) (.t 44))⟩])
        (.seq
         (.drw [0, 1, 2, 3, 4, 5, 6] [
           ⟨(some 46), none, .p (.fa 0 (.t 8))⟩,
           ⟨(some 47), none, .p (.ld1 (.t 46))⟩,
           ⟨(some 48), none, .p (.fa 6 (.t 8))⟩,
           ⟨(some 49), none, .p (.ld1 (.t 48))⟩,
           ⟨(some 4), none, .p (.mov (.t 47))⟩,
           ⟨(some 5), none, .p (.mov (.t 49))⟩,
           ⟨(some 6), none, .p (.mov (.c (i64 0)))⟩])
         .ret)))))))
def r19 : List RS := [.t 4, .t 5, .t 6]
theorem c19 : chkF Try.prog drawB Try.f19 i19 r19 = true := by kernel_rfl
/-- parlour/parlourref35.Look -/
def i20 : IC :=
  (.seq
   (.reg [
     ⟨(some 2), none, .e (.box 24 (.t 0))⟩,
     ⟨(some 4), none, .p (.mov (.c (.slc [] 0)))⟩,
     ⟨(some 5), none, .p (.mov (.c (i64 0)))⟩,
     ⟨(some 6), none, .p (.mov (.c (i64 0)))⟩])
   (.seq
    (.seq
     (.reg [
       ⟨(some 9), none, .p (.ldn 7 (.t 2))⟩,
       ⟨(some 10), none, .p (.mov (.t 1))⟩,
       ⟨(some 11), none, .e (.call (.c (.fn (.func 37) [] [])) [(.t 9), (.t 10)])⟩,
       ⟨(some 7), none, .p (.mov (.t 11))⟩])
     (.seq
      (.reg [
        ⟨(some 12), none, .p (.mov (.t 7))⟩,
        ⟨(some 13), none, .p (.bin .neq (.i .i64) (.t 12) (.c (i64 0)))⟩])
      (.cond (.t 13)
       (.seq
        (.reg [
          ⟨(some 14), none, .p (.mov (.t 7))⟩,
          ⟨(some 4), none, .p (.mov (.c (.slc [] 0)))⟩,
          ⟨(some 5), none, .p (.mov (.c (i64 0)))⟩,
          ⟨(some 6), none, .p (.mov (.t 14))⟩])
        .ret)
       .skip)))
    (.seq
     (.drw [1, 2, 4, 5, 0, 3, 6, 7] [
       ⟨(some 16), none, .p (.fa 0 (.t 2))⟩,
       ⟨(some 17), none, .p (.ld1 (.t 16))⟩,
       ⟨(some 19), none, .p (.fa 6 (.t 2))⟩,
       ⟨(some 20), none, .p (.ld1 (.t 19))⟩,
       ⟨(some 15), none, .e (.bsl 3 1 0 [i64 0] [])⟩,
       ⟨(some 18), none, .e (.app 3 1 8 (.t 15) (.t 17))⟩,
       ⟨(some 4), none, .p (.mov (.t 18))⟩,
       ⟨(some 5), none, .p (.mov (.t 20))⟩])
     (.seq
      (.seq
       (.reg [
         ⟨(some 21), none, .p (.fa 3 (.t 2))⟩,
         ⟨(some 22), none, .p (.ld1 (.t 21))⟩,
         ⟨(some 23), none, .p (.bin .geq (.i .i64) (.t 22) (.c (i64 0)))⟩])
       (.cond (.t 23)
        (.seq
         (.reg [
           ⟨(some 24), none, .p (.ldn 7 (.t 2))⟩,
           ⟨(some 25), none, .p (.mov (.t 1))⟩,
           ⟨(some 26), none, .e (.call (.c (.fn (.func 40) [] [])) [(.t 24), (.t 25)])⟩,
           ⟨(some 8), none, .p (.mov (.t 26))⟩])
         (.seq
          (.seq
           (.reg [
             ⟨(some 27), none, .p (.mov (.t 8))⟩,
             ⟨(some 28), none, .p (.mov (.t 4))⟩,
             ⟨(some 29), none, .p (.fa 3 (.t 2))⟩,
             ⟨(some 30), none, .p (.ld1 (.t 29))⟩,
             ⟨(some 31), none, .p (.ia 1 (.t 28) (.t 30))⟩,
             ⟨(some 32), none, .p (.ld1 (.t 31))⟩,
             ⟨(some 33), none, .p (.bin .gtr (.i .i64) (.t 27) (.t 32))⟩])
           (.cond (.t 33)
            (.reg [
              ⟨(some 34), none, .p (.fa 3 (.t 2))⟩,
              ⟨(some 35), none, .p (.ld1 (.t 34))⟩,
              ⟨(some 5), none, .p (.mov (.t 35))⟩])
            .skip))
          (.drw [0, 1, 2, 3, 4, 5, 6, 7, 8, 9, 10, 11, 12] [
            ⟨(some 36), none, .p (.mov (.t 4))⟩,
            ⟨(some 37), none, .p (.fa 3 (.t 2))⟩,
            ⟨(some 38), none, .p (.ld1 (.t 37))⟩,
            ⟨(some 39), none, .p (.mov (.t 4))⟩,
            ⟨(some 40), none, .p (.fa 3 (.t 2))⟩,
            ⟨(some 41), none, .p (.ld1 (.t 40))⟩,
            ⟨(some 42), none, .p (.ia 1 (.t 39) (.t 41))⟩,
            ⟨(some 43), none, .p (.ld1 (.t 42))⟩,
            ⟨(some 44), none, .p (.mov (.t 8))⟩,
            ⟨(some 45), none, .p (.bin .sub (.i .i64) (.t 43) (.t 44))⟩,
            ⟨(some 46), none, .p (.mm true .i64 (.c (i64 0)) (.t 45))⟩,
            ⟨(some 47), none, .p (.ia 1 (.t 36) (.t 38))⟩,
            ⟨none, none, .e (.st 1 (.t 47) (.t 46))⟩])))
        .skip))
      (.seq
       (.reg [
         ⟨(some 48), none, .p (.mov (.t 4))⟩,
         ⟨(some 49), none, .p (.mov (.t 5))⟩,
         ⟨(some 4), none, .p (.mov (.t 48))⟩,
         ⟨(some 5), none, .p (.mov (.t 49))⟩,
         ⟨(some 6), none, .p (.mov (.c (i64 0)))⟩])
       .ret)))))
def r20 : List RS := [.t 4, .t 5, .t 6]
theorem c20 : chkF Try.prog drawB Try.f20 i20 r20 = true := by kernel_rfl
/-- parlour/clock.Falls -/
def i21 : IC :=
  (.seq
   (.reg [
     ⟨(some 1), none, .e (.box 24 (.t 0))⟩,
     ⟨(some 2), none, .p (.mov (.c (i64 0)))⟩,
     ⟨(some 3), none, .p (.mov (.c (i64 0)))⟩])
   (.seq
    (.seq
     (.reg [
       ⟨(some 7), none, .p (.ldn 7 (.t 1))⟩,
       ⟨(some 8), none, .e (.call (.c (.fn (.func 13) [] [])) [(.t 7)])⟩,
       ⟨(some 4), none, .p (.mov (.t 8))⟩])
     (.seq
      (.reg [
        ⟨(some 9), none, .p (.mov (.t 4))⟩,
        ⟨(some 10), none, .p (.bin .neq (.i .i64) (.t 9) (.c (i64 0)))⟩])
      (.cond (.t 10)
       (.seq
        (.reg [
          ⟨(some 11), none, .p (.mov (.t 4))⟩,
          ⟨(some 2), none, .p (.mov (.c (i64 0)))⟩,
          ⟨(some 3), none, .p (.mov (.t 11))⟩])
        .ret)
       .skip)))
    (.seq
     (.seq
      (.reg [
        ⟨(some 12), none, .p (.ldn 7 (.t 1))⟩,
        ⟨(some 13), none, .e (.call (.c (.fn (.func 35) [] [])) [(.t 12), (.c (bl true))])⟩,
        ⟨(some 5), none, .p (.mov (.t 13))⟩])
      (.seq
       (.reg [
         ⟨(some 14), none, .p (.mov (.t 5))⟩,
         ⟨(some 15), none, .p (.bin .neq (.i .i64) (.t 14) (.c (i64 0)))⟩])
       (.cond (.t 15)
        (.seq
         (.reg [
           ⟨(some 16), none, .p (.mov (.t 5))⟩,
           ⟨(some 2), none, .p (.mov (.c (i64 0)))⟩,
           ⟨(some 3), none, .p (.mov (.t 16))⟩])
         .ret)
        .skip)))
     (.seq
      (.drw [0, 1, 2, 3, 4, 5, 6, 7, 8, 9, 10, 11, 12, 13] [
        ⟨(some 17), none, .p (.fa 4 (.t 1))⟩,
        ⟨(some 18), none, .p (.ld1 (.t 17))⟩,
        ⟨(some 19), none, .p (.fa 2 (.t 1))⟩,
        ⟨(some 20), none, .p (.ld1 (.t 19))⟩,
        ⟨(some 21), none, .p (.bin .add (.i .i64) (.t 18) (.t 20))⟩,
        ⟨(some 22), none, .p (.fa 0 (.t 1))⟩,
        ⟨(some 23), none, .p (.ld1 (.t 22))⟩,
        ⟨(some 24), none, .p (.fa 3 (.t 1))⟩,
        ⟨(some 25), none, .p (.ld1 (.t 24))⟩,
        ⟨(some 26), none, .p (.ia 1 (.t 23) (.t 25))⟩,
        ⟨(some 27), none, .p (.ld1 (.t 26))⟩,
        ⟨(some 28), none, .p (.bin .add (.i .i64) (.t 21) (.t 27))⟩,
        ⟨(some 29), none, .p (.bin .add (.i .i64) (.t 28) (.c (i64 1)))⟩,
        ⟨(some 6), none, .p (.mov (.t 29))⟩])
      (.seq
       (.seq
        (.reg [
          ⟨(some 30), none, .p (.mov (.t 6))⟩,
          ⟨(some 31), none, .p (.bin .gtr (.i .i64) (.t 30) (.c (i64 1000000000000)))⟩])
        (.cond (.t 31)
         (.seq
          (.reg [
            ⟨(some 2), none, .p (.mov (.c (i64 0)))⟩,
            ⟨(some 3), none, .p (.mov (.c (i64 5)))⟩])
          .ret)
         .skip))
       (.seq
        (.reg [
          ⟨(some 32), none, .p (.mov (.t 6))⟩,
          ⟨(some 2), none, .p (.mov (.t 32))⟩,
          ⟨(some 3), none, .p (.mov (.c (i64 0)))⟩])
        .ret))))))
def r21 : List RS := [.t 2, .t 3]
theorem c21 : chkF Try.prog drawB Try.f21 i21 r21 = true := by kernel_rfl
/-- parlour/parlourref35.Falls -/
def i22 : IC :=
  (.seq
   (.reg [
     ⟨(some 1), none, .e (.box 24 (.t 0))⟩,
     ⟨(some 2), none, .p (.mov (.c (i64 0)))⟩,
     ⟨(some 3), none, .p (.mov (.c (i64 0)))⟩])
   (.seq
    (.seq
     (.reg [
       ⟨(some 6), none, .p (.ldn 7 (.t 1))⟩,
       ⟨(some 7), none, .e (.call (.c (.fn (.func 14) [] [])) [(.t 6)])⟩,
       ⟨(some 4), none, .p (.mov (.t 7))⟩])
     (.seq
      (.reg [
        ⟨(some 8), none, .p (.mov (.t 4))⟩,
        ⟨(some 9), none, .p (.bin .neq (.i .i64) (.t 8) (.c (i64 0)))⟩])
      (.cond (.t 9)
       (.seq
        (.reg [
          ⟨(some 10), none, .p (.mov (.t 4))⟩,
          ⟨(some 2), none, .p (.mov (.c (i64 0)))⟩,
          ⟨(some 3), none, .p (.mov (.t 10))⟩])
        .ret)
       .skip)))
    (.seq
     (.seq
      (.reg [
        ⟨(some 11), none, .p (.fa 6 (.t 1))⟩,
        ⟨(some 12), none, .p (.ld1 (.t 11))⟩,
        ⟨(some 13), none, .p (.bin .geq (.i .i64) (.t 12) (.c (i64 0)))⟩])
      (.cond (.t 13)
       (.seq
        (.reg [
          ⟨(some 2), none, .p (.mov (.c (i64 0)))⟩,
          ⟨(some 3), none, .p (.mov (.c (i64 17)))⟩])
        .ret)
       .skip))
     (.seq
      (.seq
       (.reg [
         ⟨(some 14), none, .p (.fa 3 (.t 1))⟩,
         ⟨(some 15), none, .p (.ld1 (.t 14))⟩,
         ⟨(some 16), none, .p (.bin .lss (.i .i64) (.t 15) (.c (i64 0)))⟩])
       (.cond (.t 16)
        (.seq
         (.reg [
           ⟨(some 2), none, .p (.mov (.c (i64 0)))⟩,
           ⟨(some 3), none, .p (.mov (.c (i64 13)))⟩])
         .ret)
        .skip))
      (.seq
       (.drw [0, 1, 2, 3, 4, 5, 6, 7, 8, 9, 10, 11, 12, 13] [
         ⟨(some 17), none, .p (.fa 4 (.t 1))⟩,
         ⟨(some 18), none, .p (.ld1 (.t 17))⟩,
         ⟨(some 19), none, .p (.fa 2 (.t 1))⟩,
         ⟨(some 20), none, .p (.ld1 (.t 19))⟩,
         ⟨(some 21), none, .p (.bin .add (.i .i64) (.t 18) (.t 20))⟩,
         ⟨(some 22), none, .p (.fa 0 (.t 1))⟩,
         ⟨(some 23), none, .p (.ld1 (.t 22))⟩,
         ⟨(some 24), none, .p (.fa 3 (.t 1))⟩,
         ⟨(some 25), none, .p (.ld1 (.t 24))⟩,
         ⟨(some 26), none, .p (.ia 1 (.t 23) (.t 25))⟩,
         ⟨(some 27), none, .p (.ld1 (.t 26))⟩,
         ⟨(some 28), none, .p (.bin .add (.i .i64) (.t 21) (.t 27))⟩,
         ⟨(some 29), none, .p (.bin .add (.i .i64) (.t 28) (.c (i64 1)))⟩,
         ⟨(some 5), none, .p (.mov (.t 29))⟩])
       (.seq
        (.seq
         (.reg [
           ⟨(some 30), none, .p (.mov (.t 5))⟩,
           ⟨(some 31), none, .p (.bin .gtr (.i .i64) (.t 30) (.c (i64 1000000000000)))⟩])
         (.cond (.t 31)
          (.seq
           (.reg [
             ⟨(some 2), none, .p (.mov (.c (i64 0)))⟩,
             ⟨(some 3), none, .p (.mov (.c (i64 5)))⟩])
           .ret)
          .skip))
        (.seq
         (.reg [
           ⟨(some 32), none, .p (.mov (.t 5))⟩,
           ⟨(some 2), none, .p (.mov (.t 32))⟩,
           ⟨(some 3), none, .p (.mov (.c (i64 0)))⟩])
         .ret)))))))
def r22 : List RS := [.t 2, .t 3]
theorem c22 : chkF Try.prog drawB Try.f22 i22 r22 = true := by kernel_rfl
def l23_0 : IC := .keep [0, 1, 5]
  (.seq
   (.seq
    (.reg [
      ⟨(some 11), none, .p (.mov (.t 5))⟩,
      ⟨(some 12), none, .p (.mov (.t 0))⟩,
      ⟨(some 13), none, .p (.len (.t 12))⟩,
      ⟨(some 14), none, .p (.bin .lss (.i .i64) (.t 11) (.t 13))⟩])
    (.cond (.t 14)
     .skip
     (.exit 0)))
   (.seq
    (.blk 1
     (.seq
      (.drw [0, 1, 2, 3, 4, 5, 6, 7, 8] [
        ⟨(some 17), none, .p (.mov (.t 0))⟩,
        ⟨(some 18), none, .p (.mov (.t 5))⟩,
        ⟨(some 19), none, .p (.ia 1 (.t 17) (.t 18))⟩,
        ⟨(some 20), none, .p (.ld1 (.t 19))⟩,
        ⟨(some 21), none, .p (.mov (.t 1))⟩,
        ⟨(some 22), none, .p (.mov (.t 5))⟩,
        ⟨(some 23), none, .p (.ia 1 (.t 21) (.t 22))⟩,
        ⟨(some 24), none, .p (.ld1 (.t 23))⟩,
        ⟨(some 25), none, .p (.bin .neq (.i .i64) (.t 20) (.t 24))⟩])
      (.cond (.t 25)
       (.seq
        (.reg [
          ⟨(some 4), none, .p (.mov (.c (bl false)))⟩])
        .ret)
       .skip)))
    (.reg [
      ⟨(some 15), none, .p (.mov (.t 5))⟩,
      ⟨(some 16), none, .p (.bin .add (.i .i64) (.t 15) (.c (i64 1)))⟩,
      ⟨(some 5), none, .p (.mov (.t 16))⟩])))
/-- parlour/parlourkit.Alike(int) -/
def i23 : IC :=
  (.seq
   (.reg [
     ⟨(some 4), none, .p (.mov (.c (bl false)))⟩])
   (.seq
    (.seq
     (.reg [
       ⟨(some 6), none, .p (.mov (.t 0))⟩,
       ⟨(some 7), none, .p (.len (.t 6))⟩,
       ⟨(some 8), none, .p (.mov (.t 1))⟩,
       ⟨(some 9), none, .p (.len (.t 8))⟩,
       ⟨(some 10), none, .p (.bin .neq (.i .i64) (.t 7) (.t 9))⟩])
     (.cond (.t 10)
      (.seq
       (.reg [
         ⟨(some 4), none, .p (.mov (.c (bl false)))⟩])
       .ret)
      .skip))
    (.seq
     (.seq
      (.reg [
        ⟨(some 5), none, .p (.mov (.c (i64 0)))⟩])
      (.blk 0
       (.loop l23_0)))
     (.seq
      (.reg [
        ⟨(some 4), none, .p (.mov (.c (bl true)))⟩])
      .ret))))
def r23 : List RS := [.t 4]
theorem c23 : chkF Try.prog drawB Try.f23 i23 r23 = true := by kernel_rfl
/-- parlour/parlourlaw35.first -/
def i24 : IC :=
  (.seq
   (.reg [
     ⟨(some 0), none, .e (.alc 24 [.slc [] 0, i64 0, i64 0, i64 0, i64 0, i64 0, i64 0])⟩])
   (.seq
    (.reg [
      ⟨(some 4), none, .e (.bsl 3 1 2 [i64 0] [(0, (.c (i64 1000))), (1, (.c (i64 2000)))])⟩,
      ⟨(some 5), none, .e (.call (.c (.fn (.func 11) [] [])) [(.t 4), (.c (i64 100)), (.c (i64 50))])⟩,
      ⟨(some 3), none, .p (.mov (.t 5))⟩,
      ⟨(some 6), none, .p (.ext (.t 3) 0)⟩,
      ⟨(some 7), none, .p (.ext (.t 3) 1)⟩,
      ⟨(some 1), none, .e (.alc 24 [.slc [] 0, i64 0, i64 0, i64 0, i64 0, i64 0, i64 0])⟩,
      ⟨none, none, .e (.st 7 (.t 1) (.t 6))⟩,
      ⟨(some 2), none, .p (.mov (.t 7))⟩])
    (.seq
     (.reg [
       ⟨(some 8), none, .p (.ldn 7 (.t 1))⟩,
       ⟨none, none, .e (.st 7 (.t 0) (.t 8))⟩])
     .ret)))
def r24 : List RS := [.cn 0 7]
theorem c24 : chkF Try.prog drawB Try.f24 i24 r24 = true := by kernel_rfl
/-- parlour/parlourlaw35.looks -/
def i25 : IC :=
  (.seq
   (.reg [
     ⟨(some 5), none, .e (.box 24 (.t 0))⟩,
     ⟨(some 10), none, .p (.mov (.c (bl false)))⟩])
   (.seq
    (.reg [
      ⟨(some 15), none, .p (.ldn 7 (.t 5))⟩,
      ⟨(some 16), none, .p (.mov (.t 1))⟩,
      ⟨(some 17), none, .e (.call (.c (.fn (.func 19) [] [])) [(.t 15), (.t 16)])⟩,
      ⟨(some 14), none, .p (.mov (.t 17))⟩,
      ⟨(some 18), none, .p (.ext (.t 14) 0)⟩,
      ⟨(some 19), none, .p (.ext (.t 14) 1)⟩,
      ⟨(some 20), none, .p (.ext (.t 14) 2)⟩,
      ⟨(some 11), none, .p (.mov (.t 18))⟩,
      ⟨(some 12), none, .p (.mov (.t 19))⟩,
      ⟨(some 13), none, .p (.mov (.t 20))⟩])
    (.seq
     (.reg [
       ⟨(some 21), none, .p (.mov (.t 13))⟩,
       ⟨(some 22), none, .p (.bin .eql (.i .i64) (.t 21) (.c (i64 0)))⟩,
       ⟨(some 23), none, .p (.mov (.t 22))⟩,
       ⟨(some 24), (some (23, true)), .p (.mov (.t 12))⟩,
       ⟨(some 25), (some (23, true)), .p (.mov (.t 4))⟩,
       ⟨(some 26), (some (23, true)), .p (.bin .eql (.i .i64) (.t 24) (.t 25))⟩,
       ⟨(some 27), none, .p (.pick (.t 23) (.t 26) (.c (bl false)))⟩,
       ⟨(some 28), none, .p (.mov (.t 27))⟩,
       ⟨(some 29), (some (28, true)), .p (.mov (.t 11))⟩,
       ⟨(some 30), (some (28, true)), .p (.mov (.t 2))⟩,
       ⟨(some 31), (some (28, true)), .p (.mov (.t 3))⟩,
       ⟨(some 32), (some (28, true)), .e (.bsl 3 1 2 [i64 0] [(0, (.t 30)), (1, (.t 31))])⟩,
       ⟨(some 33), (some (28, true)), .q (.c (.fn (.func 23) [] [])) [(.t 29), (.t 32)]⟩,
       ⟨(some 34), none, .p (.pick (.t 28) (.t 33) (.c (bl false)))⟩,
       ⟨(some 10), none, .p (.mov (.t 34))⟩])
     .ret)))
def r25 : List RS := [.t 10]
theorem c25 : chkF Try.prog drawB Try.f25 i25 r25 = true := by kernel_rfl
/-- parlour/clock.Run -/
def i26 : IC :=
  (.seq
   (.reg [
     ⟨(some 2), none, .e (.box 24 (.t 0))⟩,
     ⟨(some 4), none, .e (.alc 24 [.slc [] 0, i64 0, i64 0, i64 0, i64 0, i64 0, i64 0])⟩,
     ⟨(some 5), none, .e (.alc 42 [i64 0, i64 0])⟩])
   (.seq
    (.seq
     (.reg [
       ⟨(some 9), none, .p (.ldn 7 (.t 2))⟩,
       ⟨(some 10), none, .e (.call (.c (.fn (.func 13) [] [])) [(.t 9)])⟩,
       ⟨(some 6), none, .p (.mov (.t 10))⟩])
     (.seq
      (.reg [
        ⟨(some 11), none, .p (.mov (.t 6))⟩,
        ⟨(some 12), none, .p (.bin .neq (.i .i64) (.t 11) (.c (i64 0)))⟩])
      (.cond (.t 12)
       (.seq
        (.reg [
          ⟨(some 13), none, .p (.bld [.slc [] 0, i64 0, i64 0, i64 0, i64 0, i64 0, i64 0] [])⟩,
          ⟨(some 14), none, .p (.mov (.t 6))⟩,
          ⟨(some 15), none, .p (.bld [i64 0, i64 0] [(0, 1, (.t 14))])⟩,
          ⟨none, none, .e (.st 7 (.t 4) (.t 13))⟩,
          ⟨none, none, .e (.st 2 (.t 5) (.t 15))⟩])
        .ret)
       .skip)))
    (.seq
     (.seq
      (.reg [
        ⟨(some 16), none, .p (.mov (.t 1))⟩,
        ⟨(some 17), none, .p (.len (.t 16))⟩,
        ⟨(some 18), none, .p (.bin .gtr (.i .i64) (.t 17) (.c (i64 10000)))⟩])
      (.cond (.t 18)
       (.seq
        (.reg [
          ⟨(some 19), none, .p (.bld [.slc [] 0, i64 0, i64 0, i64 0, i64 0, i64 0, i64 0] [])⟩,
          ⟨(some 20), none, .p (.bld [i64 0, i64 0] [(0, 1, (.c (i64 4))), (1, 1, (.c (i64 10000)))])⟩,
          ⟨none, none, .e (.st 7 (.t 4) (.t 19))⟩,
          ⟨none, none, .e (.st 2 (.t 5) (.t 20))⟩])
        .ret)
       .skip))
     (.seq
      (.reg [
        ⟨(some 22), none, .p (.ldn 7 (.t 2))⟩,
        ⟨(some 23), none, .e (.call (.c (.fn (.func 31) [] [])) [(.t 22)])⟩,
        ⟨(some 24), none, .p (.mov (.t 1))⟩,
        ⟨(some 25), none, .e (.call (.c (.fn (.func 41) [] [])) [(.t 23), (.t 24), (.c (.fn (.func 42) [] []))])⟩,
        ⟨(some 21), none, .p (.mov (.t 25))⟩,
        ⟨(some 26), none, .p (.ext (.t 21) 0)⟩,
        ⟨(some 27), none, .p (.ext (.t 21) 1)⟩,
        ⟨(some 7), none, .e (.alc 24 [.slc [] 0, i64 0, i64 0, i64 0, i64 0, i64 0, i64 0])⟩,
        ⟨(some 8), none, .e (.alc 42 [i64 0, i64 0])⟩,
        ⟨none, none, .e (.st 7 (.t 7) (.t 26))⟩,
        ⟨none, none, .e (.st 2 (.t 8) (.t 27))⟩])
      (.seq
       (.seq
        (.reg [
          ⟨(some 28), none, .p (.fa 0 (.t 8))⟩,
          ⟨(some 29), none, .p (.ld1 (.t 28))⟩,
          ⟨(some 30), none, .p (.bin .neq (.i .i64) (.t 29) (.c (i64 0)))⟩])
        (.cond (.t 30)
         (.seq
          (.drw [0, 1, 2, 3] [
            ⟨(some 31), none, .p (.bld [.slc [] 0, i64 0, i64 0, i64 0, i64 0, i64 0, i64 0] [])⟩,
            ⟨(some 32), none, .p (.ldn 2 (.t 8))⟩,
            ⟨none, none, .e (.st 7 (.t 4) (.t 31))⟩,
            ⟨none, none, .e (.st 2 (.t 5) (.t 32))⟩])
          .ret)
         .skip))
       (.seq
        (.reg [
          ⟨(some 33), none, .p (.ldn 7 (.t 7))⟩,
          ⟨(some 34), none, .p (.bld [i64 0, i64 0] [])⟩,
          ⟨none, none, .e (.st 7 (.t 4) (.t 33))⟩,
          ⟨none, none, .e (.st 2 (.t 5) (.t 34))⟩])
        .ret))))))
def r26 : List RS := [.cn 4 7, .cn 5 2]
theorem c26 : chkF Try.prog drawB Try.f26 i26 r26 = true := by kernel_rfl
def l27_0 : IC := .keep [1, 2, 4, 5, 7]
  (.seq
   (.seq
    (.reg [
      ⟨(some 24), none, .p (.mov (.t 7))⟩,
      ⟨(some 25), none, .p (.mov (.t 1))⟩,
      ⟨(some 26), none, .p (.len (.t 25))⟩,
      ⟨(some 27), none, .p (.bin .lss (.i .i64) (.t 24) (.t 26))⟩])
    (.cond (.t 27)
     .skip
     (.exit 0)))
   (.seq
    (.blk 1
     (.seq
      (.drw [0, 1, 2, 3, 4, 5, 6, 7, 8, 9, 10, 11, 12, 13, 14, 15, 16, 17] [
        ⟨(some 31), none, .p (.ldn 7 (.t 2))⟩,
        ⟨(some 32), none, .p (.mov (.t 1))⟩,
        ⟨(some 33), none, .p (.mov (.t 7))⟩,
        ⟨(some 34), none, .p (.ia 3 (.t 32) (.t 33))⟩,
        ⟨(some 35), none, .p (.fa 0 (.t 34))⟩,
        ⟨(some 36), none, .p (.ld1 (.t 35))⟩,
        ⟨(some 37), none, .p (.mov (.t 1))⟩,
        ⟨(some 38), none, .p (.mov (.t 7))⟩,
        ⟨(some 39), none, .p (.ia 3 (.t 37) (.t 38))⟩,
        ⟨(some 40), none, .p (.fa 1 (.t 39))⟩,
        ⟨(some 41), none, .p (.ld1 (.t 40))⟩,
        ⟨(some 42), none, .q (.c (.fn (.func 16) [] [])) [(.t 31), (.t 36), (.t 41)]⟩,
        ⟨(some 30), none, .p (.mov (.t 42))⟩,
        ⟨(some 43), none, .p (.ext (.t 30) 0)⟩,
        ⟨(some 44), none, .p (.ext (.t 30) 1)⟩,
        ⟨(some 8), none, .e (.alc 24 [.slc [] 0, i64 0, i64 0, i64 0, i64 0, i64 0, i64 0])⟩,
        ⟨none, none, .e (.st 7 (.t 8) (.t 43))⟩,
        ⟨(some 9), none, .p (.mov (.t 44))⟩])
      (.seq
       (.seq
        (.reg [
          ⟨(some 45), none, .p (.mov (.t 9))⟩,
          ⟨(some 46), none, .p (.bin .neq (.i .i64) (.t 45) (.c (i64 0)))⟩])
        (.cond (.t 46)
         (.seq
          (.reg [
            ⟨(some 47), none, .p (.bld [.slc [] 0, i64 0, i64 0, i64 0, i64 0, i64 0, i64 0] [])⟩,
            ⟨(some 48), none, .p (.mov (.t 9))⟩,
            ⟨(some 49), none, .p (.mov (.t 7))⟩,
            ⟨(some 50), none, .p (.bld [i64 0, i64 0] [(0, 1, (.t 48)), (1, 1, (.t 49))])⟩,
            ⟨none, none, .e (.st 7 (.t 4) (.t 47))⟩,
            ⟨none, none, .e (.st 2 (.t 5) (.t 50))⟩])
          .ret)
         .skip))
       (.seq
        (.drw [0, 1, 2, 3, 4, 5, 6, 7, 8, 9, 10, 11] [
          ⟨(some 52), none, .p (.ldn 7 (.t 8))⟩,
          ⟨(some 53), none, .p (.mov (.t 1))⟩,
          ⟨(some 54), none, .p (.mov (.t 7))⟩,
          ⟨(some 55), none, .p (.ia 3 (.t 53) (.t 54))⟩,
          ⟨(some 56), none, .p (.fa 2 (.t 55))⟩,
          ⟨(some 57), none, .p (.ld1 (.t 56))⟩,
          ⟨(some 58), none, .q (.c (.fn (.func 18) [] [])) [(.t 52), (.t 57)]⟩,
          ⟨(some 51), none, .p (.mov (.t 58))⟩,
          ⟨(some 59), none, .p (.ext (.t 51) 0)⟩,
          ⟨(some 60), none, .p (.ext (.t 51) 1)⟩,
          ⟨none, none, .e (.st 7 (.t 8) (.t 59))⟩,
          ⟨(some 9), none, .p (.mov (.t 60))⟩])
        (.seq
         (.seq
          (.reg [
            ⟨(some 61), none, .p (.mov (.t 9))⟩,
            ⟨(some 62), none, .p (.bin .neq (.i .i64) (.t 61) (.c (i64 0)))⟩])
          (.cond (.t 62)
           (.seq
            (.reg [
              ⟨(some 63), none, .p (.bld [.slc [] 0, i64 0, i64 0, i64 0, i64 0, i64 0, i64 0] [])⟩,
              ⟨(some 64), none, .p (.mov (.t 9))⟩,
              ⟨(some 65), none, .p (.mov (.t 7))⟩,
              ⟨(some 66), none, .p (.bld [i64 0, i64 0] [(0, 1, (.t 64)), (1, 1, (.t 65))])⟩,
              ⟨none, none, .e (.st 7 (.t 4) (.t 63))⟩,
              ⟨none, none, .e (.st 2 (.t 5) (.t 66))⟩])
            .ret)
           .skip))
         (.reg [
           ⟨(some 67), none, .p (.ldn 7 (.t 8))⟩,
           ⟨none, none, .e (.st 7 (.t 2) (.t 67))⟩]))))))
    (.reg [
      ⟨(some 28), none, .p (.mov (.t 7))⟩,
      ⟨(some 29), none, .p (.bin .add (.i .i64) (.t 28) (.c (i64 1)))⟩,
      ⟨(some 7), none, .p (.mov (.t 29))⟩])))
/-- parlour/parlourref35.Run -/
def i27 : IC :=
  (.seq
   (.reg [
     ⟨(some 2), none, .e (.box 24 (.t 0))⟩,
     ⟨(some 4), none, .e (.alc 24 [.slc [] 0, i64 0, i64 0, i64 0, i64 0, i64 0, i64 0])⟩,
     ⟨(some 5), none, .e (.alc 42 [i64 0, i64 0])⟩])
   (.seq
    (.seq
     (.reg [
       ⟨(some 10), none, .p (.ldn 7 (.t 2))⟩,
       ⟨(some 11), none, .e (.call (.c (.fn (.func 14) [] [])) [(.t 10)])⟩,
       ⟨(some 6), none, .p (.mov (.t 11))⟩])
     (.seq
      (.reg [
        ⟨(some 12), none, .p (.mov (.t 6))⟩,
        ⟨(some 13), none, .p (.bin .neq (.i .i64) (.t 12) (.c (i64 0)))⟩])
      (.cond (.t 13)
       (.seq
        (.reg [
          ⟨(some 14), none, .p (.bld [.slc [] 0, i64 0, i64 0, i64 0, i64 0, i64 0, i64 0] [])⟩,
          ⟨(some 15), none, .p (.mov (.t 6))⟩,
          ⟨(some 16), none, .p (.bld [i64 0, i64 0] [(0, 1, (.t 15))])⟩,
          ⟨none, none, .e (.st 7 (.t 4) (.t 14))⟩,
          ⟨none, none, .e (.st 2 (.t 5) (.t 16))⟩])
        .ret)
       .skip)))
    (.seq
     (.seq
      (.reg [
        ⟨(some 17), none, .p (.mov (.t 1))⟩,
        ⟨(some 18), none, .p (.len (.t 17))⟩,
        ⟨(some 19), none, .p (.bin .gtr (.i .i64) (.t 18) (.c (i64 10000)))⟩])
      (.cond (.t 19)
       (.seq
        (.reg [
          ⟨(some 20), none, .p (.bld [.slc [] 0, i64 0, i64 0, i64 0, i64 0, i64 0, i64 0] [])⟩,
          ⟨(some 21), none, .p (.bld [i64 0, i64 0] [(0, 1, (.c (i64 4))), (1, 1, (.c (i64 10000)))])⟩,
          ⟨none, none, .e (.st 7 (.t 4) (.t 20))⟩,
          ⟨none, none, .e (.st 2 (.t 5) (.t 21))⟩])
        .ret)
       .skip))
     (.seq
      (.reg [
        ⟨(some 22), none, .p (.ldn 7 (.t 2))⟩,
        ⟨(some 23), none, .e (.call (.c (.fn (.func 32) [] [])) [(.t 22)])⟩,
        ⟨none, none, .e (.st 7 (.t 2) (.t 23))⟩])
      (.seq
       (.seq
        (.reg [
          ⟨(some 7), none, .p (.mov (.c (i64 0)))⟩])
        (.blk 0
         (.loop l27_0)))
       (.seq
        (.reg [
          ⟨(some 68), none, .p (.ldn 7 (.t 2))⟩,
          ⟨(some 69), none, .p (.bld [i64 0, i64 0] [])⟩,
          ⟨none, none, .e (.st 7 (.t 4) (.t 68))⟩,
          ⟨none, none, .e (.st 2 (.t 5) (.t 69))⟩])
        .ret))))))
def r27 : List RS := [.cn 4 7, .cn 5 2]
theorem c27 : chkF Try.prog drawB Try.f27 i27 r27 = true := by kernel_rfl
def l28_0 : IC := .keep [2, 4, 5, 6]
  (.seq
   (.seq
    (.reg [
      ⟨(some 17), none, .p (.mov (.t 6))⟩,
      ⟨(some 18), none, .p (.bin .gtr (.i .i64) (.t 17) (.c (i64 0)))⟩])
    (.cond (.t 18)
     .skip
     (.exit 0)))
   (.seq
    (.blk 1
     (.reg [
       ⟨(some 21), none, .p (.mov (.t 5))⟩,
       ⟨(some 22), none, .p (.mov (.t 4))⟩,
       ⟨(some 23), none, .e (.call (.c (.fn (.func 30) [] [])) [(.t 22), (.c (i64 5000))])⟩,
       ⟨(some 24), none, .e (.bsl 3 1 1 [i64 0] [(0, (.t 23))])⟩,
       ⟨(some 25), none, .e (.app 3 1 8 (.t 21) (.t 24))⟩,
       ⟨(some 5), none, .p (.mov (.t 25))⟩]))
    (.reg [
      ⟨(some 19), none, .p (.mov (.t 6))⟩,
      ⟨(some 20), none, .p (.bin .sub (.i .i64) (.t 19) (.c (i64 1)))⟩,
      ⟨(some 6), none, .p (.mov (.t 20))⟩])))
/-- parlour/parlourlaw35.running -/
def i28 : IC :=
  (.seq
   (.reg [
     ⟨(some 2), none, .e (.alc 24 [.slc [] 0, i64 0, i64 0, i64 0, i64 0, i64 0, i64 0])⟩,
     ⟨(some 3), none, .p (.mov (.c (bl false)))⟩])
   (.seq
    (.reg [
      ⟨(some 11), none, .p (.mov (.t 0))⟩,
      ⟨(some 12), none, .p (.bld [.slc [] 0, i64 0] [(0, 1, (.t 11))])⟩,
      ⟨(some 13), none, .e (.box 55 (.t 12))⟩,
      ⟨(some 4), none, .p (.mov (.t 13))⟩])
    (.seq
     (.reg [
       ⟨(some 5), none, .e (.nil 3 1 (.c (.val (.slice none 0 0))))⟩])
     (.seq
      (.seq
       (.reg [
         ⟨(some 14), none, .p (.mov (.t 4))⟩,
         ⟨(some 15), none, .e (.call (.c (.fn (.func 30) [] [])) [(.t 14), (.c (i64 4))])⟩,
         ⟨(some 16), none, .p (.bin .add (.i .i64) (.c (i64 1)) (.t 15))⟩,
         ⟨(some 6), none, .p (.mov (.t 16))⟩])
       (.blk 0
        (.loop l28_0)))
      (.seq
       (.reg [
         ⟨(some 26), none, .p (.mov (.t 4))⟩,
         ⟨(some 27), none, .e (.call (.c (.fn (.func 30) [] [])) [(.t 26), (.c (i64 200))])⟩,
         ⟨(some 28), none, .p (.mov (.t 4))⟩,
         ⟨(some 29), none, .e (.call (.c (.fn (.func 30) [] [])) [(.t 28), (.c (i64 300))])⟩,
         ⟨(some 7), none, .p (.mov (.t 27))⟩,
         ⟨(some 8), none, .p (.mov (.t 29))⟩])
       (.seq
        (.reg [
          ⟨(some 31), none, .p (.mov (.t 5))⟩,
          ⟨(some 32), none, .p (.mov (.t 7))⟩,
          ⟨(some 33), none, .p (.mov (.t 8))⟩,
          ⟨(some 34), none, .e (.call (.c (.fn (.func 10) [] [])) [(.t 31), (.t 32), (.t 33)])⟩,
          ⟨(some 30), none, .p (.mov (.t 34))⟩,
          ⟨(some 35), none, .p (.ext (.t 30) 0)⟩,
          ⟨(some 36), none, .p (.ext (.t 30) 1)⟩,
          ⟨(some 9), none, .e (.alc 24 [.slc [] 0, i64 0, i64 0, i64 0, i64 0, i64 0, i64 0])⟩,
          ⟨none, none, .e (.st 7 (.t 9) (.t 35))⟩,
          ⟨(some 10), none, .p (.mov (.t 36))⟩])
        (.seq
         (.seq
          (.reg [
            ⟨(some 37), none, .p (.mov (.t 10))⟩,
            ⟨(some 38), none, .p (.bin .neq (.i .i64) (.t 37) (.c (i64 0)))⟩,
            ⟨(some 39), none, .p (.mov (.t 38))⟩,
            ⟨(some 40), (some (39, false)), .p (.fa 0 (.t 9))⟩,
            ⟨(some 41), (some (39, false)), .p (.ld1 (.t 40))⟩,
            ⟨(some 42), (some (39, false)), .p (.len (.t 41))⟩,
            ⟨(some 43), (some (39, false)), .p (.mov (.t 5))⟩,
            ⟨(some 44), (some (39, false)), .p (.len (.t 43))⟩,
            ⟨(some 45), (some (39, false)), .p (.bin .neq (.i .i64) (.t 42) (.t 44))⟩,
            ⟨(some 46), none, .p (.pick (.t 39) (.c (bl true)) (.t 45))⟩])
          (.cond (.t 46)
           (.seq
            (.reg [
              ⟨(some 47), none, .p (.ldn 7 (.t 9))⟩,
              ⟨none, none, .e (.st 7 (.t 2) (.t 47))⟩,
              ⟨(some 3), none, .p (.mov (.c (bl false)))⟩])
            .ret)
           .skip))
         (.seq
          (.drw [0, 1, 2, 3, 4, 5, 6, 7, 8, 9, 10] [
            ⟨(some 49), none, .p (.ldn 7 (.t 9))⟩,
            ⟨(some 50), none, .p (.mov (.t 4))⟩,
            ⟨(some 51), none, .p (.mov (.t 5))⟩,
            ⟨(some 52), none, .p (.len (.t 51))⟩,
            ⟨(some 53), none, .e (.call (.c (.fn (.func 30) [] [])) [(.t 50), (.t 52)])⟩,
            ⟨(some 54), none, .q (.c (.fn (.func 15) [] [])) [(.t 49), (.t 53), (.c (i64 1000))]⟩,
            ⟨(some 48), none, .p (.mov (.t 54))⟩,
            ⟨(some 55), none, .p (.ext (.t 48) 0)⟩,
            ⟨(some 56), none, .p (.ext (.t 48) 1)⟩,
            ⟨none, none, .e (.st 7 (.t 9) (.t 55))⟩,
            ⟨(some 10), none, .p (.mov (.t 56))⟩])
          (.seq
           (.drw [0, 1, 2, 3, 4, 5, 6, 7, 8, 9, 10, 11, 12, 13, 14, 15, 16, 17, 18, 19, 20, 21, 22, 23, 24] [
             ⟨(some 57), none, .p (.ldn 7 (.t 9))⟩,
             ⟨(some 58), none, .p (.mov (.t 10))⟩,
             ⟨(some 59), none, .p (.bin .eql (.i .i64) (.t 58) (.c (i64 0)))⟩,
             ⟨(some 60), none, .p (.mov (.t 59))⟩,
             ⟨(some 61), (some (60, true)), .p (.fa 0 (.t 9))⟩,
             ⟨(some 62), (some (60, true)), .p (.ld1 (.t 61))⟩,
             ⟨(some 63), (some (60, true)), .p (.len (.t 62))⟩,
             ⟨(some 64), (some (60, true)), .p (.mov (.t 5))⟩,
             ⟨(some 65), (some (60, true)), .p (.len (.t 64))⟩,
             ⟨(some 66), (some (60, true)), .p (.bin .eql (.i .i64) (.t 63) (.t 65))⟩,
             ⟨(some 67), none, .p (.pick (.t 60) (.t 66) (.c (bl false)))⟩,
             ⟨(some 68), none, .p (.mov (.t 67))⟩,
             ⟨(some 69), (some (68, true)), .p (.fa 3 (.t 9))⟩,
             ⟨(some 70), (some (68, true)), .p (.ld1 (.t 69))⟩,
             ⟨(some 71), (some (68, true)), .p (.bin .geq (.i .i64) (.t 70) (.c (i64 0)))⟩,
             ⟨(some 72), none, .p (.pick (.t 68) (.t 71) (.c (bl false)))⟩,
             ⟨(some 73), none, .p (.mov (.t 72))⟩,
             ⟨(some 74), (some (73, true)), .p (.fa 3 (.t 9))⟩,
             ⟨(some 75), (some (73, true)), .p (.ld1 (.t 74))⟩,
             ⟨(some 76), (some (73, true)), .p (.mov (.t 5))⟩,
             ⟨(some 77), (some (73, true)), .p (.len (.t 76))⟩,
             ⟨(some 78), (some (73, true)), .p (.bin .lss (.i .i64) (.t 75) (.t 77))⟩,
             ⟨(some 79), none, .p (.pick (.t 73) (.t 78) (.c (bl false)))⟩,
             ⟨none, none, .e (.st 7 (.t 2) (.t 57))⟩,
             ⟨(some 3), none, .p (.mov (.t 79))⟩])
           .ret)))))))))
def r28 : List RS := [.cn 2 7, .t 3]
theorem c28 : chkF Try.prog drawB Try.f28 i28 r28 = true := by kernel_rfl
/-- parlour/parlourkit.Mod -/
def i29 : IC :=
  (.seq
   (.reg [
     ⟨(some 4), none, .p (.mov (.c (i64 0)))⟩])
   (.seq
    (.reg [
      ⟨(some 5), none, .p (.mov (.t 0))⟩,
      ⟨(some 6), none, .p (.mov (.t 1))⟩,
      ⟨(some 7), none, .p (.bin .rem (.i .i64) (.t 5) (.t 6))⟩,
      ⟨(some 0), none, .p (.mov (.t 7))⟩])
    (.seq
     (.seq
      (.reg [
        ⟨(some 8), none, .p (.mov (.t 0))⟩,
        ⟨(some 9), none, .p (.bin .lss (.i .i64) (.t 8) (.c (i64 0)))⟩])
      (.cond (.t 9)
       (.reg [
         ⟨(some 10), none, .p (.mov (.t 0))⟩,
         ⟨(some 11), none, .p (.mov (.t 1))⟩,
         ⟨(some 12), none, .p (.bin .add (.i .i64) (.t 10) (.t 11))⟩,
         ⟨(some 0), none, .p (.mov (.t 12))⟩])
       .skip))
     (.seq
      (.reg [
        ⟨(some 13), none, .p (.mov (.t 0))⟩,
        ⟨(some 4), none, .p (.mov (.t 13))⟩])
      .ret))))
def r29 : List RS := [.t 4]
theorem c29 : chkF Try.prog drawB Try.f29 i29 r29 = true := by kernel_rfl
/-- (*parlour/parlourkit.Draws).Next -/
def i30 : IC :=
  (.seq
   (.reg [
     ⟨(some 4), none, .p (.mov (.c (i64 0)))⟩])
   (.seq
    (.seq
     (.drw [0, 1, 2, 3, 4, 5, 6, 7, 8, 9, 10, 11, 12, 13] [
       ⟨(some 5), none, .p (.mov (.t 0))⟩,
       ⟨(some 6), none, .p (.nck (.t 5))⟩,
       ⟨(some 7), none, .p (.fa 1 (.t 6))⟩,
       ⟨(some 8), none, .p (.ld1 (.t 7))⟩,
       ⟨(some 9), none, .p (.mov (.t 0))⟩,
       ⟨(some 10), none, .p (.nck (.t 9))⟩,
       ⟨(some 11), none, .p (.fa 0 (.t 10))⟩,
       ⟨(some 12), none, .p (.ld1 (.t 11))⟩,
       ⟨(some 13), none, .p (.len (.t 12))⟩,
       ⟨(some 14), none, .p (.bin .geq (.i .i64) (.t 8) (.t 13))⟩,
       ⟨(some 15), none, .p (.mov (.t 14))⟩,
       ⟨(some 16), (some (15, false)), .p (.mov (.t 1))⟩,
       ⟨(some 17), (some (15, false)), .p (.bin .lss (.i .i64) (.t 16) (.c (i64 1)))⟩,
       ⟨(some 18), none, .p (.pick (.t 15) (.c (bl true)) (.t 17))⟩])
     (.cond (.t 18)
      (.seq
       (.reg [
         ⟨(some 4), none, .p (.mov (.c (i64 0)))⟩])
       .ret)
      .skip))
    (.seq
     (.reg [
       ⟨(some 19), none, .p (.mov (.t 0))⟩,
       ⟨(some 20), none, .p (.nck (.t 19))⟩,
       ⟨(some 21), none, .p (.fa 1 (.t 20))⟩,
       ⟨(some 22), none, .p (.ld1 (.t 21))⟩,
       ⟨(some 23), none, .p (.bin .add (.i .i64) (.t 22) (.c (i64 1)))⟩,
       ⟨(some 24), none, .p (.nck (.t 19))⟩,
       ⟨(some 25), none, .p (.fa 1 (.t 24))⟩,
       ⟨none, none, .e (.st 1 (.t 25) (.t 23))⟩])
     (.seq
      (.drw [0, 1, 2, 3, 4, 5, 6, 7, 8, 9, 10, 11, 12, 13] [
        ⟨(some 26), none, .p (.mov (.t 0))⟩,
        ⟨(some 27), none, .p (.nck (.t 26))⟩,
        ⟨(some 28), none, .p (.fa 0 (.t 27))⟩,
        ⟨(some 29), none, .p (.ld1 (.t 28))⟩,
        ⟨(some 30), none, .p (.mov (.t 0))⟩,
        ⟨(some 31), none, .p (.nck (.t 30))⟩,
        ⟨(some 32), none, .p (.fa 1 (.t 31))⟩,
        ⟨(some 33), none, .p (.ld1 (.t 32))⟩,
        ⟨(some 34), none, .p (.bin .sub (.i .i64) (.t 33) (.c (i64 1)))⟩,
        ⟨(some 35), none, .p (.ia 1 (.t 29) (.t 34))⟩,
        ⟨(some 36), none, .p (.ld1 (.t 35))⟩,
        ⟨(some 37), none, .p (.mov (.t 1))⟩,
        ⟨(some 38), none, .q (.c (.fn (.func 29) [] [])) [(.t 36), (.t 37)]⟩,
        ⟨(some 4), none, .p (.mov (.t 38))⟩])
      .ret))))
def r30 : List RS := [.t 4]
theorem c30 : chkF Try.prog drawB Try.f30 i30 r30 = true := by kernel_rfl
/-- (parlour/clock.clock).copied -/
def i31 : IC :=
  (.seq
   (.reg [
     ⟨(some 1), none, .e (.box 57 (.t 0))⟩,
     ⟨(some 2), none, .e (.alc 57 [.slc [] 0, i64 0, i64 0, i64 0, i64 0, i64 0, i64 0])⟩])
   (.seq
    (.reg [
      ⟨(some 3), none, .p (.fa 0 (.t 1))⟩,
      ⟨(some 4), none, .p (.ld1 (.t 3))⟩,
      ⟨(some 5), none, .e (.call (.c (.fn (.func 43) [] [])) [(.t 4)])⟩,
      ⟨(some 6), none, .p (.fa 0 (.t 1))⟩,
      ⟨none, none, .e (.st 1 (.t 6) (.t 5))⟩])
    (.seq
     (.reg [
       ⟨(some 7), none, .p (.ldn 7 (.t 1))⟩,
       ⟨none, none, .e (.st 7 (.t 2) (.t 7))⟩])
     .ret)))
def r31 : List RS := [.cn 2 7]
theorem c31 : chkF Try.prog drawB Try.f31 i31 r31 = true := by kernel_rfl
/-- parlour/parlourref35.own -/
def i32 : IC :=
  (.seq
   (.reg [
     ⟨(some 1), none, .e (.box 24 (.t 0))⟩,
     ⟨(some 2), none, .e (.alc 24 [.slc [] 0, i64 0, i64 0, i64 0, i64 0, i64 0, i64 0])⟩])
   (.seq
    (.reg [
      ⟨(some 3), none, .e (.bsl 3 1 0 [i64 0] [])⟩,
      ⟨(some 4), none, .p (.fa 0 (.t 1))⟩,
      ⟨(some 5), none, .p (.ld1 (.t 4))⟩,
      ⟨(some 6), none, .e (.app 3 1 8 (.t 3) (.t 5))⟩,
      ⟨(some 7), none, .p (.fa 0 (.t 1))⟩,
      ⟨none, none, .e (.st 1 (.t 7) (.t 6))⟩])
    (.seq
     (.reg [
       ⟨(some 8), none, .p (.ldn 7 (.t 1))⟩,
       ⟨none, none, .e (.st 7 (.t 2) (.t 8))⟩])
     .ret)))
def r32 : List RS := [.cn 2 7]
theorem c32 : chkF Try.prog drawB Try.f32 i32 r32 = true := by kernel_rfl
/-- parlour/clock.rules -/
def i33 : IC :=
  (.seq
   (.reg [
     ⟨(some 0), none, .p (.mov (.c (.slc [] 0)))⟩])
   (.seq
    (.reg [
      ⟨(some 1), none, .p (.bld [.val .nilFunc] [(0, 1, (.c (.fn (.func 44) [] [])))])⟩,
      ⟨(some 2), none, .p (.bld [.val .nilFunc] [(0, 1, (.c (.fn (.func 45) [] [])))])⟩,
      ⟨(some 3), none, .p (.bld [.val .nilFunc] [(0, 1, (.c (.fn (.func 46) [] [])))])⟩,
      ⟨(some 4), none, .p (.bld [.val .nilFunc] [(0, 1, (.c (.fn (.func 47) [] [])))])⟩,
      ⟨(some 5), none, .p (.bld [.val .nilFunc] [(0, 1, (.c (.fn (.func 48) [] [])))])⟩,
      ⟨(some 6), none, .p (.bld [.val .nilFunc] [(0, 1, (.c (.fn (.func 49) [] [])))])⟩,
      ⟨(some 7), none, .p (.bld [.val .nilFunc] [(0, 1, (.c (.fn (.func 50) [] [])))])⟩,
      ⟨(some 8), none, .p (.bld [.val .nilFunc] [(0, 1, (.c (.fn (.func 51) [] [])))])⟩,
      ⟨(some 9), none, .e (.bsl 64 1 8 [.val .nilFunc] [(0, (.t 1)), (1, (.t 2)), (2, (.t 3)), (3, (.t 4)), (4, (.t 5)), (5, (.t 6)), (6, (.t 7)), (7, (.t 8))])⟩,
      ⟨(some 0), none, .p (.mov (.t 9))⟩])
    .ret))
def r33 : List RS := [.t 0]
theorem c33 : chkF Try.prog drawB Try.f33 i33 r33 = true := by kernel_rfl
/-- parlour/clock.timed -/
def i34 : IC :=
  (.seq
   (.reg [
     ⟨(some 2), none, .e (.box 24 (.t 0))⟩,
     ⟨(some 4), none, .p (.mov (.c (i64 0)))⟩])
   (.seq
    (.seq
     (.reg [
       ⟨(some 6), none, .p (.ldn 7 (.t 2))⟩,
       ⟨(some 7), none, .e (.call (.c (.fn (.func 13) [] [])) [(.t 6)])⟩,
       ⟨(some 5), none, .p (.mov (.t 7))⟩])
     (.seq
      (.reg [
        ⟨(some 8), none, .p (.mov (.t 5))⟩,
        ⟨(some 9), none, .p (.bin .neq (.i .i64) (.t 8) (.c (i64 0)))⟩])
      (.cond (.t 9)
       (.seq
        (.reg [
          ⟨(some 10), none, .p (.mov (.t 5))⟩,
          ⟨(some 4), none, .p (.mov (.t 10))⟩])
        .ret)
       .skip)))
    (.seq
     (.seq
      (.reg [
        ⟨(some 11), none, .p (.mov (.t 1))⟩,
        ⟨(some 12), none, .e (.bsl 3 1 1 [i64 0] [(0, (.t 11))])⟩,
        ⟨(some 13), none, .e (.call (.c (.fn (.func 36) [] [])) [(.c (i64 0)), (.c (i64 1000000000000)), (.t 12)])⟩,
        ⟨(some 14), none, .p (.not (.t 13))⟩])
      (.cond (.t 14)
       (.seq
        (.reg [
          ⟨(some 4), none, .p (.mov (.c (i64 2)))⟩])
        .ret)
       .skip))
     (.seq
      (.seq
       (.reg [
         ⟨(some 15), none, .p (.mov (.t 1))⟩,
         ⟨(some 16), none, .p (.fa 5 (.t 2))⟩,
         ⟨(some 17), none, .p (.ld1 (.t 16))⟩,
         ⟨(some 18), none, .p (.bin .lss (.i .i64) (.t 15) (.t 17))⟩])
       (.cond (.t 18)
        (.seq
         (.reg [
           ⟨(some 4), none, .p (.mov (.c (i64 9)))⟩])
         .ret)
        .skip))
      (.seq
       (.reg [
         ⟨(some 4), none, .p (.mov (.c (i64 0)))⟩])
       .ret)))))
def r34 : List RS := [.t 4]
theorem c34 : chkF Try.prog drawB Try.f34 i34 r34 = true := by kernel_rfl
/-- parlour/clock.state -/
def i35 : IC :=
  (.seq
   (.reg [
     ⟨(some 2), none, .e (.box 24 (.t 0))⟩,
     ⟨(some 3), none, .e (.box 4 (.t 1))⟩,
     ⟨(some 4), none, .p (.mov (.c (i64 0)))⟩])
   (.seq
    (.reg [
      ⟨(some 6), none, .p (.mkf (.func 52) [] [(.t 3), (.t 2)])⟩,
      ⟨(some 7), none, .p (.bld [.val .nilFunc, .val .nilFunc] [(0, 1, (.t 6)), (1, 1, (.c (.fn (.func 53) [] [])))])⟩,
      ⟨(some 5), none, .e (.alc 74 [.val .nilFunc, .val .nilFunc])⟩,
      ⟨none, none, .e (.st 2 (.t 5) (.t 7))⟩])
    (.seq
     (.reg [
       ⟨(some 8), none, .p (.fa 6 (.t 2))⟩,
       ⟨(some 9), none, .p (.ld1 (.t 8))⟩,
       ⟨(some 10), none, .p (.bin .geq (.i .i64) (.t 9) (.c (i64 0)))⟩,
       ⟨(some 11), none, .e (.call (.c (.fn (.func 54) [] [])) [(.t 10)])⟩,
       ⟨(some 12), none, .p (.iap 2 1 (.t 5) (.t 11))⟩,
       ⟨(some 13), none, .p (.ld1 (.t 12))⟩,
       ⟨(some 14), none, .e (.call (.t 13) [])⟩,
       ⟨(some 4), none, .p (.mov (.t 14))⟩])
     .ret)))
def r35 : List RS := [.t 4]
theorem c35 : chkF Try.prog drawB Try.f35 i35 r35 = true := by kernel_rfl
def l36_0 : IC := .keep [0, 1, 9, 10, 11]
  (.seq
   (.reg [
     ⟨(some 12), none, .p (.bin .lss (.i .i64) (.t 11) (.t 10))⟩])
   (.seq
    (.cond (.t 12)
     .skip
     (.exit 0))
    (.seq
     (.blk 1
      (.seq
       (.reg [
         ⟨(some 13), none, .p (.ia 1 (.t 9) (.t 11))⟩,
         ⟨(some 14), none, .p (.ld1 (.t 13))⟩,
         ⟨(some 8), none, .p (.mov (.t 14))⟩])
       (.seq
        (.reg [
          ⟨(some 15), none, .p (.mov (.t 8))⟩,
          ⟨(some 16), none, .p (.mov (.t 0))⟩,
          ⟨(some 17), none, .p (.bin .lss (.i .i64) (.t 15) (.t 16))⟩,
          ⟨(some 18), none, .p (.mov (.t 17))⟩,
          ⟨(some 19), (some (18, false)), .p (.mov (.t 8))⟩,
          ⟨(some 20), (some (18, false)), .p (.mov (.t 1))⟩,
          ⟨(some 21), (some (18, false)), .p (.bin .gtr (.i .i64) (.t 19) (.t 20))⟩,
          ⟨(some 22), none, .p (.pick (.t 18) (.c (bl true)) (.t 21))⟩])
        (.cond (.t 22)
         (.seq
          (.reg [
            ⟨(some 6), none, .p (.mov (.c (bl false)))⟩])
          .ret)
         .skip))))
     (.reg [
       ⟨(some 23), none, .p (.bin .add (.i .i64) (.t 11) (.c (i64 1)))⟩,
       ⟨(some 11), none, .p (.mov (.t 23))⟩]))))
/-- parlour/clock.within -/
def i36 : IC :=
  (.seq
   (.reg [
     ⟨(some 6), none, .p (.mov (.c (bl false)))⟩])
   (.seq
    (.seq
     (.reg [
       ⟨(some 9), none, .p (.mov (.t 2))⟩,
       ⟨(some 10), none, .p (.len (.t 9))⟩,
       ⟨(some 11), none, .p (.mov (.c (i64 0)))⟩])
     (.blk 0
      (.loop l36_0)))
    (.seq
     (.reg [
       ⟨(some 6), none, .p (.mov (.c (bl true)))⟩])
     .ret)))
def r36 : List RS := [.t 6]
theorem c36 : chkF Try.prog drawB Try.f36 i36 r36 = true := by kernel_rfl
/-- parlour/parlourref35.told -/
def i37 : IC :=
  (.seq
   (.reg [
     ⟨(some 2), none, .e (.box 24 (.t 0))⟩,
     ⟨(some 4), none, .p (.mov (.c (i64 0)))⟩])
   (.seq
    (.seq
     (.reg [
       ⟨(some 6), none, .p (.ldn 7 (.t 2))⟩,
       ⟨(some 7), none, .e (.call (.c (.fn (.func 14) [] [])) [(.t 6)])⟩,
       ⟨(some 5), none, .p (.mov (.t 7))⟩])
     (.seq
      (.reg [
        ⟨(some 8), none, .p (.mov (.t 5))⟩,
        ⟨(some 9), none, .p (.bin .neq (.i .i64) (.t 8) (.c (i64 0)))⟩])
      (.cond (.t 9)
       (.seq
        (.reg [
          ⟨(some 10), none, .p (.mov (.t 5))⟩,
          ⟨(some 4), none, .p (.mov (.t 10))⟩])
        .ret)
       .skip)))
    (.seq
     (.seq
      (.reg [
        ⟨(some 11), none, .p (.mov (.t 1))⟩,
        ⟨(some 12), none, .p (.bin .lss (.i .i64) (.t 11) (.c (i64 0)))⟩,
        ⟨(some 13), none, .p (.mov (.t 12))⟩,
        ⟨(some 14), (some (13, false)), .p (.mov (.t 1))⟩,
        ⟨(some 15), (some (13, false)), .p (.bin .gtr (.i .i64) (.t 14) (.c (i64 1000000000000)))⟩,
        ⟨(some 16), none, .p (.pick (.t 13) (.c (bl true)) (.t 15))⟩])
      (.cond (.t 16)
       (.seq
        (.reg [
          ⟨(some 4), none, .p (.mov (.c (i64 2)))⟩])
        .ret)
       .skip))
     (.seq
      (.seq
       (.reg [
         ⟨(some 17), none, .p (.mov (.t 1))⟩,
         ⟨(some 18), none, .p (.fa 5 (.t 2))⟩,
         ⟨(some 19), none, .p (.ld1 (.t 18))⟩,
         ⟨(some 20), none, .p (.bin .lss (.i .i64) (.t 17) (.t 19))⟩])
       (.cond (.t 20)
        (.seq
         (.reg [
           ⟨(some 4), none, .p (.mov (.c (i64 9)))⟩])
         .ret)
        .skip))
      (.seq
       (.reg [
         ⟨(some 4), none, .p (.mov (.c (i64 0)))⟩])
       .ret)))))
def r37 : List RS := [.t 4]
theorem c37 : chkF Try.prog drawB Try.f37 i37 r37 = true := by kernel_rfl
/-- (parlour/clock.clock).falls -/
def i38 : IC :=
  (.seq
   (.reg [
     ⟨(some 2), none, .e (.box 57 (.t 0))⟩,
     ⟨(some 4), none, .p (.mov (.c (bl false)))⟩])
   (.seq
    (.drw [0, 1, 2, 3, 4, 5, 6, 7, 8, 9, 10] [
      ⟨(some 5), none, .p (.ldn 7 (.t 2))⟩,
      ⟨(some 6), none, .p (.mov (.t 1))⟩,
      ⟨(some 7), none, .q (.c (.fn (.func 39) [] [])) [(.t 5), (.t 6)]⟩,
      ⟨(some 8), none, .p (.fa 0 (.t 2))⟩,
      ⟨(some 9), none, .p (.ld1 (.t 8))⟩,
      ⟨(some 10), none, .p (.fa 3 (.t 2))⟩,
      ⟨(some 11), none, .p (.ld1 (.t 10))⟩,
      ⟨(some 12), none, .p (.ia 1 (.t 9) (.t 11))⟩,
      ⟨(some 13), none, .p (.ld1 (.t 12))⟩,
      ⟨(some 14), none, .p (.bin .gtr (.i .i64) (.t 7) (.t 13))⟩,
      ⟨(some 4), none, .p (.mov (.t 14))⟩])
    .ret))
def r38 : List RS := [.t 4]
theorem c38 : chkF Try.prog drawB Try.f38 i38 r38 = true := by kernel_rfl
/-- (parlour/clock.clock).used -/
def i39 : IC :=
  (.seq
   (.reg [
     ⟨(some 2), none, .e (.box 57 (.t 0))⟩,
     ⟨(some 4), none, .p (.mov (.c (i64 0)))⟩])
   (.seq
    (.reg [
      ⟨(some 5), none, .p (.mov (.t 1))⟩,
      ⟨(some 6), none, .p (.fa 4 (.t 2))⟩,
      ⟨(some 7), none, .p (.ld1 (.t 6))⟩,
      ⟨(some 8), none, .p (.bin .sub (.i .i64) (.t 5) (.t 7))⟩,
      ⟨(some 9), none, .p (.fa 2 (.t 2))⟩,
      ⟨(some 10), none, .p (.ld1 (.t 9))⟩,
      ⟨(some 11), none, .p (.bin .sub (.i .i64) (.t 8) (.t 10))⟩,
      ⟨(some 12), none, .p (.mm true .i64 (.c (i64 0)) (.t 11))⟩,
      ⟨(some 4), none, .p (.mov (.t 12))⟩])
    .ret))
def r39 : List RS := [.t 4]
theorem c39 : chkF Try.prog drawB Try.f39 i39 r39 = true := by kernel_rfl
/-- parlour/parlourref35.used -/
def i40 : IC :=
  (.seq
   (.reg [
     ⟨(some 2), none, .e (.box 24 (.t 0))⟩,
     ⟨(some 4), none, .p (.mov (.c (i64 0)))⟩])
   (.seq
    (.reg [
      ⟨(some 5), none, .p (.mov (.t 1))⟩,
      ⟨(some 6), none, .p (.fa 4 (.t 2))⟩,
      ⟨(some 7), none, .p (.ld1 (.t 6))⟩,
      ⟨(some 8), none, .p (.bin .sub (.i .i64) (.t 5) (.t 7))⟩,
      ⟨(some 9), none, .p (.fa 2 (.t 2))⟩,
      ⟨(some 10), none, .p (.ld1 (.t 9))⟩,
      ⟨(some 11), none, .p (.bin .sub (.i .i64) (.t 8) (.t 10))⟩,
      ⟨(some 12), none, .p (.mm true .i64 (.c (i64 0)) (.t 11))⟩,
      ⟨(some 4), none, .p (.mov (.t 12))⟩])
    .ret))
def r40 : List RS := [.t 4]
theorem c40 : chkF Try.prog drawB Try.f40 i40 r40 = true := by kernel_rfl
def l41_0 : IC := .keep [2, 3, 6, 7, 12, 13, 14]
  (.seq
   (.reg [
     ⟨(some 15), none, .p (.bin .lss (.i .i64) (.t 14) (.t 13))⟩])
   (.seq
    (.cond (.t 15)
     .skip
     (.exit 0))
    (.seq
     (.blk 1
      (.seq
       (.reg [
         ⟨(some 16), none, .p (.mov (.t 14))⟩,
         ⟨(some 17), none, .p (.ia 3 (.t 12) (.t 14))⟩,
         ⟨(some 18), none, .p (.ldn 3 (.t 17))⟩,
         ⟨(some 9), none, .e (.alc 46 [i64 0, i64 0, i64 0])⟩,
         ⟨(some 8), none, .p (.mov (.t 16))⟩,
         ⟨none, none, .e (.st 3 (.t 9) (.t 18))⟩])
       (.seq
        (.reg [
          ⟨(some 20), none, .p (.mov (.t 2))⟩,
          ⟨(some 21), none, .p (.ldn 7 (.t 3))⟩,
          ⟨(some 22), none, .p (.ldn 3 (.t 9))⟩,
          ⟨(some 23), none, .e (.call (.t 20) [(.t 21), (.t 22)])⟩,
          ⟨(some 19), none, .p (.mov (.t 23))⟩,
          ⟨(some 24), none, .p (.ext (.t 19) 0)⟩,
          ⟨(some 25), none, .p (.ext (.t 19) 1)⟩,
          ⟨(some 10), none, .e (.alc 24 [.slc [] 0, i64 0, i64 0, i64 0, i64 0, i64 0, i64 0])⟩,
          ⟨none, none, .e (.st 7 (.t 10) (.t 24))⟩,
          ⟨(some 11), none, .p (.mov (.t 25))⟩])
        (.seq
         (.seq
          (.reg [
            ⟨(some 26), none, .p (.mov (.t 11))⟩,
            ⟨(some 27), none, .p (.bin .neq (.i .i64) (.t 26) (.c (i64 0)))⟩])
          (.cond (.t 27)
           (.seq
            (.reg [
              ⟨(some 28), none, .p (.ldn 7 (.t 3))⟩,
              ⟨(some 29), none, .p (.mov (.t 11))⟩,
              ⟨(some 30), none, .p (.mov (.t 8))⟩,
              ⟨(some 31), none, .p (.bld [i64 0, i64 0] [(0, 1, (.t 29)), (1, 1, (.t 30))])⟩,
              ⟨none, none, .e (.st 7 (.t 6) (.t 28))⟩,
              ⟨none, none, .e (.st 2 (.t 7) (.t 31))⟩])
            .ret)
           .skip))
         (.reg [
           ⟨(some 32), none, .p (.ldn 7 (.t 10))⟩,
           ⟨none, none, .e (.st 7 (.t 3) (.t 32))⟩])))))
     (.reg [
       ⟨(some 33), none, .p (.bin .add (.i .i64) (.t 14) (.c (i64 1)))⟩,
       ⟨(some 14), none, .p (.mov (.t 33))⟩]))))
/-- parlour/clock.fold(parlour/api.Clock,parlour/api.Tick) -/
def i41 : IC :=
  (.seq
   (.reg [
     ⟨(some 3), none, .e (.box 24 (.t 0))⟩,
     ⟨(some 6), none, .e (.alc 24 [.slc [] 0, i64 0, i64 0, i64 0, i64 0, i64 0, i64 0])⟩,
     ⟨(some 7), none, .e (.alc 42 [i64 0, i64 0])⟩])
   (.seq
    (.seq
     (.reg [
       ⟨(some 12), none, .p (.mov (.t 1))⟩,
       ⟨(some 13), none, .p (.len (.t 12))⟩,
       ⟨(some 14), none, .p (.mov (.c (i64 0)))⟩])
     (.blk 0
      (.loop l41_0)))
    (.seq
     (.reg [
       ⟨(some 34), none, .p (.ldn 7 (.t 3))⟩,
       ⟨(some 35), none, .p (.bld [i64 0, i64 0] [])⟩,
       ⟨none, none, .e (.st 7 (.t 6) (.t 34))⟩,
       ⟨none, none, .e (.st 2 (.t 7) (.t 35))⟩])
     .ret)))
def r41 : List RS := [.cn 6 7, .cn 7 2]
theorem c41 : chkF Try.prog drawB Try.f41 i41 r41 = true := by kernel_rfl
/-- parlour/clock.turn -/
def i42 : IC :=
  (.seq
   (.reg [
     ⟨(some 2), none, .e (.box 24 (.t 0))⟩,
     ⟨(some 3), none, .e (.box 46 (.t 1))⟩,
     ⟨(some 4), none, .e (.alc 24 [.slc [] 0, i64 0, i64 0, i64 0, i64 0, i64 0, i64 0])⟩,
     ⟨(some 5), none, .p (.mov (.c (i64 0)))⟩])
   (.seq
    (.reg [
      ⟨(some 9), none, .p (.ldn 7 (.t 2))⟩,
      ⟨(some 10), none, .p (.fa 0 (.t 3))⟩,
      ⟨(some 11), none, .p (.ld1 (.t 10))⟩,
      ⟨(some 12), none, .p (.fa 1 (.t 3))⟩,
      ⟨(some 13), none, .p (.ld1 (.t 12))⟩,
      ⟨(some 14), none, .e (.call (.c (.fn (.func 15) [] [])) [(.t 9), (.t 11), (.t 13)])⟩,
      ⟨(some 8), none, .p (.mov (.t 14))⟩,
      ⟨(some 15), none, .p (.ext (.t 8) 0)⟩,
      ⟨(some 16), none, .p (.ext (.t 8) 1)⟩,
      ⟨(some 6), none, .e (.alc 24 [.slc [] 0, i64 0, i64 0, i64 0, i64 0, i64 0, i64 0])⟩,
      ⟨none, none, .e (.st 7 (.t 6) (.t 15))⟩,
      ⟨(some 7), none, .p (.mov (.t 16))⟩])
    (.seq
     (.seq
      (.reg [
        ⟨(some 17), none, .p (.mov (.t 7))⟩,
        ⟨(some 18), none, .p (.bin .neq (.i .i64) (.t 17) (.c (i64 0)))⟩])
      (.cond (.t 18)
       (.seq
        (.reg [
          ⟨(some 19), none, .p (.bld [.slc [] 0, i64 0, i64 0, i64 0, i64 0, i64 0, i64 0] [])⟩,
          ⟨(some 20), none, .p (.mov (.t 7))⟩,
          ⟨none, none, .e (.st 7 (.t 4) (.t 19))⟩,
          ⟨(some 5), none, .p (.mov (.t 20))⟩])
        .ret)
       .skip))
     (.seq
      (.reg [
        ⟨(some 21), none, .p (.ldn 7 (.t 6))⟩,
        ⟨(some 22), none, .p (.fa 2 (.t 3))⟩,
        ⟨(some 23), none, .p (.ld1 (.t 22))⟩,
        ⟨(some 24), none, .e (.call (.c (.fn (.func 17) [] [])) [(.t 21), (.t 23)])⟩,
        ⟨(some 25), none, .p (.ext (.t 24) 0)⟩,
        ⟨(some 26), none, .p (.ext (.t 24) 1)⟩,
        ⟨none, none, .e (.st 7 (.t 4) (.t 25))⟩,
        ⟨(some 5), none, .p (.mov (.t 26))⟩])
      .ret))))
def r42 : List RS := [.cn 4 7, .t 5]
theorem c42 : chkF Try.prog drawB Try.f42 i42 r42 = true := by kernel_rfl
/-- slices.Clone(()int,int) -/
def i43 : IC :=
  (.seq
   (.reg [
     ⟨(some 2), none, .p (.mov (.c (.slc [] 0)))⟩])
   (.seq
    (.seq
     (.reg [
       ⟨(some 3), none, .p (.mov (.t 0))⟩,
       ⟨(some 4), none, .e (.snil false true (.t 3))⟩])
     (.cond (.t 4)
      (.seq
       (.reg [
         ⟨(some 2), none, .p (.mov (.c (.slc [] 0)))⟩])
       .ret)
      .skip))
    (.seq
     (.reg [
       ⟨(some 5), none, .e (.bsl 3 1 0 [i64 0] [])⟩,
       ⟨(some 6), none, .p (.mov (.t 0))⟩,
       ⟨(some 7), none, .e (.app 3 1 8 (.t 5) (.t 6))⟩,
       ⟨(some 2), none, .p (.mov (.t 7))⟩])
     .ret)))
def r43 : List RS := [.t 2]
theorem c43 : chkF Try.prog drawB Try.f43 i43 r43 = true := by kernel_rfl
/-- parlour/clock.rules$1 -/
def i44 : IC :=
  (.seq
   (.reg [
     ⟨(some 1), none, .e (.box 24 (.t 0))⟩,
     ⟨(some 2), none, .p (.mov (.c (bl false)))⟩])
   (.seq
    (.reg [
      ⟨(some 3), none, .p (.fa 0 (.t 1))⟩,
      ⟨(some 4), none, .p (.ld1 (.t 3))⟩,
      ⟨(some 5), none, .p (.len (.t 4))⟩,
      ⟨(some 6), none, .e (.bsl 3 1 1 [i64 0] [(0, (.t 5))])⟩,
      ⟨(some 7), none, .e (.call (.c (.fn (.func 36) [] [])) [(.c (i64 1)), (.c (i64 4)), (.t 6)])⟩,
      ⟨(some 2), none, .p (.mov (.t 7))⟩])
    .ret))
def r44 : List RS := [.t 2]
theorem c44 : chkF Try.prog drawB Try.f44 i44 r44 = true := by kernel_rfl
/-- parlour/clock.rules$2 -/
def i45 : IC :=
  (.seq
   (.reg [
     ⟨(some 1), none, .e (.box 24 (.t 0))⟩,
     ⟨(some 2), none, .p (.mov (.c (bl false)))⟩])
   (.seq
    (.reg [
      ⟨(some 3), none, .p (.fa 0 (.t 1))⟩,
      ⟨(some 4), none, .p (.ld1 (.t 3))⟩,
      ⟨(some 5), none, .e (.call (.c (.fn (.func 36) [] [])) [(.c (i64 0)), (.c (i64 1000000000)), (.t 4)])⟩,
      ⟨(some 2), none, .p (.mov (.t 5))⟩])
    .ret))
def r45 : List RS := [.t 2]
theorem c45 : chkF Try.prog drawB Try.f45 i45 r45 = true := by kernel_rfl
/-- parlour/clock.rules$3 -/
def i46 : IC :=
  (.seq
   (.reg [
     ⟨(some 1), none, .e (.box 24 (.t 0))⟩,
     ⟨(some 2), none, .p (.mov (.c (bl false)))⟩])
   (.seq
    (.reg [
      ⟨(some 3), none, .p (.fa 1 (.t 1))⟩,
      ⟨(some 4), none, .p (.ld1 (.t 3))⟩,
      ⟨(some 5), none, .p (.fa 2 (.t 1))⟩,
      ⟨(some 6), none, .p (.ld1 (.t 5))⟩,
      ⟨(some 7), none, .e (.bsl 3 1 2 [i64 0] [(0, (.t 4)), (1, (.t 6))])⟩,
      ⟨(some 8), none, .e (.call (.c (.fn (.func 36) [] [])) [(.c (i64 0)), (.c (i64 10000000)), (.t 7)])⟩,
      ⟨(some 2), none, .p (.mov (.t 8))⟩])
    .ret))
def r46 : List RS := [.t 2]
theorem c46 : chkF Try.prog drawB Try.f46 i46 r46 = true := by kernel_rfl
/-- parlour/clock.rules$4 -/
def i47 : IC :=
  (.seq
   (.reg [
     ⟨(some 1), none, .e (.box 24 (.t 0))⟩,
     ⟨(some 2), none, .p (.mov (.c (bl false)))⟩])
   (.seq
    (.reg [
      ⟨(some 3), none, .p (.fa 4 (.t 1))⟩,
      ⟨(some 4), none, .p (.ld1 (.t 3))⟩,
      ⟨(some 5), none, .p (.fa 5 (.t 1))⟩,
      ⟨(some 6), none, .p (.ld1 (.t 5))⟩,
      ⟨(some 7), none, .e (.bsl 3 1 2 [i64 0] [(0, (.t 4)), (1, (.t 6))])⟩,
      ⟨(some 8), none, .e (.call (.c (.fn (.func 36) [] [])) [(.c (i64 0)), (.c (i64 1000000000000)), (.t 7)])⟩,
      ⟨(some 9), none, .p (.mov (.t 8))⟩,
      ⟨(some 10), (some (9, true)), .p (.fa 4 (.t 1))⟩,
      ⟨(some 11), (some (9, true)), .p (.ld1 (.t 10))⟩,
      ⟨(some 12), (some (9, true)), .p (.fa 5 (.t 1))⟩,
      ⟨(some 13), (some (9, true)), .p (.ld1 (.t 12))⟩,
      ⟨(some 14), (some (9, true)), .p (.bin .leq (.i .i64) (.t 11) (.t 13))⟩,
      ⟨(some 15), none, .p (.pick (.t 9) (.t 14) (.c (bl false)))⟩,
      ⟨(some 2), none, .p (.mov (.t 15))⟩])
    .ret))
def r47 : List RS := [.t 2]
theorem c47 : chkF Try.prog drawB Try.f47 i47 r47 = true := by kernel_rfl
/-- parlour/clock.rules$5 -/
def i48 : IC :=
  (.seq
   (.reg [
     ⟨(some 1), none, .e (.box 24 (.t 0))⟩,
     ⟨(some 2), none, .p (.mov (.c (bl false)))⟩])
   (.seq
    (.reg [
      ⟨(some 3), none, .p (.fa 0 (.t 1))⟩,
      ⟨(some 4), none, .p (.ld1 (.t 3))⟩,
      ⟨(some 5), none, .p (.len (.t 4))⟩,
      ⟨(some 6), none, .p (.bin .sub (.i .i64) (.t 5) (.c (i64 1)))⟩,
      ⟨(some 7), none, .p (.fa 3 (.t 1))⟩,
      ⟨(some 8), none, .p (.ld1 (.t 7))⟩,
      ⟨(some 9), none, .p (.fa 6 (.t 1))⟩,
      ⟨(some 10), none, .p (.ld1 (.t 9))⟩,
      ⟨(some 11), none, .e (.bsl 3 1 2 [i64 0] [(0, (.t 8)), (1, (.t 10))])⟩,
      ⟨(some 12), none, .e (.call (.c (.fn (.func 36) [] [])) [(.c (i64 (-1))), (.t 6), (.t 11)])⟩,
      ⟨(some 2), none, .p (.mov (.t 12))⟩])
    .ret))
def r48 : List RS := [.t 2]
theorem c48 : chkF Try.prog drawB Try.f48 i48 r48 = true := by kernel_rfl
/-- parlour/clock.rules$6 -/
def i49 : IC :=
  (.seq
   (.reg [
     ⟨(some 1), none, .e (.box 24 (.t 0))⟩,
     ⟨(some 2), none, .p (.mov (.c (bl false)))⟩])
   (.seq
    (.reg [
      ⟨(some 3), none, .p (.fa 3 (.t 1))⟩,
      ⟨(some 4), none, .p (.ld1 (.t 3))⟩,
      ⟨(some 5), none, .p (.bin .lss (.i .i64) (.t 4) (.c (i64 0)))⟩,
      ⟨(some 6), none, .p (.mov (.t 5))⟩,
      ⟨(some 7), (some (6, false)), .p (.fa 6 (.t 1))⟩,
      ⟨(some 8), (some (6, false)), .p (.ld1 (.t 7))⟩,
      ⟨(some 9), (some (6, false)), .p (.bin .lss (.i .i64) (.t 8) (.c (i64 0)))⟩,
      ⟨(some 10), none, .p (.pick (.t 6) (.c (bl true)) (.t 9))⟩,
      ⟨(some 2), none, .p (.mov (.t 10))⟩])
    .ret))
def r49 : List RS := [.t 2]
theorem c49 : chkF Try.prog drawB Try.f49 i49 r49 = true := by kernel_rfl
/-- parlour/clock.rules$7 -/
def i50 : IC :=
  (.seq
   (.reg [
     ⟨(some 1), none, .e (.box 24 (.t 0))⟩,
     ⟨(some 2), none, .p (.mov (.c (bl false)))⟩])
   (.seq
    (.reg [
      ⟨(some 3), none, .p (.fa 3 (.t 1))⟩,
      ⟨(some 4), none, .p (.ld1 (.t 3))⟩,
      ⟨(some 5), none, .p (.bin .geq (.i .i64) (.t 4) (.c (i64 0)))⟩,
      ⟨(some 6), none, .p (.mov (.t 5))⟩,
      ⟨(some 7), (some (6, false)), .p (.fa 4 (.t 1))⟩,
      ⟨(some 8), (some (6, false)), .p (.ld1 (.t 7))⟩,
      ⟨(some 9), (some (6, false)), .p (.bin .eql (.i .i64) (.t 8) (.c (i64 0)))⟩,
      ⟨(some 10), none, .p (.pick (.t 6) (.c (bl true)) (.t 9))⟩,
      ⟨(some 2), none, .p (.mov (.t 10))⟩])
    .ret))
def r50 : List RS := [.t 2]
theorem c50 : chkF Try.prog drawB Try.f50 i50 r50 = true := by kernel_rfl
/-- parlour/clock.rules$8 -/
def i51 : IC :=
  (.seq
   (.reg [
     ⟨(some 1), none, .e (.box 24 (.t 0))⟩,
     ⟨(some 2), none, .p (.mov (.c (bl false)))⟩])
   (.seq
    (.reg [
      ⟨(some 3), none, .p (.fa 6 (.t 1))⟩,
      ⟨(some 4), none, .p (.ld1 (.t 3))⟩,
      ⟨(some 5), none, .p (.bin .lss (.i .i64) (.t 4) (.c (i64 0)))⟩,
      ⟨(some 6), none, .p (.mov (.t 5))⟩,
      ⟨(some 7), (some (6, false)), .p (.fa 0 (.t 1))⟩,
      ⟨(some 8), (some (6, false)), .p (.ld1 (.t 7))⟩,
      ⟨(some 9), (some (6, false)), .p (.fa 6 (.t 1))⟩,
      ⟨(some 10), (some (6, false)), .p (.ld1 (.t 9))⟩,
      ⟨(some 11), (some (6, false)), .p (.ia 1 (.t 8) (.t 10))⟩,
      ⟨(some 12), (some (6, false)), .p (.ld1 (.t 11))⟩,
      ⟨(some 13), (some (6, false)), .p (.bin .eql (.i .i64) (.t 12) (.c (i64 0)))⟩,
      ⟨(some 14), none, .p (.pick (.t 6) (.c (bl true)) (.t 13))⟩,
      ⟨(some 2), none, .p (.mov (.t 14))⟩])
    .ret))
def r51 : List RS := [.t 2]
theorem c51 : chkF Try.prog drawB Try.f51 i51 r51 = true := by kernel_rfl
/-- parlour/clock.state$1 -/
def i52 : IC :=
  (.seq
   (.reg [
     ⟨(some 2), none, .p (.mov (.c (i64 0)))⟩])
   (.seq
    (.seq
     (.reg [
       ⟨(some 3), none, .p (.ld1 (.t 0))⟩,
       ⟨(some 4), none, .p (.fa 3 (.t 1))⟩,
       ⟨(some 5), none, .p (.ld1 (.t 4))⟩,
       ⟨(some 6), none, .p (.bin .geq (.i .i64) (.t 5) (.c (i64 0)))⟩,
       ⟨(some 7), none, .p (.bin .neq .b (.t 3) (.t 6))⟩])
     (.cond (.t 7)
      (.seq
       (.reg [
         ⟨(some 2), none, .p (.mov (.c (i64 13)))⟩])
       .ret)
      .skip))
    (.seq
     (.reg [
       ⟨(some 2), none, .p (.mov (.c (i64 0)))⟩])
     .ret)))
def r52 : List RS := [.t 2]
theorem c52 : chkF Try.prog drawB Try.f52 i52 r52 = true := by kernel_rfl
/-- parlour/clock.state$2 -/
def i53 : IC :=
  (.seq
   (.reg [
     ⟨(some 0), none, .p (.mov (.c (i64 0)))⟩])
   (.seq
    (.reg [
      ⟨(some 0), none, .p (.mov (.c (i64 17)))⟩])
    .ret))
def r53 : List RS := [.t 0]
theorem c53 : chkF Try.prog drawB Try.f53 i53 r53 = true := by kernel_rfl
/-- parlour/clock.number -/
def i54 : IC :=
  (.seq
   (.reg [
     ⟨(some 2), none, .p (.mov (.c (i64 0)))⟩])
   (.seq
    (.seq
     (.reg [
       ⟨(some 3), none, .p (.mov (.t 0))⟩])
     (.cond (.t 3)
      (.seq
       (.reg [
         ⟨(some 2), none, .p (.mov (.c (i64 1)))⟩])
       .ret)
      .skip))
    (.seq
     (.reg [
       ⟨(some 2), none, .p (.mov (.c (i64 0)))⟩])
     .ret)))
def r54 : List RS := [.t 2]
theorem c54 : chkF Try.prog drawB Try.f54 i54 r54 = true := by kernel_rfl
def rows : List (Option Row) := [none,
  none,
  none,
  some ⟨i3, r3, 6, false⟩,
  some ⟨i4, r4, 0, false⟩,
  some ⟨i5, r5, 2, false⟩,
  some ⟨i6, r6, 3, false⟩,
  some ⟨i7, r7, 3, false⟩,
  some ⟨i8, r8, 3, false⟩,
  some ⟨i9, r9, 0, false⟩,
  some ⟨i10, r10, 3, false⟩,
  some ⟨i11, r11, 3, false⟩,
  some ⟨i12, r12, 2, false⟩,
  some ⟨i13, r13, 1, false⟩,
  some ⟨i14, r14, 1, false⟩,
  some ⟨i15, r15, 3, false⟩,
  some ⟨i16, r16, 3, false⟩,
  some ⟨i17, r17, 2, false⟩,
  some ⟨i18, r18, 2, false⟩,
  some ⟨i19, r19, 2, false⟩,
  some ⟨i20, r20, 2, false⟩,
  some ⟨i21, r21, 1, false⟩,
  some ⟨i22, r22, 1, false⟩,
  some ⟨i23, r23, 2, false⟩,
  some ⟨i24, r24, 0, false⟩,
  some ⟨i25, r25, 5, false⟩,
  some ⟨i26, r26, 2, false⟩,
  some ⟨i27, r27, 2, false⟩,
  some ⟨i28, r28, 1, false⟩,
  some ⟨i29, r29, 2, false⟩,
  some ⟨i30, r30, 2, true⟩,
  some ⟨i31, r31, 1, true⟩,
  some ⟨i32, r32, 1, true⟩,
  some ⟨i33, r33, 0, false⟩,
  some ⟨i34, r34, 2, false⟩,
  some ⟨i35, r35, 2, false⟩,
  some ⟨i36, r36, 3, false⟩,
  some ⟨i37, r37, 2, false⟩,
  some ⟨i38, r38, 2, false⟩,
  some ⟨i39, r39, 2, false⟩,
  some ⟨i40, r40, 2, false⟩,
  some ⟨i41, r41, 3, false⟩,
  some ⟨i42, r42, 2, false⟩,
  some ⟨i43, r43, 1, true⟩,
  some ⟨i44, r44, 1, false⟩,
  some ⟨i45, r45, 1, false⟩,
  some ⟨i46, r46, 1, false⟩,
  some ⟨i47, r47, 1, false⟩,
  some ⟨i48, r48, 1, false⟩,
  some ⟨i49, r49, 1, false⟩,
  some ⟨i50, r50, 1, false⟩,
  some ⟨i51, r51, 1, false⟩,
  some ⟨i52, r52, 2, false⟩,
  some ⟨i53, r53, 0, false⟩,
  some ⟨i54, r54, 1, false⟩,
  none,
  none,
  none,
  none,
  none,
  none,
  none,
  none,
  none,
  none,
  none,
  none,
  none,
  none,
  none,
  none,
  none]
theorem rows_ok : RowsOk Try.prog 0 rows :=
  rows_skip <|
  rows_skip <|
  rows_skip <|
  rows_cons ⟨Try.f3, Try.func3, c3, rfl⟩ <|
  rows_cons ⟨Try.f4, Try.func4, c4, rfl⟩ <|
  rows_cons ⟨Try.f5, Try.func5, c5, rfl⟩ <|
  rows_cons ⟨Try.f6, Try.func6, c6, rfl⟩ <|
  rows_cons ⟨Try.f7, Try.func7, c7, rfl⟩ <|
  rows_cons ⟨Try.f8, Try.func8, c8, rfl⟩ <|
  rows_cons ⟨Try.f9, Try.func9, c9, rfl⟩ <|
  rows_cons ⟨Try.f10, Try.func10, c10, rfl⟩ <|
  rows_cons ⟨Try.f11, Try.func11, c11, rfl⟩ <|
  rows_cons ⟨Try.f12, Try.func12, c12, rfl⟩ <|
  rows_cons ⟨Try.f13, Try.func13, c13, rfl⟩ <|
  rows_cons ⟨Try.f14, Try.func14, c14, rfl⟩ <|
  rows_cons ⟨Try.f15, Try.func15, c15, rfl⟩ <|
  rows_cons ⟨Try.f16, Try.func16, c16, rfl⟩ <|
  rows_cons ⟨Try.f17, Try.func17, c17, rfl⟩ <|
  rows_cons ⟨Try.f18, Try.func18, c18, rfl⟩ <|
  rows_cons ⟨Try.f19, Try.func19, c19, rfl⟩ <|
  rows_cons ⟨Try.f20, Try.func20, c20, rfl⟩ <|
  rows_cons ⟨Try.f21, Try.func21, c21, rfl⟩ <|
  rows_cons ⟨Try.f22, Try.func22, c22, rfl⟩ <|
  rows_cons ⟨Try.f23, Try.func23, c23, rfl⟩ <|
  rows_cons ⟨Try.f24, Try.func24, c24, rfl⟩ <|
  rows_cons ⟨Try.f25, Try.func25, c25, rfl⟩ <|
  rows_cons ⟨Try.f26, Try.func26, c26, rfl⟩ <|
  rows_cons ⟨Try.f27, Try.func27, c27, rfl⟩ <|
  rows_cons ⟨Try.f28, Try.func28, c28, rfl⟩ <|
  rows_cons ⟨Try.f29, Try.func29, c29, rfl⟩ <|
  rows_cons ⟨Try.f30, Try.func30, c30, rfl⟩ <|
  rows_cons ⟨Try.f31, Try.func31, c31, rfl⟩ <|
  rows_cons ⟨Try.f32, Try.func32, c32, rfl⟩ <|
  rows_cons ⟨Try.f33, Try.func33, c33, rfl⟩ <|
  rows_cons ⟨Try.f34, Try.func34, c34, rfl⟩ <|
  rows_cons ⟨Try.f35, Try.func35, c35, rfl⟩ <|
  rows_cons ⟨Try.f36, Try.func36, c36, rfl⟩ <|
  rows_cons ⟨Try.f37, Try.func37, c37, rfl⟩ <|
  rows_cons ⟨Try.f38, Try.func38, c38, rfl⟩ <|
  rows_cons ⟨Try.f39, Try.func39, c39, rfl⟩ <|
  rows_cons ⟨Try.f40, Try.func40, c40, rfl⟩ <|
  rows_cons ⟨Try.f41, Try.func41, c41, rfl⟩ <|
  rows_cons ⟨Try.f42, Try.func42, c42, rfl⟩ <|
  rows_cons ⟨Try.f43, Try.func43, c43, rfl⟩ <|
  rows_cons ⟨Try.f44, Try.func44, c44, rfl⟩ <|
  rows_cons ⟨Try.f45, Try.func45, c45, rfl⟩ <|
  rows_cons ⟨Try.f46, Try.func46, c46, rfl⟩ <|
  rows_cons ⟨Try.f47, Try.func47, c47, rfl⟩ <|
  rows_cons ⟨Try.f48, Try.func48, c48, rfl⟩ <|
  rows_cons ⟨Try.f49, Try.func49, c49, rfl⟩ <|
  rows_cons ⟨Try.f50, Try.func50, c50, rfl⟩ <|
  rows_cons ⟨Try.f51, Try.func51, c51, rfl⟩ <|
  rows_cons ⟨Try.f52, Try.func52, c52, rfl⟩ <|
  rows_cons ⟨Try.f53, Try.func53, c53, rfl⟩ <|
  rows_cons ⟨Try.f54, Try.func54, c54, rfl⟩ <|
  rows_skip <|
  rows_skip <|
  rows_skip <|
  rows_skip <|
  rows_skip <|
  rows_skip <|
  rows_skip <|
  rows_skip <|
  rows_skip <|
  rows_skip <|
  rows_skip <|
  rows_skip <|
  rows_skip <|
  rows_skip <|
  rows_skip <|
  rows_skip <|
  rows_skip <|
  rows_nil
end Go.Proofs.Ytffafdbipfadoaa
