/-
  Steps of the proof: contracts of functions and plain facts that the statement rests on.
-/
import Derived.Test.YtcejichidnlicaaGreatDoorPart2
import Derived.Test.YtcejichidnlicaaGreatDoorCore4
import Derived.LaidMore
import Derived.OpenShut
import Derived.Stop.Joined
import Derived.LaidHandle
import Derived.JoinedCond
import Derived.JoinedAt
import Derived.Conc.Holds
import Derived.SevenTiedAt
set_option linter.all false
namespace Go.Proofs.YtcejichidnlicaaGreatDoor
open Go.Ab
def t78 : IC := (.seq
 (.seq
 (.reg [
 ⟨(some 112), none, .p (.fa 0 (.t 4))⟩,
 ⟨(some 113), none, .p (.ld1 (.t 112))⟩,
 ⟨(some 114), none, .p (.bin .eql (.i .i64) (.t 113) (.c (i64 20)))⟩,
 ⟨(some 115), none, .p (.mov (.t 114))⟩,
 ⟨(some 116), (some (115, true)), .p (.ld1 (.t 8))⟩,
 ⟨(some 117), (some (115, true)), .p (.ia 9 (.t 116) (.c (i64 0)))⟩,
 ⟨(some 118), (some (115, true)), .p (.fa 5 (.t 117))⟩,
 ⟨(some 119), (some (115, true)), .p (.ld1 (.t 118))⟩,
 ⟨(some 120), none, .p (.pick (.t 115) (.t 119) (.c (bl false)))⟩,
 ⟨(some 121), none, .p (.mov (.t 120))⟩,
 ⟨(some 122), (some (121, true)), .p (.ld1 (.t 8))⟩,
 ⟨(some 123), (some (121, true)), .p (.ia 9 (.t 122) (.c (i64 0)))⟩,
 ⟨(some 124), (some (121, true)), .p (.fa 8 (.t 123))⟩,
 ⟨(some 125), (some (121, true)), .p (.ld1 (.t 124))⟩,
 ⟨(some 126), (some (121, true)), .p (.bin .eql (.i .i64) (.t 125) (.c (i64 0)))⟩,
 ⟨(some 127), none, .p (.pick (.t 121) (.t 126) (.c (bl false)))⟩])
 (.cond (.t 127)
 (.seq
 (.drw [0, 1, 2, 3, 4, 5, 6, 7, 8, 9] [
 ⟨(some 128), none, .p (.ld1 (.t 8))⟩,
 ⟨(some 129), none, .p (.ld1 (.t 8))⟩,
 ⟨(some 130), none, .p (.ia 9 (.t 129) (.c (i64 0)))⟩,
 ⟨(some 131), none, .p (.fa 6 (.t 130))⟩,
 ⟨(some 132), none, .p (.fa 1 (.t 131))⟩,
 ⟨(some 133), none, .p (.ld1 (.t 132))⟩,
 ⟨(some 134), none, .p (.bin .sub (.i .i64) (.c (i64 2)) (.t 133))⟩,
 ⟨(some 135), none, .p (.ia 9 (.t 128) (.t 134))⟩,
 ⟨(some 136), none, .p (.ldn 9 (.t 135))⟩,
 ⟨none, none, .e (.st 9 (.t 6) (.t 136))⟩])
 .ret)
 .skip))
 (.seq
 (.reg [
 ⟨(some 137), none, .p (.ldn 9 (.t 7))⟩,
 ⟨none, none, .e (.st 9 (.t 6) (.t 137))⟩])
 .ret))
theorem t78_at : i78 =   (.seq
 (.reg [
 ⟨(some 3), none, .e (.box 52 (.t 0))⟩,
 ⟨(some 4), none, .e (.box 24 (.t 1))⟩,
 ⟨(some 6), none, .e (.alc 98 [i64 0, i64 0, st ⟨#[]⟩, .val (.slice none 0 0), i64 0, bl false, i64 0, i64 0, i64 0])⟩])
 (.seq
 (.seq
 (.reg [
 ⟨(some 12), none, .p (.mov (.t 2))⟩,
 ⟨(some 13), none, .p (.bin .eql (.i .i64) (.t 12) (.c (i64 100000)))⟩])
 (.cond (.t 13)
 (.seq
 (.reg [
 ⟨(some 14), none, .p (.mkf (.func 101) [] [(.t 3), (.t 4)])⟩,
 ⟨(some 15), none, .e (.call (.c (.fn (.func 100) [] [])) [(.t 14)])⟩,
 ⟨none, none, .e (.st 9 (.t 6) (.t 15))⟩])
 .ret)
 .skip))
 (.seq
 (.reg [
 ⟨(some 16), none, .p (.ldn 5 (.t 4))⟩,
 ⟨(some 17), none, .p (.fa 0 (.t 4))⟩,
 ⟨(some 18), none, .p (.ld1 (.t 17))⟩,
 ⟨(some 19), none, .p (.bin .neq (.i .i64) (.t 18) (.c (i64 2)))⟩,
 ⟨(some 20), none, .p (.bld [i64 0, i64 0, st ⟨#[]⟩, .val (.slice none 0 0), i64 0, bl false, i64 0, i64 0, i64 0] [(0, 5, (.t 16)), (5, 1, (.t 19))])⟩,
 ⟨(some 7), none, .e (.alc 98 [i64 0, i64 0, st ⟨#[]⟩, .val (.slice none 0 0), i64 0, bl false, i64 0, i64 0, i64 0])⟩,
 ⟨none, none, .e (.st 9 (.t 7) (.t 20))⟩])
 (.seq
 (.reg [
 ⟨(some 21), none, .p (.fa 0 (.t 7))⟩,
 ⟨(some 22), none, .p (.fa 3 (.t 21))⟩,
 ⟨none, none, .e (.st 1 (.t 22) (.c (.val (.slice none 0 0))))⟩])
 (.seq
 (.seq
 (.reg [
 ⟨(some 23), none, .p (.fa 0 (.t 4))⟩,
 ⟨(some 24), none, .p (.ld1 (.t 23))⟩,
 ⟨(some 25), none, .p (.bin .eql (.i .i64) (.t 24) (.c (i64 2)))⟩])
 (.cond (.t 25)
 (.seq
 (.reg [
 ⟨(some 26), none, .p (.ldn 9 (.t 7))⟩,
 ⟨none, none, .e (.st 9 (.t 6) (.t 26))⟩])
 .ret)
 .skip))
 (.seq
 (.seq
 (.reg [
 ⟨(some 27), none, .p (.fa 0 (.t 4))⟩,
 ⟨(some 28), none, .p (.ld1 (.t 27))⟩,
 ⟨(some 29), none, .p (.bin .eql (.i .i64) (.t 28) (.c (i64 1)))⟩])
 (.cond (.t 29)
 (.seq
 (.reg [
 ⟨(some 31), none, .p (.mkf (.func 102) [] [(.t 4)])⟩,
 ⟨(some 32), none, .e (.call (.c (.fn (.func 26) [] [])) [(.t 31)])⟩,
 ⟨(some 30), none, .p (.mov (.t 32))⟩,
 ⟨(some 33), none, .p (.ext (.t 30) 0)⟩,
 ⟨(some 34), none, .p (.ext (.t 30) 1)⟩,
 ⟨(some 35), none, .p (.fa 6 (.t 7))⟩,
 ⟨none, none, .e (.st 2 (.t 35) (.t 33))⟩,
 ⟨(some 36), none, .p (.fa 8 (.t 7))⟩,
 ⟨none, none, .e (.st 1 (.t 36) (.t 34))⟩])
 (.seq
 (.reg [
 ⟨(some 37), none, .p (.ldn 9 (.t 7))⟩,
 ⟨none, none, .e (.st 9 (.t 6) (.t 37))⟩])
 .ret))
 .skip))
 (.seq
 (.reg [
 ⟨(some 38), none, .p (.fa 3 (.t 4))⟩,
 ⟨(some 39), none, .p (.ld1 (.t 38))⟩,
 ⟨(some 40), none, .p (.len (.t 39))⟩,
 ⟨(some 41), none, .e (.mks 98 9 96 [i64 0, i64 0, st ⟨#[]⟩, .val (.slice none 0 0), i64 0, bl false, i64 0, i64 0, i64 0] (.c (i64 0)) (.t 40))⟩,
 ⟨(some 8), none, .e (.alc 123 [.val (.slice none 0 0)])⟩,
 ⟨none, none, .e (.st 1 (.t 8) (.t 41))⟩])
 (.seq
 (.seq
 (.reg [
 ⟨(some 42), none, .p (.fa 3 (.t 4))⟩,
 ⟨(some 43), none, .p (.ld1 (.t 42))⟩,
 ⟨(some 44), none, .p (.len (.t 43))⟩,
 ⟨(some 45), none, .p (.mov (.c (i64 0)))⟩])
 (.blk 0
 (.loop l78_0)))
 (.seq
 (.seq
 (.reg [
 ⟨(some 75), none, .p (.fa 5 (.t 7))⟩,
 ⟨(some 76), none, .p (.ld1 (.t 75))⟩])
 (.cond (.t 76)
 (.seq
 (.reg [
 ⟨(some 78), none, .p (.mkf (.func 103) [] [(.t 3), (.t 4), (.t 8)])⟩,
 ⟨(some 79), none, .e (.call (.c (.fn (.func 26) [] [])) [(.t 78)])⟩,
 ⟨(some 77), none, .p (.mov (.t 79))⟩,
 ⟨(some 80), none, .p (.ext (.t 77) 0)⟩,
 ⟨(some 81), none, .p (.ext (.t 77) 1)⟩,
 ⟨(some 82), none, .p (.fa 6 (.t 7))⟩,
 ⟨none, none, .e (.st 2 (.t 82) (.t 80))⟩,
 ⟨(some 83), none, .p (.fa 8 (.t 7))⟩,
 ⟨none, none, .e (.st 1 (.t 83) (.t 81))⟩])
 (.seq
 (.reg [
 ⟨(some 84), none, .p (.fa 8 (.t 7))⟩,
 ⟨(some 85), none, .p (.ld1 (.t 84))⟩,
 ⟨(some 86), none, .p (.bin .eql (.i .i64) (.t 85) (.c (i64 0)))⟩,
 ⟨(some 87), none, .p (.mov (.t 86))⟩,
 ⟨(some 88), (some (87, true)), .p (.fa 6 (.t 7))⟩,
 ⟨(some 89), (some (87, true)), .p (.fa 0 (.t 88))⟩,
 ⟨(some 90), (some (87, true)), .p (.ld1 (.t 89))⟩,
 ⟨(some 91), (some (87, true)), .p (.bin .eql (.i .i64) (.t 90) (.c (i64 1)))⟩,
 ⟨(some 92), none, .p (.pick (.t 87) (.t 91) (.c (bl false)))⟩,
 ⟨(some 93), none, .p (.mov (.t 92))⟩,
 ⟨(some 94), (some (93, true)), .p (.fa 6 (.t 7))⟩,
 ⟨(some 95), (some (93, true)), .p (.fa 1 (.t 94))⟩,
 ⟨(some 96), (some (93, true)), .p (.ld1 (.t 95))⟩,
 ⟨(some 97), (some (93, true)), .p (.fa 6 (.t 7))⟩,
 ⟨(some 98), (some (93, true)), .p (.fa 1 (.t 97))⟩,
 ⟨(some 99), (some (93, true)), .p (.ld1 (.t 98))⟩,
 ⟨(some 100), (some (93, true)), .p (.neg .i64 (.t 99))⟩,
 ⟨(some 101), (some (93, true)), .p (.mm true .i64 (.t 96) (.t 100))⟩,
 ⟨(some 102), (some (93, true)), .p (.bin .leq (.i .i64) (.t 101) (.c (i64 1000000000)))⟩,
 ⟨(some 103), none, .p (.pick (.t 93) (.t 102) (.c (bl false)))⟩])
 (.cond (.t 103)
 (.seq
 (.reg [
 ⟨(some 104), none, .p (.fa 6 (.t 7))⟩,
 ⟨(some 105), none, .p (.fa 1 (.t 104))⟩,
 ⟨(some 106), none, .p (.ld1 (.t 105))⟩,
 ⟨(some 107), none, .p (.fa 4 (.t 4))⟩,
 ⟨(some 108), none, .p (.ld1 (.t 107))⟩,
 ⟨(some 109), none, .e (.call (.c (.fn (.func 36) [] [])) [(.t 106), (.t 108)])⟩,
 ⟨(some 110), none, .p (.fa 0 (.t 7))⟩,
 ⟨none, none, .e (.st 5 (.t 110) (.t 109))⟩])
 (.seq
 (.reg [
 ⟨(some 111), none, .p (.ldn 9 (.t 7))⟩,
 ⟨none, none, .e (.st 9 (.t 6) (.t 111))⟩])
 .ret))
 .skip)))
 .skip))
 t78))))))))) := rfl
abbrev gH (n : Nat) (ns : List (List UInt8)) (vs : List Int) (op k p : Int) (nm : List UInt8) (l : List Ex) (ps : List Fo) (es : List Ex) (b : Bool) (v1 v2 er : Int) (G : List AO) : List AO :=
 ⟨[macV ns vs], 52, 0, true⟩ :: ⟨[i64 op, i64 k, st (B nm), .slc (Ex.cL l) l.length, i64 p], 24, 0, true⟩ :: ⟨[i64 0, i64 0, st (B []), .val (.slice none 0 0), i64 0, bl false, i64 0, i64 0, i64 0], 98, 0, true⟩ ::
 ⟨[i64 op, i64 k, st (B nm), .own (n + 6) 0 es.length 5 es.length, i64 p, bl b, i64 v1, i64 v2, i64 er], 98, 0, true⟩ :: ⟨rws Fo.c ps, 98, ps.length, true⟩ :: ⟨[.own (n + 4) 0 ps.length 9 ps.length], 123, 0, true⟩ :: ⟨Ex.cL es, 24, es.length, true⟩ :: G
section
variable {H : List AO} {ns : List (List UInt8)} {vs : List Int} {op k p : Int} {nm : List UInt8} {l : List Ex}
theorem fo_le (op k : Int) (nm : List UInt8) (p : Int) (b : Bool) (v1 v2 er : Int) : SV.le (.agg [i64 op, i64 k, st (B nm), .val (.slice none 0 0), i64 p, bl b, i64 v1, i64 v2, i64 er]) (.agg (Fo.c ⟨.mk op k nm [] p, b, (v1, v2), er⟩)) :=
 le_agg (leL.cons (SV.le.refl _) (leL.cons (SV.le.refl _) (leL.cons (SV.le.refl _) (leL.cons le_nil (leL.cons (SV.le.refl _) (leL.cons (SV.le.refl _) (leL.cons (SV.le.refl _) (leL.cons (SV.le.refl _) (leL.cons (SV.le.refl _) leL.nil)))))))))
theorem ok78_name (hcl : closed H) {d : Nat} (hd : d < 100000) : X Tryz.prog Tryz.f78.ntmps drawB i78 (argsEnv [macV ns vs, (Ex.mk 2 k nm l p).v, i64 d]) H (Ab.Fin H.length r78 (.ret (.agg (foldE (.mk 2 k nm l p)).c)) H) := by
 have hd' : ¬ (d : Int) = 100000 := by omega
 have hf : foldE (.mk 2 k nm l p) = ⟨.mk 2 k nm [] p, false, (0, 0), 0⟩ := by rw [foldE, if_pos rfl]
 rw [hf]
 simp -implicitDefEqProofs [i78, r78, Ex.v, Ex.c, hd', macV_vd, macV_flat, macV_cell]
 refine ⟨rfl, ?_⟩
 refine Cv.le (cv_fz (r1 := .agg [i64 2, i64 k, st (B nm), .val (.slice none 0 0), i64 p, bl false, i64 0, i64 0, i64 0]) (r := .agg [i64 2, i64 k, st (B nm), .val (.slice none 0 0), i64 p, bl false, i64 0, i64 0, i64 0]) 3 hcl rfl (by simp)) ?_
 exact fo_le 2 k nm p false 0 0 0
theorem ok78_num (hcl : closed H) {d : Nat} (hd : d < 100000) : X Tryz.prog Tryz.f78.ntmps drawB i78 (argsEnv [macV ns vs, (Ex.mk 1 k nm l p).v, i64 d]) H (Ab.Fin H.length r78 (.ret (.agg (foldE (.mk 1 k nm l p)).c)) H) := by
 have hd' : ¬ (d : Int) = 100000 := by omega
 have hf : foldE (.mk 1 k nm l p) = setR (.mk 1 k nm [] p) (numF k) := by rw [foldE, if_neg (by decide), if_pos rfl]
 rw [hf]
 have h26 := fun (H : List AO) (j : Nat) (hj : H[j]? = some ⟨(Ex.mk 1 k nm l p).c, 24, 0, true⟩) => ok26 (H := H) (kf := 102) (cap := [rp j]) (r := numF k) (fun L => ok102 (by rw [List.getElem?_append_left (getElem?_lt hj)]; exact hj))
 generalize numF k = y at h26
 simp only [Ex.c, rp] at h26
 simp -implicitDefEqProofs [i78, r78, Ex.v, Ex.c, hd', macV_vd, macV_flat, macV_cell]
 refine ⟨rfl, call_go (h26 _ _ (by simp)) ?_⟩
 cases y with
 | error e =>
  simp -implicitDefEqProofs [retV, setR]
  refine ⟨rfl, ?_⟩
  refine Cv.le (cv_fz (r1 := .agg [i64 1, i64 k, st (B nm), .val (.slice none 0 0), i64 p, bl true, i64 0, i64 0, i64 e]) (r := .agg [i64 1, i64 k, st (B nm), .val (.slice none 0 0), i64 p, bl true, i64 0, i64 0, i64 e]) 3 hcl rfl (by simp)) ?_
  exact fo_le 1 k nm p true 0 0 e
 | ok v =>
  simp -implicitDefEqProofs [retV, setR]
  refine ⟨rfl, ?_⟩
  refine Cv.le (cv_fz (r1 := .agg [i64 1, i64 k, st (B nm), .val (.slice none 0 0), i64 p, bl true, i64 v.1, i64 v.2, i64 0]) (r := .agg [i64 1, i64 k, st (B nm), .val (.slice none 0 0), i64 p, bl true, i64 v.1, i64 v.2, i64 0]) 3 hcl rfl (by simp)) ?_
  exact fo_le 1 k nm p true v.1 v.2 0
theorem fo_cl {ps : List Fo} {i : Nat} (hi : i < ps.length) (h : i * 9 + 5 < (rws Fo.c ps).length) : (rws Fo.c ps)[i * 9 + 5]'(h) = bl ps[i].cl := by
 have := rws_get (t := 5) Fo.c_len hi (by omega)
 rw [List.getElem?_eq_getElem h] at this
 simpa [Fo.c] using this
theorem fo_v2 {ps : List Fo} {i : Nat} (hi : i < ps.length) (h : i * 9 + 7 < (rws Fo.c ps).length) : (rws Fo.c ps)[i * 9 + 7]'(h) = i64 ps[i].v.2 := by
 have := rws_get (t := 7) Fo.c_len hi (by omega)
 rw [List.getElem?_eq_getElem h] at this
 simpa [Fo.c] using this
theorem fo_er {ps : List Fo} {i : Nat} (hi : i < ps.length) (h : i * 9 + 8 < (rws Fo.c ps).length) : (rws Fo.c ps)[i * 9 + 8]'(h) = i64 ps[i].er := by
 have := rws_get (t := 8) Fo.c_len hi (by omega)
 rw [List.getElem?_eq_getElem h] at this
 simpa [Fo.c] using this
theorem fo_get {ps : List Fo} {i : Nat} (hi : i < ps.length) : List.take 9 (List.drop (i * 9) (rws Fo.c ps)) = ps[i].c := by
 rw [rws_at Fo.c_len hi, List.take_left' (by simp)]
theorem fo_und (n : Nat) (f : Fo) : SV.underL n f.c = true := by
 unfold Fo.c
 rw [SV.underL_append, Ex.und n f.e]
 rfl
theorem t78_ok (hcl : closed H) {ps : List Fo} {es : List Ex} {b : Bool} {v1 v2 er : Int} {G : List AO} {env : Env} (hw : op = 20 -> ps.length = 3 ∧ ((ps.getD 0 zFo).v.2 = 0 ∨ (ps.getD 0 zFo).v.2 = 1)) (h4 : env.get 4 = .ptr (.own (H.length + 1) 0 0 0 0) 0) (h6 : env.get 6 = .ptr (.own (H.length + 2) 0 0 0 0) 0) (h7 : env.get 7 = .ptr (.own (H.length + 3) 0 0 0 0) 0) (h8 : env.get 8 = .ptr (.own (H.length + 5) 0 0 0 0) 0) :
 X Tryz.prog Tryz.f78.ntmps drawB t78 env (H ++ gH H.length ns vs op k p nm l ps es b v1 v2 er G) (Ab.Fin H.length r78 (.ret (.agg (if op = 20 ∧ (ps.getD 0 zFo).cl = true ∧ (ps.getD 0 zFo).er = 0 then ps.getD (2 - (ps.getD 0 zFo).v.2).toNat zFo else ⟨.mk op k nm es p, b, (v1, v2), er⟩).c)) H) := by
 have hcl' := rws_len Fo.c_len ps
 by_cases h20 : op = 20
 · subst h20
   obtain ⟨hl3, hv⟩ := hw rfl
   have g0 : ps.getD 0 zFo = ps[0] := by simp [hl3]
   rw [g0] at hv ⊢
   have e5 := fun h => fo_cl (ps := ps) (i := 0) (by omega) h
   have e7 := fun h => fo_v2 (ps := ps) (i := 0) (by omega) h
   have e8 := fun h => fo_er (ps := ps) (i := 0) (by omega) h
   simp only [Nat.zero_mul, Nat.zero_add] at e5 e7 e8
   by_cases hc : ps[0].cl = true
   · by_cases he : ps[0].er = 0
     · rcases hv with hv | hv
       · have g2 : ps.getD 2 zFo = ps[2] := by simp [hl3]
         have hwr : IntKind.i64.wrap 2 = 2 := rfl
         have hg := fo_get (ps := ps) (i := 2) (by omega)
         simp only [Nat.reduceMul] at hg
         simp -implicitDefEqProofs [t78, r78, h4, h6, h7, h8, hcl', hl3, e5, e7, e8, hc, he, hv, hwr, hg]
         exact ⟨Fo.c_cell _, by rw [Fo.c_9]; exact cv_fz 3 hcl rfl (fz_under (by simp [SV.under, fo_und]))⟩
       · have g2 : ps.getD 1 zFo = ps[1] := by simp [hl3]
         have hwr : IntKind.i64.wrap 1 = 1 := rfl
         have hg := fo_get (ps := ps) (i := 1) (by omega)
         simp only [Nat.one_mul] at hg
         simp -implicitDefEqProofs [t78, r78, h4, h6, h7, h8, hcl', hl3, e5, e7, e8, hc, he, hv, hwr, hg]
         exact ⟨Fo.c_cell _, by rw [Fo.c_9]; exact cv_fz 3 hcl rfl (fz_under (by simp [SV.under, fo_und]))⟩
     · simp -implicitDefEqProofs [t78, r78, h4, h6, h7, h8, hcl', hl3, e5, e7, e8, hc, he]
       exact cv_fz 3 hcl rfl (by simp [Fo.c, Ex.c, exL_len, take_cL])
   · rw [Bool.not_eq_true] at hc
     simp -implicitDefEqProofs [t78, r78, h4, h6, h7, h8, hcl', hl3, e5, e7, e8, hc]
     exact cv_fz 3 hcl rfl (by simp [Fo.c, Ex.c, exL_len, take_cL])
 · simp -implicitDefEqProofs [t78, r78, h4, h6, h7, h8, h20]
   exact cv_fz 3 hcl rfl (by simp [Fo.c, Ex.c, exL_len, take_cL])
theorem vr_ne (ps : List Fo) : ∀ i e, wAt (ps.map vrF) i = .error e -> e ≠ 0 := by
 intro i e h
 unfold wAt at h
 by_cases hi : i < ps.length
 · have : (ps.map vrF).getD i (.error 3) = vrF ps[i] := by simp [hi]
   rw [this] at h
   unfold vrF at h
   split at h
   · rename_i hne; cases h; exact hne
   · cases h
 · have : (ps.map vrF).getD i (.error 3) = .error 3 := by simp [hi]
   rw [this] at h
   cases h; decide
theorem ok78_op (hcl : closed H) {d : Nat} (hd : d < 100000) (h1 : ¬ op = 1) (h2 : ¬ op = 2) (hw : wdP op (foldL l) = true) (hIH : ∀ e ∈ l, ∀ H, Ok Tryz.prog 78 [macV ns vs, e.v, i64 ((d + 1 : Nat) : Int)] H (.ret (.agg (foldE e).c)) H) :
 X Tryz.prog Tryz.f78.ntmps drawB i78 (argsEnv [macV ns vs, (Ex.mk op k nm l p).v, i64 d]) H (Ab.Fin H.length r78 (.ret (.agg (foldE (.mk op k nm l p)).c)) H) := by
 have hd' : ¬ (d : Int) = 100000 := by omega
 have hf : foldE (.mk op k nm l p) = opFo op k nm p (foldL l) := by rw [foldE, if_neg h2, if_neg h1]
 rw [hf]
 have hsm := wdP_sm hw
 have hlen := foldL_len l
 unfold wdP at hw
 simp only [Bool.and_eq_true, List.all_eq_true, decide_eq_true_eq] at hw
 obtain ⟨hw1, hw2, hw3, hw4⟩ := hw
 have hl3 : l.length ≤ 3 := by
  unfold opN at hw1
  rw [if_neg (by omega)] at hw1
  split at hw1 <;> (try split at hw1) <;> (try split at hw1) <;> omega
 have her := fun e => appF_ne (op := op) (w := (foldL l).map vrF) (e := e) (vr_ne _)
 have h26 := fun (H : List AO) (j k' r q v : Nat) (hj : H[j]? = some ⟨[macV ns vs], 52, 0, true⟩) (hk : H[k']? = some ⟨(Ex.mk op k nm l p).c, 24, 0, true⟩) (hr : H[r]? = some ⟨rws Fo.c (foldL l), 98, v, true⟩) (hq : H[q]? = some ⟨[.own r 0 (foldL l).length 9 v], 123, 0, true⟩) =>
  ok26 (H := H) (kf := 103) (cap := [rp j, rp k', rp q]) (r := appF op ((foldL l).map vrF)) (fun L => ok103 (by rw [List.getElem?_append_left (getElem?_lt hj)]; exact hj) (by rw [List.getElem?_append_left (getElem?_lt hk)]; exact hk) (by rw [List.getElem?_append_left (getElem?_lt hr)]; exact hr) (by rw [List.getElem?_append_left (getElem?_lt hq)]; exact hq) hw2 hw1 hsm)
 have hw20 : op = 20 -> (foldL l).length = 3 ∧ (((foldL l).getD 0 zFo).v.2 = 0 ∨ ((foldL l).getD 0 zFo).v.2 = 1) := by
  intro h
  subst h
  refine ⟨by simp [opN] at hw1; omega, ?_⟩
  simpa using hw4
 simp -implicitDefEqProofs [t78_at, Ex.v, Ex.c, hd', h1, h2, macV_vd, macV_flat, macV_cell]
 refine ⟨rfl, by omega, by omega, ?_⟩
 refine LI.tell (Tell.own0 (j := H.length + 3) (p := 3) (o := ⟨[i64 op, i64 k, st (B nm), .val (.slice none 0 0), i64 p, bl true, i64 0, i64 0, i64 0], 98, 0, true⟩) (by simp) rfl rfl 24 5) ?_
 refine LI.cong (H' := H ++ fH H.length ns vs op k p nm l [] [] []) (by simp [fH, rws, Ex.cL]) ?_
 refine loop78 hcl hd hl3 hIH (fun env G g3 g4 g6 g7 g8 => ?_) l.length 0 [] [] _ (by omega) rfl (by simp) ?_ ?_ ?_ ?_ ?_ ?_ ?_ ?_ ?_
 · generalize foldL l = ps at *
   generalize hres : opFo op k nm p ps = res
   unfold opFo at hres
   have ht := fun b v1 v2 er env g4 g6 g7 g8 => t78_ok (H := H) (ns := ns) (vs := vs) (k := k) (p := p) (nm := nm) (l := l) (op := op) hcl (ps := ps) (es := ps.map Fo.e) (b := b) (v1 := v1) (v2 := v2) (er := er) (G := G) (env := env) hw20 g4 g6 g7 g8
   by_cases hc : ps.all Fo.cl = true
   · have hsm' := fun n => appF_sm (op := op) (n := n) hsm
     have h26' := fun H j k' r q v hj hk hr hq => h26 H j k' r q v hj hk hr hq
     simp only [rp, Ex.c] at h26'
     simp only [hc, if_true, true_and] at hres
     generalize appF op (ps.map vrF) = y at *
     simp -implicitDefEqProofs [g3, g4, g6, g7, g8, hc]
     refine call_go (h26' _ H.length (H.length + 1) (H.length + 4) (H.length + 5) ps.length (by simp [fH]) (by simp [fH]) (by simp [fH]) (by simp [fH])) ?_
     cases y with
     | error e =>
      have he := her e rfl
      have hres' : (if op = 20 ∧ (ps.getD 0 zFo).cl = true ∧ (ps.getD 0 zFo).er = 0 then ps.getD (2 - (ps.getD 0 zFo).v.2).toNat zFo else ⟨.mk op k nm (ps.map Fo.e) p, true, (0, 0), e⟩) = res := by
       rw [← hres]; unfold setR; simp only [he, false_and, if_false]
      clear hres
      have ht' := ht true 0 0 e
      rw [hres'] at ht'
      simp only [gH, List.length_map] at ht'
      simp -implicitDefEqProofs [g3, g4, g6, g7, g8, hc, retV, he, fH]
      refine ht' _ ?_ ?_ ?_ ?_ <;> simp [g4, g6, g7, g8]
     | ok v =>
      by_cases hv : v.1 = 1 ∧ -1000000000 ≤ v.2 ∧ v.2 ≤ 1000000000
      · obtain ⟨hv1, hv2, hv3⟩ := hv
        have hw : IntKind.i64.wrap (-v.2) = -v.2 := wrap_id (by omega) (by omega)
        have hmx : max v.2 (-v.2) ≤ 1000000000 := by omega
        have hres' : (⟨litE v.2 p, true, v, 0⟩ : Fo) = res := by
         rw [← hres]; unfold setR; simp only [hv1, hv2, hv3, and_self, if_true]
        have h36 := fun H => ok36 (H := H) (n := v.2) (p := p) ⟨hv2, hv3⟩
        clear hres
        subst hres'
        obtain ⟨v1, v2⟩ := v
        simp only at hv1 hv2 hv3 hw hmx h36
        subst hv1
        simp -implicitDefEqProofs [g3, g4, g6, g7, g8, hc, retV, fH, hw, hmx]
        refine call_go (h36 _) ?_
        have hT : List.take 9 ((litE v2 p).c ++ [bl true, i64 1, i64 v2, i64 0]) = (litE v2 p).c ++ [bl true, i64 1, i64 v2, i64 0] := Fo.c_9 ⟨litE v2 p, true, (1, v2), 0⟩
        have hC : cellsOk ((litE v2 p).c ++ [bl true, i64 1, i64 v2, i64 0]) := Fo.c_cell ⟨litE v2 p, true, (1, v2), 0⟩
        have hF : (Fo.c ⟨litE v2 p, true, (1, v2), 0⟩) = (litE v2 p).c ++ [bl true, i64 1, i64 v2, i64 0] := rfl
        have hU := fun n => fo_und n ⟨litE v2 p, true, (1, v2), 0⟩
        rw [hF] at hU ⊢
        simp -implicitDefEqProofs [g3, g4, g6, g7, g8, Ex.v, hT, hC, r78]
        exact cv_fz 3 hcl rfl (fz_under (by rw [SV.under]; exact hU _))
      · have hres' : (if op = 20 ∧ (ps.getD 0 zFo).cl = true ∧ (ps.getD 0 zFo).er = 0 then ps.getD (2 - (ps.getD 0 zFo).v.2).toNat zFo else ⟨.mk op k nm (ps.map Fo.e) p, true, v, 0⟩) = res := by
         rw [← hres]; unfold setR; simp only [hv, and_false, if_false]
        clear hres
        have ht' := ht true v.1 v.2 0
        rw [hres'] at ht'
        simp only [gH, List.length_map] at ht'
        by_cases hv1 : v.1 = 1
        · have hs := hsm' v.2 (by rw [← hv1])
          unfold Sm at hs
          have hw : IntKind.i64.wrap (-v.2) = -v.2 := wrap_id (by omega) (by omega)
          have hmx : ¬ max v.2 (-v.2) ≤ 1000000000 := by omega
          simp -implicitDefEqProofs [g3, g4, g6, g7, g8, hc, retV, fH, hw, hmx, hv1]
          rw [hv1] at ht'
          refine ht' _ ?_ ?_ ?_ ?_ <;> simp [g4, g6, g7, g8]
        · simp -implicitDefEqProofs [g3, g4, g6, g7, g8, hc, retV, fH, hv1]
          refine ht' _ ?_ ?_ ?_ ?_ <;> simp [g4, g6, g7, g8]
   · rw [Bool.not_eq_true] at hc
     have hc' : ¬ (ps.all Fo.cl = true) := by simp [hc]
     have hres' : (if op = 20 ∧ (ps.getD 0 zFo).cl = true ∧ (ps.getD 0 zFo).er = 0 then ps.getD (2 - (ps.getD 0 zFo).v.2).toNat zFo else ⟨.mk op k nm (ps.map Fo.e) p, false, (0, 0), 0⟩) = res := by
      rw [← hres]; simp only [hc', if_false, false_and]; rfl
     clear hres
     have ht' := ht false 0 0 0
     rw [hres'] at ht'
     simp -implicitDefEqProofs [g3, g4, g6, g7, g8, hc]
     have hfg : fH H.length ns vs op k p nm l ps (ps.map Fo.e) G = gH H.length ns vs op k p nm l ps (ps.map Fo.e) false 0 0 0 G := by simp only [fH, gH, hc]
     rw [hfg]
     refine ht' _ ?_ ?_ ?_ ?_ <;> simp [g4, g6, g7, g8]
 all_goals simp
mutual
theorem ok78 : ∀ (e : Ex) (d : Nat), wdE e = true -> d + e.hgt ≤ 100000 -> ∀ H, Ok Tryz.prog 78 [macV ns vs, e.v, i64 d] H (.ret (.agg (foldE e).c)) H
 | .mk op k nm l p, d, hw, hd, H => by
  rw [Ex.hgt] at hd
  refine ok_fn hm Tryz.func78 c78 (by simp [macV_und, Ex.und_v]) fun hcl => ?_
  by_cases h2 : op = 2
  · subst h2
    exact ok78_name hcl (by omega)
  by_cases h1 : op = 1
  · subst h1
    exact ok78_num hcl (by omega)
  rw [wdE] at hw
  simp only [h1, h2, or_self, decide_false, Bool.false_or, Bool.and_eq_true] at hw
  exact ok78_op hcl (by omega) h1 h2 hw.2 (ok78L l (d + 1) hw.1 (by omega))
theorem ok78L : ∀ (l : List Ex) (d : Nat), wdL l = true -> d + Ex.hgtL l ≤ 100000 -> ∀ e ∈ l, ∀ H, Ok Tryz.prog 78 [macV ns vs, e.v, i64 d] H (.ret (.agg (foldE e).c)) H
 | [], d, hw, hd, e, he, _ => by simp at he
 | x :: r, d, hw, hd, e, he, H => by
  rw [Ex.hgtL] at hd
  rw [wdL, Bool.and_eq_true] at hw
  by_cases h : e = x
  · rw [h]; exact ok78 x d hw.1 (by omega) H
  · exact ok78L r d hw.2 (by omega) e (by simpa [h] using he) H
end
end
end Go.Proofs.YtcejichidnlicaaGreatDoor
namespace Go.Proofs.YtcejichidnlicaaGreatDoor
open Go.Ab
def chkW (k : Int) (tx : List UInt8) (n : Int) : Int :=
 if tx = [] ∨ k < 1 ∨ 3 < k ∨ cAt tx 0 = 1 ∨ tx.getD 0 0 = 35 then 3 else
  match stepT tx 0 with
  | .tok t q => if q ≠ tx.length ∨ t.k ≠ k then 3 else if t.n ≠ n then 2 else 0
  | _ => 3
theorem stepT_skip {l : List UInt8} {p q : Nat} (c1 : cAt l p ≠ 1) (c5 : l.getD p 0 ≠ 35) : stepT l p ≠ .skip q := by
 intro hst
 unfold stepT at hst
 rw [if_neg c1] at hst
 have key : ∀ k q', mkStp l p k q' ≠ .skip q := by intro k q' h; unfold mkStp at h; split at h <;> cases h
 split at hst
 · exact key _ _ hst
 · split at hst
   · exact key _ _ hst
   · split at hst
     · exact key _ _ hst
     · first
       | exact key _ _ hst
       | (rw [if_neg c5] at hst; exact key _ _ hst)
theorem stepT_flt {l : List UInt8} {p : Nat} {e : Int} (he : stepT l p = .flt e) : e ≠ 0 := by
 have key : ∀ k q, mkStp l p k q = .flt e -> e ≠ 0 := by
  intro k q hm
  unfold mkStp at hm
  split at hm
  · rename_i hne; cases hm; exact hne
  · cases hm
 unfold stepT at he
 split at he
 · cases he
 · split at he
   · exact key _ _ he
   · split at he
     · exact key _ _ he
     · split at he
       · exact key _ _ he
       · split at he
         · cases he
         · exact key _ _ he
section
variable {H : List AO} {tx : List UInt8}
theorem ok93 (hl : tx.length < 4611686018427387904) (k n : Int) (a : SV) (ha : a.isCell = true) (hu : a.under H.length = true) : Ok Tryz.prog 93 [.agg [i64 k, st (B tx), i64 n, a]] H (.ret (i64 (chkW k tx n))) H := by
 refine ok_fn hm Tryz.func93 c93 (by simp) fun hcl => ?_
 by_cases h1 : tx = []
 · have hr : chkW k tx n = 3 := by unfold chkW; rw [if_pos (.inl h1)]
   rw [hr]
   simp -implicitDefEqProofs [i93, r93, h1, ha]
   refine callq_off _ _ _ _ ?_
   simp -implicitDefEqProofs
   exact cv_fz 4 hcl rfl (by simp)
 have hpos : 0 < tx.length := List.length_pos_iff.2 h1
 have hg : tx.getD 0 0 = tx[0] := by simp [hpos]
 have hb : tx[0].toNat < 256 := tx[0].toNat_lt
 have f1 : ((tx[0].toNat : Int) = 35) ↔ tx[0] = 35 := u8i tx[0] 35
 obtain ⟨_, _, q1, _⟩ := cls_at hb
 rw [← cAt_get hpos] at q1
 by_cases h2 : k < 1
 · have hr : chkW k tx n = 3 := by unfold chkW; rw [if_pos (.inr (.inl h2))]
   rw [hr]
   simp -implicitDefEqProofs [i93, r93, h1, ha, h2]
   refine callq_off _ _ _ _ ?_
   simp -implicitDefEqProofs
   exact cv_fz 4 hcl rfl (by simp)
 by_cases h3 : 3 < k
 · have hr : chkW k tx n = 3 := by unfold chkW; rw [if_pos (.inr (.inr (.inl h3)))]
   rw [hr]
   simp -implicitDefEqProofs [i93, r93, h1, ha, h2, h3]
   refine callq_off _ _ _ _ ?_
   simp -implicitDefEqProofs
   exact cv_fz 4 hcl rfl (by simp)
 simp -implicitDefEqProofs [i93, r93, h1, ha, h2, h3, hpos]
 refine callq_st (r := bl (whtB tx[0].toNat)) (fun _ => by rw [st_u8]; exact ok85 _ hb) ?_
 by_cases h4 : cAt tx 0 = 1
 · have hr : chkW k tx n = 3 := by unfold chkW; rw [if_pos (.inr (.inr (.inr (.inl h4))))]
   rw [hr]
   simp -implicitDefEqProofs [q1.1 h4]
   exact cv_fz 4 hcl rfl (by simp)
 have hW : whtB tx[0].toNat = false := by rw [← Bool.not_eq_true]; exact fun h => h4 (q1.2 h)
 by_cases h5 : tx[0] = 35
 · have hr : chkW k tx n = 3 := by unfold chkW; rw [if_pos (.inr (.inr (.inr (.inr (by rw [hg]; exact h5)))))]
   rw [hr]
   simp -implicitDefEqProofs [hW, hpos, h5]
   exact cv_fz 4 hcl rfl (by simp)
 have h5' : ¬ ((tx[0].toNat : Int) = 35) := fun h => h5 (f1.1 h)
 have hr : chkW k tx n = match stepT tx 0 with
  | .tok t q => if q ≠ tx.length ∨ t.k ≠ k then 3 else if t.n ≠ n then 2 else 0
  | _ => 3 := by unfold chkW; rw [if_neg (by rw [hg]; rintro (h | h | h | h | h) <;> contradiction)]
 simp -implicitDefEqProofs [hW, hpos, h5']
 refine call_go (ok86 hl hpos h4 (by rw [hg]; exact h5) (fun h => absurd h.2.1 (by decide))) ?_
 cases hst : stepT tx 0 with
 | skip q => exact (stepT_skip h4 (by rw [hg]; exact h5) hst).elim
 | flt e =>
  have hnx : nxV tx 0 = .tup [zT, i64 0, fltV e 0] := by unfold nxV; rw [hst]; rfl
  rw [hst] at hr
  have he := stepT_flt hst
  rw [hnx, hr]
  simp -implicitDefEqProofs [zT, fltV, he]
  exact cv_fz 4 hcl rfl (by simp)
 | tok t q =>
  have hnx : nxV tx 0 = .tup [t.v, i64 q, fltV 0 0] := by unfold nxV; rw [hst]
  rw [hst] at hr
  rw [hnx, hr]
  by_cases hq : q = tx.length
  · by_cases hk : t.k = k
    · simp -implicitDefEqProofs [Tok.v, Tok.c, fltV, hq, hk]
      split
      · exact cv_fz 4 hcl rfl (by simp)
      · exact cv_fz 4 hcl rfl (by simp)
    · simp -implicitDefEqProofs [Tok.v, Tok.c, fltV, hq, hk]
      exact cv_fz 4 hcl rfl (by simp)
  · have hq' : ¬ ((q : Int) = tx.length) := by omega
    simp -implicitDefEqProofs [Tok.v, Tok.c, fltV, hq, hq']
    exact cv_fz 4 hcl rfl (by simp)
end
end Go.Proofs.YtcejichidnlicaaGreatDoor
namespace Go.Proofs.YtcejichidnlicaaGreatDoor
open Go.Ab
def Tok.mv (t : Tok) (d : Nat) : Tok := { t with p := d + t.p }
def Stp.mv (d : Nat) : Stp -> Stp
 | .skip q => .skip (d + q)
 | .tok t q => .tok (t.mv d) (d + q)
 | .flt e => .flt e
def Ev.mv (d : Nat) : Ev -> Ev
 | .tok t => .tok (t.mv d)
 | .flt e p => .flt e (d + p)
section
variable {a b : List UInt8} {c : UInt8}
def bad : List Ev -> Bool
 | [] => false
 | .tok _ :: r => bad r
 | .flt _ _ :: _ => true
end
end Go.Proofs.YtcejichidnlicaaGreatDoor
namespace Go.Proofs.YtcejichidnlicaaGreatDoor
open Go.Ab
end Go.Proofs.YtcejichidnlicaaGreatDoor
namespace Go.Proofs.YtcejichidnlicaaGreatDoor
open Go.Ab
def decF : Nat -> Nat -> List UInt8
 | 0, n => [UInt8.ofNat (48 + n)]
 | k + 1, n => if 9 < n then decF k (n / 10) ++ [UInt8.ofNat (48 + n % 10)] else [UInt8.ofNat (48 + n)]
def decN (n : Nat) : List UInt8 := decF 18 n
theorem decF_one {k n : Nat} (h : n ≤ 9) : decF k n = [UInt8.ofNat (48 + n)] := by
 cases k with
 | zero => rfl
 | succ k => rw [decF, if_neg (by omega)]
theorem decF_len : ∀ k n : Nat, (decF k n).length ≤ k + 1
 | 0, n => by simp [decF]
 | k + 1, n => by
  rw [decF]
  split
  · have := decF_len k (n / 10); simp; omega
  · simp
theorem enc_dig {d : Nat} (h : d ≤ 9) : Utf8.encode ((48 : Int) + (d : Int)) = B [UInt8.ofNat (48 + d)] := by
 have : d = 0 ∨ d = 1 ∨ d = 2 ∨ d = 3 ∨ d = 4 ∨ d = 5 ∨ d = 6 ∨ d = 7 ∨ d = 8 ∨ d = 9 := by omega
 rcases this with rfl | rfl | rfl | rfl | rfl | rfl | rfl | rfl | rfl | rfl <;> decide
theorem B_cat (a b : List UInt8) : B a ++ B b = B (a ++ b) := by
 apply ByteArray.ext
 show (B a ++ B b).data = _
 rw [ByteArray.data_append]; simp
section
variable {H : List AO}
theorem ok72a : ∀ (k n : Nat), n < 10 ^ (k + 1) -> k ≤ 18 -> n ≤ 9223372036854775807 -> ∀ H : List AO, Ok Tryz.prog 72 [i64 n] H (.ret (st (B (decF k n)))) H := by
 intro k
 induction k with
 | zero =>
  intro n hn _ h63 H
  refine ok_fn hm Tryz.func72 c72 (by simp) fun hcl => ?_
  have h9 : ¬ (9 : Int) < n := by omega
  have he := enc_dig (d := n) (by omega)
  have w1 : IntKind.i64.wrap (48 + (n : Int)) = 48 + (n : Int) := wrap_id (by omega) (by omega)
  have w2 : IntKind.i32.wrap (48 + (n : Int)) = 48 + (n : Int) := by unfold IntKind.wrap; simp [IntKind.bits, IntKind.signed]; omega
  simp -implicitDefEqProofs [i72, r72, h9, w1, w2, he, decF]
  exact cv_id
 | succ k ih =>
  intro n hn hk h63 H
  by_cases h9 : n ≤ 9
  · rw [decF_one h9]
    refine ok_fn hm Tryz.func72 c72 (by simp) fun hcl => ?_
    have h9' : ¬ (9 : Int) < n := by omega
    have he := enc_dig (d := n) (by omega)
    have w1 : IntKind.i64.wrap (48 + (n : Int)) = 48 + (n : Int) := wrap_id (by omega) (by omega)
    have w2 : IntKind.i32.wrap (48 + (n : Int)) = 48 + (n : Int) := by unfold IntKind.wrap; simp [IntKind.bits, IntKind.signed]; omega
    simp -implicitDefEqProofs [i72, r72, h9', w1, w2, he]
    exact cv_id
  · have h9' : (9 : Int) < n := by omega
    have hq : n / 10 < 10 ^ (k + 1) := by
     rw [Nat.pow_succ] at hn
     omega
    have hd : n % 10 < 10 ^ (k + 1) := by
     have : 10 ^ 1 ≤ 10 ^ (k + 1) := Nat.pow_le_pow_right (by omega) (by omega)
     omega
    have a1 := ih (n / 10) hq (by omega) (by omega)
    have a2 := ih (n % 10) hd (by omega) (by omega)
    rw [decF_one (by omega : n % 10 ≤ 9)] at a2
    have l1 := decF_len k (n / 10)
    have e : decF (k + 1) n = decF k (n / 10) ++ [UInt8.ofNat (48 + n % 10)] := by rw [decF, if_pos (by omega)]
    rw [e]
    refine ok_fn hm Tryz.func72 c72 (by simp) fun hcl => ?_
    have w1 : IntKind.i64.wrap ((n : Int) / 10) = ((n / 10 : Nat) : Int) := by rw [wrap_id (by omega) (by omega)]; omega
    have w2 : IntKind.i64.wrap ((n : Int) % 10) = ((n % 10 : Nat) : Int) := by rw [wrap_id (by omega) (by omega)]; omega
    generalize decF k (n / 10) = x at a1 l1 e ⊢
    simp -implicitDefEqProofs [i72, r72, h9', w1, w2]
    refine call_go (a1 _) ?_
    simp -implicitDefEqProofs [h9', w1, w2]
    refine call_go (a2 _) ?_
    simp -implicitDefEqProofs [B_cat, B_size]
    exact ⟨by omega, cv_id⟩
theorem ok72 {n : Nat} (h : n ≤ 9223372036854775807) : Ok Tryz.prog 72 [i64 n] H (.ret (st (B (decN n)))) H := ok72a 18 n (by omega) (by omega) h H
def nmdF (s : List UInt8) : Bool := decide (chkW 1 s 0 = 0) && !decide (s ∈ resv)
theorem ok71 {s : List UInt8} (h : s.length < 4611686018427387904) : Ok Tryz.prog 71 [st (B s)] H (.ret (bl (nmdF s))) H := by
 have h73 := fun H => ok93 (H := H) h 1 0 (i64 0) rfl rfl
 refine ok_fn hm Tryz.func71 c71 (by simp) fun hcl => ?_
 simp -implicitDefEqProofs [i71, r71]
 refine call_go (h73 _) ?_
 by_cases hc : chkW 1 s 0 = 0
 · simp -implicitDefEqProofs [hc]
   refine callq_st (r := bl (decide (s ∈ resv))) (fun _ => ok94 s) ?_
   simp -implicitDefEqProofs [hc, nmdF]
   exact cv_id
 · simp -implicitDefEqProofs [hc]
   refine callq_go (r := bl false) (fun h => by cases h) ?_
   simp -implicitDefEqProofs [hc, nmdF]
   exact cv_id
end
end Go.Proofs.YtcejichidnlicaaGreatDoor
namespace Go.Proofs.YtcejichidnlicaaGreatDoor
open Go.Ab
inductive TK where
 | wd (s : List UInt8)
 | sg (s : List UInt8)
 | nm (n : Nat)
inductive Pc where
 | b (c : UInt8)
 | t (k : TK)
def TK.tx : TK -> List UInt8
 | .wd s => s
 | .sg s => s
 | .nm n => decN n
def txt : List Pc -> List UInt8
 | [] => []
 | .b c :: r => c :: txt r
 | .t k :: r => k.tx ++ txt r
theorem txt_app : ∀ a b : List Pc, txt (a ++ b) = txt a ++ txt b
 | [], b => rfl
 | .b c :: a, b => by simp [txt, txt_app a b]
 | .t k :: a, b => by simp [txt, txt_app a b]
def isWd (s : List UInt8) : Prop := s ≠ [] ∧ cAt s 0 = 2 ∧ (∀ i, i < s.length -> cAt s i = 2 ∨ cAt s i = 3) ∧ s.length ≤ 40
def isSg (s : List UInt8) : Prop := (∃ c ∈ sgls, s = [c]) ∨ s ∈ dbls
def TK.ok : TK -> Prop
 | .wd s => isWd s
 | .sg s => isSg s
 | .nm n => n ≤ 1000000000
end Go.Proofs.YtcejichidnlicaaGreatDoor
namespace Go.Proofs.YtcejichidnlicaaGreatDoor
open Go.Ab
def wrdT (op : Int) : List UInt8 := if op = 18 then [109, 105, 110] else if op = 19 then [109, 97, 120] else [105, 102]
def binS : List (List UInt8) := [[42], [47], [37], [43], [45], [61, 61], [33, 61], [60], [60, 61], [62], [62, 61], [97, 110, 100], [111, 114]]
def binT (op : Int) : TK := if op = 16 ∨ op = 17 then .wd (binS.getD (op - 5).toNat []) else .sg (binS.getD (op - 5).toNat [])
def opP (x : Int × List Pc) : List Pc := if x.1 = 1 ∨ x.1 = 2 ∨ 18 ≤ x.1 then x.2 else .t (.sg [40]) :: (x.2 ++ [.t (.sg [41])])
theorem opP_pos {k : Int} {x : List Pc} (h : k = 1 ∨ k = 2 ∨ 18 ≤ k) : opP (k, x) = x := if_pos h
theorem opP_neg {k : Int} {x : List Pc} (h : ¬ (k = 1 ∨ k = 2 ∨ 18 ≤ k)) : opP (k, x) = .t (.sg [40]) :: (x ++ [.t (.sg [41])]) := if_neg h
def lsP : List (Int × List Pc) -> List Pc
 | [] => []
 | x :: r => x.2 ++ r.flatMap fun y => .t (.sg [44]) :: .b 32 :: y.2
def ndP (l : List (Int × List Pc)) (i : Nat) : List Pc := match l[i]? with
 | some x => opP x
 | none => []
def shK (op n : Int) (nm : List UInt8) (ts : List (Int × List Pc)) : List Pc :=
 if op = 1 then [.t (.nm n.toNat)] else if op = 2 then [.t (.wd nm)] else if op = 3 then .t (.sg [45]) :: .b 32 :: ndP ts 0 else if op = 4 then .t (.wd [110, 111, 116]) :: .b 32 :: ndP ts 0
 else if 18 ≤ op then .t (.wd (wrdT op)) :: .t (.sg [40]) :: (lsP ts ++ [.t (.sg [41])]) else ndP ts 0 ++ .b 32 :: .t (binT op) :: .b 32 :: ndP ts 1
mutual
def shP : Ex -> List Pc
 | .mk op n nm l _ => shK op n nm (shL l)
def shL : List Ex -> List (Int × List Pc)
 | [] => []
 | e :: r => (e.op, shP e) :: shL r
end
mutual
def fineE : Ex -> Bool
 | .mk op n nm l _ => decide ((l.length : Int) = opN op) && ((decide (op = 1) || decide (n = 0)) && ((decide (op = 2) || decide (nm = [])) && ((!decide (op = 2) || nmdF nm) && (decide (0 ≤ n) && (decide (n ≤ 1000000000) && fineL l)))))
def fineL : List Ex -> Bool
 | [] => true
 | e :: r => fineE e && fineL r
end
theorem fineE_iff {op n p : Int} {nm : List UInt8} {l : List Ex} : fineE (.mk op n nm l p) = true ↔ (l.length : Int) = opN op ∧ (op = 1 ∨ n = 0) ∧ (op = 2 ∨ nm = []) ∧ (op ≠ 2 ∨ nmdF nm = true) ∧ 0 ≤ n ∧ n ≤ 1000000000 ∧ fineL l = true := by
 rw [fineE]
 simp only [Bool.and_eq_true, Bool.or_eq_true, decide_eq_true_eq, Bool.not_eq_true', decide_eq_false_iff_not, ne_eq]
theorem opN_cases {op : Int} {n : Nat} (h : (n : Int) = opN op) : 1 ≤ op ∧ op ≤ 20 := by
 unfold opN at h
 split at h
 · omega
 · split at h
   · omega
   · split at h
     · omega
     · split at h <;> omega
theorem shL_len : ∀ l : List Ex, (shL l).length = l.length
 | [] => rfl
 | e :: r => by simp [shL, shL_len r]
theorem shL_get : ∀ {l : List Ex} {i : Nat} (h : i < l.length), (shL l)[i]? = some (l[i].op, shP l[i])
 | e :: r, 0, _ => by simp [shL]
 | e :: r, i + 1, h => by
  simp only [shL, List.getElem?_cons_succ, List.getElem_cons_succ]
  exact shL_get (by simpa using h)
end Go.Proofs.YtcejichidnlicaaGreatDoor
namespace Go.Proofs.YtcejichidnlicaaGreatDoor
open Go.Ab
section
variable {H : List AO}
theorem loop32 {l : List Ex} (hl : l.length ≤ 3) (hIH : ∀ e ∈ l, ∀ H : List AO, Ok Tryz.prog 32 [e.v] H (.ret (bl (fineE e))) H) {op n : Int} {nm : List UInt8} {p : Int} {N : Nat} {K : XE -> Env -> List AO -> Prop}
 (hret : fineL l = false -> ∀ env G, env.get 2 = bl false -> K .ret env (H ++ ⟨[i64 op, i64 n, st (B nm), .slc (Ex.cL l) l.length, i64 p], 24, 0, true⟩ :: G))
 (hexit : fineL l = true -> ∀ env G, K (.exit 0) env (H ++ ⟨[i64 op, i64 n, st (B nm), .slc (Ex.cL l) l.length, i64 p], 24, 0, true⟩ :: G)) :
 ∀ (m i : Nat) (G : List AO) (env : Env), i + m = l.length -> fineL l = fineL (l.drop i) -> env.get 1 = rp H.length -> env.get 3 = i64 i →
  LI Tryz.prog N drawB l32_0 env (H ++ ⟨[i64 op, i64 n, st (B nm), .slc (Ex.cL l) l.length, i64 p], 24, 0, true⟩ :: G) K := by
 intro m
 induction m with
 | zero =>
  intro i G env hi hq h1 h3
  refine li_go hm l32_0.eq_1 ?_
  have e : i = l.length := by omega
  subst e
  rw [List.drop_length] at hq
  simp -implicitDefEqProofs [h1, h3, rp]
  exact hexit hq _ _
 | succ m ih =>
  intro i G env hi hq h1 h3
  refine li_go hm l32_0.eq_1 ?_
  have hlt : i < l.length := by omega
  have hlt' : (i : Int) < l.length := by omega
  have hg := exL_get hlt
  have hcl := exL_len l
  rw [List.drop_eq_getElem_cons hlt, fineL] at hq
  have h := hIH l[i] (List.getElem_mem hlt)
  generalize l[i] = e at hq hg h
  simp -implicitDefEqProofs [h1, h3, rp, hlt, hlt', hg, hcl]
  refine ⟨by omega, call_go (h _) ?_⟩
  cases he : fineE e with
  | true =>
   rw [he, Bool.true_and] at hq
   simp -implicitDefEqProofs [h1, h3, rp]
   refine ih (i + 1) G _ (by omega) hq ?_ ?_
   all_goals simp [h1, rp, wrap_suc (show i < 9223372036854775807 by omega)]
  | false =>
   rw [he, Bool.false_and] at hq
   simp -implicitDefEqProofs [h1, h3, rp]
   exact hret hq _ _ (by simp)
theorem ok96_go (hcl : closed H) {op n : Int} {nm : List UInt8} {l : List Ex} {p : Int} (hnm : nm.length < 4611686018427387904) (hIH : ∀ e ∈ l, ∀ H : List AO, Ok Tryz.prog 32 [e.v] H (.ret (bl (fineE e))) H) :
 X Tryz.prog Tryz.f32.ntmps drawB i32 (argsEnv [(Ex.mk op n nm l p).v]) H (Fin H.length r32 (.ret (bl (fineE (.mk op n nm l p)))) H) := by
 generalize hw : fineE (.mk op n nm l p) = w
 rw [fineE] at hw
 have h111 := fun H => ok70 (H := H) op
 have h43 := fun H => ok71 (H := H) hnm
 generalize hk : opN op = k at hw h111
 simp -implicitDefEqProofs [i32, r32, Ex.v, Ex.c]
 refine callq_go (fun _ => h111 _) ?_
 by_cases a1 : (l.length : Int) = k
 · have hl3 : l.length ≤ 3 := by
    have : opN op ≤ 3 := by unfold opN; split <;> (try split) <;> (try split) <;> (try split) <;> omega
    omega
   have fin : ∀ (env : Env), w = fineL l -> env.get 1 = rp H.length -> env.get 3 = i64 0 -> ∀ K : XE -> Env -> List AO -> Prop,
    (fineL l = false -> ∀ env G, env.get 2 = bl false -> K .ret env (H ++ ⟨[i64 op, i64 n, st (B nm), .slc (Ex.cL l) l.length, i64 p], 24, 0, true⟩ :: G)) →
    (fineL l = true -> ∀ env G, K (.exit 0) env (H ++ ⟨[i64 op, i64 n, st (B nm), .slc (Ex.cL l) l.length, i64 p], 24, 0, true⟩ :: G)) →
    LI Tryz.prog Tryz.f32.ntmps drawB l32_0 env (H ++ ⟨[i64 op, i64 n, st (B nm), .slc (Ex.cL l) l.length, i64 p], 24, 0, true⟩ :: []) K := fun env _ g1 g3 K k1 k2 =>
    loop32 hl3 hIH k1 k2 l.length 0 [] env (by omega) rfl g1 g3
   by_cases a2 : op = 1 ∨ n = 0
   · by_cases a3 : op = 2 ∨ nm = []
     · by_cases a4 : op = 2
       · have a5 : n = 0 := by omega
         have a6 : ¬ op = 1 := by omega
         by_cases hn : nmdF nm = true
         · have hwq : w = fineL l := by rw [← hw]; simp [a1, a4, a5, hn]
           subst a4 a5
           simp -implicitDefEqProofs [a1]
           refine callq_st (r := bl (nmdF nm)) (fun _ => h43 _) ?_
           simp -implicitDefEqProofs [a1, hn]
           refine LI.cong (H' := H ++ ⟨[i64 2, i64 0, st (B nm), .slc (Ex.cL l) l.length, i64 p], 24, 0, true⟩ :: []) (by simp) ?_
           refine fin _ hwq ?_ ?_ _ (fun hq env G h2 => ?_) (fun hq env G => ?_)
           · simp [rp]
           · simp
           · simp -implicitDefEqProofs [h2]
             rw [hwq, hq]
             exact cv_fz 3 hcl rfl rfl
           · simp -implicitDefEqProofs
             rw [hwq, hq]
             exact cv_fz 3 hcl rfl rfl
         · rw [Bool.not_eq_true] at hn
           have hw : w = false := by rw [← hw]; simp [a4, hn]
           subst a4 a5 hw
           simp -implicitDefEqProofs [a1]
           refine callq_st (r := bl (nmdF nm)) (fun _ => h43 _) ?_
           simp -implicitDefEqProofs [a1, hn]
           exact cv_fz 3 hcl rfl rfl
       · have a6 : nm = [] := a3.resolve_left a4
         have hnn : op = 1 ∨ n = 0 := a2
         by_cases b1 : n < 0
         · have hw : w = false := by rw [← hw]; simp; intros; omega
           subst hw a6
           have o1 : op = 1 := by omega
           subst o1
           simp -implicitDefEqProofs [a1, b1]
           refine callq_go (r := bl false) (fun h => by cases h) ?_
           simp -implicitDefEqProofs [a1, b1]
           exact cv_fz 3 hcl rfl rfl
         · by_cases b2 : 1000000000 < n
           · have hw : w = false := by rw [← hw]; simp; intros; omega
             subst hw a6
             have o1 : op = 1 := by omega
             subst o1
             simp -implicitDefEqProofs [a1, b1, b2]
             refine callq_go (r := bl false) (fun h => by cases h) ?_
             simp -implicitDefEqProofs [a1, b1, b2]
             exact cv_fz 3 hcl rfl rfl
           · have hwq : w = fineL l := by
              rw [← hw]
              have c1 : 0 ≤ n := by omega
              have c2 : n ≤ 1000000000 := by omega
              rcases hnn with h | h <;> simp [a1, a4, a6, h, c1, c2]
             have ho : op = 1 ∨ ¬ op = 1 ∧ n = 0 := by omega
             rcases ho with ho | ⟨ho, hn0⟩
             · subst ho
               simp -implicitDefEqProofs [a1, a6, b1, b2]
               refine callq_go (r := bl false) (fun h => by cases h) ?_
               simp -implicitDefEqProofs [a1, b1, b2]
               refine LI.cong (H' := H ++ ⟨[i64 1, i64 n, st (B nm), .slc (Ex.cL l) l.length, i64 p], 24, 0, true⟩ :: []) (by simp [a6]) ?_
               refine fin _ hwq ?_ ?_ _ (fun hq env G h2 => ?_) (fun hq env G => ?_)
               · simp [rp]
               · simp
               · simp -implicitDefEqProofs [h2]
                 rw [hwq, hq]
                 exact cv_fz 3 hcl rfl rfl
               · simp -implicitDefEqProofs
                 rw [hwq, hq]
                 exact cv_fz 3 hcl rfl rfl
             · subst hn0
               simp -implicitDefEqProofs [a1, a4, a6, ho]
               refine callq_go (r := bl false) (fun h => by cases h) ?_
               simp -implicitDefEqProofs [a1, a4, a6, ho]
               refine LI.cong (H' := H ++ ⟨[i64 op, i64 0, st (B nm), .slc (Ex.cL l) l.length, i64 p], 24, 0, true⟩ :: []) (by simp [a6]) ?_
               refine fin _ hwq ?_ ?_ _ (fun hq env G h2 => ?_) (fun hq env G => ?_)
               · simp [rp]
               · simp
               · simp -implicitDefEqProofs [h2]
                 rw [hwq, hq]
                 exact cv_fz 3 hcl rfl rfl
               · simp -implicitDefEqProofs
                 rw [hwq, hq]
                 exact cv_fz 3 hcl rfl rfl
     · have b1 : ¬ op = 2 := fun h => a3 (.inl h)
       have b2 : ¬ nm = [] := fun h => a3 (.inr h)
       have hw : w = false := by rw [← hw]; simp [b1, b2]
       subst hw
       rcases a2 with ho | ho
       · subst ho
         simp -implicitDefEqProofs [a1, b2]
         refine callq_go (r := bl false) (fun h => by cases h) ?_
         simp -implicitDefEqProofs [a1, b2]
         exact cv_fz 3 hcl rfl rfl
       · subst ho
         simp -implicitDefEqProofs [a1, b1, b2]
         refine callq_go (r := bl false) (fun h => by cases h) ?_
         simp -implicitDefEqProofs [a1, b1, b2]
         exact cv_fz 3 hcl rfl rfl
   · have b1 : ¬ op = 1 := fun h => a2 (.inl h)
     have b2 : ¬ n = 0 := fun h => a2 (.inr h)
     have : w = false := by rw [← hw]; simp [b1, b2]
     subst this
     simp -implicitDefEqProofs [a1, b1, b2]
     refine callq_go (r := bl false) (fun h => by cases h) ?_
     simp -implicitDefEqProofs [a1, b1, b2]
     exact cv_fz 3 hcl rfl rfl
 · have : w = false := by rw [← hw]; simp [a1]
   subst this
   simp -implicitDefEqProofs [a1]
   refine callq_go (r := bl false) (fun h => by cases h) ?_
   simp -implicitDefEqProofs [a1]
   exact cv_fz 3 hcl rfl rfl
end
mutual
def Ex.nmB : Ex -> Prop
 | .mk _ _ nm l _ => nm.length < 4611686018427387904 ∧ Ex.nmBL l
def Ex.nmBL : List Ex -> Prop
 | [] => True
 | e :: r => e.nmB ∧ Ex.nmBL r
end
mutual
theorem ok32 : ∀ (e : Ex), e.nmB -> ∀ (H : List AO), Ok Tryz.prog 32 [e.v] H (.ret (bl (fineE e))) H
 | .mk op n nm l p, h, H => by
  unfold Ex.nmB at h
  refine ok_fn hm Tryz.func32 c32 (by simp) fun hcl => ?_
  exact ok96_go hcl h.1 (ok96L l h.2)
theorem ok96L : ∀ (l : List Ex), Ex.nmBL l -> ∀ e ∈ l, ∀ (H : List AO), Ok Tryz.prog 32 [e.v] H (.ret (bl (fineE e))) H
 | [], _, e, he, _ => by simp at he
 | x :: r, h, e, he, H => by
  unfold Ex.nmBL at h
  by_cases hx : e = x
  · rw [hx]; exact ok32 x h.1 H
  · exact ok96L r h.2 e (by simpa [hx] using he) H
end
end Go.Proofs.YtcejichidnlicaaGreatDoor
namespace Go.Proofs.YtcejichidnlicaaGreatDoor
open Go.Ab
def Sh77 (e : Ex) : Prop := fineE e = true -> (txt (shP e)).length ≤ 4611686018427387904 -> ∀ H : List AO, Ok Tryz.prog 33 [e.v] H (.ret (st (B (txt (shP e))))) H
section
variable {H : List AO}
theorem opP_len (k : Int) (x : List Pc) : (txt x).length ≤ (txt (opP (k, x))).length := by
 by_cases h : k = 1 ∨ k = 2 ∨ 18 ≤ k
 · rw [opP_pos h]; exact Nat.le_refl _
 · rw [opP_neg h]; simp [txt, txt_app, TK.tx]; omega
theorem ok73 {e : Ex} (h : Sh77 e) (hf : fineE e = true) (hl : (txt (opP (e.op, shP e))).length ≤ 4611686018427387904) : Ok Tryz.prog 73 [e.v] H (.ret (st (B (txt (opP (e.op, shP e)))))) H := by
 have h77 := h hf (Nat.le_trans (opP_len _ _) hl)
 refine ok_fn hm Tryz.func73 c73 (by simp) fun hcl => ?_
 obtain ⟨op, n, nm, l, p⟩ := e
 have hop : (Ex.mk op n nm l p).op = op := rfl
 rw [hop] at hl ⊢
 generalize shP (.mk op n nm l p) = x at h77 hl ⊢
 simp only [Ex.v, Ex.c] at h77
 by_cases h : op = 1 ∨ op = 2 ∨ 18 ≤ op
 · rw [opP_pos h]
   have key : ∀ K : XE -> Env -> List AO -> Prop, True := fun _ => trivial
   rcases h with h | h | h
   · subst h
     simp -implicitDefEqProofs [i73, r73, Ex.v, Ex.c]
     refine call_go (h77 _) ?_
     simp -implicitDefEqProofs
     exact cv_fz 3 hcl rfl rfl
   · subst h
     simp -implicitDefEqProofs [i73, r73, Ex.v, Ex.c]
     refine call_go (h77 _) ?_
     simp -implicitDefEqProofs
     exact cv_fz 3 hcl rfl rfl
   · have h1 : ¬ op = 1 := by omega
     have h2 : ¬ op = 2 := by omega
     simp -implicitDefEqProofs [i73, r73, Ex.v, Ex.c, h, h1, h2]
     refine call_go (h77 _) ?_
     simp -implicitDefEqProofs
     exact cv_fz 3 hcl rfl rfl
 · rw [opP_neg h] at hl ⊢
   have h1 : ¬ op = 1 := by omega
   have h2 : ¬ op = 2 := by omega
   have h3 : ¬ 18 ≤ op := by omega
   have e1 : txt (.t (.sg [40]) :: (x ++ [.t (.sg [41])])) = [40] ++ txt x ++ [41] := by simp [txt, txt_app, TK.tx]
   rw [e1] at hl ⊢
   simp only [List.length_append, List.length_cons, List.length_nil] at hl
   generalize txt x = t at h77 hl ⊢
   simp -implicitDefEqProofs [i73, r73, Ex.v, Ex.c, h1, h2, h3]
   refine call_go (h77 _) ?_
   simp -implicitDefEqProofs [B_cat, B_size]
   refine ⟨by omega, by omega, ?_⟩
   exact cv_fz 3 hcl rfl rfl
theorem lsP_app (l : List (Int × List Pc)) (x : Int × List Pc) (h : l ≠ []) : txt (lsP (l ++ [x])) = txt (lsP l) ++ ([44, 32] ++ txt x.2) := by
 cases l with
 | nil => exact absurd rfl h
 | cons y r => simp [lsP, txt, txt_app, TK.tx]
theorem lsP_take : ∀ (l : List Ex) (i : Nat), (txt (lsP ((shL l).take i))).length ≤ (txt (lsP (shL l))).length := by
 intro l i
 generalize shL l = s
 cases s with
 | nil => simp
 | cons x r =>
  cases i with
  | zero => simp [lsP, txt]
  | succ i =>
   have key : ∀ (r : List (Int × List Pc)) (i : Nat), (txt ((r.take i).flatMap fun y => .t (.sg [44]) :: .b 32 :: y.2)).length ≤ (txt (r.flatMap fun y => .t (.sg [44]) :: .b 32 :: y.2)).length := by
    intro r
    induction r with
    | nil => intro i; simp
    | cons y r ih =>
     intro i
     cases i with
     | zero => simp [txt]
     | succ i =>
      have := ih i
      rw [List.take_succ_cons, List.flatMap_cons, List.flatMap_cons, txt_app, txt_app, List.length_append, List.length_append]
      omega
   have := key r i
   simp only [List.take_succ_cons, lsP, txt_app, List.length_append]
   omega
theorem shL_take (l : List Ex) {i : Nat} (h : i < l.length) : (shL l).take (i + 1) = (shL l).take i ++ [(l[i].op, shP l[i])] := by
 have hl : i < (shL l).length := by rw [shL_len]; exact h
 rw [List.take_succ_eq_append_getElem hl]
 have := shL_get h
 rw [List.getElem?_eq_getElem hl] at this
 rw [Option.some.inj this]
theorem loop74 {l : List Ex} (hl : l.length < 4611686018427387904) (hIH : ∀ e ∈ l, Sh77 e) (hf : ∀ e ∈ l, fineE e = true) (hb : (txt (lsP (shL l))).length ≤ 4611686018427387904) {N : Nat} {K : XE -> Env -> List AO -> Prop}
 (hexit : ∀ env, env.get 3 = st (B (txt (lsP (shL l)))) -> K (.exit 0) env H) :
 ∀ (m i : Nat) (env : Env), i + m = l.length -> env.get 0 = exS l -> env.get 3 = st (B (txt (lsP ((shL l).take i)))) -> env.get 4 = i64 i →
  LI Tryz.prog N drawB l74_0 env H K := by
 intro m
 induction m with
 | zero =>
  intro i env hi h0 h3 h4
  refine li_go hm l74_0.eq_1 ?_
  have e : i = l.length := by omega
  subst e
  rw [List.take_of_length_le (by rw [shL_len]; exact Nat.le_refl _)] at h3
  simp -implicitDefEqProofs [h0, h3, h4, exS]
  exact hexit _ (by simp [h3])
 | succ m ih =>
  intro i env hi h0 h3 h4
  refine li_go hm l74_0.eq_1 ?_
  have hlt : i < l.length := by omega
  have hlt' : (i : Int) < l.length := by omega
  have hg := exL_get hlt
  have hcl := exL_len l
  have htk := shL_take l hlt
  have hle := lsP_take l (i + 1)
  have hfe := hf _ (List.getElem_mem hlt)
  have h77 := hIH _ (List.getElem_mem hlt) hfe
  have ih := ih (i + 1)
  rw [htk] at hle ih
  by_cases hi0 : i = 0
  · subst hi0
    rw [List.take_zero] at h3 hle ih
    have e1 : txt (lsP ([] ++ [(l[0].op, shP l[0])])) = txt (shP l[0]) := by simp [lsP]
    rw [e1] at hle ih
    have e3 : txt (lsP ([] : List (Int × List Pc))) = [] := rfl
    rw [e3] at h3
    rw [Nat.zero_mul, List.drop_zero] at hg
    have h77 := h77 (by omega)
    generalize l[0] = e at hg hfe h77 hle ih
    generalize txt (shP e) = t at h77 hle ih
    have hlt0 : ¬ (0 : Int) < 0 := by omega
    simp -implicitDefEqProofs [h0, h3, h4, exS, hlt, hlt', hg, hcl]
    refine ⟨by omega, call_go (h77 _) ?_⟩
    simp -implicitDefEqProofs [h0, h3, h4, exS, B_cat, B_size]
    refine ⟨by omega, ?_⟩
    refine ih _ (by omega) ?_ ?_ ?_
    all_goals simp [h0, exS, show IntKind.i64.wrap 1 = 1 from by decide, h3, B_cat]
  · have hi0' : (0 : Int) < i := by omega
    have hne : (shL l).take i ≠ [] := by
     intro h
     have hq : ((shL l).take i).length = i := by rw [List.length_take, shL_len]; omega
     rw [h] at hq
     have : (0 : Nat) = i := hq
     omega
    have e2 := lsP_app ((shL l).take i) (l[i].op, shP l[i]) hne
    rw [e2] at hle
    rw [e2] at ih
    simp only at hle ih
    simp only [List.length_append, List.length_cons, List.length_nil] at hle
    have h77 := h77 (by omega)
    have hi0n : 0 < i := by omega
    generalize txt (lsP ((shL l).take i)) = s at h3 hle ih
    generalize l[i] = e at hg hfe h77 hle ih
    generalize txt (shP e) = t at h77 hle ih
    simp -implicitDefEqProofs [h0, h3, h4, exS, hlt, hlt', hg, hcl, hi0', hi0n, B_cat, B_size]
    refine ⟨by omega, by omega, call_go (h77 _) ?_⟩
    simp -implicitDefEqProofs [h0, h3, h4, exS, B_cat, B_size]
    refine ⟨by omega, ?_⟩
    refine ih _ (by omega) ?_ ?_ ?_
    all_goals simp [h0, exS, B_cat, wrap_suc (show i < 9223372036854775807 by omega)]
theorem ok74 {l : List Ex} (hl : l.length < 4611686018427387904) (hIH : ∀ e ∈ l, Sh77 e) (hf : ∀ e ∈ l, fineE e = true) (hb : (txt (lsP (shL l))).length ≤ 4611686018427387904) : Ok Tryz.prog 74 [exS l] H (.ret (st (B (txt (lsP (shL l)))))) H := by
 refine ok_fn hm Tryz.func74 c74 (by simp [exS]) fun hcl => ?_
 simp -implicitDefEqProofs [i74, r74, exS]
 refine loop74 hl hIH hf hb (fun env h3 => ?_) l.length 0 _ (by omega) ?_ ?_ ?_
 · simp -implicitDefEqProofs [h3]
   exact cv_id
 all_goals simp [exS, lsP, txt]
end
end Go.Proofs.YtcejichidnlicaaGreatDoor
namespace Go.Proofs.YtcejichidnlicaaGreatDoor
open Go.Ab
section
variable {H : List AO}
theorem fineL_mem : ∀ {l : List Ex}, fineL l = true -> ∀ e ∈ l, fineE e = true
 | x :: r, h, e, he => by
  rw [fineL, Bool.and_eq_true] at h
  rw [List.mem_cons] at he
  rcases he with rfl | he
  · exact h.1
  · exact fineL_mem h.2 e he
theorem sh_one {op n p : Int} {nm : List UInt8} {l : List Ex} (h1 : op = 1) (hf : fineE (.mk op n nm l p) = true) : Ok Tryz.prog 33 [(Ex.mk op n nm l p).v] H (.ret (st (B (txt (shP (.mk op n nm l p)))))) H := by
 obtain ⟨k1, k2, k3, k4, k5, k6, k7⟩ := fineE_iff.1 hf
 subst h1
 have e1 : txt (shP (.mk 1 n nm l p)) = decN n.toNat := by simp [shP, shK, txt, TK.tx]
 have hn : ((n.toNat : Nat) : Int) = n := by omega
 have h45 := fun H => ok72 (H := H) (n := n.toNat) (by omega)
 rw [hn] at h45
 rw [e1]
 refine ok_fn hm Tryz.func33 c33 (by simp) fun hcl => ?_
 simp -implicitDefEqProofs [i33, r33, Ex.v, Ex.c]
 refine call_go (h45 _) ?_
 simp -implicitDefEqProofs
 exact cv_fz 3 hcl rfl rfl
theorem sh_two {op n p : Int} {nm : List UInt8} {l : List Ex} (h1 : op = 2) : Ok Tryz.prog 33 [(Ex.mk op n nm l p).v] H (.ret (st (B (txt (shP (.mk op n nm l p)))))) H := by
 subst h1
 have e1 : txt (shP (.mk 2 n nm l p)) = nm := by simp [shP, shK, txt, TK.tx]
 rw [e1]
 refine ok_fn hm Tryz.func33 c33 (by simp) fun hcl => ?_
 simp -implicitDefEqProofs [i33, r33, Ex.v, Ex.c]
 exact cv_fz 3 hcl rfl rfl
theorem sh_un {op n p : Int} {nm : List UInt8} {a : Ex} (h1 : op = 3 ∨ op = 4) (ha : Sh77 a) (fa : fineE a = true) (hb : (txt (shP (.mk op n nm [a] p))).length ≤ 4611686018427387904) : Ok Tryz.prog 33 [(Ex.mk op n nm [a] p).v] H (.ret (st (B (txt (shP (.mk op n nm [a] p)))))) H := by
 have h97 := fun h H => ok73 (H := H) ha fa h
 rcases h1 with rfl | rfl
 · have e1 : txt (shP (.mk 3 n nm [a] p)) = [45, 32] ++ txt (opP (a.op, shP a)) := by simp [shP, shK, shL, ndP, txt, TK.tx]
   rw [e1] at hb ⊢
   simp only [List.length_append, List.length_cons, List.length_nil] at hb
   have h97 := h97 (by omega)
   generalize txt (opP (a.op, shP a)) = t at h97 hb ⊢
   obtain ⟨o, x, y, z, w⟩ := a
   simp only [Ex.v, Ex.c] at h97
   refine ok_fn hm Tryz.func33 c33 (by simp) fun hcl => ?_
   simp -implicitDefEqProofs [i33, r33, Ex.v, Ex.c, Ex.cL]
   refine call_go (h97 _) ?_
   simp -implicitDefEqProofs [B_cat, B_size]
   refine ⟨by omega, ?_⟩
   exact cv_fz 3 hcl rfl rfl
 · have e1 : txt (shP (.mk 4 n nm [a] p)) = [110, 111, 116, 32] ++ txt (opP (a.op, shP a)) := by simp [shP, shK, shL, ndP, txt, TK.tx]
   rw [e1] at hb ⊢
   simp only [List.length_append, List.length_cons, List.length_nil] at hb
   have h97 := h97 (by omega)
   generalize txt (opP (a.op, shP a)) = t at h97 hb ⊢
   obtain ⟨o, x, y, z, w⟩ := a
   simp only [Ex.v, Ex.c] at h97
   refine ok_fn hm Tryz.func33 c33 (by simp) fun hcl => ?_
   simp -implicitDefEqProofs [i33, r33, Ex.v, Ex.c, Ex.cL]
   refine call_go (h97 _) ?_
   simp -implicitDefEqProofs [B_cat, B_size]
   refine ⟨by omega, ?_⟩
   exact cv_fz 3 hcl rfl rfl
theorem sh_call {op n p : Int} {nm : List UInt8} {l : List Ex} (h1 : op = 18 ∨ op = 19 ∨ op = 20) (hl : l.length < 4611686018427387904) (hIH : ∀ e ∈ l, Sh77 e) (hf : ∀ e ∈ l, fineE e = true) (hb : (txt (shP (.mk op n nm l p))).length ≤ 4611686018427387904) : Ok Tryz.prog 33 [(Ex.mk op n nm l p).v] H (.ret (st (B (txt (shP (.mk op n nm l p)))))) H := by
 have h79 := fun h H => ok74 (H := H) hl hIH hf h
 have e1 : txt (shP (.mk op n nm l p)) = wrdT op ++ [40] ++ txt (lsP (shL l)) ++ [41] := by
  rcases h1 with rfl | rfl | rfl <;> simp [shP, shK, txt, txt_app, TK.tx]
 rw [e1] at hb ⊢
 simp only [List.length_append, List.length_cons, List.length_nil] at hb
 have h79 := h79 (by omega)
 generalize txt (lsP (shL l)) = t at h79 hb ⊢
 simp only [exS] at h79
 have w0 : IntKind.i64.wrap 0 = 0 := by decide
 have w1 : IntKind.i64.wrap 1 = 1 := by decide
 have w2 : IntKind.i64.wrap 2 = 2 := by decide
 rcases h1 with rfl | rfl | rfl
 · refine ok_fn hm Tryz.func33 c33 (by simp) fun hcl => ?_
   simp -implicitDefEqProofs [i33, r33, Ex.v, Ex.c, w0]
   refine callq_go (fun _ => h79 _) ?_
   simp -implicitDefEqProofs [w0, B_cat, B_size]
   refine ⟨okC_go (h79 _), by omega, by omega, ?_⟩
   refine cv_fz 3 hcl rfl ?_
   simp [wrdT]
 · refine ok_fn hm Tryz.func33 c33 (by simp) fun hcl => ?_
   simp -implicitDefEqProofs [i33, r33, Ex.v, Ex.c, w1]
   refine callq_go (fun _ => h79 _) ?_
   simp -implicitDefEqProofs [w1, B_cat, B_size]
   refine ⟨okC_go (h79 _), by omega, by omega, ?_⟩
   refine cv_fz 3 hcl rfl ?_
   simp [wrdT]
 · refine ok_fn hm Tryz.func33 c33 (by simp) fun hcl => ?_
   simp -implicitDefEqProofs [i33, r33, Ex.v, Ex.c, w2]
   refine callq_go (fun _ => h79 _) ?_
   simp -implicitDefEqProofs [w2, B_cat, B_size]
   refine ⟨okC_go (h79 _), by omega, by omega, ?_⟩
   refine cv_fz 3 hcl rfl ?_
   simp [wrdT]
theorem binT_tx {op : Int} : (binT op).tx = binS.getD (op - 5).toNat [] := by
 unfold binT; split <;> rfl
theorem sh_bin {op n p : Int} {nm : List UInt8} {a b : Ex} (h5 : 5 ≤ op) (h17 : op ≤ 17) (ha : Sh77 a) (hbb : Sh77 b) (fa : fineE a = true) (fb : fineE b = true) (hb : (txt (shP (.mk op n nm [a, b] p))).length ≤ 4611686018427387904) : Ok Tryz.prog 33 [(Ex.mk op n nm [a, b] p).v] H (.ret (st (B (txt (shP (.mk op n nm [a, b] p)))))) H := by
 have ha97 := fun h H => ok73 (H := H) ha fa h
 have hb97 := fun h H => ok73 (H := H) hbb fb h
 have e1 : txt (shP (.mk op n nm [a, b] p)) = txt (opP (a.op, shP a)) ++ [32] ++ binS.getD (op - 5).toNat [] ++ [32] ++ txt (opP (b.op, shP b)) := by
  rw [← binT_tx]
  simp [shP, shK, shL, ndP, txt, txt_app, show ¬ op = 1 by omega, show ¬ op = 2 by omega, show ¬ op = 3 by omega, show ¬ op = 4 by omega, show ¬ 18 ≤ op by omega]
 rw [e1] at hb ⊢
 simp only [List.length_append, List.length_cons, List.length_nil] at hb
 have ha97 := ha97 (by omega)
 have hb97 := hb97 (by omega)
 generalize txt (opP (a.op, shP a)) = t at ha97 hb ⊢
 generalize txt (opP (b.op, shP b)) = u at hb97 hb ⊢
 obtain ⟨o, x, y, z, w⟩ := a
 obtain ⟨o', x', y', z', w'⟩ := b
 simp only [Ex.v, Ex.c] at ha97 hb97
 have hc : op = 5 ∨ op = 6 ∨ op = 7 ∨ op = 8 ∨ op = 9 ∨ op = 10 ∨ op = 11 ∨ op = 12 ∨ op = 13 ∨ op = 14 ∨ op = 15 ∨ op = 16 ∨ op = 17 := by omega
 rcases hc with rfl | rfl | rfl | rfl | rfl | rfl | rfl | rfl | rfl | rfl | rfl | rfl | rfl
 · have e2 : binS.getD (5 - 5 : Int).toNat [] = [42] := rfl
   rw [e2] at hb ⊢
   simp only [List.length_cons, List.length_nil] at hb
   have w0 : IntKind.i64.wrap 0 = 0 := by decide
   refine ok_fn hm Tryz.func33 c33 (by simp) fun hcl => ?_
   simp -implicitDefEqProofs [i33, r33, Ex.v, Ex.c, Ex.cL, w0]
   refine callq_go (fun _ => ha97 _) ?_
   simp -implicitDefEqProofs [B_cat, B_size]
   refine ⟨by omega, by omega, by omega, callq_go (fun _ => hb97 _) ?_⟩
   simp -implicitDefEqProofs [B_cat, B_size]
   refine ⟨by omega, ?_⟩
   refine cv_fz 3 hcl rfl ?_
   simp
 · have e2 : binS.getD (6 - 5 : Int).toNat [] = [47] := rfl
   rw [e2] at hb ⊢
   simp only [List.length_cons, List.length_nil] at hb
   have w0 : IntKind.i64.wrap 1 = 1 := by decide
   refine ok_fn hm Tryz.func33 c33 (by simp) fun hcl => ?_
   simp -implicitDefEqProofs [i33, r33, Ex.v, Ex.c, Ex.cL, w0]
   refine callq_go (fun _ => ha97 _) ?_
   simp -implicitDefEqProofs [B_cat, B_size]
   refine ⟨by omega, by omega, by omega, callq_go (fun _ => hb97 _) ?_⟩
   simp -implicitDefEqProofs [B_cat, B_size]
   refine ⟨by omega, ?_⟩
   refine cv_fz 3 hcl rfl ?_
   simp
 · have e2 : binS.getD (7 - 5 : Int).toNat [] = [37] := rfl
   rw [e2] at hb ⊢
   simp only [List.length_cons, List.length_nil] at hb
   have w0 : IntKind.i64.wrap 2 = 2 := by decide
   refine ok_fn hm Tryz.func33 c33 (by simp) fun hcl => ?_
   simp -implicitDefEqProofs [i33, r33, Ex.v, Ex.c, Ex.cL, w0]
   refine callq_go (fun _ => ha97 _) ?_
   simp -implicitDefEqProofs [B_cat, B_size]
   refine ⟨by omega, by omega, by omega, callq_go (fun _ => hb97 _) ?_⟩
   simp -implicitDefEqProofs [B_cat, B_size]
   refine ⟨by omega, ?_⟩
   refine cv_fz 3 hcl rfl ?_
   simp
 · have e2 : binS.getD (8 - 5 : Int).toNat [] = [43] := rfl
   rw [e2] at hb ⊢
   simp only [List.length_cons, List.length_nil] at hb
   have w0 : IntKind.i64.wrap 3 = 3 := by decide
   refine ok_fn hm Tryz.func33 c33 (by simp) fun hcl => ?_
   simp -implicitDefEqProofs [i33, r33, Ex.v, Ex.c, Ex.cL, w0]
   refine callq_go (fun _ => ha97 _) ?_
   simp -implicitDefEqProofs [B_cat, B_size]
   refine ⟨by omega, by omega, by omega, callq_go (fun _ => hb97 _) ?_⟩
   simp -implicitDefEqProofs [B_cat, B_size]
   refine ⟨by omega, ?_⟩
   refine cv_fz 3 hcl rfl ?_
   simp
 · have e2 : binS.getD (9 - 5 : Int).toNat [] = [45] := rfl
   rw [e2] at hb ⊢
   simp only [List.length_cons, List.length_nil] at hb
   have w0 : IntKind.i64.wrap 4 = 4 := by decide
   refine ok_fn hm Tryz.func33 c33 (by simp) fun hcl => ?_
   simp -implicitDefEqProofs [i33, r33, Ex.v, Ex.c, Ex.cL, w0]
   refine callq_go (fun _ => ha97 _) ?_
   simp -implicitDefEqProofs [B_cat, B_size]
   refine ⟨by omega, by omega, by omega, callq_go (fun _ => hb97 _) ?_⟩
   simp -implicitDefEqProofs [B_cat, B_size]
   refine ⟨by omega, ?_⟩
   refine cv_fz 3 hcl rfl ?_
   simp
 · have e2 : binS.getD (10 - 5 : Int).toNat [] = [61, 61] := rfl
   rw [e2] at hb ⊢
   simp only [List.length_cons, List.length_nil] at hb
   have w0 : IntKind.i64.wrap 5 = 5 := by decide
   refine ok_fn hm Tryz.func33 c33 (by simp) fun hcl => ?_
   simp -implicitDefEqProofs [i33, r33, Ex.v, Ex.c, Ex.cL, w0]
   refine callq_go (fun _ => ha97 _) ?_
   simp -implicitDefEqProofs [B_cat, B_size]
   refine ⟨by omega, by omega, by omega, callq_go (fun _ => hb97 _) ?_⟩
   simp -implicitDefEqProofs [B_cat, B_size]
   refine ⟨by omega, ?_⟩
   refine cv_fz 3 hcl rfl ?_
   simp
 · have e2 : binS.getD (11 - 5 : Int).toNat [] = [33, 61] := rfl
   rw [e2] at hb ⊢
   simp only [List.length_cons, List.length_nil] at hb
   have w0 : IntKind.i64.wrap 6 = 6 := by decide
   refine ok_fn hm Tryz.func33 c33 (by simp) fun hcl => ?_
   simp -implicitDefEqProofs [i33, r33, Ex.v, Ex.c, Ex.cL, w0]
   refine callq_go (fun _ => ha97 _) ?_
   simp -implicitDefEqProofs [B_cat, B_size]
   refine ⟨by omega, by omega, by omega, callq_go (fun _ => hb97 _) ?_⟩
   simp -implicitDefEqProofs [B_cat, B_size]
   refine ⟨by omega, ?_⟩
   refine cv_fz 3 hcl rfl ?_
   simp
 · have e2 : binS.getD (12 - 5 : Int).toNat [] = [60] := rfl
   rw [e2] at hb ⊢
   simp only [List.length_cons, List.length_nil] at hb
   have w0 : IntKind.i64.wrap 7 = 7 := by decide
   refine ok_fn hm Tryz.func33 c33 (by simp) fun hcl => ?_
   simp -implicitDefEqProofs [i33, r33, Ex.v, Ex.c, Ex.cL, w0]
   refine callq_go (fun _ => ha97 _) ?_
   simp -implicitDefEqProofs [B_cat, B_size]
   refine ⟨by omega, by omega, by omega, callq_go (fun _ => hb97 _) ?_⟩
   simp -implicitDefEqProofs [B_cat, B_size]
   refine ⟨by omega, ?_⟩
   refine cv_fz 3 hcl rfl ?_
   simp
 · have e2 : binS.getD (13 - 5 : Int).toNat [] = [60, 61] := rfl
   rw [e2] at hb ⊢
   simp only [List.length_cons, List.length_nil] at hb
   have w0 : IntKind.i64.wrap 8 = 8 := by decide
   refine ok_fn hm Tryz.func33 c33 (by simp) fun hcl => ?_
   simp -implicitDefEqProofs [i33, r33, Ex.v, Ex.c, Ex.cL, w0]
   refine callq_go (fun _ => ha97 _) ?_
   simp -implicitDefEqProofs [B_cat, B_size]
   refine ⟨by omega, by omega, by omega, callq_go (fun _ => hb97 _) ?_⟩
   simp -implicitDefEqProofs [B_cat, B_size]
   refine ⟨by omega, ?_⟩
   refine cv_fz 3 hcl rfl ?_
   simp
 · have e2 : binS.getD (14 - 5 : Int).toNat [] = [62] := rfl
   rw [e2] at hb ⊢
   simp only [List.length_cons, List.length_nil] at hb
   have w0 : IntKind.i64.wrap 9 = 9 := by decide
   refine ok_fn hm Tryz.func33 c33 (by simp) fun hcl => ?_
   simp -implicitDefEqProofs [i33, r33, Ex.v, Ex.c, Ex.cL, w0]
   refine callq_go (fun _ => ha97 _) ?_
   simp -implicitDefEqProofs [B_cat, B_size]
   refine ⟨by omega, by omega, by omega, callq_go (fun _ => hb97 _) ?_⟩
   simp -implicitDefEqProofs [B_cat, B_size]
   refine ⟨by omega, ?_⟩
   refine cv_fz 3 hcl rfl ?_
   simp
 · have e2 : binS.getD (15 - 5 : Int).toNat [] = [62, 61] := rfl
   rw [e2] at hb ⊢
   simp only [List.length_cons, List.length_nil] at hb
   have w0 : IntKind.i64.wrap 10 = 10 := by decide
   refine ok_fn hm Tryz.func33 c33 (by simp) fun hcl => ?_
   simp -implicitDefEqProofs [i33, r33, Ex.v, Ex.c, Ex.cL, w0]
   refine callq_go (fun _ => ha97 _) ?_
   simp -implicitDefEqProofs [B_cat, B_size]
   refine ⟨by omega, by omega, by omega, callq_go (fun _ => hb97 _) ?_⟩
   simp -implicitDefEqProofs [B_cat, B_size]
   refine ⟨by omega, ?_⟩
   refine cv_fz 3 hcl rfl ?_
   simp
 · have e2 : binS.getD (16 - 5 : Int).toNat [] = [97, 110, 100] := rfl
   rw [e2] at hb ⊢
   simp only [List.length_cons, List.length_nil] at hb
   have w0 : IntKind.i64.wrap 11 = 11 := by decide
   refine ok_fn hm Tryz.func33 c33 (by simp) fun hcl => ?_
   simp -implicitDefEqProofs [i33, r33, Ex.v, Ex.c, Ex.cL, w0]
   refine callq_go (fun _ => ha97 _) ?_
   simp -implicitDefEqProofs [B_cat, B_size]
   refine ⟨by omega, by omega, by omega, callq_go (fun _ => hb97 _) ?_⟩
   simp -implicitDefEqProofs [B_cat, B_size]
   refine ⟨by omega, ?_⟩
   refine cv_fz 3 hcl rfl ?_
   simp
 · have e2 : binS.getD (17 - 5 : Int).toNat [] = [111, 114] := rfl
   rw [e2] at hb ⊢
   simp only [List.length_cons, List.length_nil] at hb
   have w0 : IntKind.i64.wrap 12 = 12 := by decide
   refine ok_fn hm Tryz.func33 c33 (by simp) fun hcl => ?_
   simp -implicitDefEqProofs [i33, r33, Ex.v, Ex.c, Ex.cL, w0]
   refine callq_go (fun _ => ha97 _) ?_
   simp -implicitDefEqProofs [B_cat, B_size]
   refine ⟨by omega, by omega, by omega, callq_go (fun _ => hb97 _) ?_⟩
   simp -implicitDefEqProofs [B_cat, B_size]
   refine ⟨by omega, ?_⟩
   refine cv_fz 3 hcl rfl ?_
   simp
end
theorem sh_step {op n p : Int} {nm : List UInt8} {l : List Ex} (hIH : ∀ e ∈ l, Sh77 e) : Sh77 (.mk op n nm l p) := by
 intro hf hb H
 obtain ⟨h1, h2, h3, h4, h5, h6, h7⟩ := fineE_iff.1 hf
 have hr := opN_cases h1
 have hfl := fineL_mem h7
 by_cases e1 : op = 1
 · exact sh_one e1 hf
 by_cases e2 : op = 2
 · exact sh_two e2
 by_cases e3 : op = 3 ∨ op = 4
 · obtain ⟨a, rfl⟩ : ∃ a, l = [a] := by
    have hl : (l.length : Int) = 1 := by rw [h1]; rcases e3 with rfl | rfl <;> rfl
    match l, hl with
    | [a], _ => exact ⟨a, rfl⟩
    | [], h => simp at h
    | a :: b :: r, h => simp at h; omega
   exact sh_un e3 (hIH a (by simp)) (hfl a (by simp)) hb
 by_cases e18 : 18 ≤ op
 · have hop : op = 18 ∨ op = 19 ∨ op = 20 := by omega
   have hl : l.length < 4611686018427387904 := by
    have : opN op ≤ 3 := by unfold opN; split <;> (try split) <;> (try split) <;> (try split) <;> omega
    omega
   exact sh_call hop hl hIH hfl hb
 · obtain ⟨a, b, rfl⟩ : ∃ a b, l = [a, b] := by
    have hl2 : (l.length : Int) = 2 := by
     rw [h1]; unfold opN
     rw [if_neg (by omega), if_neg (by omega), if_neg (by omega), if_pos (by omega)]
    match l, hl2 with
    | [a, b], _ => exact ⟨a, b, rfl⟩
    | [], h => simp at h
    | [a], h => simp at h
    | a :: b :: e :: r, h => simp at h; omega
   exact sh_bin (by omega) (by omega) (hIH a (by simp)) (hIH b (by simp)) (hfl a (by simp)) (hfl b (by simp)) hb
mutual
theorem ok33 : ∀ e : Ex, Sh77 e
 | .mk op n nm l p => sh_step (ok77L l)
theorem ok77L : ∀ l : List Ex, ∀ e ∈ l, Sh77 e
 | [], e, he => by simp at he
 | x :: r, e, he => by
  by_cases hx : e = x
  · rw [hx]; exact ok33 x
  · exact ok77L r e (by simpa [hx] using he)
end
end Go.Proofs.YtcejichidnlicaaGreatDoor
namespace Go.Proofs.YtcejichidnlicaaGreatDoor
open Go.Ab
def xS : List (List UInt8) := [[120]]
mutual
def nmb : Ex -> Bool
 | .mk _ _ nm l _ => decide (nm.length < 4611686018427387904) && nmbL l
def nmbL : List Ex -> Bool
 | [] => true
 | e :: r => nmb e && nmbL r
end
mutual
theorem nmb_ok : ∀ e : Ex, nmb e = true -> e.nmB
 | .mk _ _ nm l _, h => by
  rw [nmb, Bool.and_eq_true, decide_eq_true_eq] at h
  exact ⟨h.1, nmbL_ok l h.2⟩
theorem nmbL_ok : ∀ l : List Ex, nmbL l = true -> Ex.nmBL l
 | [], _ => trivial
 | e :: r, h => by
  rw [nmbL, Bool.and_eq_true] at h
  exact ⟨nmb_ok e h.1, nmbL_ok r h.2⟩
end
section
variable {H : List AO}
theorem ok17 {e : Ex} {s : List UInt8} (hn : e.nmB) (hf : fineE e = true) (hs : txt (shP e) = s) (hl : s.length ≤ 20000) (hr : (exprR s).2.1 = 0) : Ok Tryz.prog 17 [e.v] H (.ret (.tup [st (B s), i64 0])) H := by
 have h32 := fun H => ok32 e hn H
 rw [hf] at h32
 have h33 := fun H => ok33 e hf (by rw [hs]; omega) H
 rw [hs] at h33
 have h31 := fun H => ok31 (H := H) (l := s) (by omega)
 have hu : ∀ n, e.v.under n = true := fun n => Ex.und_v n _
 have hcE : ∃ c, e.v = .agg c ∧ c.length = 5 ∧ cellsOk c := ⟨e.c, rfl, by simp, by
  intro x hx
  obtain ⟨op, n, nm, l, p⟩ := e
  simp only [Ex.c, List.mem_cons, List.not_mem_nil, or_false] at hx
  rcases hx with rfl | rfl | rfl | rfl | rfl <;> rfl⟩
 generalize exprR s = q at h31 hr
 obtain ⟨⟨op, n, nm, es, p⟩, er, at_⟩ := q
 simp only [Ex.v, Ex.c] at h31
 simp only at hr
 subst hr
 refine ok_fn hm Tryz.func17 c17 (by simp [hu]) fun hcl => ?_
 obtain ⟨c, hc, hc5, hcc⟩ := hcE
 rw [hc] at h32 h33 ⊢
 have ht : List.take 5 c = c := List.take_of_length_le (by omega)
 have hll : (s.length : Int) ≤ 20000 := by omega
 have hll' : ¬ (20000 : Int) < s.length := by omega
 simp -implicitDefEqProofs [i17, r17, hcc, hc5, ht]
 refine call_go (h32 _) ?_
 simp -implicitDefEqProofs [hcc, hc5, ht]
 refine call_go (h33 _) ?_
 simp -implicitDefEqProofs [hll, hll', B]
 refine call_go (h31 _) ?_
 simp -implicitDefEqProofs [fltV, B]
 exact cv_fz 3 hcl rfl (by simp)
theorem newM0 : Ok Tryz.prog 25 [.val (.slice none 0 0), .val (.slice none 0 0)] H (.ret (macV [] [])) H :=
 Ok.le (leL.cons le_nil (leL.cons le_nil leL.nil)) (ok25 [] [])
theorem ok37x {x : SV} {vars : List (List UInt8)} {e : Ex} (hx : IsS H x vars) (hvl : vars.length < 4611686018427387904) (hh : e.hgt ≤ 100000) (ht : (tyE vars e).2.1 = 0) (hw : wdE e = true) : Ok Tryz.prog 37 [x, e.v] H (.ret (.tup [(foldE e).e.v, fltV 0 0])) H := by
 have h77 := fun L => ok77x (H := H ++ L) (hx.app L) hh hvl
 have h78 := fun H => ok78 (H := H) (ns := []) (vs := []) e 0 hw (by omega)
 have hty := tyE_ok vars e ht
 rw [ht, hty] at h77
 refine ok_fn hm Tryz.func37 c37 (by simp [Ex.und_v, hx.und]) fun hcl => ?_
 obtain ⟨op, n, nm, l, p⟩ := e
 simp only [Ex.v, Ex.c] at h77 h78
 simp -implicitDefEqProofs [i37, r37, Ex.v, Ex.c]
 refine call_go (h77 _) ?_
 simp -implicitDefEqProofs [fltV]
 refine callq_go (fun _ => newM0) ?_
 generalize foldE (.mk op n nm l p) = f at h78 ⊢
 have hc5 := Fo.c_5 f
 have hc9 := Fo.c_len f
 have he5 := Ex.c_len f.e
 have hcc : cellsOk f.e.c := by
  obtain ⟨⟨op, n, nm, l, p⟩, _, _, _⟩ := f
  intro x hx
  simp only [Ex.c, List.mem_cons, List.not_mem_nil, or_false] at hx
  rcases hx with rfl | rfl | rfl | rfl | rfl <;> rfl
 simp -implicitDefEqProofs
 refine call_go (h78 _) ?_
 simp -implicitDefEqProofs [hc5, hc9, he5, hcc]
 exact ⟨⟨rfl, newM0⟩, cv_fz 3 hcl rfl (fz_under (by simp [SV.under, Ex.und]))⟩
def foldK (l w : List UInt8) : Bool :=
 let e := (exprR l).1
 let f := (foldE e).e
 decide (l.length < 4611686018427387904) && (decide (e.hgt ≤ 100000) && (decide ((tyE xS e).2.1 = 0) && (wdE e && (nmb f && (fineE f && (decide (txt (shP f) = w) && (decide (w.length ≤ 20000) && decide ((exprR w).2.1 = 0))))))))
theorem ok21 {l w : List UInt8} (hk : foldK l w = true) : Ok Tryz.prog 21 [st (B l), st (B w)] H (.ret (bl true)) H := by
 simp only [foldK, Bool.and_eq_true, decide_eq_true_eq] at hk
 obtain ⟨k1, k2, k3, k4, k5, k6, k7, k8, k9⟩ := hk
 have h16 := fun H => ok16 (H := H) k1
 have h37 := fun H x (hx : IsS H x xS) => ok37x hx (by decide) k2 k3 k4
 have h17 := fun H => ok17 (H := H) (nmb_ok _ k5) k6 k7 k8 k9
 generalize (foldE (exprR l).1).e = f at h37 h17
 have hu : ∀ n, (exprR l).1.v.under n = true := fun n => Ex.und_v n _
 generalize (exprR l).1.v = x at h16 h37 hu
 refine ok_fn hm Tryz.func21 c21 (by simp) fun hcl => ?_
 obtain ⟨op, n, nm, es, p⟩ := f
 simp only [Ex.v, Ex.c] at h17 h37
 simp -implicitDefEqProofs [i21, r21]
 refine call_go (h16 _) ?_
 simp -implicitDefEqProofs
 refine call_go (h37 _ _ (IsS.own1 (T := 9) (k := 0) rfl rfl)) ?_
 simp -implicitDefEqProofs [fltV]
 refine call_go (h17 _) ?_
 simp -implicitDefEqProofs
 exact cv_fz 4 hcl rfl (by simp)
end
end Go.Proofs.YtcejichidnlicaaGreatDoor
namespace Go.Proofs.YtcejichidnlicaaGreatDoor
open Go.Ab
mutual
theorem hgtE : ∀ (e : Ex) (m : Int), m ≤ 1000 -> sizE e m ≤ m -> (e.hgt : Int) ≤ m
 | .mk op n nm l p, m, h1, h2 => by
  unfold sizE at h2
  unfold Ex.hgt
  have := hgtLs l m 1 (by omega) h1 h2
  omega
theorem hgtLs : ∀ (l : List Ex) (m n : Int), 1 ≤ n -> m ≤ 1000 -> sizL l m n ≤ m -> (Ex.hgtL l : Int) + n ≤ m
 | [], m, n, _, _, h => by
  unfold sizL at h; unfold Ex.hgtL; simpa using h
 | e :: r, m, n, h0, h1, h => by
  unfold sizL at h
  by_cases hn : n ≤ m
  · rw [if_pos hn] at h
    have b1 := sizE_bd e (m - n)
    have b2 := sizL_bd r m (n + sizE e (m - n))
    have a2 := hgtE e (m - n) (by omega) (by omega)
    have c3 := hgtLs r m (n + sizE e (m - n)) (by omega) h1 h
    unfold Ex.hgtL
    omega
  · rw [if_neg hn] at h; omega
end
def vIs (r : Vr) (k n : Int) : Bool := match r with
 | .ok v => decide (v.1 = k) && decide (v.2 = n)
 | .error _ => false
theorem vIs_eq {r : Vr} {k n : Int} (h : vIs r k n = true) : r = .ok (k, n) := by
 unfold vIs at h
 split at h
 · simp only [Bool.and_eq_true, decide_eq_true_eq] at h
   obtain ⟨rfl, rfl⟩ := h
   rfl
 · cases h
theorem gv_ok {H : List AO} (l : List UInt8) (k n : Int) (h : decide (l.length < 4611686018427387904) && (decide ((exprR l).1.hgt ≤ 100000) && vIs (evalF xyN xyV (exprR l).1) k n) = true) : Ok Tryz.prog 15 [st (B l), i64 k, i64 n, i64 0] H (.ret (bl true)) H := by
 simp only [Bool.and_eq_true, decide_eq_true_eq] at h
 exact ok15v h.1 (by simpa using h.2.1) (vIs_eq h.2.2)
section
variable {H : List AO}
theorem aw1 : Ok Tryz.prog 15 [st ⟨#[121, 32, 47, 32, 52]⟩, i64 1, i64 (-1), i64 0] H (.ret (bl true)) H := gv_ok [121, 32, 47, 32, 52] 1 (-1) (by kernel_rfl)
theorem aw2 : Ok Tryz.prog 15 [st ⟨#[120, 32, 60, 32, 121, 32, 111, 114, 32, 120, 32, 61, 61, 32, 53]⟩, i64 2, i64 1, i64 0] H (.ret (bl true)) H := gv_ok [120, 32, 60, 32, 121, 32, 111, 114, 32, 120, 32, 61, 61, 32, 53] 2 1 (by kernel_rfl)
theorem aw3 : Ok Tryz.prog 21 [st ⟨#[50, 32, 42, 32, 51, 32, 43, 32, 120]⟩, st ⟨#[54, 32, 43, 32, 120]⟩] H (.ret (bl true)) H := ok21 (l := [50, 32, 42, 32, 51, 32, 43, 32, 120]) (w := [54, 32, 43, 32, 120]) (by kernel_rfl)
theorem ok8 : Ok Tryz.prog 8 [] H (.ret (bl true)) H := by
 refine ok_fn hm Tryz.func8 c8 (by simp) fun hcl => ?_
 simp -implicitDefEqProofs [i8, r8]
 refine call_go aw1 ?_
 simp -implicitDefEqProofs
 refine callq_go (fun _ => aw2) ?_
 simp -implicitDefEqProofs
 refine callq_go (fun _ => aw3) ?_
 simp -implicitDefEqProofs
 exact cv_id
theorem ok3 {e : Ex} {ns : List (List UInt8)} {vs : List Int} (he : e.lim) (hn : ns.length < 4611686018427387904) (hv : vs.length < 4611686018427387904) : Ok Tryz.prog 3 [e.v, .slc (wds ns) ns.length, .slc (ints vs) vs.length] H (.ret (bl true)) H := by
 have h7 := fun H => ok7 e he H 120 (by decide) (by decide)
 have hh := hgtE e 120 (by decide)
 generalize sizE e 120 = z at h7 hh
 refine ok_fn hm Tryz.func3 c3 (by simp [Ex.und_v, SV.under, SV.underL_iff, wds, ints]) fun hcl => ?_
 by_cases hz : 120 < z
 · obtain ⟨op, n, nm, l, p⟩ := e
   simp only [Ex.v, Ex.c] at h7
   simp -implicitDefEqProofs [i3, r3, Ex.v, Ex.c]
   refine call_go (h7 _) ?_
   simp -implicitDefEqProofs [hz]
   refine call_go ok8 ?_
   simp -implicitDefEqProofs
   exact cv_fz 2 hcl rfl rfl
 have hhe : e.hgt ≤ 100000 := by have := hh (by omega); omega
 have h9 := fun H => ok9 (H := H) (ns := ns) (vs := vs) hhe hn
 have h10 := fun H => ok10 (H := H) (ns := ns) (vs := vs) (e := e) hn
 have h11 := fun H => ok11 (H := H) (ns := ns) (vs := vs) hhe hn
 have h12 := fun H => ok12 (H := H) (ns := ns) (vs := vs) (e := e) hn
 have h13 := fun H => ok13 (H := H) (ns := ns) (vs := vs) hhe hn
 have h14 := fun H => ok14 (H := H) (ns := ns) (vs := vs) (e := e) hn
 obtain ⟨k, n, w, hr⟩ : ∃ k n w, retV (evalF ns vs e) = .ret (.tup [.agg [i64 k, i64 n], i64 w]) := by
  cases evalF ns vs e with
  | ok v => exact ⟨v.1, v.2, 0, rfl⟩
  | error x => exact ⟨0, 0, x, rfl⟩
 rw [hr] at h9 h10
 generalize asF 1 (evalF ns vs e) = a1 at h11 h12
 generalize asF 2 (evalF ns vs e) = a2 at h13 h14
 obtain ⟨op, m, nm, l, p⟩ := e
 simp only [Ex.v, Ex.c] at h7 h9 h10 h11 h12 h13 h14
 by_cases hn20 : (20 : Int) < ns.length
 · simp -implicitDefEqProofs [i3, r3, Ex.v, Ex.c]
   refine call_go (h7 _) ?_
   simp -implicitDefEqProofs [hz, hn20]
   refine call_go ok8 ?_
   simp -implicitDefEqProofs
   exact cv_fz 2 hcl rfl rfl
 by_cases hv20 : (20 : Int) < vs.length
 · simp -implicitDefEqProofs [i3, r3, Ex.v, Ex.c]
   refine call_go (h7 _) ?_
   simp -implicitDefEqProofs [hz, hn20, hv20]
   refine call_go ok8 ?_
   simp -implicitDefEqProofs
   exact cv_fz 2 hcl rfl rfl
 simp -implicitDefEqProofs [i3, r3, Ex.v, Ex.c]
 refine call_go (h7 _) ?_
 simp -implicitDefEqProofs [hz, hn20, hv20]
 refine call_go (h9 _) ?_
 simp -implicitDefEqProofs
 refine call_go (h10 _) ?_
 simp -implicitDefEqProofs
 refine call_go (h11 _) ?_
 simp -implicitDefEqProofs
 refine call_go (h12 _) ?_
 simp -implicitDefEqProofs
 refine call_go (h13 _) ?_
 simp -implicitDefEqProofs
 refine call_go (h14 _) ?_
 simp -implicitDefEqProofs
 refine callq_go (fun _ => ok8) ?_
 simp -implicitDefEqProofs
 exact cv_fz 2 hcl rfl rfl
end
end Go.Proofs.YtcejichidnlicaaGreatDoor
namespace Go.Proofs.YtcejichidnlicaaGreatDoor
open Go.Ab Go.ChangeShapes Go.WideShapes Go.ChangeAt Go.RowKit
def laid3 : List (String × DataW Unit) := [("errors.errorType", Rows.laid_errors_errorType)]
theorem own : ownKnob Tryz.prog.godebug = none := by kernel_rfl
theorem laidOut : laidOutB Tryz.prog = true := by kernel_rfl
theorem gE : Tryz.prog.globalNamed "errors.errorType" = some 0 := by kernel_rfl
theorem rtE : (Tryz.prog.cutTypes.find? (·.1 == "internal/reflectlite.rtype")).map (·.2) = some 153 := by kernel_rfl
theorem size : Tryz.prog.types.size = 195 := by kernel_rfl
theorem oneRow : ((List.range 195).filter fun t => Tryz.prog.rowNamed t [101, 114, 114, 111, 114]) = [117] := by kernel_rfl
theorem door_met (os : Os) (args : Array Value) : laidMetH Tryz.prog laid3 ((World.doorLaid Tryz.prog 400 os).forCall (fun _ _ => 0) ⟨#[], args, []⟩).memory :=
 laidMetH_of_parts3 (fuel := 8) (laidMet_of_run' 8 (by kernel_rfl) (by kernel_rfl)) (by kernel_rfl) (by kernel_rfl)
theorem gl_of {W : World} (h : laidMetH Tryz.prog laid3 W) : (st0 W).GL := by
 have h' : laidMet Tryz.prog [] W ∧ handlesMet Tryz.prog [("errors.errorType", Rows.laid_errors_errorType)] W := h
 obtain ⟨_, hh⟩ := h'
 obtain ⟨name, u, ty, e1, e2, e3, e4, e5⟩ := hh _ (List.mem_singleton.2 rfl)
 have en : name = [101, 114, 114, 111, 114] := (Option.some.inj e1).symm
 subst en
 obtain rfl := Option.some.inj (rtE.symm.trans e2)
 have hm : ty ∈ (List.range 195).filter fun t => Tryz.prog.rowNamed t [101, 114, 114, 111, 114] := List.mem_filter.2 ⟨List.mem_range.2 (by rw [← size]; exact e3), e4⟩
 rw [oneRow] at hm
 obtain rfl := List.mem_singleton.1 hm
 have hh : typeHandle Tryz.prog 117 = .pointer (some ⟨1, 117, none⟩) := by kernel_rfl
 rw [hh] at e5
 have key : ∀ (g : Nat) (nm : String) (cs : Array Value) (us : List Value), Tryz.prog.globalNamed nm = some g -> W.var? Tryz.prog nm = some cs -> cs.toList = us -> (st0 W).Imm ⟨g, 0, none⟩ us := by
  intro g nm cs us h1 h2 h3
  refine ⟨fun j u hj => ?_, fun _ => rw0 W _⟩
  have := World.var?_cell h1 h2 j
  have e : ((⟨g, 0, none⟩ : Addr).add j) = ⟨g, j, none⟩ := by unfold Addr.add; split <;> simp_all
  rw [e]
  show W.cell? _ = _
  rw [this, <- Array.getElem?_toList, h3]; exact hj
 intro g us hg
 match g, hg with
 | 0, hg => cases hg; exact key 0 _ _ _ gE e5 rfl
end Go.Proofs.YtcejichidnlicaaGreatDoor
namespace Go.Proofs.YtcejichidnlicaaGreatDoor
open Go Go.Ab Go.ChangeShapes Go.WideShapes Go.ChangeAt Go.RowKit
theorem leaves_of_alone {P : Program} {last : Machine} {w : World} {t : Trace} (h : aloneAtReturn P last w t) : leavingAtReturn P last w t := by
 obtain ⟨⟨h1, h2⟩, h3, h4⟩ := h
 refine ⟨h3, ⟨fun g hg => ⟨0, ?_⟩, h2⟩, h4⟩
 unfold Machine.othersDone at h1
 have h5 := List.all_eq_true.1 h1 g hg
 show g.status = .finished
 exact beq_iff_eq.1 h5
theorem leaving_of_handed {a : Assume} {C : Checked} {os : Os} {f : FuncId} {r : Reach} {Pre : World -> Array Value -> Prop} {Post : World -> Array Value -> Value -> World -> Prop}
 (h : ReturnsInHanded a C os f r Pre Post) : ReturnsInLeavingWide a C os f r Pre Post := fun e =>
 ReturnsInOpen.mono (fun _ _ _ x => leaves_of_alone x) (fun _ x => x) (h e)
theorem tied_goes (Lk : Looks) {p : Pinned} {s : OpenSpec} {c : OpenClaim} (kinds : List LaidKind) (tests : Bool) (har : Bool × String) (lk : Bool)
 (hc : c.holds p s) (hw : c.wfByText s = true)
 (htie : c.laidByTextAt Lk p kinds tests)
 (hst : c.start = .entering) (hnb : c.noBlocks = false ∧ c.again = false) (hm : p.checked.prog.mainIs = some (har.1, har.2.toList)) (hn : (!har.1 && har.2.isEmpty && !lk) = false)
 (hl : ∀ f fn, p.checked.prog.funcNamed c.func = some f -> p.checked.prog.funcs[f]? = some fn -> lk = p.checked.prog.looks [] ∧ ∀ (j : Nat) t, fn.params[j]? = some t -> p.checked.prog.wantsStandIn t = false)
 (hg : true = c.goesBy p.checked.prog) :
 Claim7.holds p (.plain s) { stood := { row := c, standIns := [], harness := har, looks := lk }, kinds := [], alts := [], goes := true, laidByText := true, laidKinds := kinds, laidTests := tests, laidLooks := Lk } := by
 have h6 : ∀ r : OpenClaim, Claim7.isSixth { stood := { row := r, standIns := [], harness := har, looks := lk }, kinds := [] } = false := fun r => by simpa [Claim7.isSixth] using hn
 exact ⟨Claim7.tied_new_at Lk kinds tests (Claim7.new_of_sixth hc har lk hst hnb hm (h6 c) hl) hw, (fun D hD => by cases hD), htie, (fun h => by cases h), hg⟩
end Go.Proofs.YtcejichidnlicaaGreatDoor
namespace Go.Proofs.YtcejichidnlicaaGreatDoor
open Go Go.Ab
noncomputable def fieldT (t : TypeId) : Option (List TypeId) := match Tryz.prog.underlying t with
 | some (.struct fs) => some (fs.toList.map (·.type))
 | _ => none
theorem f24 : fieldT 24 = some [3, 3, 9, 22, 3] := by kernel_rfl
theorem u3 : Tryz.prog.underlying 3 = some (.int .i64) := by kernel_rfl
theorem u9 : Tryz.prog.underlying 9 = some .string := by kernel_rfl
theorem u25 : Tryz.prog.underlying 25 = some (.slice 9) := by kernel_rfl
theorem u22 : Tryz.prog.underlying 22 = some (.slice 24)
 := by kernel_rfl
theorem u26 : Tryz.prog.underlying 26 = some (.slice 3) := by kernel_rfl
theorem int_of {d : Dt} (h : d.ty Tryz.prog 3) : ∃ n, d = .int .i64 n := by
 cases d with
 | int k n => have := h.1; rw [u3] at this; cases this; exact ⟨n, rfl⟩
 | bool b => have h : Tryz.prog.underlying 3 = _ := h; rw [u3] at h; cases h
 | str s => have h := h.1; rw [u3] at h; cases h
 | sl l => obtain ⟨e, h, _⟩ := h; rw [u3] at h; cases h
 | agg l => obtain ⟨e, h, _⟩ := h; rw [u3] at h; cases h
theorem str_of {d : Dt} (h : d.ty Tryz.prog 9) : ∃ s, d = .str s ∧ s.size ≤ reachBytes := by
 cases d with
 | int k n => have := h.1; rw [u9] at this; cases this
 | bool b => have h : Tryz.prog.underlying 9 = _ := h; rw [u9] at h; cases h
 | str s => exact ⟨s, rfl, h.2⟩
 | sl l => obtain ⟨e, h, _⟩ := h; rw [u9] at h; cases h
 | agg l => obtain ⟨e, h, _⟩ := h; rw [u9] at h; cases h
theorem sl_of {d : Dt} {t e : TypeId} (ht : Tryz.prog.underlying t = some (.slice e)) (h : d.ty Tryz.prog t) : ∃ l, d = .sl l ∧ l.length ≤ reachBytes ∧ ∀ x ∈ l, x.ty Tryz.prog e := by
 cases d with
 | int k n => have := h.1; rw [ht] at this; cases this
 | bool b => have h : Tryz.prog.underlying t = _ := h; rw [ht] at h; cases h
 | str s => have h := h.1; rw [ht] at h; cases h
 | sl l => obtain ⟨e', h, h2, h3⟩ := h; rw [ht] at h; cases h; exact ⟨l, rfl, h2, tyA_iff.1 h3⟩
 | agg l => obtain ⟨e, h, _⟩ := h; rw [ht] at h; cases h
theorem st_of {d : Dt} {t : TypeId} {ts : List TypeId} (ht : fieldT t = some ts) (h : d.ty Tryz.prog t) : ∃ l, d = .agg l ∧ Dt.tyL Tryz.prog l ts := by
 unfold fieldT at ht
 cases d with
 | int k n => have := h.1; rw [this] at ht; cases ht
 | bool b => have h : Tryz.prog.underlying t = _ := h; rw [h] at ht; cases ht
 | str s => have h := h.1; rw [h] at ht; cases ht
 | sl l => obtain ⟨e', h, h2, h3⟩ := h; rw [h] at ht; cases ht
 | agg l => obtain ⟨e, h, h2⟩ := h; rw [h] at ht; cases ht; exact ⟨l, rfl, h2⟩
theorem ex_of : ∀ (n : Nat) (d : Dt), SizeOf.sizeOf d < n -> d.ty Tryz.prog 24 -> ∃ e : Ex, d.cells = e.c ∧ d.sv = e.v ∧ e.lim ∧ e.nmB := by
 intro n
 induction n with
 | zero => intro d h; omega
 | succ n ih =>
  intro d hs h
  obtain ⟨l, rfl, hl⟩ := st_of f24 h
  match l, hl with
  | [d1, d2, d3, d4, d5], hl =>
   obtain ⟨h1, h2, h3, h4, h5, _⟩ := hl
   obtain ⟨op, rfl⟩ := int_of h1
   obtain ⟨m, rfl⟩ := int_of h2
   obtain ⟨s, rfl, hsz⟩ := str_of h3
   obtain ⟨zs, rfl, hlen, has⟩ := sl_of u22 h4
   obtain ⟨p, rfl⟩ := int_of h5
   have key : ∀ zs2 : List Dt, SizeOf.sizeOf zs2 ≤ SizeOf.sizeOf zs -> (∀ x ∈ zs2, x.ty Tryz.prog 24) -> ∃ es : List Ex, Dt.cellsL zs2 = Ex.cL es ∧ es.length = zs2.length ∧ Ex.limL es ∧ Ex.nmBL es := by
    intro zs2
    induction zs2 with
    | nil => intro _ _; exact ⟨[], rfl, rfl, by unfold Ex.limL; trivial, by unfold Ex.nmBL; trivial⟩
    | cons x r ihr =>
     intro hsz2 hty
     have e1 : SizeOf.sizeOf (x :: r) = 1 + SizeOf.sizeOf x + SizeOf.sizeOf r := rfl
     obtain ⟨es, g1, g2, g3, g4⟩ := ihr (by omega) (fun y hy => hty y (by simp [hy]))
     obtain ⟨e, k1, _, k3, k4⟩ := ih x (by
      simp at hs
      omega) (hty x (by simp))
     exact ⟨e :: es, by simp only [Dt.cellsL, Ex.cL, k1, g1], by simp [g2], by unfold Ex.limL; exact ⟨k3, g3⟩, by unfold Ex.nmBL; exact ⟨k4, g4⟩⟩
   obtain ⟨es, g1, g2, g3, g4⟩ := key zs (Nat.le_refl _) has
   refine ⟨.mk op m s.data.toList es p, ?_, ?_, ?_, ?_⟩
   · simp only [Dt.cells, Dt.cellsL, g1, g2, Ex.c]
     rw [← B_of s]; rfl
   · simp only [Dt.sv, Dt.cells, Dt.cellsL, g1, g2, Ex.v, Ex.c]
     rw [← B_of s]; rfl
   · unfold Ex.lim
     refine ⟨?_, g3⟩
     rw [g2]; unfold reachBytes at hlen; omega
   · unfold Ex.nmB
     refine ⟨?_, g4⟩
     have : s.data.toList.length = s.size := Array.length_toList
     rw [this]; unfold reachBytes at hsz; omega
theorem wds_of : ∀ {zs : List Dt}, (∀ x ∈ zs, x.ty Tryz.prog 9) -> ∃ vs : List (List UInt8), Dt.cellsL zs = wds vs ∧ vs.length = zs.length ∧ ∀ v ∈ vs, v.length ≤ 140737488355328
 | [], _ => ⟨[], rfl, rfl, fun v h => by cases h⟩
 | x :: r, h => by
  obtain ⟨vs, g1, g2, g3⟩ := wds_of (zs := r) (fun y hy => h y (by simp [hy]))
  obtain ⟨s, rfl, hsz⟩ := str_of (h x (by simp))
  refine ⟨s.data.toList :: vs, ?_, by simp [g2], ?_⟩
  · simp only [Dt.cellsL, Dt.cells, g1, wds, List.map_cons]
    rw [← B_of s]; rfl
  · intro v hv
    rw [List.mem_cons] at hv
    rcases hv with rfl | hv
    · have : s.data.toList.length = s.size := Array.length_toList
      rw [this]; unfold reachBytes at hsz; omega
    · exact g3 v hv
theorem ints_of : ∀ {zs : List Dt}, (∀ x ∈ zs, x.ty Tryz.prog 3) -> ∃ vs : List Int, Dt.cellsL zs = ints vs ∧ vs.length = zs.length
 | [], _ => ⟨[], rfl, rfl⟩
 | x :: r, h => by
  obtain ⟨vs, g1, g2⟩ := ints_of (zs := r) (fun y hy => h y (by simp [hy]))
  obtain ⟨n, rfl⟩ := int_of (h x (by simp))
  refine ⟨n :: vs, ?_, by simp [g2]⟩
  simp only [Dt.cellsL, Dt.cells, g1, ints, List.map_cons]
  rfl
theorem law3 : ∀ dts, Dt.tyL Tryz.prog dts [24, 25, 26] -> Ok Tryz.prog 3 (dts.map Dt.sv) [] (.ret (bl true)) [] := by
 intro dts h
 match dts, h with
 | [d1, d2, d3], h =>
  obtain ⟨h1, h2, h3, _⟩ := h
  obtain ⟨e, _, k2, k3, k4⟩ := ex_of _ d1 (Nat.lt_succ_self _) h1
  obtain ⟨zs, rfl, hlen, hz⟩ := sl_of u25 h2
  obtain ⟨ns, g1, g2, g3⟩ := wds_of hz
  obtain ⟨ws, rfl, hlen2, hw⟩ := sl_of u26 h3
  obtain ⟨vs, q1, q2⟩ := ints_of hw
  have e1 : (Dt.sl zs).sv = .slc (wds ns) ns.length := by simp only [Dt.sv, Dt.cells, g1, g2]; rfl
  have e2 : (Dt.sl ws).sv = .slc (ints vs) vs.length := by simp only [Dt.sv, Dt.cells, q1, q2]; rfl
  simp only [List.map_cons, List.map_nil, e1, e2, k2]
  exact ok3 k3 (by rw [g2]; unfold reachBytes at hlen; omega) (by rw [q2]; unfold reachBytes at hlen2; omega)
end Go.Proofs.YtcejichidnlicaaGreatDoor
