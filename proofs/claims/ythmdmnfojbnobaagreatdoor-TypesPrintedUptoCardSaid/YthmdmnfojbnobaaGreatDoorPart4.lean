/-
  Steps of the proof: contracts of functions and plain facts that the statement rests on.
-/
import Derived.Test.YthmdmnfojbnobaaGreatDoorPart3
set_option linter.all false
namespace Go.Proofs.YthmdmnfojbnobaaGreatDoor
open Go.Ab
def kwG : List UInt8 := [103, 97, 109, 101]
def kwPl : List UInt8 := [112, 108, 97, 121, 101, 114, 115]
def kwV : List UInt8 := [118, 97, 114]
def kwD : List UInt8 := [100, 101, 97, 108]
def kwI : List UInt8 := [105, 110]
def kwW : List UInt8 := [119, 101, 105, 103, 104, 116]
def kwS : List UInt8 := [115, 101, 101, 110]
def kwB : List UInt8 := [98, 121]
def kwA : List UInt8 := [97, 108, 108]
def kwT : List UInt8 := [116, 117, 114, 110]
def kwAc : List UInt8 := [97, 99, 116, 105, 111, 110]
def kwWh : List UInt8 := [119, 104, 101, 110]
def kwH : List UInt8 := [104, 105, 100, 100, 101, 110]
def kwGo : List UInt8 := [103, 111, 116, 111]
def kwE : List UInt8 := [101, 110, 100]
def kwP : List UInt8 := [112, 97, 121]
def SetP.er (s : SetP) : SetP := ⟨s.nm, s.e.er, 0⟩
def ActP.er (a : ActP) : ActP := ⟨a.nm, Ex.erL a.wh, a.hid, a.sets.map SetP.er, a.go, 0⟩
def StageP.er (x : StageP) : StageP := ⟨x.k, x.lb, x.nm, x.lo, x.hi, Ex.erL x.wt, x.all, x.seen, Ex.erL x.who, x.acts.map ActP.er, Ex.erL x.pays, 0⟩
def VarP.er (v : VarP) : VarP := ⟨v.nm, v.n, 0⟩
def RulesP.er (r : RulesP) : RulesP := ⟨r.nm, r.pl, r.vars.map VarP.er, r.stages.map StageP.er⟩
def setPc (s : SetP) : List Pc := .b 32 :: .t (.wd s.nm) :: .b 32 :: .t (.sg [61]) :: .b 32 :: (shP s.e ++ [.t (.sg [59])])
def optPc (w : List UInt8) (l : List Ex) : List Pc := match l with
 | [] => []
 | e :: _ => .b 32 :: .t (.wd w) :: .b 32 :: shP e
def flagPc (w : List UInt8) (b : Bool) : List Pc := if b = true then [.b 32, .t (.wd w)] else []
def goPc (s : List UInt8) : List Pc := if s = [] then [] else [.b 32, .t (.wd kwGo), .b 32, .t (.wd s), .t (.sg [59])]
def actPc (a : ActP) : List Pc := .b 32 :: .b 32 :: .t (.wd kwAc) :: .b 32 :: .t (.wd a.nm) :: (optPc kwWh a.wh ++ (flagPc kwH a.hid ++ (.b 32 :: .t (.sg [123]) :: (a.sets.flatMap setPc ++ (.b 32 :: .t (.sg [125]) :: (goPc a.go ++ [.b 10]))))))
def fineS (s : SetP) : Bool := nmdF s.nm && fineE s.e
def fineA (a : ActP) : Bool := nmdF a.nm && (decide (a.wh.length ≤ 1) && (fineL a.wh && ((decide (a.go = []) || nmdF a.go) && a.sets.all fineS)))
section
variable {c : Cx}
theorem back0 {α : Type} {F : Rd -> α × Rd} {r : Rd} (hs : Still F) (h : (F r).2.e = 0) : r.e = 0 := by
 by_cases he : r.e = 0
 · exact he
 · rw [hs r he] at h; exact absurd h he
theorem t2b {s : List UInt8} {r : Rd} (h : (t2 c s r).e = 0) : r.e = 0 := back0 (take_still s) h
theorem fail_ne {e : Int} (he : e ≠ 0) (r : Rd) : (failR c e r).e ≠ 0 := by
 unfold failR
 split
 · exact he
 · rename_i h; exact h
theorem Sta.t2 {d : Nat} {r : Rd} {k : TK} {L : List TK} {s : List UInt8} (h : Sta c d r (k :: L)) (hk : pk (k :: L) s = true) : Sta c d (t2 c s r) L := (h.take hk).2
def Rd1 {α : Type} (c : Cx) (F : Rd -> α × Rd) (l : List TK) (ok : α -> Prop) (st : List TK -> Prop) : Prop :=
 ∀ r L, Sta c 40 r (l ++ L) -> st L -> (F r).2.e = 0 -> Sta c 40 (F r).2 L ∧ ok (F r).1
theorem or_rd {e : Ex} (h : fineE e = true) : Rd1 c (orT c) (tks (shP e)) (fun x => x.er = e.er) stopE := fun r L h1 h2 h3 =>
 ((back_all (c := c) e h 40).2 r L h1 h2).resolve_left (fun h => h h3)
theorem orT_still : Still (orT c) := or_still c 40
theorem kw_stop {w : List UInt8} (h : ([mulO, sumO, cmpO, andO, orO].all fun l => l.all fun o => decide (w ≠ o.1)) = true) {k : TK} (hk : k = .sg w ∨ k = .wd w) (L : List TK) : stopE (k :: L) := by
 have h2 := List.all_eq_true.1 h
 exact ⟨pk_none hk (h2 mulO (by simp)) L, pk_none hk (h2 sumO (by simp)) L, pk_none hk (h2 cmpO (by simp)) L, pk_none hk (h2 andO (by simp)) L, pk_none hk (h2 orO (by simp)) L⟩
theorem opt_rd {w : List UInt8} {l : List Ex} (hl : l.length ≤ 1) (hf : fineL l = true) : Rd1 c (optR c (orT c) w) (tks (optPc w l)) (fun x => Ex.erL x = Ex.erL l) (fun L => stopE L ∧ pk L w = false) := by
 intro r L h hs h0
 unfold optR at h0 ⊢
 match l, hl with
 | [], _ =>
  have h : Sta c 40 r L := h
  rw [if_neg (by rw [h.peek, hs.2]; decide)]
  exact ⟨h, rfl⟩
 | [e], _ =>
  have h : Sta c 40 r (.wd w :: (tks (shP e) ++ L)) := h
  rw [if_pos (by rw [h.peek]; simp [pk])] at h0 ⊢
  rw [fineL, Bool.and_eq_true] at hf
  obtain ⟨g1, g2⟩ := or_rd hf.1 _ L (h.t2 (s := w) (by simp [pk])) hs.1 h0
  exact ⟨g1, by simp only [Ex.erL, g2]⟩
theorem flag_rd {w : List UInt8} {b : Bool} : Rd1 c (flagR c w) (tks (flagPc w b)) (fun x => x = b) (fun L => pk L w = false) := by
 intro r L h hs h0
 unfold flagR
 cases b with
 | true =>
  have h : Sta c 40 r (.wd w :: L) := h
  rw [if_pos (by rw [h.peek]; simp [pk])]
  exact ⟨h.t2 (by simp [pk]), rfl⟩
 | false =>
  have h : Sta c 40 r L := h
  rw [if_neg (by rw [h.peek, hs]; decide)]
  exact ⟨h, rfl⟩
theorem go_rd {s : List UInt8} (hf : s = [] ∨ nmdF s = true) : Rd1 c (gotoR c) (tks (goPc s)) (fun x => x = s) (fun L => pk L kwGo = false) := by
 intro r L h hs h0
 unfold gotoR
 by_cases he : s = []
 · subst he
   have h : Sta c 40 r L := h
   rw [if_neg (by rw [h.peek]; exact fun h => by rw [show pk L [103, 111, 116, 111] = false from hs] at h; cases h)]
   exact ⟨h, rfl⟩
 · have h : Sta c 40 r (.wd kwGo :: .wd s :: .sg [59] :: L) := by
    unfold goPc at h; rw [if_neg he] at h; exact h
   rw [if_pos (by rw [h.peek]; rfl)]
   have h1 := h.t2 (s := [103, 111, 116, 111]) rfl
   obtain ⟨h2, h3⟩ := h1.word (nmd_of (hf.resolve_left he)).2
   rw [h2]
   exact ⟨h3.t2 rfl, rfl⟩
theorem set_rd {s : SetP} (hf : fineS s = true) (acc : List SetP) : Rd1 c (setR c (orT c) acc) (tks (setPc s)) (fun x => x.er = s.er) (fun _ => True) := by
 intro r L h _ h0
 unfold fineS at hf
 rw [Bool.and_eq_true] at hf
 have h : Sta c 40 r (.wd s.nm :: .sg [61] :: (tks (shP s.e) ++ .sg [59] :: L)) := by
  unfold setPc at h; simpa [tks, tks_app] using h
 unfold setR at h0 ⊢
 simp only at h0 ⊢
 have e1 := back0 orT_still (t2b h0)
 have e2 := back0 word_still (t2b e1)
 by_cases hz : acc.length = 32 ∧ freeR c r = true
 · rw [if_pos hz] at e2; exact absurd e2 (fail_ne (by decide) r)
 · rw [if_neg hz] at h0 e1 ⊢
   obtain ⟨g1, g2⟩ := h.word (nmd_of hf.1).2
   rw [g1] at h0 e1 ⊢
   have g3 := g2.t2 (s := [61]) rfl
   obtain ⟨g4, g5⟩ := or_rd hf.2 _ _ g3 (kw_stop (by decide) (.inl rfl) L) (t2b h0)
   refine ⟨g4.t2 rfl, ?_⟩
   unfold SetP.er
   simp only [g5]
theorem sets_rd : ∀ (ss : List SetP), (ss.all fineS) = true -> ∀ (n : Nat) (acc : List SetP) (r : Rd) (L : List TK), ss.length < n -> Sta c 40 r (tks (ss.flatMap setPc) ++ .sg [125] :: L) -> (setsL c (orT c) n acc r).2.e = 0 →
 Sta c 40 (setsL c (orT c) n acc r).2 (.sg [125] :: L) ∧ ∃ l, (setsL c (orT c) n acc r).1 = acc ++ l ∧ l.map SetP.er = ss.map SetP.er
 | [], _, n, acc, r, L, hn, h, h0 => by
  have h : Sta c 40 r (.sg [125] :: L) := h
  cases n with
  | zero => simp at hn
  | succ n =>
   rw [setsL, if_neg (by rintro ⟨_, h2⟩; rw [h.peek] at h2; cases h2)]
   exact ⟨h, [], by simp, rfl⟩
 | s :: ss, hf, n, acc, r, L, hn, h, h0 => by
  rw [List.all_cons, Bool.and_eq_true] at hf
  have h : Sta c 40 r (tks (setPc s) ++ (tks (ss.flatMap setPc) ++ .sg [125] :: L)) := by
   rw [List.flatMap_cons, tks_app, List.append_assoc] at h; exact h
  cases n with
  | zero => simp at hn
  | succ n =>
   have hnr := (nmd_of (by have := hf.1; unfold fineS at this; rw [Bool.and_eq_true] at this; exact this.1 : nmdF s.nm = true)).2
   have hp : peekR c [125] r = false := by
    rw [h.peek]; unfold setPc
    have : s.nm ≠ [125] := by
     intro e
     have := (nmd_of (by have := hf.1; unfold fineS at this; rw [Bool.and_eq_true] at this; exact this.1 : nmdF s.nm = true)).1.2.1
     rw [e] at this; exact absurd this (by decide)
    simp [tks, pk, this]
   rw [setsL, if_pos ⟨h.e, hp⟩] at h0 ⊢
   have e1 := back0 (sets_still n _) h0
   obtain ⟨g1, g2⟩ := set_rd hf.1 acc r _ h trivial e1
   obtain ⟨g3, l, g4, g5⟩ := sets_rd ss hf.2 n (acc ++ [(setR c (orT c) acc r).1]) _ L (by simpa using hn) g1 h0
   refine ⟨g3, (setR c (orT c) acc r).1 :: l, by rw [g4]; simp, ?_⟩
   simp only [List.map_cons, g2, g5]
theorem Sta.len {d : Nat} {r : Rd} {L : List TK} (h : Sta c d r L) : L.length ≤ c.ts.length := by
 have key : ∀ {ts : List Tok} {ks : List TK}, All2 ts ks -> ts.length = ks.length := by
  intro ts ks h
  induction h with
  | nil => rfl
  | cons _ _ ih => simp [ih]
 have := key h.rem
 rw [List.length_drop] at this
 omega
theorem sets_len : ∀ ss : List SetP, ss.length ≤ (tks (ss.flatMap setPc)).length
 | [] => by simp
 | s :: ss => by
  have := sets_len ss
  rw [List.flatMap_cons, tks_app, List.length_append]
  have : 1 ≤ (tks (setPc s)).length := by unfold setPc; simp [tks]
  simp only [List.length_cons]; omega
theorem act_rd {a : ActP} (hf : fineA a = true) : Rd1 c (actR c (orT c)) (tks (actPc a)) (fun x => x.er = a.er) (fun L => pk L kwGo = false) := by
 intro r L h hs h0
 unfold fineA at hf
 simp only [Bool.and_eq_true, Bool.or_eq_true, decide_eq_true_eq] at hf
 obtain ⟨f1, f2, f3, f4, f5⟩ := hf
 have h : Sta c 40 r (.wd kwAc :: .wd a.nm :: (tks (optPc kwWh a.wh) ++ (tks (flagPc kwH a.hid) ++ .sg [123] :: (tks (a.sets.flatMap setPc) ++ .sg [125] :: (tks (goPc a.go) ++ L))))) := by
  unfold actPc at h; simpa [tks, tks_app] using h
 unfold actR at h0 ⊢
 simp only at h0 ⊢
 have g1 := (h.take (s := [97, 99, 116, 105, 111, 110]) rfl).2
 obtain ⟨g2, g3⟩ := g1.word (nmd_of f1).2
 rw [g2] at h0 ⊢
 simp only at h0 ⊢
 generalize nextR (takeR c [97, 99, 116, 105, 111, 110] r).2 = r1 at g3 h0 ⊢
 have e4 := back0 goto_still h0
 have e5 := t2b e4
 have e6 := back0 (sets_still _ _) e5
 have e7 := t2b e6
 have e8 := back0 (flag_still _) e7
 have hfl : ∀ X : List TK, stopE (tks (flagPc kwH a.hid) ++ .sg [123] :: X) ∧ pk (tks (flagPc kwH a.hid) ++ .sg [123] :: X) kwWh = false := by
  intro X
  cases a.hid with
  | true => exact ⟨kw_stop (w := kwH) (by decide) (.inr rfl) _, rfl⟩
  | false => exact ⟨kw_stop (w := [123]) (by decide) (.inl rfl) _, rfl⟩
 obtain ⟨k1, k2⟩ := opt_rd f2 f3 r1 _ g3 (hfl _) e8
 have k1 : Sta c 40 (optR c (orT c) [119, 104, 101, 110] r1).2 (tks (flagPc kwH a.hid) ++ .sg [123] :: (tks (a.sets.flatMap setPc) ++ .sg [125] :: (tks (goPc a.go) ++ L))) := k1
 have k2 : Ex.erL (optR c (orT c) [119, 104, 101, 110] r1).1 = Ex.erL a.wh := k2
 obtain ⟨k3, k4⟩ := flag_rd (w := kwH) (b := a.hid) _ _ k1 rfl e7
 have k3 : Sta c 40 (flagR c [104, 105, 100, 100, 101, 110] (optR c (orT c) [119, 104, 101, 110] r1).2).2 (.sg [123] :: (tks (a.sets.flatMap setPc) ++ .sg [125] :: (tks (goPc a.go) ++ L))) := k3
 have k4 : (flagR c [104, 105, 100, 100, 101, 110] (optR c (orT c) [119, 104, 101, 110] r1).2).1 = a.hid := k4
 have k5 := k3.t2 (s := [123]) rfl
 have hle := k5.len
 have hsl := sets_len a.sets
 rw [List.length_append] at hle
 obtain ⟨k6, l, k7, k8⟩ := sets_rd a.sets f5 (c.ts.length + 1) [] _ _ (by omega) k5 e5
 have k9 := k6.t2 (s := [125]) rfl
 obtain ⟨m1, m2⟩ := go_rd f4 _ L k9 hs h0
 refine ⟨m1, ?_⟩
 unfold ActP.er
 simp only [k2, k4, k7, List.nil_append, k8, m2]
end
end Go.Proofs.YthmdmnfojbnobaaGreatDoor
namespace Go.Proofs.YthmdmnfojbnobaaGreatDoor
open Go.Ab
def seenPc (l : List Int) : List Pc := match l with
 | [] => []
 | n :: r => .b 32 :: .t (.wd kwS) :: .b 32 :: .t (.wd kwB) :: .b 32 :: .t (.nm n.toNat) :: r.flatMap fun m => [.t (.sg [44]), .b 32, .t (.nm m.toNat)]
def allPc (b : Bool) : List Pc := if b = true then [.b 32, .t (.wd kwS), .b 32, .t (.wd kwB), .b 32, .t (.wd kwA)] else []
def lbPc (s : List UInt8) : List Pc := if s = [] then [] else [.t (.wd s), .t (.sg [58]), .b 32]
def dealPc (x : StageP) : List Pc := .t (.wd kwD) :: .b 32 :: .t (.wd x.nm) :: .b 32 :: .t (.wd kwI) :: .b 32 :: .t (.nm x.lo.toNat) :: .b 32 :: .t (.sg [46, 46]) :: .b 32 :: .t (.nm x.hi.toNat) :: (optPc kwW x.wt ++ (allPc x.all ++ (seenPc x.seen ++ [.t (.sg [59]), .b 10])))
def whoP (l : List Ex) : List Pc := match l with
 | [] => []
 | e :: _ => shP e
def turnPc (x : StageP) : List Pc := .t (.wd kwT) :: .b 32 :: (whoP x.who ++ (.b 32 :: .t (.sg [123]) :: .b 10 :: (x.acts.flatMap actPc ++ [.t (.sg [125]), .b 10])))
def endPc (x : StageP) : List Pc := .t (.wd kwE) :: .b 32 :: .t (.sg [123]) :: .b 32 :: .t (.wd kwP) :: .b 32 :: (lsP (shL x.pays) ++ [.t (.sg [59]), .b 32, .t (.sg [125]), .b 10])
def stagePc (x : StageP) : List Pc := lbPc x.lb ++ if x.k = 1 then dealPc x else if x.k = 2 then turnPc x else endPc x
def inB (n : Int) : Bool := decide (0 ≤ n) && decide (n ≤ 1000000000)
def notD (x : StageP) : Bool := decide (x.nm = []) && (decide (x.lo = 0) && (decide (x.hi = 0) && (decide (x.wt = []) && (!x.all && decide (x.seen = [])))))
def notT (x : StageP) : Bool := decide (x.who.length = 0) && decide (x.acts.length = 0)
def fineSt (x : StageP) : Bool := (decide (x.lb = []) || nmdF x.lb) && (fineL x.wt && (fineL x.who && (fineL x.pays && (
 if x.k = 1 then x.seen.all inB && (notT x && (decide (x.pays.length = 0) && (nmdF x.nm && (inB x.lo && (inB x.hi && (decide (x.wt.length ≤ 1) && (!x.all || decide (x.seen.length = 0))))))))
 else if x.k = 2 then x.acts.all fineA && (notD x && (decide (x.pays.length = 0) && (decide (x.who.length = 1) && decide (x.acts.length ≠ 0))))
 else if x.k = 3 then notD x && (notT x && decide (x.pays.length ≠ 0)) else false))))
section
variable {c : Cx}
theorem comma_stop (L : List TK) : stopE (.sg [44] :: L) := kw_stop (by decide) (.inl rfl) L
theorem tks_nms : ∀ r : List Int, tks (r.flatMap fun m => [.t (.sg [44]), .b 32, .t (.nm m.toNat)]) = r.flatMap fun m => [.sg [44], .nm m.toNat]
 | [] => rfl
 | m :: r => by rw [List.flatMap_cons, tks_app, tks_nms r]; rfl
theorem nms_len : ∀ ms : List Int, ms.length ≤ (ms.flatMap fun m => [TK.sg [44], .nm m.toNat]).length
 | [] => by simp
 | x :: r => by
  have := nms_len r
  rw [List.flatMap_cons, List.length_append]; simp only [List.length_cons, List.length_nil]; omega
theorem seenL_still (n : Nat) (l : List Int) : Still (seenL c n l) := by
 cases n with
 | zero => intro r h; rfl
 | succ n => intro r h; rw [seenL, if_neg (by rw [peek_bad h]; decide)]
theorem seenL_rd : ∀ (ms : List Int), (ms.all inB) = true -> ∀ (n : Nat) (acc : List Int) (r : Rd) (L : List TK), ms.length ≤ n -> Sta c 40 r ((ms.flatMap fun m => [.sg [44], .nm m.toNat]) ++ .sg [59] :: L) -> (seenL c n acc r).2.e = 0 →
 Sta c 40 (seenL c n acc r).2 (.sg [59] :: L) ∧ (seenL c n acc r).1 = acc ++ ms
 | [], _, n, acc, r, L, hn, h, h0 => by
  have h : Sta c 40 r (.sg [59] :: L) := h
  cases n with
  | zero => exact ⟨h, by simp [seenL]⟩
  | succ n =>
   rw [seenL, if_neg (by rw [h.peek]; exact fun h => by cases h)]
   exact ⟨h, by simp⟩
 | m :: ms, hf, n, acc, r, L, hn, h, h0 => by
  rw [List.all_cons, Bool.and_eq_true] at hf
  have h : Sta c 40 r (.sg [44] :: .nm m.toNat :: ((ms.flatMap fun m => [.sg [44], .nm m.toNat]) ++ .sg [59] :: L)) := by simpa using h
  cases n with
  | zero => simp at hn
  | succ n =>
   rw [seenL, if_pos (by rw [h.peek]; rfl)] at h0 ⊢
   simp only at h0 ⊢
   have h1 := h.t2 (s := [44]) rfl
   generalize t2 c [44] r = r1 at h0 h1 ⊢
   have e1 := back0 (seenL_still n _) h0
   have e2 := back0 num_still e1
   by_cases hz : acc.length = 32 ∧ r1.a < c.ts.length ∧ tokB c { r1 with e := 0 } (fun t => decide (t.k = 2)) = true
   · rw [if_pos hz] at e2; exact absurd e2 (fail_ne (by decide) r1)
   · rw [if_neg hz] at h0 ⊢
     obtain ⟨g1, g2⟩ := h1.numb
     rw [g1] at h0 ⊢
     obtain ⟨g3, g4⟩ := seenL_rd ms hf.2 n (acc ++ [((m.toNat : Nat) : Int)]) _ L (by simpa using hn) g2 h0
     have hm : ((m.toNat : Nat) : Int) = m := by
      have := hf.1; unfold inB at this; simp only [Bool.and_eq_true, decide_eq_true_eq] at this; omega
     rw [hm] at g3 g4 ⊢
     exact ⟨g3, by rw [g4]; simp⟩
theorem seen_rd {b : Bool} {l : List Int} (hf : l.all inB = true) (hb : b = false ∨ l.length = 0) : ∀ r L, Sta c 40 r (tks (allPc b ++ seenPc l) ++ .sg [59] :: L) -> (seenR c r).2.e = 0 -> Sta c 40 (seenR c r).2 (.sg [59] :: L) ∧ (seenR c r).1 = (b, l) := by
 intro r L h h0
 unfold seenR at h0 ⊢
 cases b with
 | true =>
   have hl : l = [] := List.length_eq_zero_iff.1 (hb.resolve_left (by decide))
   subst hl
   have h : Sta c 40 r (.wd kwS :: .wd kwB :: .wd kwA :: .sg [59] :: L) := h
   have h1 := h.t2 (s := [115, 101, 101, 110]) rfl
   have h2 := h1.t2 (s := [98, 121]) rfl
   rw [if_pos (by rw [h.peek]; rfl)]
   simp only
   rw [if_pos (by rw [h2.peek]; rfl)]
   exact ⟨h2.t2 rfl, rfl⟩
 | false =>
   cases l with
   | nil =>
     have h : Sta c 40 r (.sg [59] :: L) := h
     rw [if_neg (by rw [h.peek]; exact fun h => by cases h)]
     exact ⟨h, rfl⟩
   | cons m ms =>
     have h : Sta c 40 r (.wd kwS :: .wd kwB :: .nm m.toNat :: ((ms.flatMap fun m => [.sg [44], .nm m.toNat]) ++ .sg [59] :: L)) := by
       have e : tks (allPc false ++ seenPc (m :: ms)) = .wd kwS :: .wd kwB :: .nm m.toNat :: (ms.flatMap fun m => [.sg [44], .nm m.toNat]) := by
         show tks (.b 32 :: .t (.wd kwS) :: .b 32 :: .t (.wd kwB) :: .b 32 :: .t (.nm m.toNat) :: ms.flatMap fun m => [.t (.sg [44]), .b 32, .t (.nm m.toNat)]) = _
         simp only [tks, tks_nms]
       rw [e] at h; exact h
     have h1 := h.t2 (s := [115, 101, 101, 110]) rfl
     have h2 := h1.t2 (s := [98, 121]) rfl
     rw [if_pos (by rw [h.peek]; rfl)] at h0 ⊢
     simp only at h0 ⊢
     rw [if_neg (by rw [h2.peek]; exact fun h => by cases h)] at h0 ⊢
     obtain ⟨g1, g2⟩ := h2.numb
     rw [g1] at h0 ⊢
     simp only at h0 ⊢
     rw [List.all_cons, Bool.and_eq_true] at hf
     have hle := g2.len
     have hfl : ms.length ≤ (ms.flatMap fun m => [TK.sg [44], .nm m.toNat]).length :=
        nms_len ms
     rw [List.length_append] at hle
     obtain ⟨g3, g4⟩ := seenL_rd ms hf.2 c.ts.length [((m.toNat : Nat) : Int)] _ L (by omega) g2 h0
     have hm : ((m.toNat : Nat) : Int) = m := by
       have := hf.1; unfold inB at this; simp only [Bool.and_eq_true, decide_eq_true_eq] at this; omega
     rw [hm] at g3 g4 ⊢
     exact ⟨g3, by rw [g4]; rfl⟩
theorem deal_rd {x y : StageP} (hk : x.k = 1) (hf : fineSt x = true) (hy : y = { zStage with lb := x.lb }) : Rd1 c (dealR c (orT c) y) (tks (dealPc x)) (fun z => z.er = x.er) (fun _ => True) := by
 intro r L h _ h0
 unfold fineSt at hf
 rw [if_pos hk] at hf
 simp only [Bool.and_eq_true, Bool.or_eq_true, decide_eq_true_eq, Bool.not_eq_true'] at hf
 obtain ⟨f1, f2, f3, f4, f5, f6, f7, f8, f9, f10, f11, f12⟩ := hf
 unfold notT at f6
 simp only [Bool.and_eq_true, decide_eq_true_eq] at f6
 unfold inB at f9 f10
 simp only [Bool.and_eq_true, decide_eq_true_eq] at f9 f10
 have hlo : ((x.lo.toNat : Nat) : Int) = x.lo := by omega
 have hhi : ((x.hi.toNat : Nat) : Int) = x.hi := by omega
 have h : Sta c 40 r (.wd kwD :: .wd x.nm :: .wd kwI :: .nm x.lo.toNat :: .sg [46, 46] :: .nm x.hi.toNat :: (tks (optPc kwW x.wt) ++ (tks (allPc x.all ++ seenPc x.seen) ++ .sg [59] :: L))) := by
  unfold dealPc at h; simpa [tks, tks_app] using h
 unfold dealR at h0 ⊢
 simp only at h0 ⊢
 have g1 := (h.take (s := [100, 101, 97, 108]) rfl).2
 obtain ⟨g2, g3⟩ := g1.word (nmd_of f8).2
 rw [g2] at h0 ⊢
 simp only at h0 ⊢
 generalize nextR (takeR c [100, 101, 97, 108] r).2 = r1 at g3 h0 ⊢
 have g4 := g3.t2 (s := [105, 110]) rfl
 obtain ⟨g5, g6⟩ := g4.numb
 rw [g5] at h0 ⊢
 simp only at h0 ⊢
 have g7 := g6.t2 (s := [46, 46]) rfl
 obtain ⟨g8, g9⟩ := g7.numb
 rw [g8] at h0 ⊢
 simp only at h0 ⊢
 generalize nextR (t2 c [46, 46] (nextR (t2 c [105, 110] r1))) = r2 at g9 h0 ⊢
 have e1 := t2b h0
 have e2 := back0 seen_still e1
 have hst : ∀ X, stopE (tks (allPc x.all ++ seenPc x.seen) ++ .sg [59] :: X) ∧ pk (tks (allPc x.all ++ seenPc x.seen) ++ .sg [59] :: X) kwW = false := by
  intro X
  cases x.all with
  | true => exact ⟨kw_stop (w := kwS) (by decide) (.inr rfl) _, rfl⟩
  | false =>
   cases x.seen with
   | nil => exact ⟨kw_stop (w := [59]) (by decide) (.inl rfl) _, rfl⟩
   | cons m ms => exact ⟨kw_stop (w := kwS) (by decide) (.inr rfl) _, rfl⟩
 obtain ⟨k1, k2⟩ := opt_rd f11 f2 r2 _ g9 (hst L) e2
 have k1 : Sta c 40 (optR c (orT c) [119, 101, 105, 103, 104, 116] r2).2 _ := k1
 have k2 : Ex.erL (optR c (orT c) [119, 101, 105, 103, 104, 116] r2).1 = Ex.erL x.wt := k2
 obtain ⟨k3, k4⟩ := seen_rd f5 f12 _ L k1 e1
 refine ⟨k3.t2 rfl, ?_⟩
 unfold StageP.er
 have w1 : x.who = [] := List.length_eq_zero_iff.1 f6.1
 have w2 : x.acts = [] := List.length_eq_zero_iff.1 f6.2
 have w3 : x.pays = [] := List.length_eq_zero_iff.1 f7
 simp only [hy, zStage, k2, k4, hlo, hhi, hk, w1, w2, w3]
theorem act_stillL (n : Nat) (l : List ActP) : Still (actsL c (orT c) 0 n l) := by
 cases n with
 | zero => intro r h; rfl
 | succ n => intro r h; rw [actsL, if_neg (by rw [peek_bad h]; decide)]
theorem acts_rd : ∀ (ms : List ActP), (ms.all fineA) = true -> ∀ (n : Nat) (acc : List ActP) (r : Rd) (L : List TK), ms.length ≤ n -> Sta c 40 r (tks (ms.flatMap actPc) ++ .sg [125] :: L) -> (actsL c (orT c) 0 n acc r).2.e = 0 →
 Sta c 40 (actsL c (orT c) 0 n acc r).2 (.sg [125] :: L) ∧ ∃ l, (actsL c (orT c) 0 n acc r).1 = acc ++ l ∧ l.map ActP.er = ms.map ActP.er
 | [], _, n, acc, r, L, hn, h, h0 => by
  have h : Sta c 40 r (.sg [125] :: L) := h
  cases n with
  | zero => exact ⟨h, [], by simp [actsL], rfl⟩
  | succ n =>
   rw [actsL, if_neg (by rw [h.peek]; exact fun h => by cases h)]
   exact ⟨h, [], by simp, rfl⟩
 | m :: ms, hf, n, acc, r, L, hn, h, h0 => by
  rw [List.all_cons, Bool.and_eq_true] at hf
  have h : Sta c 40 r (tks (actPc m) ++ (tks (ms.flatMap actPc) ++ .sg [125] :: L)) := by
   rw [List.flatMap_cons, tks_app, List.append_assoc] at h; exact h
  cases n with
  | zero => simp at hn
  | succ n =>
   rw [actsL, if_pos (by rw [h.peek]; rfl)] at h0 ⊢
   simp only at h0 ⊢
   have e1 := back0 (act_stillL n _) h0
   have e2 := back0 act_still e1
   by_cases hz : acc.length = 10
   · rw [if_pos hz] at e2; exact absurd e2 (fail_ne (by decide) r)
   · rw [if_neg hz] at h0 e1 ⊢
     obtain ⟨g1, g2⟩ := act_rd hf.1 r _ h (by
      cases ms with
      | nil => rfl
      | cons y ys => rfl) e1
     obtain ⟨g3, l, g4, g5⟩ := acts_rd ms hf.2 n (acc ++ [(actR c (orT c) r).1]) _ L (by simpa using hn) g1 h0
     exact ⟨g3, (actR c (orT c) r).1 :: l, by rw [g4]; simp, by simp only [List.map_cons, g2, g5]⟩
theorem acts_len : ∀ ss : List ActP, ss.length ≤ (tks (ss.flatMap actPc)).length
 | [] => by simp
 | s :: ss => by
  have := acts_len ss
  rw [List.flatMap_cons, tks_app, List.length_append]
  have : 1 ≤ (tks (actPc s)).length := by unfold actPc; simp [tks]
  simp only [List.length_cons]; omega
theorem notD_of {x : StageP} (h : notD x = true) : x.nm = [] ∧ x.lo = 0 ∧ x.hi = 0 ∧ x.wt = [] ∧ x.all = false ∧ x.seen = [] := by
 unfold notD at h
 simpa only [Bool.and_eq_true, decide_eq_true_eq, Bool.not_eq_true'] using h
theorem turn_rd {x y : StageP} (hk : x.k = 2) (hf : fineSt x = true) (hy : y = { zStage with lb := x.lb }) : Rd1 c (turnR c (orT c) y) (tks (turnPc x)) (fun z => z.er = x.er) (fun _ => True) := by
 intro r L h _ h0
 unfold fineSt at hf
 rw [if_neg (by omega), if_pos hk] at hf
 simp only [Bool.and_eq_true, Bool.or_eq_true, decide_eq_true_eq, Bool.not_eq_true'] at hf
 obtain ⟨f1, f2, f3, f4, f5, f6, f7, f8, f9⟩ := hf
 obtain ⟨d1, d2, d3, d4, d5, d6⟩ := notD_of f6
 obtain ⟨e, hw⟩ : ∃ e, x.who = [e] := by
  match hq : x.who, f8 with
  | [e], _ => exact ⟨e, rfl⟩
 obtain ⟨a, rest, ha⟩ : ∃ a rest, x.acts = a :: rest := by
  cases hq : x.acts with
  | nil => rw [hq] at f9; exact absurd rfl f9
  | cons a rest => exact ⟨a, rest, rfl⟩
 rw [hw] at f3
 rw [fineL, Bool.and_eq_true] at f3
 rw [ha, List.all_cons, Bool.and_eq_true] at f5
 have h : Sta c 40 r (.wd kwT :: (tks (shP e) ++ .sg [123] :: (tks (actPc a) ++ (tks (rest.flatMap actPc) ++ .sg [125] :: L)))) := by
  unfold turnPc at h; rw [hw, ha] at h; simpa [tks, tks_app, whoP] using h
 unfold turnR at h0 ⊢
 simp only at h0 ⊢
 have g1 := (h.take (s := [116, 117, 114, 110]) rfl).2
 generalize takeR c [116, 117, 114, 110] r = t at g1 h0 ⊢
 have e1 := t2b h0
 have e2 := back0 (act_stillL _ _) e1
 have e3 := back0 act_still e2
 have e4 := t2b e3
 obtain ⟨g2, g3⟩ := or_rd f3.1 _ _ g1 (kw_stop (w := [123]) (by decide) (.inl rfl) _) e4
 have g4 := g2.t2 (s := [123]) rfl
 obtain ⟨g5, g6⟩ := act_rd f5.1 _ _ g4 (by
  cases rest with
  | nil => rfl
  | cons y ys => rfl) e2
 have hle := g5.len
 have hal := acts_len rest
 rw [List.length_append] at hle
 obtain ⟨g7, l, g8, g9⟩ := acts_rd rest f5.2 c.ts.length [(actR c (orT c) (t2 c [123] (orT c t.2).2)).1] _ L (by omega) g5 e1
 refine ⟨g7.t2 rfl, ?_⟩
 unfold StageP.er
 have w3 : x.pays = [] := List.length_eq_zero_iff.1 f7
 simp only [hy, zStage, hk, d1, d2, d3, d4, d5, d6, w3, hw, ha, g8, List.cons_append, List.nil_append, List.map_cons, g6, g9, Ex.erL, g3]
theorem exprsL_still (n : Nat) (l : List Ex) : Still (exprsL c (orT c) n l) := by
 cases n with
 | zero => intro r h; rfl
 | succ n => intro r h; rw [exprsL, if_neg (by rw [peek_bad h]; decide)]
theorem exprsL_rd : ∀ (ms : List Ex), fineL ms = true -> ∀ (n : Nat) (acc : List Ex) (r : Rd) (L : List TK), ms.length ≤ n -> Sta c 40 r (cms ((shL ms).map fun y => tks y.2) ++ .sg [59] :: L) -> (exprsL c (orT c) n acc r).2.e = 0 →
 Sta c 40 (exprsL c (orT c) n acc r).2 (.sg [59] :: L) ∧ ∃ l, (exprsL c (orT c) n acc r).1 = acc ++ l ∧ Ex.erL l = Ex.erL ms
 | [], _, n, acc, r, L, hn, h, h0 => by
  have h : Sta c 40 r (.sg [59] :: L) := h
  cases n with
  | zero => exact ⟨h, [], by simp [exprsL], rfl⟩
  | succ n =>
   rw [exprsL, if_neg (by rw [h.peek]; exact fun h => by cases h)]
   exact ⟨h, [], by simp, rfl⟩
 | m :: ms, hf, n, acc, r, L, hn, h, h0 => by
  rw [fineL, Bool.and_eq_true] at hf
  have h : Sta c 40 r (.sg [44] :: (tks (shP m) ++ (cms ((shL ms).map fun y => tks y.2) ++ .sg [59] :: L))) := by simpa [shL, cms] using h
  cases n with
  | zero => simp at hn
  | succ n =>
   rw [exprsL, if_pos (by rw [h.peek]; rfl)] at h0 ⊢
   simp only at h0 ⊢
   have h1 := h.t2 (s := [44]) rfl
   generalize t2 c [44] r = r1 at h0 h1 ⊢
   have e1 := back0 (exprsL_still n _) h0
   have e2 := back0 orT_still e1
   by_cases hz : acc.length = 32 ∧ begR c r1 = true
   · rw [if_pos hz] at e2; exact absurd e2 (fail_ne (by decide) r1)
   · rw [if_neg hz] at h0 e1 ⊢
     obtain ⟨g1, g2⟩ := or_rd hf.1 r1 _ h1 (by
      cases ms with
      | nil => exact kw_stop (w := [59]) (by decide) (.inl rfl) _
      | cons y ys => exact comma_stop _) e1
     obtain ⟨g3, l, g4, g5⟩ := exprsL_rd ms hf.2 n (acc ++ [(orT c r1).1]) _ L (by simpa using hn) g1 h0
     exact ⟨g3, (orT c r1).1 :: l, by rw [g4]; simp, by simp only [Ex.erL, g2, g5]⟩
theorem cms_len : ∀ ms : List (List TK), ms.length ≤ (cms ms).length
 | [] => by simp
 | m :: ms => by have := cms_len ms; simp [cms]; omega
theorem stage_rd {x : StageP} (hf : fineSt x = true) : Rd1 c (stageR c (orT c)) (tks (stagePc x)) (fun z => z.er = x.er) (fun _ => True) := by
 intro r L h _ h0
 have hf0 := hf
 unfold fineSt at hf
 simp only [Bool.and_eq_true, Bool.or_eq_true, decide_eq_true_eq] at hf
 obtain ⟨f1, f2, f3, f4, f5⟩ := hf
 have hk : x.k = 1 ∨ x.k = 2 ∨ x.k = 3 := by
  by_cases h1 : x.k = 1
  · exact .inl h1
  · rw [if_neg h1] at f5
    by_cases h2 : x.k = 2
    · exact .inr (.inl h2)
    · rw [if_neg h2] at f5
      by_cases h3 : x.k = 3
      · exact .inr (.inr h3)
      · rw [if_neg h3] at f5; cases f5
 -- the label
 have hlab : ∀ X : List TK, (∃ w Y, X = .wd w :: Y ∧ w ∈ resv) -> Sta c 40 r (tks (lbPc x.lb) ++ X) -> (labelR c r).1 = x.lb ∧ Sta c 40 (labelR c r).2 X := by
  rintro X ⟨w, Y, rfl, hw⟩ h
  unfold labelR
  by_cases hl : x.lb = []
  · have h : Sta c 40 r (.wd w :: Y) := by unfold lbPc at h; rw [if_pos hl] at h; exact h
    rw [if_neg (by rw [h.free]; simp [fre, hw])]
    exact ⟨hl.symm, h⟩
  · have h : Sta c 40 r (.wd x.lb :: .sg [58] :: .wd w :: Y) := by unfold lbPc at h; rw [if_neg hl] at h; exact h
    have hr := (nmd_of (f1.resolve_left hl)).2
    rw [if_pos (by rw [h.free]; simp [fre, hr])]
    obtain ⟨g1, g2⟩ := h.word hr
    rw [g1]
    exact ⟨rfl, g2.t2 rfl⟩
 unfold stagePc at h
 rw [tks_app, List.append_assoc] at h
 unfold stageR at h0 ⊢
 simp only at h0 ⊢
 rcases hk with hk | hk | hk
 · rw [if_pos hk] at h
   obtain ⟨l1, l2⟩ := hlab _ ⟨kwD, _, by unfold dealPc; rfl, by decide⟩ h
   rw [l1, if_pos (by rw [l2.peek]; unfold dealPc; rfl)] at h0 ⊢
   exact deal_rd hk hf0 rfl _ L l2 trivial h0
 · rw [if_neg (by omega), if_pos hk] at h
   obtain ⟨l1, l2⟩ := hlab _ ⟨kwT, _, by unfold turnPc; rfl, by decide⟩ h
   rw [l1, if_neg (by rw [l2.peek]; unfold turnPc; exact fun h => by cases h), if_pos (by rw [l2.peek]; unfold turnPc; rfl)] at h0 ⊢
   exact turn_rd hk hf0 rfl _ L l2 trivial h0
 · rw [if_neg (by omega), if_neg (by omega)] at h
   obtain ⟨l1, l2⟩ := hlab _ ⟨kwE, _, by unfold endPc; rfl, by decide⟩ h
   rw [l1, if_neg (by rw [l2.peek]; unfold endPc; exact fun h => by cases h), if_neg (by rw [l2.peek]; unfold endPc; exact fun h => by cases h)] at h0 ⊢
   rw [if_neg (by omega), if_neg (by omega), if_pos hk] at f5
   simp only [Bool.and_eq_true, decide_eq_true_eq] at f5
   obtain ⟨d1, d2, d3, d4, d5, d6⟩ := notD_of f5.1
   have f6 := f5.2.1
   unfold notT at f6
   simp only [Bool.and_eq_true, decide_eq_true_eq] at f6
   have w1 : x.who = [] := List.length_eq_zero_iff.1 f6.1
   have w2 : x.acts = [] := List.length_eq_zero_iff.1 f6.2
   obtain ⟨e, rest, hp⟩ : ∃ e rest, x.pays = e :: rest := by
    cases hq : x.pays with
    | nil => have := f5.2.2; rw [hq] at this; exact absurd rfl this
    | cons e rest => exact ⟨e, rest, rfl⟩
   rw [hp, fineL, Bool.and_eq_true] at f4
   have l3 : Sta c 40 (labelR c r).2 (.wd kwE :: .sg [123] :: .wd kwP :: (tks (shP e) ++ (cms ((shL rest).map fun y => tks y.2) ++ .sg [59] :: .sg [125] :: L))) := by
    unfold endPc at l2; rw [hp] at l2; simpa [tks, tks_app, shL, lsP, tks_flat] using l2
   generalize (labelR c r).2 = r1 at l3 h0 ⊢
   have g1 := (l3.take (s := [101, 110, 100]) rfl).2
   generalize takeR c [101, 110, 100] r1 = t at g1 h0 ⊢
   have g2 := g1.t2 (s := [123]) rfl
   have g3 := g2.t2 (s := [112, 97, 121]) rfl
   unfold exprsR at h0 ⊢
   have e1 := t2b (t2b h0)
   have e2 := back0 (exprsL_still _ _) e1
   obtain ⟨g4, g5⟩ := or_rd f4.1 _ _ g3 (by
    cases rest with
    | nil => exact kw_stop (w := [59]) (by decide) (.inl rfl) _
    | cons y ys => exact comma_stop _) e2
   have hle := g4.len
   have hcl := cms_len ((shL rest).map fun y => tks y.2)
   rw [List.length_append] at hle
   rw [List.length_map, shL_len] at hcl
   obtain ⟨g6, l, g7, g8⟩ := exprsL_rd rest f4.2 c.ts.length [(orT c (t2 c [112, 97, 121] (t2 c [123] t.2))).1] _ (.sg [125] :: L) (by omega) g4 e1
   refine ⟨(g6.t2 (s := [59]) rfl).t2 rfl, ?_⟩
   unfold StageP.er
   simp only [zStage, hk, d1, d2, d3, d4, d5, d6, w1, w2, hp, g7, List.cons_append, List.nil_append, Ex.erL, g5, g8]
end
end Go.Proofs.YthmdmnfojbnobaaGreatDoor
namespace Go.Proofs.YthmdmnfojbnobaaGreatDoor
open Go.Ab
def saf (r : List UInt8) : Prop := cAt r 0 ≠ 2 ∧ cAt r 0 ≠ 3
def sg2 (r : List UInt8) : Prop := r.getD 0 0 ≠ 61 ∧ r.getD 0 0 ≠ 46
theorem saf_c {c : UInt8} (h : decide (cls c.toNat ≠ 2 ∧ cls c.toNat ≠ 3) = true) (t : List UInt8) : saf (c :: t) := by
 have h := of_decide_eq_true h
 exact h
theorem sg2_c {c : UInt8} (h : decide (c ≠ 61 ∧ c ≠ 46) = true) (t : List UInt8) : sg2 (c :: t) := by
 have h := of_decide_eq_true h
 exact h
theorem sg2_app {s t : List UInt8} (h0 : s ≠ []) (h : sg2 s) : sg2 (s ++ t) := by
 cases s with
 | nil => exact absurd rfl h0
 | cons c s => exact h
theorem good_b {c : UInt8} (hc : decide (c = 32 ∨ c = 10) = true) {b : List Pc} (h : good b) : good (.b c :: b) := ⟨of_decide_eq_true hc, h⟩
theorem good_w {s : List UInt8} {b : List Pc} (hs : isWd s) (h : good b) (hf : saf (txt b)) : good (.t (.wd s) :: b) := ⟨hs, hf, h⟩
theorem good_n {n : Nat} {b : List Pc} (hn : n ≤ 1000000000) (h : good b) (hf : saf (txt b)) : good (.t (.nm n) :: b) := ⟨hn, hf, h⟩
theorem good_s {s : List UInt8} {b : List Pc} (hs : isSg s) (h : good b) (hf : s.length = 2 ∨ sg2 (txt b)) : good (.t (.sg s) :: b) := ⟨hs, hf, h⟩
theorem isSg1 {c : UInt8} (h : (sgls.contains c) = true) : isSg [c] := .inl ⟨c, by simpa using h, rfl⟩
theorem sg2_wd {s : List UInt8} (h : isWd s) : sg2 s ∧ s ≠ [] := by
 refine ⟨?_, h.1⟩
 have h2 := h.2.1
 unfold cAt at h2
 constructor
 · intro e; rw [e] at h2; exact absurd h2 (by decide)
 · intro e; rw [e] at h2; exact absurd h2 (by decide)
theorem sg2_nm {n : Nat} (hn : n ≤ 1000000000) : sg2 (decN n) ∧ decN n ≠ [] := by
 have hp := decF_pos 18 n
 have hd := decF_dig 18 n (by omega)
 refine ⟨?_, List.length_pos_iff.1 hp⟩
 unfold decN
 generalize decF 18 n = s at *
 cases s with
 | nil => simp at hp
 | cons c s =>
  have := hd c (by simp)
  refine ⟨fun e => ?_, fun e => ?_⟩
  · have e : c = 61 := e
    subst e
    have : (61 : UInt8).toNat = 61 := rfl
    omega
  · have e : c = 46 := e
    subst e
    have : (46 : UInt8).toNat = 46 := rfl
    omega
def GdE (ps : List Pc) : Prop := ∀ b, good b -> saf (txt b) -> sg2 (txt b) -> good (ps ++ b) ∧ sg2 (txt (ps ++ b))
def GdB (ps : List Pc) : Prop := ∀ b, good b -> good (ps ++ b)
theorem gd_op {k : Int} {x : List Pc} (h : GdE x) : GdE (opP (k, x)) := by
 by_cases hk : k = 1 ∨ k = 2 ∨ 18 ≤ k
 · rw [opP_pos hk]; exact h
 · rw [opP_neg hk]
   intro b hb h1 h2
   have hc : good (.t (.sg [41]) :: b) := good_s (isSg1 (by decide)) hb (.inr h2)
   obtain ⟨g1, g2⟩ := h _ hc (saf_c (c := 41) (by decide) _) (sg2_c (c := 41) (by decide) _)
   have e : .t (.sg [40]) :: (x ++ [.t (.sg [41])]) ++ b = .t (.sg [40]) :: (x ++ .t (.sg [41]) :: b) := by simp
   rw [e]
   exact ⟨good_s (isSg1 (by decide)) g1 (.inr g2), sg2_c (c := 40) (by decide) _⟩
theorem isWd_kw {w : List UInt8} (h : (decide (w ≠ []) && (decide (cAt w 0 = 2) && ((List.range w.length).all (fun i => decide (cAt w i = 2)) && decide (w.length ≤ 40)))) = true) : isWd w := by
 simp only [Bool.and_eq_true, decide_eq_true_eq, List.all_eq_true, List.mem_range] at h
 exact ⟨h.1, h.2.1, fun i hi => .inl (h.2.2.1 i hi), h.2.2.2⟩
theorem gd_ls : ∀ {l : List (Int × List Pc)}, (∀ y ∈ l, GdE y.2) -> ∀ b, good b -> saf (txt b) -> sg2 (txt b) -> good ((l.flatMap fun y => .t (.sg [44]) :: .b 32 :: y.2) ++ b) ∧ saf (txt ((l.flatMap fun y => .t (.sg [44]) :: .b 32 :: y.2) ++ b)) ∧ sg2 (txt ((l.flatMap fun y => .t (.sg [44]) :: .b 32 :: y.2) ++ b))
 | [], _, b, hb, h1, h2 => ⟨hb, h1, h2⟩
 | y :: l, h, b, hb, h1, h2 => by
  obtain ⟨g1, g2, g3⟩ := gd_ls (l := l) (fun z hz => h z (by simp [hz])) b hb h1 h2
  obtain ⟨g4, g5⟩ := h y (by simp) _ g1 g2 g3
  have e : ((y :: l).flatMap fun y => .t (.sg [44]) :: .b 32 :: y.2) ++ b = .t (.sg [44]) :: .b 32 :: (y.2 ++ ((l.flatMap fun y => .t (.sg [44]) :: .b 32 :: y.2) ++ b)) := by simp
  rw [e]
  exact ⟨good_s (isSg1 (by decide)) (good_b (by decide) g4) (.inr (sg2_c (c := 32) (by decide) _)), saf_c (c := 44) (by decide) _, sg2_c (c := 44) (by decide) _⟩
theorem gd_lsP {l : List (Int × List Pc)} (hl : l ≠ []) (h : ∀ y ∈ l, GdE y.2) : GdE (lsP l) := by
 cases l with
 | nil => exact absurd rfl hl
 | cons x r =>
  intro b hb h1 h2
  obtain ⟨g1, g2, g3⟩ := gd_ls (l := r) (fun z hz => h z (by simp [hz])) b hb h1 h2
  obtain ⟨g4, g5⟩ := h x (by simp) _ g1 g2 g3
  have e : lsP (x :: r) ++ b = x.2 ++ ((r.flatMap fun y => .t (.sg [44]) :: .b 32 :: y.2) ++ b) := by simp [lsP]
  rw [e]
  exact ⟨g4, g5⟩
theorem ndP_gd {l : List (Int × List Pc)} {i : Nat} (hi : i < l.length) (h : ∀ y ∈ l, GdE y.2) : GdE (ndP l i) := by
 unfold ndP
 rw [List.getElem?_eq_getElem hi]
 have := h l[i] (List.getElem_mem hi)
 exact gd_op (k := l[i].1) this
theorem shK_gd {op n p : Int} {nm : List UInt8} {l : List Ex} (hf : fineE (.mk op n nm l p) = true) (h : ∀ y ∈ shL l, GdE y.2) : GdE (shK op n nm (shL l)) := by
 obtain ⟨h1, h2, h3, h4, h5, h6, h7⟩ := fineE_iff.1 hf
 have hr := opN_cases h1
 have hlen := shL_len l
 intro b hb s1 s2
 by_cases e1 : op = 1
 · rw [shK, if_pos e1]
   have hn : n.toNat ≤ 1000000000 := by omega
   exact ⟨good_n hn hb s1, sg2_app (sg2_nm hn).2 (sg2_nm hn).1⟩
 by_cases e2 : op = 2
 · rw [shK, if_neg e1, if_pos e2]
   have hw := (nmd_of (h4.resolve_left (fun h => h e2))).1
   exact ⟨good_w hw hb s1, sg2_app (sg2_wd hw).2 (sg2_wd hw).1⟩
 by_cases e3 : op = 3
 · rw [shK, if_neg e1, if_neg e2, if_pos e3]
   have hl : 0 < (shL l).length := by rw [hlen]; subst e3; have : (l.length : Int) = 1 := h1; omega
   have g := (ndP_gd hl h) b hb s1 s2
   exact ⟨good_s (isSg1 (by decide)) (good_b (by decide) g.1) (.inr (sg2_c (c := 32) (by decide) _)), sg2_c (c := 45) (by decide) _⟩
 by_cases e4 : op = 4
 · rw [shK, if_neg e1, if_neg e2, if_neg e3, if_pos e4]
   have hl : 0 < (shL l).length := by rw [hlen]; subst e4; have : (l.length : Int) = 1 := h1; omega
   have g := (ndP_gd hl h) b hb s1 s2
   exact ⟨good_w (isWd_kw (by decide)) (good_b (by decide) g.1) (saf_c (c := 32) (by decide) _), sg2_c (c := 110) (by decide) _⟩
 by_cases e18 : 18 ≤ op
 · rw [shK, if_neg e1, if_neg e2, if_neg e3, if_neg e4, if_pos e18]
   have hl : shL l ≠ [] := by
    intro e
    rw [e] at hlen
    have h0 : (l.length : Int) = 0 := by rw [← hlen]; rfl
    have : op = 18 ∨ op = 19 ∨ op = 20 := by omega
    rcases this with rfl | rfl | rfl
    · have : (l.length : Int) = 2 := h1
      omega
    · have : (l.length : Int) = 2 := h1
      omega
    · have : (l.length : Int) = 3 := h1
      omega
   have hw : isWd (wrdT op) := by unfold wrdT; split <;> (try split) <;> exact isWd_kw (by decide)
   have hc : good (.t (.sg [41]) :: b) := good_s (isSg1 (by decide)) hb (.inr s2)
   have g := (gd_lsP hl h) _ hc (saf_c (c := 41) (by decide) _) (sg2_c (c := 41) (by decide) _)
   have e : .t (.wd (wrdT op)) :: .t (.sg [40]) :: (lsP (shL l) ++ [.t (.sg [41])]) ++ b = .t (.wd (wrdT op)) :: .t (.sg [40]) :: (lsP (shL l) ++ .t (.sg [41]) :: b) := by simp
   rw [e]
   exact ⟨good_w hw (good_s (isSg1 (by decide)) g.1 (.inr g.2)) (saf_c (c := 40) (by decide) _), sg2_app (sg2_wd hw).2 (sg2_wd hw).1⟩
 · rw [shK, if_neg e1, if_neg e2, if_neg e3, if_neg e4, if_neg e18]
   have hl2 : (l.length : Int) = 2 := by
    rw [h1]; unfold opN
    rw [if_neg (by omega), if_neg (by omega), if_neg (by omega), if_pos (by omega)]
   have g := (ndP_gd (i := 1) (by rw [hlen]; omega) h) b hb s1 s2
   have hk : good (.t (binT op) :: .b 32 :: (ndP (shL l) 1 ++ b)) := by
    have hb2 := good_b (c := 32) (by decide) g.1
    have : op = 5 ∨ op = 6 ∨ op = 7 ∨ op = 8 ∨ op = 9 ∨ op = 10 ∨ op = 11 ∨ op = 12 ∨ op = 13 ∨ op = 14 ∨ op = 15 ∨ op = 16 ∨ op = 17 := by omega
    rcases this with rfl | rfl | rfl | rfl | rfl | rfl | rfl | rfl | rfl | rfl | rfl | rfl | rfl
    · exact good_s (s := [42]) (isSg1 (by decide)) hb2 (.inr (sg2_c (c := 32) (by decide) _))
    · exact good_s (s := [47]) (isSg1 (by decide)) hb2 (.inr (sg2_c (c := 32) (by decide) _))
    · exact good_s (s := [37]) (isSg1 (by decide)) hb2 (.inr (sg2_c (c := 32) (by decide) _))
    · exact good_s (s := [43]) (isSg1 (by decide)) hb2 (.inr (sg2_c (c := 32) (by decide) _))
    · exact good_s (s := [45]) (isSg1 (by decide)) hb2 (.inr (sg2_c (c := 32) (by decide) _))
    · exact good_s (s := [61, 61]) (.inr (by decide)) hb2 (.inl rfl)
    · exact good_s (s := [33, 61]) (.inr (by decide)) hb2 (.inl rfl)
    · exact good_s (s := [60]) (isSg1 (by decide)) hb2 (.inr (sg2_c (c := 32) (by decide) _))
    · exact good_s (s := [60, 61]) (.inr (by decide)) hb2 (.inl rfl)
    · exact good_s (s := [62]) (isSg1 (by decide)) hb2 (.inr (sg2_c (c := 32) (by decide) _))
    · exact good_s (s := [62, 61]) (.inr (by decide)) hb2 (.inl rfl)
    · exact good_w (s := [97, 110, 100]) (isWd_kw (by decide)) hb2 (saf_c (c := 32) (by decide) _)
    · exact good_w (s := [111, 114]) (isWd_kw (by decide)) hb2 (saf_c (c := 32) (by decide) _)
   have g0 := (ndP_gd (i := 0) (by rw [hlen]; omega) h) _ (good_b (c := 32) (by decide) hk) (saf_c (c := 32) (by decide) _) (sg2_c (c := 32) (by decide) _)
   have e : ndP (shL l) 0 ++ .b 32 :: .t (binT op) :: .b 32 :: ndP (shL l) 1 ++ b = ndP (shL l) 0 ++ (.b 32 :: .t (binT op) :: .b 32 :: (ndP (shL l) 1 ++ b)) := by simp
   rw [e]
   exact g0
mutual
theorem shP_gd : ∀ e : Ex, fineE e = true -> GdE (shP e)
 | .mk op n nm l p, h => by
  rw [shP]
  exact shK_gd h (shL_gd l (fineE_iff.1 h).2.2.2.2.2.2)
theorem shL_gd : ∀ l : List Ex, fineL l = true -> ∀ y ∈ shL l, GdE y.2
 | [], _, y, hy => by simp [shL] at hy
 | x :: r, h, y, hy => by
  rw [fineL, Bool.and_eq_true] at h
  rw [shL, List.mem_cons] at hy
  rcases hy with rfl | hy
  · exact shP_gd x h.1
  · exact shL_gd r h.2 y hy
end
theorem GdB.app {a b : List Pc} (ha : GdB a) (hb : GdB b) : GdB (a ++ b) := fun r h => by rw [List.append_assoc]; exact ha _ (hb r h)
theorem GdB.flat {α : Type} {f : α -> List Pc} : ∀ {l : List α}, (∀ x ∈ l, GdB (f x)) -> GdB (l.flatMap f)
 | [], _ => fun b h => h
 | x :: r, h => by
  rw [List.flatMap_cons]
  exact (h x (by simp)).app (GdB.flat fun y hy => h y (by simp [hy]))
end Go.Proofs.YthmdmnfojbnobaaGreatDoor
namespace Go.Proofs.YthmdmnfojbnobaaGreatDoor
open Go.Ab
def sgnPc (n : Int) : List Pc := if n < 0 then [.t (.sg [45]), .b 32, .t (.nm n.natAbs)] else [.t (.nm n.natAbs)]
def varPc (v : VarP) : List Pc := .t (.wd kwV) :: .b 32 :: .t (.wd v.nm) :: .b 32 :: .t (.sg [61]) :: .b 32 :: (sgnPc v.n ++ [.t (.sg [59]), .b 10])
def rulesPc (r : RulesP) : List Pc := .t (.wd kwG) :: .b 32 :: .t (.wd r.nm) :: .t (.sg [59]) :: .b 10 :: .t (.wd kwPl) :: .b 32 :: .t (.nm r.pl.toNat) :: .t (.sg [59]) :: .b 10 :: (r.vars.flatMap varPc ++ r.stages.flatMap stagePc)
def fineV (v : VarP) : Bool := nmdF v.nm && (decide (-1000000000 ≤ v.n) && decide (v.n ≤ 1000000000))
def fineR (r : RulesP) : Bool := nmdF r.nm && (inB r.pl && (decide (r.stages.length ≠ 0) && (r.vars.all fineV && r.stages.all fineSt)))
theorem inB_of {n : Int} (h : inB n = true) : 0 ≤ n ∧ n ≤ 1000000000 := by
 unfold inB at h; simpa only [Bool.and_eq_true, decide_eq_true_eq] using h
theorem semi_good {b : List Pc} (h : good b) (h2 : sg2 (txt b)) : good (.t (.sg [59]) :: b) := good_s (isSg1 (by decide)) h (.inr h2)
theorem var_gd {v : VarP} (hf : fineV v = true) : GdB (varPc v) := by
 intro b hb
 unfold fineV at hf
 simp only [Bool.and_eq_true, decide_eq_true_eq] at hf
 have h1 := semi_good (good_b (c := 10) (by decide) hb) (sg2_c (c := 10) (by decide) _)
 have h2 : good (sgnPc v.n ++ .t (.sg [59]) :: .b 10 :: b) := by
  unfold sgnPc
  split
  · exact good_s (isSg1 (by decide)) (good_b (by decide) (good_n (by omega) h1 (saf_c (c := 59) (by decide) _))) (.inr (sg2_c (c := 32) (by decide) _))
  · exact good_n (by omega) h1 (saf_c (c := 59) (by decide) _)
 have e : varPc v ++ b = .t (.wd kwV) :: .b 32 :: .t (.wd v.nm) :: .b 32 :: .t (.sg [61]) :: .b 32 :: (sgnPc v.n ++ .t (.sg [59]) :: .b 10 :: b) := by simp [varPc]
 rw [e]
 exact good_w (isWd_kw (by decide)) (good_b (by decide) (good_w (nmd_of hf.1).1 (good_b (by decide) (good_s (isSg1 (by decide)) (good_b (by decide) h2) (.inr (sg2_c (c := 32) (by decide) _)))) (saf_c (c := 32) (by decide) _))) (saf_c (c := 32) (by decide) _)
def Fol (b : List Pc) : Prop := good b ∧ saf (txt b) ∧ sg2 (txt b)
theorem fol_b {c : UInt8} (hc : decide (c = 32 ∨ c = 10) = true) {b : List Pc} (h : good b) : Fol (.b c :: b) := by
 have hc' := of_decide_eq_true hc
 refine ⟨good_b hc h, ?_, ?_⟩
 · rcases hc' with rfl | rfl <;> exact saf_c (by decide) _
 · rcases hc' with rfl | rfl <;> exact sg2_c (by decide) _
theorem fol_s {c : UInt8} (hc : (sgls.contains c) = true) (h1 : decide (cls c.toNat ≠ 2 ∧ cls c.toNat ≠ 3) = true) (h2 : decide (c ≠ 61 ∧ c ≠ 46) = true) {b : List Pc} (h : good b) (h3 : sg2 (txt b)) : Fol (.t (.sg [c]) :: b) :=
 ⟨good_s (isSg1 hc) h (.inr h3), saf_c h1 _, sg2_c h2 _⟩
theorem set_gd {s : SetP} (hf : fineS s = true) {b : List Pc} (h : Fol b) : Fol (setPc s ++ b) := by
 unfold fineS at hf
 rw [Bool.and_eq_true] at hf
 have h1 := semi_good h.1 h.2.2
 have h2 := (shP_gd s.e hf.2) _ h1 (saf_c (c := 59) (by decide) _) (sg2_c (c := 59) (by decide) _)
 have e : setPc s ++ b = .b 32 :: .t (.wd s.nm) :: .b 32 :: .t (.sg [61]) :: .b 32 :: (shP s.e ++ .t (.sg [59]) :: b) := by simp [setPc]
 rw [e]
 exact fol_b (by decide) (good_w (nmd_of hf.1).1 (good_b (by decide) (good_s (isSg1 (by decide)) (good_b (by decide) h2.1) (.inr (sg2_c (c := 32) (by decide) _)))) (saf_c (c := 32) (by decide) _))
theorem sets_gd : ∀ {ss : List SetP}, (ss.all fineS) = true -> ∀ {b : List Pc}, Fol b -> Fol (ss.flatMap setPc ++ b)
 | [], _, b, h => h
 | s :: ss, hf, b, h => by
  rw [List.all_cons, Bool.and_eq_true] at hf
  rw [List.flatMap_cons, List.append_assoc]
  exact set_gd hf.1 (sets_gd hf.2 h)
theorem opt_gd {w : List UInt8} {l : List Ex} (hw : isWd w) (hf : fineL l = true) {b : List Pc} (h : Fol b) : Fol (optPc w l ++ b) := by
 cases l with
 | nil => exact h
 | cons e r =>
  rw [fineL, Bool.and_eq_true] at hf
  have h2 := (shP_gd e hf.1) b h.1 h.2.1 h.2.2
  exact fol_b (by decide) (good_w hw (good_b (by decide) h2.1) (saf_c (c := 32) (by decide) _))
theorem act_gd {a : ActP} (hf : fineA a = true) : GdB (actPc a) := by
 intro b hb
 unfold fineA at hf
 simp only [Bool.and_eq_true, Bool.or_eq_true, decide_eq_true_eq] at hf
 obtain ⟨f1, f2, f3, f4, f5⟩ := hf
 have h1 : Fol (goPc a.go ++ .b 10 :: b) := by
  unfold goPc
  split
  · exact fol_b (by decide) hb
  · rename_i hg
    exact fol_b (by decide) (good_w (isWd_kw (by decide)) (good_b (by decide) (good_w (nmd_of (f4.resolve_left hg)).1 (semi_good (good_b (c := 10) (by decide) hb) (sg2_c (c := 10) (by decide) _)) (saf_c (c := 59) (by decide) _))) (saf_c (c := 32) (by decide) _))
 have h2 : Fol (.b 32 :: .t (.sg [125]) :: (goPc a.go ++ .b 10 :: b)) := fol_b (by decide) (fol_s (by decide) (by decide) (by decide) h1.1 h1.2.2).1
 have h3 := sets_gd f5 h2
 have h4 : Fol (.b 32 :: .t (.sg [123]) :: (a.sets.flatMap setPc ++ .b 32 :: .t (.sg [125]) :: (goPc a.go ++ .b 10 :: b))) := fol_b (by decide) (fol_s (by decide) (by decide) (by decide) h3.1 h3.2.2).1
 have h5 : Fol (flagPc kwH a.hid ++ .b 32 :: .t (.sg [123]) :: (a.sets.flatMap setPc ++ .b 32 :: .t (.sg [125]) :: (goPc a.go ++ .b 10 :: b))) := by
  unfold flagPc
  split
  · exact fol_b (by decide) (good_w (isWd_kw (by decide)) h4.1 h4.2.1)
  · exact h4
 have h6 := opt_gd (w := kwWh) (isWd_kw (by decide)) f3 h5
 have e : actPc a ++ b = .b 32 :: .b 32 :: .t (.wd kwAc) :: .b 32 :: .t (.wd a.nm) :: (optPc kwWh a.wh ++ (flagPc kwH a.hid ++ .b 32 :: .t (.sg [123]) :: (a.sets.flatMap setPc ++ .b 32 :: .t (.sg [125]) :: (goPc a.go ++ .b 10 :: b)))) := by simp [actPc]
 rw [e]
 exact good_b (by decide) (good_b (by decide) (good_w (isWd_kw (by decide)) (good_b (by decide) (good_w (nmd_of f1).1 h6.1 h6.2.1)) (saf_c (c := 32) (by decide) _)))
theorem nms_gd : ∀ {ms : List Int}, (ms.all inB) = true -> ∀ {b : List Pc}, Fol b -> Fol ((ms.flatMap fun m => [.t (.sg [44]), .b 32, .t (.nm m.toNat)]) ++ b)
 | [], _, b, h => h
 | m :: ms, hf, b, h => by
  rw [List.all_cons, Bool.and_eq_true] at hf
  have h1 := nms_gd hf.2 h
  have := inB_of hf.1
  rw [List.flatMap_cons, List.append_assoc]
  exact fol_s (by decide) (by decide) (by decide) (good_b (by decide) (good_n (by omega) h1.1 h1.2.1)) (sg2_c (c := 32) (by decide) _)
theorem stage_gd {x : StageP} (hf : fineSt x = true) : GdB (stagePc x) := by
 intro b hb
 unfold fineSt at hf
 simp only [Bool.and_eq_true, Bool.or_eq_true, decide_eq_true_eq] at hf
 obtain ⟨f1, f2, f3, f4, f5⟩ := hf
 unfold stagePc
 rw [List.append_assoc]
 have hlab : ∀ X, good X -> good (lbPc x.lb ++ X) := by
  intro X hX
  unfold lbPc
  split
  · exact hX
  · rename_i hl
    exact good_w (nmd_of (f1.resolve_left hl)).1 (good_s (isSg1 (by decide)) (good_b (by decide) hX) (.inr (sg2_c (c := 32) (by decide) _))) (saf_c (c := 58) (by decide) _)
 refine hlab _ ?_
 have hend := good_b (c := 10) (by decide) hb
 by_cases h1 : x.k = 1
 · rw [if_pos h1] at f5 ⊢
   simp only [Bool.and_eq_true, Bool.or_eq_true, decide_eq_true_eq, Bool.not_eq_true'] at f5
   obtain ⟨g1, g2, g3, g4, g5, g6, g7, g8⟩ := f5
   have q5 := inB_of g5
   have q6 := inB_of g6
   have k1 : Fol (.t (.sg [59]) :: .b 10 :: b) := fol_s (by decide) (by decide) (by decide) hend (sg2_c (c := 10) (by decide) _)
   have k2 : Fol (seenPc x.seen ++ .t (.sg [59]) :: .b 10 :: b) := by
    cases hs : x.seen with
    | nil => exact k1
    | cons m ms =>
     rw [hs, List.all_cons, Bool.and_eq_true] at g1
     have q := nms_gd g1.2 k1
     have qm := inB_of g1.1
     have e : seenPc (m :: ms) ++ .t (.sg [59]) :: .b 10 :: b = .b 32 :: .t (.wd kwS) :: .b 32 :: .t (.wd kwB) :: .b 32 :: .t (.nm m.toNat) :: ((ms.flatMap fun m => [.t (.sg [44]), .b 32, .t (.nm m.toNat)]) ++ .t (.sg [59]) :: .b 10 :: b) := rfl
     rw [e]
     exact fol_b (by decide) (good_w (isWd_kw (by decide)) (good_b (by decide) (good_w (isWd_kw (by decide)) (good_b (by decide) (good_n (by omega) q.1 q.2.1)) (saf_c (c := 32) (by decide) _))) (saf_c (c := 32) (by decide) _))
   have k3 : Fol (allPc x.all ++ (seenPc x.seen ++ .t (.sg [59]) :: .b 10 :: b)) := by
    unfold allPc
    split
    · exact fol_b (by decide) (good_w (isWd_kw (by decide)) (good_b (by decide) (good_w (isWd_kw (by decide)) (good_b (by decide) (good_w (isWd_kw (by decide)) k2.1 k2.2.1)) (saf_c (c := 32) (by decide) _))) (saf_c (c := 32) (by decide) _))
    · exact k2
   have k4 := opt_gd (w := kwW) (isWd_kw (by decide)) f2 k3
   have e : dealPc x ++ b = .t (.wd kwD) :: .b 32 :: .t (.wd x.nm) :: .b 32 :: .t (.wd kwI) :: .b 32 :: .t (.nm x.lo.toNat) :: .b 32 :: .t (.sg [46, 46]) :: .b 32 :: .t (.nm x.hi.toNat) :: (optPc kwW x.wt ++ (allPc x.all ++ (seenPc x.seen ++ .t (.sg [59]) :: .b 10 :: b))) := by simp [dealPc]
   rw [e]
   exact good_w (isWd_kw (by decide)) (good_b (by decide) (good_w (nmd_of g4).1 (good_b (by decide) (good_w (isWd_kw (by decide)) (good_b (by decide) (good_n (by omega) (good_b (by decide) (good_s (.inr (by decide)) (good_b (by decide) (good_n (by omega) k4.1 k4.2.1)) (.inl rfl))) (saf_c (c := 32) (by decide) _))) (saf_c (c := 32) (by decide) _))) (saf_c (c := 32) (by decide) _))) (saf_c (c := 32) (by decide) _)
 · rw [if_neg h1] at f5 ⊢
   by_cases h2 : x.k = 2
   · rw [if_pos h2] at f5 ⊢
     simp only [Bool.and_eq_true, decide_eq_true_eq] at f5
     have k1 : good (.t (.sg [125]) :: .b 10 :: b) := (fol_s (by decide) (by decide) (by decide) hend (sg2_c (c := 10) (by decide) _)).1
     have k2 := GdB.flat (f := actPc) (l := x.acts) (fun a ha => act_gd (List.all_eq_true.1 f5.1 a ha)) _ k1
     have k3 : Fol (.b 32 :: .t (.sg [123]) :: .b 10 :: (x.acts.flatMap actPc ++ .t (.sg [125]) :: .b 10 :: b)) := fol_b (by decide) (fol_s (by decide) (by decide) (by decide) (good_b (by decide) k2) (sg2_c (c := 10) (by decide) _)).1
     have k4 : good (whoP x.who ++ .b 32 :: .t (.sg [123]) :: .b 10 :: (x.acts.flatMap actPc ++ .t (.sg [125]) :: .b 10 :: b)) := by
      cases hw : x.who with
      | nil => exact k3.1
      | cons e r =>
       rw [hw, fineL, Bool.and_eq_true] at f3
       exact ((shP_gd e f3.1) _ k3.1 k3.2.1 k3.2.2).1
     have e : turnPc x ++ b = .t (.wd kwT) :: .b 32 :: (whoP x.who ++ .b 32 :: .t (.sg [123]) :: .b 10 :: (x.acts.flatMap actPc ++ .t (.sg [125]) :: .b 10 :: b)) := by simp [turnPc]
     rw [e]
     exact good_w (isWd_kw (by decide)) (good_b (by decide) k4) (saf_c (c := 32) (by decide) _)
   · rw [if_neg h2] at f5 ⊢
     by_cases h3 : x.k = 3
     · rw [if_pos h3] at f5
       simp only [Bool.and_eq_true, decide_eq_true_eq] at f5
       have hne : shL x.pays ≠ [] := by
        intro e
        have := shL_len x.pays
        rw [e] at this
        exact f5.2.2 this.symm
       have k1 : Fol (.t (.sg [59]) :: .b 32 :: .t (.sg [125]) :: .b 10 :: b) := fol_s (by decide) (by decide) (by decide) (good_b (by decide) (fol_s (by decide) (by decide) (by decide) hend (sg2_c (c := 10) (by decide) _)).1) (sg2_c (c := 32) (by decide) _)
       have k2 := (gd_lsP hne (shL_gd x.pays f4)) _ k1.1 k1.2.1 k1.2.2
       have e : endPc x ++ b = .t (.wd kwE) :: .b 32 :: .t (.sg [123]) :: .b 32 :: .t (.wd kwP) :: .b 32 :: (lsP (shL x.pays) ++ .t (.sg [59]) :: .b 32 :: .t (.sg [125]) :: .b 10 :: b) := by simp [endPc]
       rw [e]
       exact good_w (isWd_kw (by decide)) (good_b (by decide) (good_s (isSg1 (by decide)) (good_b (by decide) (good_w (isWd_kw (by decide)) (good_b (by decide) k2.1) (saf_c (c := 32) (by decide) _))) (.inr (sg2_c (c := 32) (by decide) _)))) (saf_c (c := 32) (by decide) _)
     · rw [if_neg h3] at f5; cases f5
theorem rules_gd {r : RulesP} (hf : fineR r = true) : good (rulesPc r) := by
 unfold fineR at hf
 simp only [Bool.and_eq_true, decide_eq_true_eq] at hf
 obtain ⟨f1, f2, f3, f4, f5⟩ := hf
 have q := inB_of f2
 have k1 := GdB.flat (f := varPc) (l := r.vars) (fun v hv => var_gd (List.all_eq_true.1 f4 v hv))
 have k2 := GdB.flat (f := stagePc) (l := r.stages) (fun x hx => stage_gd (List.all_eq_true.1 f5 x hx))
 have k3 := k1 _ (k2 [] trivial)
 rw [List.append_nil] at k3
 unfold rulesPc
 exact good_w (isWd_kw (by decide)) (good_b (by decide) (good_w (nmd_of f1).1 (semi_good (good_b (by decide) (good_w (isWd_kw (by decide)) (good_b (by decide) (good_n (by omega) (semi_good (good_b (by decide) k3) (sg2_c (c := 10) (by decide) _)) (saf_c (c := 59) (by decide) _))) (saf_c (c := 32) (by decide) _))) (sg2_c (c := 10) (by decide) _)) (saf_c (c := 59) (by decide) _))) (saf_c (c := 32) (by decide) _)
section
variable {c : Cx}
theorem var_rd {v : VarP} (hf : fineV v = true) (acc : List VarP) : Rd1 c (varR c acc) (tks (varPc v)) (fun x => x.er = v.er) (fun _ => True) := by
 intro r L h _ h0
 unfold fineV at hf
 simp only [Bool.and_eq_true, decide_eq_true_eq] at hf
 have h : Sta c 40 r (.wd kwV :: .wd v.nm :: .sg [61] :: (tks (sgnPc v.n) ++ .sg [59] :: L)) := by
  unfold varPc at h; simpa [tks, tks_app] using h
 unfold varR at h0 ⊢
 simp only at h0 ⊢
 have h1 := h.t2 (s := [118, 97, 114]) rfl
 generalize t2 c [118, 97, 114] r = r0 at h0 h1 ⊢
 have e1 := back0 num_still (t2b h0)
 have e2 := back0 (flag_still _) e1
 have e3 := back0 word_still (t2b e2)
 by_cases hz : acc.length = 40 ∧ freeR c r0 = true
 · rw [if_pos hz] at e3; exact absurd e3 (fail_ne (by decide) r0)
 · rw [if_neg hz] at h0 e1 e2 ⊢
   obtain ⟨g1, g2⟩ := h1.word (nmd_of hf.1).2
   rw [g1] at h0 e1 e2 ⊢
   simp only at h0 e1 e2 ⊢
   have g3 := g2.t2 (s := [61]) rfl
   generalize t2 c [61] (nextR r0) = r1 at g3 h0 e1 e2 ⊢
   by_cases hn : v.n < 0
   · have g3 : Sta c 40 r1 (.sg [45] :: .nm v.n.natAbs :: .sg [59] :: L) := by unfold sgnPc at g3; rw [if_pos hn] at g3; exact g3
     have g4 := g3.t2 (s := [45]) rfl
     have e : flagR c [45] r1 = (true, t2 c [45] r1) := by unfold flagR; rw [if_pos (by rw [g3.peek]; rfl)]
     rw [e] at h0 ⊢
     obtain ⟨g5, g6⟩ := g4.numb
     simp only at h0 ⊢
     rw [g5] at h0 ⊢
     refine ⟨g6.t2 rfl, ?_⟩
     have w : IntKind.i64.wrap (-1 * ((v.n.natAbs : Nat) : Int)) = v.n := by rw [wrap_id (by omega) (by omega)]; omega
     unfold VarP.er
     simp only [if_true, w]
   · have g3 : Sta c 40 r1 (.nm v.n.natAbs :: .sg [59] :: L) := by unfold sgnPc at g3; rw [if_neg hn] at g3; exact g3
     have e : flagR c [45] r1 = (false, r1) := by unfold flagR; rw [if_neg (by rw [g3.peek]; exact fun h => by cases h)]
     rw [e] at h0 ⊢
     obtain ⟨g5, g6⟩ := g3.numb
     simp only at h0 ⊢
     rw [g5] at h0 ⊢
     refine ⟨g6.t2 rfl, ?_⟩
     have w : IntKind.i64.wrap (1 * ((v.n.natAbs : Nat) : Int)) = v.n := by rw [wrap_id (by omega) (by omega)]; omega
     unfold VarP.er
     simp only [Bool.false_eq_true, if_false, w]
theorem vars_still (n : Nat) (l : List VarP) : Still (varsL c n l) := by
 cases n with
 | zero => intro r h; rfl
 | succ n => intro r h; rw [varsL, if_neg (by rw [peek_bad h]; decide)]
theorem vars_rd : ∀ (vs : List VarP), (vs.all fineV) = true -> ∀ (n : Nat) (acc : List VarP) (r : Rd) (L : List TK), vs.length ≤ n -> pk L kwV = false -> Sta c 40 r (tks (vs.flatMap varPc) ++ L) -> (varsL c n acc r).2.e = 0 →
 Sta c 40 (varsL c n acc r).2 L ∧ ∃ l, (varsL c n acc r).1 = acc ++ l ∧ l.map VarP.er = vs.map VarP.er
 | [], _, n, acc, r, L, hn, hL, h, h0 => by
  have h : Sta c 40 r L := h
  cases n with
  | zero => exact ⟨h, [], by simp [varsL], rfl⟩
  | succ n =>
   rw [varsL, if_neg (by rw [h.peek]; exact fun h => by rw [show pk L [118, 97, 114] = false from hL] at h; cases h)]
   exact ⟨h, [], by simp, rfl⟩
 | v :: vs, hf, n, acc, r, L, hn, hL, h, h0 => by
  rw [List.all_cons, Bool.and_eq_true] at hf
  have h : Sta c 40 r (tks (varPc v) ++ (tks (vs.flatMap varPc) ++ L)) := by
   rw [List.flatMap_cons, tks_app, List.append_assoc] at h; exact h
  cases n with
  | zero => simp at hn
  | succ n =>
   rw [varsL, if_pos (by rw [h.peek]; rfl)] at h0 ⊢
   have e1 := back0 (vars_still n _) h0
   obtain ⟨g1, g2⟩ := var_rd hf.1 acc r _ h trivial e1
   obtain ⟨g3, l, g4, g5⟩ := vars_rd vs hf.2 n (acc ++ [(varR c acc r).1]) _ L (by simpa using hn) hL g1 h0
   exact ⟨g3, (varR c acc r).1 :: l, by rw [g4]; simp, by simp only [List.map_cons, g2, g5]⟩
theorem stagesL_still (n : Nat) (l : List StageP) : Still (stagesL c (orT c) n l) := by
 cases n with
 | zero => intro r h; rfl
 | succ n => intro r h; rw [stagesL, if_neg (fun h2 => h h2.1)]
theorem stage_ne (x : StageP) : tks (stagePc x) ≠ [] := by
 unfold stagePc
 rw [tks_app]
 split
 · unfold dealPc; simp [tks]
 · split
   · unfold turnPc; simp [tks]
   · unfold endPc; simp [tks]
theorem stages_rd : ∀ (ss : List StageP), (ss.all fineSt) = true -> ∀ (n : Nat) (acc : List StageP) (r : Rd), ss.length < n -> (acc ≠ [] ∨ ss ≠ []) -> Sta c 40 r (tks (ss.flatMap stagePc)) -> (stagesL c (orT c) n acc r).2.e = 0 →
   ∃ l, (stagesL c (orT c) n acc r).1 = acc ++ l ∧ l.map StageP.er = ss.map StageP.er
 | [], _, n, acc, r, hn, ha, h, h0 => by
   have h : Sta c 40 r [] := h
   cases n with
   | zero => simp at hn
   | succ n =>
     have := h.rem.end
     rw [stagesL, if_neg (by rintro ⟨_, h2 | h2⟩; · exact (ha.resolve_right (fun h => h rfl)) h2
                             · omega)]
     exact ⟨[], by simp, rfl⟩
 | s :: ss, hf, n, acc, r, hn, ha, h, h0 => by
   rw [List.all_cons, Bool.and_eq_true] at hf
   have h : Sta c 40 r (tks (stagePc s) ++ tks (ss.flatMap stagePc)) := by
     rw [List.flatMap_cons, tks_app] at h; exact h
   cases n with
   | zero => simp at hn
   | succ n =>
     have hlt : r.a < c.ts.length := by
       have h2 := h.rem
       cases hq : tks (stagePc s) with
       | nil => exact absurd hq (stage_ne s)
       | cons k X => rw [hq] at h2; exact h2.lt.1
     rw [stagesL, if_pos ⟨h.e, .inr hlt⟩] at h0 ⊢
     have e1 := back0 (stagesL_still n _) h0
     have e2 := back0 (stage_still orT_still) e1
     have hful : fullR c acc r = r := by
       unfold fullR at e2 ⊢
       split at e2
       · exact absurd e2 (fail_ne (by decide) r)
       · rename_i hz; rw [if_neg hz]
     rw [hful] at h0 e1 ⊢
     obtain ⟨g1, g2⟩ := stage_rd hf.1 r _ h trivial e1
     obtain ⟨l, g4, g5⟩ := stages_rd ss hf.2 n (acc ++ [(stageR c (orT c) r).1]) _ (by simpa using hn) (.inl (by simp)) g1 h0
     exact ⟨(stageR c (orT c) r).1 :: l, by rw [g4]; simp, by simp only [List.map_cons, g2, g5]⟩
theorem flat_len {α : Type} {f : α -> List Pc} (hf : ∀ x, tks (f x) ≠ []) : ∀ l : List α, l.length ≤ (tks (l.flatMap f)).length
 | [] => by simp
 | s :: ss => by
  have := flat_len hf ss
  rw [List.flatMap_cons, tks_app, List.length_append]
  have : 1 ≤ (tks (f s)).length := List.length_pos_iff.2 (hf s)
  simp only [List.length_cons]; omega
theorem stage_head {ss : List StageP} (hf : (ss.all fineSt) = true) : pk (tks (ss.flatMap stagePc)) kwV = false := by
 cases ss with
 | nil => rfl
 | cons s ss =>
  rw [List.all_cons, Bool.and_eq_true] at hf
  rw [List.flatMap_cons, tks_app]
  unfold stagePc
  rw [tks_app, List.append_assoc]
  have hb := hf.1
  unfold fineSt at hb
  simp only [Bool.and_eq_true, Bool.or_eq_true, decide_eq_true_eq] at hb
  by_cases hl : s.lb = []
  · have e : lbPc s.lb = [] := by unfold lbPc; rw [if_pos hl]
    rw [e]
    split
    · rfl
    · split <;> rfl
  · have e : lbPc s.lb = [.t (.wd s.lb), .t (.sg [58]), .b 32] := by unfold lbPc; rw [if_neg hl]
    rw [e]
    have hr := (nmd_of (hb.1.resolve_left hl)).2
    have hne : s.lb ≠ kwV := fun e => hr (by rw [e]; decide)
    simp [tks, pk, hne]
end
theorem parse_back {r : RulesP} (hf : fineR r = true) (h0 : (parseR (txt (rulesPc r))).2.1 = 0) : (parseR (txt (rulesPc r))).1.er = r.er := by
 have hg := rules_gd hf
 unfold parseR at h0 ⊢
 by_cases hsc : (scanG (txt (rulesPc r))).2.1 = 0
 · rw [if_neg (fun h => h hsc)] at h0 ⊢
   have hA := scan_txt hg hsc
   generalize hts : (scanG (txt (rulesPc r))).1 = ts at *
   generalize (txt (rulesPc r)).length = en at *
   unfold fineR at hf
   simp only [Bool.and_eq_true, decide_eq_true_eq] at hf
   obtain ⟨f1, f2, f3, f4, f5⟩ := hf
   have q := inB_of f2
   have hst : Sta ⟨ts, en⟩ 40 ⟨0, 0, 0, 0⟩ (.wd kwG :: .wd r.nm :: .sg [59] :: .wd kwPl :: .nm r.pl.toNat :: .sg [59] :: (tks (r.vars.flatMap varPc) ++ tks (r.stages.flatMap stagePc))) := by
    refine ⟨rfl, ?_, rfl, by decide⟩
    unfold Rem
    rw [List.drop_zero]
    unfold rulesPc at hA
    simpa [tks, tks_app] using hA
   generalize (⟨0, 0, 0, 0⟩ : Rd) = r0 at hst
   unfold parseT at h0 ⊢
   simp only at h0 ⊢
   have hst : Sta ⟨ts, en⟩ 40 ⟨0, 0, 0, 0⟩ (.wd kwG :: .wd r.nm :: .sg [59] :: .wd kwPl :: .nm r.pl.toNat :: .sg [59] :: (tks (r.vars.flatMap varPc) ++ tks (r.stages.flatMap stagePc))) := by
    refine ⟨rfl, ?_, rfl, by decide⟩
    unfold Rem
    rw [List.drop_zero]
    unfold rulesPc at hA
    simpa [tks, tks_app] using hA
   have g1 := hst.t2 (s := [103, 97, 109, 101]) rfl
   obtain ⟨g2, g3⟩ := g1.word (nmd_of f1).2
   rw [g2] at h0 ⊢
   simp only at h0 ⊢
   generalize nextR (t2 ⟨ts, en⟩ [103, 97, 109, 101] ⟨0, 0, 0, 0⟩) = r1 at g3 h0 ⊢
   have g4 := (g3.t2 (s := [59]) rfl).t2 (s := [112, 108, 97, 121, 101, 114, 115]) rfl
   obtain ⟨g5, g6⟩ := g4.numb
   rw [g5] at h0 ⊢
   simp only at h0 ⊢
   generalize nextR (t2 ⟨ts, en⟩ [112, 108, 97, 121, 101, 114, 115] (t2 ⟨ts, en⟩ [59] r1)) = r2 at g6 h0 ⊢
   have g7 := g6.t2 (s := [59]) rfl
   have hle := g7.len
   rw [List.length_append] at hle
   have hv := flat_len (f := varPc) (fun x => by unfold varPc; simp [tks]) r.vars
   have hs := flat_len (f := stagePc) stage_ne r.stages
   by_cases hz : (stagesL ⟨ts, en⟩ (orT ⟨ts, en⟩) (ts.length + 1) [] (varsL ⟨ts, en⟩ ts.length [] (t2 ⟨ts, en⟩ [59] r2)).2).2.e = 0
   · rw [if_neg (fun h => h hz)]
     have e1 := back0 (stagesL_still _ _) hz
     have hle' : (tks (r.vars.flatMap varPc)).length + (tks (r.stages.flatMap stagePc)).length ≤ ts.length := hle
     obtain ⟨k1, l, k2, k3⟩ := vars_rd r.vars f4 ts.length [] _ _ (by omega) (stage_head f5) g7 e1
     obtain ⟨l2, k4, k5⟩ := stages_rd r.stages f5 (ts.length + 1) [] _ (by omega) (.inr fun h => f3 (by rw [h]; rfl)) k1 hz
     have hpl : ((r.pl.toNat : Nat) : Int) = r.pl := by omega
     unfold RulesP.er
     simp only [k2, k4, List.nil_append, k3, k5, hpl]
   · rw [if_pos hz] at h0
     exact absurd h0 hz
 · rw [if_pos hsc] at h0; exact absurd h0 hsc
end Go.Proofs.YthmdmnfojbnobaaGreatDoor
namespace Go.Proofs.YthmdmnfojbnobaaGreatDoor
open Go.Ab
section
variable {H : List AO}
theorem loop96 {l : List Ex} (hl : l.length ≤ 3) (hIH : ∀ e ∈ l, ∀ H : List AO, Ok Tryz.prog 96 [e.v] H (.ret (bl (fineE e))) H) {op n : Int} {nm : List UInt8} {p : Int} {N : Nat} {K : XE -> Env -> List AO -> Prop}
 (hret : fineL l = false -> ∀ env G, env.get 2 = bl false -> K .ret env (H ++ ⟨[i64 op, i64 n, st (B nm), .slc (Ex.cL l) l.length, i64 p], 53, 0, true⟩ :: G))
 (hexit : fineL l = true -> ∀ env G, K (.exit 0) env (H ++ ⟨[i64 op, i64 n, st (B nm), .slc (Ex.cL l) l.length, i64 p], 53, 0, true⟩ :: G)) :
 ∀ (m i : Nat) (G : List AO) (env : Env), i + m = l.length -> fineL l = fineL (l.drop i) -> env.get 1 = rp H.length -> env.get 3 = i64 i →
  LI Tryz.prog N drawB l96_0 env (H ++ ⟨[i64 op, i64 n, st (B nm), .slc (Ex.cL l) l.length, i64 p], 53, 0, true⟩ :: G) K := by
 intro m
 induction m with
 | zero =>
  intro i G env hi hq h1 h3
  refine li_go hm l96_0.eq_1 ?_
  have e : i = l.length := by omega
  subst e
  rw [List.drop_length] at hq
  simp -implicitDefEqProofs [h1, h3, rp]
  exact hexit hq _ _
 | succ m ih =>
  intro i G env hi hq h1 h3
  refine li_go hm l96_0.eq_1 ?_
  have hlt : i < l.length := by omega
  have hlt' : (i : Int) < l.length := by omega
  have hg := exL_get hlt
  have hcl := exL_len l
  rw [List.drop_eq_getElem_cons hlt, fineL] at hq
  have h := hIH l[i] (List.getElem_mem hlt)
  generalize l[i] = e at hq hg h
  simp -implicitDefEqProofs [h1, h3, rp, hlt, hlt', hg, hcl]
  refine ⟨by omega, call_go (h _) ?_⟩
  cases he : fineE e with
  | true =>
   rw [he, Bool.true_and] at hq
   simp -implicitDefEqProofs [h1, h3, rp]
   refine ih (i + 1) G _ (by omega) hq ?_ ?_
   all_goals simp [h1, rp, wrap_suc (show i < 9223372036854775807 by omega)]
  | false =>
   rw [he, Bool.false_and] at hq
   simp -implicitDefEqProofs [h1, h3, rp]
   exact hret hq _ _ (by simp)
theorem ok96_go (hcl : closed H) {op n : Int} {nm : List UInt8} {l : List Ex} {p : Int} (hnm : nm.length < 4611686018427387904) (hIH : ∀ e ∈ l, ∀ H : List AO, Ok Tryz.prog 96 [e.v] H (.ret (bl (fineE e))) H) :
 X Tryz.prog Tryz.f96.ntmps drawB i96 (argsEnv [(Ex.mk op n nm l p).v]) H (Fin H.length r96 (.ret (bl (fineE (.mk op n nm l p)))) H) := by
 generalize hw : fineE (.mk op n nm l p) = w
 rw [fineE] at hw
 have h111 := fun H => ok111 (H := H) op
 have h43 := fun H => ok43 (H := H) hnm
 generalize hk : opN op = k at hw h111
 simp -implicitDefEqProofs [i96, r96, Ex.v, Ex.c]
 refine callq_go (fun _ => h111 _) ?_
 by_cases a1 : (l.length : Int) = k
 · have hl3 : l.length ≤ 3 := by
    have : opN op ≤ 3 := by unfold opN; split <;> (try split) <;> (try split) <;> (try split) <;> omega
    omega
   have fin : ∀ (env : Env), w = fineL l -> env.get 1 = rp H.length -> env.get 3 = i64 0 -> ∀ K : XE -> Env -> List AO -> Prop,
    (fineL l = false -> ∀ env G, env.get 2 = bl false -> K .ret env (H ++ ⟨[i64 op, i64 n, st (B nm), .slc (Ex.cL l) l.length, i64 p], 53, 0, true⟩ :: G)) →
    (fineL l = true -> ∀ env G, K (.exit 0) env (H ++ ⟨[i64 op, i64 n, st (B nm), .slc (Ex.cL l) l.length, i64 p], 53, 0, true⟩ :: G)) →
    LI Tryz.prog Tryz.f96.ntmps drawB l96_0 env (H ++ ⟨[i64 op, i64 n, st (B nm), .slc (Ex.cL l) l.length, i64 p], 53, 0, true⟩ :: []) K := fun env _ g1 g3 K k1 k2 =>
    loop96 hl3 hIH k1 k2 l.length 0 [] env (by omega) rfl g1 g3
   by_cases a2 : op = 1 ∨ n = 0
   · by_cases a3 : op = 2 ∨ nm = []
     · by_cases a4 : op = 2
       · have a5 : n = 0 := by omega
         have a6 : ¬ op = 1 := by omega
         by_cases hn : nmdF nm = true
         · have hwq : w = fineL l := by rw [← hw]; simp [a1, a4, a5, hn]
           subst a4 a5
           simp -implicitDefEqProofs [a1]
           refine callq_st (r := bl (nmdF nm)) (fun _ => h43 _) ?_
           simp -implicitDefEqProofs [a1, hn]
           refine LI.cong (H' := H ++ ⟨[i64 2, i64 0, st (B nm), .slc (Ex.cL l) l.length, i64 p], 53, 0, true⟩ :: []) (by simp) ?_
           refine fin _ hwq ?_ ?_ _ (fun hq env G h2 => ?_) (fun hq env G => ?_)
           · simp [rp]
           · simp
           · simp -implicitDefEqProofs [h2]
             rw [hwq, hq]
             exact cv_fz 3 hcl rfl rfl
           · simp -implicitDefEqProofs
             rw [hwq, hq]
             exact cv_fz 3 hcl rfl rfl
         · rw [Bool.not_eq_true] at hn
           have hw : w = false := by rw [← hw]; simp [a4, hn]
           subst a4 a5 hw
           simp -implicitDefEqProofs [a1]
           refine callq_st (r := bl (nmdF nm)) (fun _ => h43 _) ?_
           simp -implicitDefEqProofs [a1, hn]
           exact cv_fz 3 hcl rfl rfl
       · have a6 : nm = [] := a3.resolve_left a4
         have hnn : op = 1 ∨ n = 0 := a2
         by_cases b1 : n < 0
         · have hw : w = false := by rw [← hw]; simp; intros; omega
           subst hw a6
           have o1 : op = 1 := by omega
           subst o1
           simp -implicitDefEqProofs [a1, b1]
           refine callq_go (r := bl false) (fun h => by cases h) ?_
           simp -implicitDefEqProofs [a1, b1]
           exact cv_fz 3 hcl rfl rfl
         · by_cases b2 : 1000000000 < n
           · have hw : w = false := by rw [← hw]; simp; intros; omega
             subst hw a6
             have o1 : op = 1 := by omega
             subst o1
             simp -implicitDefEqProofs [a1, b1, b2]
             refine callq_go (r := bl false) (fun h => by cases h) ?_
             simp -implicitDefEqProofs [a1, b1, b2]
             exact cv_fz 3 hcl rfl rfl
           · have hwq : w = fineL l := by
              rw [← hw]
              have c1 : 0 ≤ n := by omega
              have c2 : n ≤ 1000000000 := by omega
              rcases hnn with h | h <;> simp [a1, a4, a6, h, c1, c2]
             have ho : op = 1 ∨ ¬ op = 1 ∧ n = 0 := by omega
             rcases ho with ho | ⟨ho, hn0⟩
             · subst ho
               simp -implicitDefEqProofs [a1, a6, b1, b2]
               refine callq_go (r := bl false) (fun h => by cases h) ?_
               simp -implicitDefEqProofs [a1, b1, b2]
               refine LI.cong (H' := H ++ ⟨[i64 1, i64 n, st (B nm), .slc (Ex.cL l) l.length, i64 p], 53, 0, true⟩ :: []) (by simp [a6]) ?_
               refine fin _ hwq ?_ ?_ _ (fun hq env G h2 => ?_) (fun hq env G => ?_)
               · simp [rp]
               · simp
               · simp -implicitDefEqProofs [h2]
                 rw [hwq, hq]
                 exact cv_fz 3 hcl rfl rfl
               · simp -implicitDefEqProofs
                 rw [hwq, hq]
                 exact cv_fz 3 hcl rfl rfl
             · subst hn0
               simp -implicitDefEqProofs [a1, a4, a6, ho]
               refine callq_go (r := bl false) (fun h => by cases h) ?_
               simp -implicitDefEqProofs [a1, a4, a6, ho]
               refine LI.cong (H' := H ++ ⟨[i64 op, i64 0, st (B nm), .slc (Ex.cL l) l.length, i64 p], 53, 0, true⟩ :: []) (by simp [a6]) ?_
               refine fin _ hwq ?_ ?_ _ (fun hq env G h2 => ?_) (fun hq env G => ?_)
               · simp [rp]
               · simp
               · simp -implicitDefEqProofs [h2]
                 rw [hwq, hq]
                 exact cv_fz 3 hcl rfl rfl
               · simp -implicitDefEqProofs
                 rw [hwq, hq]
                 exact cv_fz 3 hcl rfl rfl
     · have b1 : ¬ op = 2 := fun h => a3 (.inl h)
       have b2 : ¬ nm = [] := fun h => a3 (.inr h)
       have hw : w = false := by rw [← hw]; simp [b1, b2]
       subst hw
       rcases a2 with ho | ho
       · subst ho
         simp -implicitDefEqProofs [a1, b2]
         refine callq_go (r := bl false) (fun h => by cases h) ?_
         simp -implicitDefEqProofs [a1, b2]
         exact cv_fz 3 hcl rfl rfl
       · subst ho
         simp -implicitDefEqProofs [a1, b1, b2]
         refine callq_go (r := bl false) (fun h => by cases h) ?_
         simp -implicitDefEqProofs [a1, b1, b2]
         exact cv_fz 3 hcl rfl rfl
   · have b1 : ¬ op = 1 := fun h => a2 (.inl h)
     have b2 : ¬ n = 0 := fun h => a2 (.inr h)
     have : w = false := by rw [← hw]; simp [b1, b2]
     subst this
     simp -implicitDefEqProofs [a1, b1, b2]
     refine callq_go (r := bl false) (fun h => by cases h) ?_
     simp -implicitDefEqProofs [a1, b1, b2]
     exact cv_fz 3 hcl rfl rfl
 · have : w = false := by rw [← hw]; simp [a1]
   subst this
   simp -implicitDefEqProofs [a1]
   refine callq_go (r := bl false) (fun h => by cases h) ?_
   simp -implicitDefEqProofs [a1]
   exact cv_fz 3 hcl rfl rfl
end
mutual
def Ex.nmB : Ex -> Prop
 | .mk _ _ nm l _ => nm.length < 4611686018427387904 ∧ Ex.nmBL l
def Ex.nmBL : List Ex -> Prop
 | [] => True
 | e :: r => e.nmB ∧ Ex.nmBL r
end
mutual
theorem ok96 : ∀ (e : Ex), e.nmB -> ∀ (H : List AO), Ok Tryz.prog 96 [e.v] H (.ret (bl (fineE e))) H
 | .mk op n nm l p, h, H => by
  unfold Ex.nmB at h
  refine ok_fn hm Tryz.func96 c96 (by simp) fun hcl => ?_
  exact ok96_go hcl h.1 (ok96L l h.2)
theorem ok96L : ∀ (l : List Ex), Ex.nmBL l -> ∀ e ∈ l, ∀ (H : List AO), Ok Tryz.prog 96 [e.v] H (.ret (bl (fineE e))) H
 | [], _, e, he, _ => by simp at he
 | x :: r, h, e, he, H => by
  unfold Ex.nmBL at h
  by_cases hx : e = x
  · rw [hx]; exact ok96 x h.1 H
  · exact ok96L r h.2 e (by simpa [hx] using he) H
end
end Go.Proofs.YthmdmnfojbnobaaGreatDoor
namespace Go.Proofs.YthmdmnfojbnobaaGreatDoor
open Go.Ab
def Sh77 (e : Ex) : Prop := fineE e = true -> (txt (shP e)).length ≤ 4611686018427387904 -> ∀ H : List AO, Ok Tryz.prog 77 [e.v] H (.ret (st (B (txt (shP e))))) H
section
variable {H : List AO}
theorem opP_len (k : Int) (x : List Pc) : (txt x).length ≤ (txt (opP (k, x))).length := by
 by_cases h : k = 1 ∨ k = 2 ∨ 18 ≤ k
 · rw [opP_pos h]; exact Nat.le_refl _
 · rw [opP_neg h]; simp [txt, txt_app, TK.tx]; omega
theorem ok97 {e : Ex} (h : Sh77 e) (hf : fineE e = true) (hl : (txt (opP (e.op, shP e))).length ≤ 4611686018427387904) : Ok Tryz.prog 97 [e.v] H (.ret (st (B (txt (opP (e.op, shP e)))))) H := by
 have h77 := h hf (Nat.le_trans (opP_len _ _) hl)
 refine ok_fn hm Tryz.func97 c97 (by simp) fun hcl => ?_
 obtain ⟨op, n, nm, l, p⟩ := e
 have hop : (Ex.mk op n nm l p).op = op := rfl
 rw [hop] at hl ⊢
 generalize shP (.mk op n nm l p) = x at h77 hl ⊢
 simp only [Ex.v, Ex.c] at h77
 by_cases h : op = 1 ∨ op = 2 ∨ 18 ≤ op
 · rw [opP_pos h]
   have key : ∀ K : XE -> Env -> List AO -> Prop, True := fun _ => trivial
   rcases h with h | h | h
   · subst h
     simp -implicitDefEqProofs [i97, r97, Ex.v, Ex.c]
     refine call_go (h77 _) ?_
     simp -implicitDefEqProofs
     exact cv_fz 3 hcl rfl rfl
   · subst h
     simp -implicitDefEqProofs [i97, r97, Ex.v, Ex.c]
     refine call_go (h77 _) ?_
     simp -implicitDefEqProofs
     exact cv_fz 3 hcl rfl rfl
   · have h1 : ¬ op = 1 := by omega
     have h2 : ¬ op = 2 := by omega
     simp -implicitDefEqProofs [i97, r97, Ex.v, Ex.c, h, h1, h2]
     refine call_go (h77 _) ?_
     simp -implicitDefEqProofs
     exact cv_fz 3 hcl rfl rfl
 · rw [opP_neg h] at hl ⊢
   have h1 : ¬ op = 1 := by omega
   have h2 : ¬ op = 2 := by omega
   have h3 : ¬ 18 ≤ op := by omega
   have e1 : txt (.t (.sg [40]) :: (x ++ [.t (.sg [41])])) = [40] ++ txt x ++ [41] := by simp [txt, txt_app, TK.tx]
   rw [e1] at hl ⊢
   simp only [List.length_append, List.length_cons, List.length_nil] at hl
   generalize txt x = t at h77 hl ⊢
   simp -implicitDefEqProofs [i97, r97, Ex.v, Ex.c, h1, h2, h3]
   refine call_go (h77 _) ?_
   simp -implicitDefEqProofs [B_cat, B_size]
   refine ⟨by omega, by omega, ?_⟩
   exact cv_fz 3 hcl rfl rfl
theorem lsP_app (l : List (Int × List Pc)) (x : Int × List Pc) (h : l ≠ []) : txt (lsP (l ++ [x])) = txt (lsP l) ++ ([44, 32] ++ txt x.2) := by
 cases l with
 | nil => exact absurd rfl h
 | cons y r => simp [lsP, txt, txt_app, TK.tx]
theorem lsP_take : ∀ (l : List Ex) (i : Nat), (txt (lsP ((shL l).take i))).length ≤ (txt (lsP (shL l))).length := by
 intro l i
 generalize shL l = s
 cases s with
 | nil => simp
 | cons x r =>
  cases i with
  | zero => simp [lsP, txt]
  | succ i =>
   have key : ∀ (r : List (Int × List Pc)) (i : Nat), (txt ((r.take i).flatMap fun y => .t (.sg [44]) :: .b 32 :: y.2)).length ≤ (txt (r.flatMap fun y => .t (.sg [44]) :: .b 32 :: y.2)).length := by
    intro r
    induction r with
    | nil => intro i; simp
    | cons y r ih =>
     intro i
     cases i with
     | zero => simp [txt]
     | succ i =>
      have := ih i
      rw [List.take_succ_cons, List.flatMap_cons, List.flatMap_cons, txt_app, txt_app, List.length_append, List.length_append]
      omega
   have := key r i
   simp only [List.take_succ_cons, lsP, txt_app, List.length_append]
   omega
theorem shL_take (l : List Ex) {i : Nat} (h : i < l.length) : (shL l).take (i + 1) = (shL l).take i ++ [(l[i].op, shP l[i])] := by
 have hl : i < (shL l).length := by rw [shL_len]; exact h
 rw [List.take_succ_eq_append_getElem hl]
 have := shL_get h
 rw [List.getElem?_eq_getElem hl] at this
 rw [Option.some.inj this]
theorem loop79 {l : List Ex} (hl : l.length < 4611686018427387904) (hIH : ∀ e ∈ l, Sh77 e) (hf : ∀ e ∈ l, fineE e = true) (hb : (txt (lsP (shL l))).length ≤ 4611686018427387904) {N : Nat} {K : XE -> Env -> List AO -> Prop}
 (hexit : ∀ env, env.get 3 = st (B (txt (lsP (shL l)))) -> K (.exit 0) env H) :
 ∀ (m i : Nat) (env : Env), i + m = l.length -> env.get 0 = exS l -> env.get 3 = st (B (txt (lsP ((shL l).take i)))) -> env.get 4 = i64 i →
  LI Tryz.prog N drawB l79_0 env H K := by
 intro m
 induction m with
 | zero =>
  intro i env hi h0 h3 h4
  refine li_go hm l79_0.eq_1 ?_
  have e : i = l.length := by omega
  subst e
  rw [List.take_of_length_le (by rw [shL_len]; exact Nat.le_refl _)] at h3
  simp -implicitDefEqProofs [h0, h3, h4, exS]
  exact hexit _ (by simp [h3])
 | succ m ih =>
  intro i env hi h0 h3 h4
  refine li_go hm l79_0.eq_1 ?_
  have hlt : i < l.length := by omega
  have hlt' : (i : Int) < l.length := by omega
  have hg := exL_get hlt
  have hcl := exL_len l
  have htk := shL_take l hlt
  have hle := lsP_take l (i + 1)
  have hfe := hf _ (List.getElem_mem hlt)
  have h77 := hIH _ (List.getElem_mem hlt) hfe
  have ih := ih (i + 1)
  rw [htk] at hle ih
  by_cases hi0 : i = 0
  · subst hi0
    rw [List.take_zero] at h3 hle ih
    have e1 : txt (lsP ([] ++ [(l[0].op, shP l[0])])) = txt (shP l[0]) := by simp [lsP]
    rw [e1] at hle ih
    have e3 : txt (lsP ([] : List (Int × List Pc))) = [] := rfl
    rw [e3] at h3
    rw [Nat.zero_mul, List.drop_zero] at hg
    have h77 := h77 (by omega)
    generalize l[0] = e at hg hfe h77 hle ih
    generalize txt (shP e) = t at h77 hle ih
    have hlt0 : ¬ (0 : Int) < 0 := by omega
    simp -implicitDefEqProofs [h0, h3, h4, exS, hlt, hlt', hg, hcl]
    refine ⟨by omega, call_go (h77 _) ?_⟩
    simp -implicitDefEqProofs [h0, h3, h4, exS, B_cat, B_size]
    refine ⟨by omega, ?_⟩
    refine ih _ (by omega) ?_ ?_ ?_
    all_goals simp [h0, exS, show IntKind.i64.wrap 1 = 1 from by decide, h3, B_cat]
  · have hi0' : (0 : Int) < i := by omega
    have hne : (shL l).take i ≠ [] := by
     intro h
     have hq : ((shL l).take i).length = i := by rw [List.length_take, shL_len]; omega
     rw [h] at hq
     have : (0 : Nat) = i := hq
     omega
    have e2 := lsP_app ((shL l).take i) (l[i].op, shP l[i]) hne
    rw [e2] at hle
    rw [e2] at ih
    simp only at hle ih
    simp only [List.length_append, List.length_cons, List.length_nil] at hle
    have h77 := h77 (by omega)
    have hi0n : 0 < i := by omega
    generalize txt (lsP ((shL l).take i)) = s at h3 hle ih
    generalize l[i] = e at hg hfe h77 hle ih
    generalize txt (shP e) = t at h77 hle ih
    simp -implicitDefEqProofs [h0, h3, h4, exS, hlt, hlt', hg, hcl, hi0', hi0n, B_cat, B_size]
    refine ⟨by omega, by omega, call_go (h77 _) ?_⟩
    simp -implicitDefEqProofs [h0, h3, h4, exS, B_cat, B_size]
    refine ⟨by omega, ?_⟩
    refine ih _ (by omega) ?_ ?_ ?_
    all_goals simp [h0, exS, B_cat, wrap_suc (show i < 9223372036854775807 by omega)]
theorem ok79 {l : List Ex} (hl : l.length < 4611686018427387904) (hIH : ∀ e ∈ l, Sh77 e) (hf : ∀ e ∈ l, fineE e = true) (hb : (txt (lsP (shL l))).length ≤ 4611686018427387904) : Ok Tryz.prog 79 [exS l] H (.ret (st (B (txt (lsP (shL l)))))) H := by
 refine ok_fn hm Tryz.func79 c79 (by simp [exS]) fun hcl => ?_
 simp -implicitDefEqProofs [i79, r79, exS]
 refine loop79 hl hIH hf hb (fun env h3 => ?_) l.length 0 _ (by omega) ?_ ?_ ?_
 · simp -implicitDefEqProofs [h3]
   exact cv_id
 all_goals simp [exS, lsP, txt]
end
end Go.Proofs.YthmdmnfojbnobaaGreatDoor
namespace Go.Proofs.YthmdmnfojbnobaaGreatDoor
open Go.Ab
section
variable {H : List AO}
theorem fineL_mem : ∀ {l : List Ex}, fineL l = true -> ∀ e ∈ l, fineE e = true
 | x :: r, h, e, he => by
  rw [fineL, Bool.and_eq_true] at h
  rw [List.mem_cons] at he
  rcases he with rfl | he
  · exact h.1
  · exact fineL_mem h.2 e he
theorem sh_one {op n p : Int} {nm : List UInt8} {l : List Ex} (h1 : op = 1) (hf : fineE (.mk op n nm l p) = true) : Ok Tryz.prog 77 [(Ex.mk op n nm l p).v] H (.ret (st (B (txt (shP (.mk op n nm l p)))))) H := by
 obtain ⟨k1, k2, k3, k4, k5, k6, k7⟩ := fineE_iff.1 hf
 subst h1
 have e1 : txt (shP (.mk 1 n nm l p)) = decN n.toNat := by simp [shP, shK, txt, TK.tx]
 have hn : ((n.toNat : Nat) : Int) = n := by omega
 have h45 := fun H => ok45 (H := H) (n := n.toNat) (by omega)
 rw [hn] at h45
 rw [e1]
 refine ok_fn hm Tryz.func77 c77 (by simp) fun hcl => ?_
 simp -implicitDefEqProofs [i77, r77, Ex.v, Ex.c]
 refine call_go (h45 _) ?_
 simp -implicitDefEqProofs
 exact cv_fz 3 hcl rfl rfl
theorem sh_two {op n p : Int} {nm : List UInt8} {l : List Ex} (h1 : op = 2) : Ok Tryz.prog 77 [(Ex.mk op n nm l p).v] H (.ret (st (B (txt (shP (.mk op n nm l p)))))) H := by
 subst h1
 have e1 : txt (shP (.mk 2 n nm l p)) = nm := by simp [shP, shK, txt, TK.tx]
 rw [e1]
 refine ok_fn hm Tryz.func77 c77 (by simp) fun hcl => ?_
 simp -implicitDefEqProofs [i77, r77, Ex.v, Ex.c]
 exact cv_fz 3 hcl rfl rfl
theorem sh_un {op n p : Int} {nm : List UInt8} {a : Ex} (h1 : op = 3 ∨ op = 4) (ha : Sh77 a) (fa : fineE a = true) (hb : (txt (shP (.mk op n nm [a] p))).length ≤ 4611686018427387904) : Ok Tryz.prog 77 [(Ex.mk op n nm [a] p).v] H (.ret (st (B (txt (shP (.mk op n nm [a] p)))))) H := by
 have h97 := fun h H => ok97 (H := H) ha fa h
 rcases h1 with rfl | rfl
 · have e1 : txt (shP (.mk 3 n nm [a] p)) = [45, 32] ++ txt (opP (a.op, shP a)) := by simp [shP, shK, shL, ndP, txt, TK.tx]
   rw [e1] at hb ⊢
   simp only [List.length_append, List.length_cons, List.length_nil] at hb
   have h97 := h97 (by omega)
   generalize txt (opP (a.op, shP a)) = t at h97 hb ⊢
   obtain ⟨o, x, y, z, w⟩ := a
   simp only [Ex.v, Ex.c] at h97
   refine ok_fn hm Tryz.func77 c77 (by simp) fun hcl => ?_
   simp -implicitDefEqProofs [i77, r77, Ex.v, Ex.c, Ex.cL]
   refine call_go (h97 _) ?_
   simp -implicitDefEqProofs [B_cat, B_size]
   refine ⟨by omega, ?_⟩
   exact cv_fz 3 hcl rfl rfl
 · have e1 : txt (shP (.mk 4 n nm [a] p)) = [110, 111, 116, 32] ++ txt (opP (a.op, shP a)) := by simp [shP, shK, shL, ndP, txt, TK.tx]
   rw [e1] at hb ⊢
   simp only [List.length_append, List.length_cons, List.length_nil] at hb
   have h97 := h97 (by omega)
   generalize txt (opP (a.op, shP a)) = t at h97 hb ⊢
   obtain ⟨o, x, y, z, w⟩ := a
   simp only [Ex.v, Ex.c] at h97
   refine ok_fn hm Tryz.func77 c77 (by simp) fun hcl => ?_
   simp -implicitDefEqProofs [i77, r77, Ex.v, Ex.c, Ex.cL]
   refine call_go (h97 _) ?_
   simp -implicitDefEqProofs [B_cat, B_size]
   refine ⟨by omega, ?_⟩
   exact cv_fz 3 hcl rfl rfl
theorem sh_call {op n p : Int} {nm : List UInt8} {l : List Ex} (h1 : op = 18 ∨ op = 19 ∨ op = 20) (hl : l.length < 4611686018427387904) (hIH : ∀ e ∈ l, Sh77 e) (hf : ∀ e ∈ l, fineE e = true) (hb : (txt (shP (.mk op n nm l p))).length ≤ 4611686018427387904) : Ok Tryz.prog 77 [(Ex.mk op n nm l p).v] H (.ret (st (B (txt (shP (.mk op n nm l p)))))) H := by
 have h79 := fun h H => ok79 (H := H) hl hIH hf h
 have e1 : txt (shP (.mk op n nm l p)) = wrdT op ++ [40] ++ txt (lsP (shL l)) ++ [41] := by
  rcases h1 with rfl | rfl | rfl <;> simp [shP, shK, txt, txt_app, TK.tx]
 rw [e1] at hb ⊢
 simp only [List.length_append, List.length_cons, List.length_nil] at hb
 have h79 := h79 (by omega)
 generalize txt (lsP (shL l)) = t at h79 hb ⊢
 simp only [exS] at h79
 have w0 : IntKind.i64.wrap 0 = 0 := by decide
 have w1 : IntKind.i64.wrap 1 = 1 := by decide
 have w2 : IntKind.i64.wrap 2 = 2 := by decide
 rcases h1 with rfl | rfl | rfl
 · refine ok_fn hm Tryz.func77 c77 (by simp) fun hcl => ?_
   simp -implicitDefEqProofs [i77, r77, Ex.v, Ex.c, w0]
   refine callq_go (fun _ => h79 _) ?_
   simp -implicitDefEqProofs [w0, B_cat, B_size]
   refine ⟨okC_go (h79 _), by omega, by omega, ?_⟩
   refine cv_fz 3 hcl rfl ?_
   simp [wrdT]
 · refine ok_fn hm Tryz.func77 c77 (by simp) fun hcl => ?_
   simp -implicitDefEqProofs [i77, r77, Ex.v, Ex.c, w1]
   refine callq_go (fun _ => h79 _) ?_
   simp -implicitDefEqProofs [w1, B_cat, B_size]
   refine ⟨okC_go (h79 _), by omega, by omega, ?_⟩
   refine cv_fz 3 hcl rfl ?_
   simp [wrdT]
 · refine ok_fn hm Tryz.func77 c77 (by simp) fun hcl => ?_
   simp -implicitDefEqProofs [i77, r77, Ex.v, Ex.c, w2]
   refine callq_go (fun _ => h79 _) ?_
   simp -implicitDefEqProofs [w2, B_cat, B_size]
   refine ⟨okC_go (h79 _), by omega, by omega, ?_⟩
   refine cv_fz 3 hcl rfl ?_
   simp [wrdT]
theorem binT_tx {op : Int} : (binT op).tx = binS.getD (op - 5).toNat [] := by
 unfold binT; split <;> rfl
theorem sh_bin {op n p : Int} {nm : List UInt8} {a b : Ex} (h5 : 5 ≤ op) (h17 : op ≤ 17) (ha : Sh77 a) (hbb : Sh77 b) (fa : fineE a = true) (fb : fineE b = true) (hb : (txt (shP (.mk op n nm [a, b] p))).length ≤ 4611686018427387904) : Ok Tryz.prog 77 [(Ex.mk op n nm [a, b] p).v] H (.ret (st (B (txt (shP (.mk op n nm [a, b] p)))))) H := by
 have ha97 := fun h H => ok97 (H := H) ha fa h
 have hb97 := fun h H => ok97 (H := H) hbb fb h
 have e1 : txt (shP (.mk op n nm [a, b] p)) = txt (opP (a.op, shP a)) ++ [32] ++ binS.getD (op - 5).toNat [] ++ [32] ++ txt (opP (b.op, shP b)) := by
  rw [← binT_tx]
  simp [shP, shK, shL, ndP, txt, txt_app, show ¬ op = 1 by omega, show ¬ op = 2 by omega, show ¬ op = 3 by omega, show ¬ op = 4 by omega, show ¬ 18 ≤ op by omega]
 rw [e1] at hb ⊢
 simp only [List.length_append, List.length_cons, List.length_nil] at hb
 have ha97 := ha97 (by omega)
 have hb97 := hb97 (by omega)
 generalize txt (opP (a.op, shP a)) = t at ha97 hb ⊢
 generalize txt (opP (b.op, shP b)) = u at hb97 hb ⊢
 obtain ⟨o, x, y, z, w⟩ := a
 obtain ⟨o', x', y', z', w'⟩ := b
 simp only [Ex.v, Ex.c] at ha97 hb97
 have hc : op = 5 ∨ op = 6 ∨ op = 7 ∨ op = 8 ∨ op = 9 ∨ op = 10 ∨ op = 11 ∨ op = 12 ∨ op = 13 ∨ op = 14 ∨ op = 15 ∨ op = 16 ∨ op = 17 := by omega
 rcases hc with rfl | rfl | rfl | rfl | rfl | rfl | rfl | rfl | rfl | rfl | rfl | rfl | rfl
 · have e2 : binS.getD (5 - 5 : Int).toNat [] = [42] := rfl
   rw [e2] at hb ⊢
   simp only [List.length_cons, List.length_nil] at hb
   have w0 : IntKind.i64.wrap 0 = 0 := by decide
   refine ok_fn hm Tryz.func77 c77 (by simp) fun hcl => ?_
   simp -implicitDefEqProofs [i77, r77, Ex.v, Ex.c, Ex.cL, w0]
   refine callq_go (fun _ => ha97 _) ?_
   simp -implicitDefEqProofs [B_cat, B_size]
   refine ⟨by omega, by omega, by omega, callq_go (fun _ => hb97 _) ?_⟩
   simp -implicitDefEqProofs [B_cat, B_size]
   refine ⟨by omega, ?_⟩
   refine cv_fz 3 hcl rfl ?_
   simp
 · have e2 : binS.getD (6 - 5 : Int).toNat [] = [47] := rfl
   rw [e2] at hb ⊢
   simp only [List.length_cons, List.length_nil] at hb
   have w0 : IntKind.i64.wrap 1 = 1 := by decide
   refine ok_fn hm Tryz.func77 c77 (by simp) fun hcl => ?_
   simp -implicitDefEqProofs [i77, r77, Ex.v, Ex.c, Ex.cL, w0]
   refine callq_go (fun _ => ha97 _) ?_
   simp -implicitDefEqProofs [B_cat, B_size]
   refine ⟨by omega, by omega, by omega, callq_go (fun _ => hb97 _) ?_⟩
   simp -implicitDefEqProofs [B_cat, B_size]
   refine ⟨by omega, ?_⟩
   refine cv_fz 3 hcl rfl ?_
   simp
 · have e2 : binS.getD (7 - 5 : Int).toNat [] = [37] := rfl
   rw [e2] at hb ⊢
   simp only [List.length_cons, List.length_nil] at hb
   have w0 : IntKind.i64.wrap 2 = 2 := by decide
   refine ok_fn hm Tryz.func77 c77 (by simp) fun hcl => ?_
   simp -implicitDefEqProofs [i77, r77, Ex.v, Ex.c, Ex.cL, w0]
   refine callq_go (fun _ => ha97 _) ?_
   simp -implicitDefEqProofs [B_cat, B_size]
   refine ⟨by omega, by omega, by omega, callq_go (fun _ => hb97 _) ?_⟩
   simp -implicitDefEqProofs [B_cat, B_size]
   refine ⟨by omega, ?_⟩
   refine cv_fz 3 hcl rfl ?_
   simp
 · have e2 : binS.getD (8 - 5 : Int).toNat [] = [43] := rfl
   rw [e2] at hb ⊢
   simp only [List.length_cons, List.length_nil] at hb
   have w0 : IntKind.i64.wrap 3 = 3 := by decide
   refine ok_fn hm Tryz.func77 c77 (by simp) fun hcl => ?_
   simp -implicitDefEqProofs [i77, r77, Ex.v, Ex.c, Ex.cL, w0]
   refine callq_go (fun _ => ha97 _) ?_
   simp -implicitDefEqProofs [B_cat, B_size]
   refine ⟨by omega, by omega, by omega, callq_go (fun _ => hb97 _) ?_⟩
   simp -implicitDefEqProofs [B_cat, B_size]
   refine ⟨by omega, ?_⟩
   refine cv_fz 3 hcl rfl ?_
   simp
 · have e2 : binS.getD (9 - 5 : Int).toNat [] = [45] := rfl
   rw [e2] at hb ⊢
   simp only [List.length_cons, List.length_nil] at hb
   have w0 : IntKind.i64.wrap 4 = 4 := by decide
   refine ok_fn hm Tryz.func77 c77 (by simp) fun hcl => ?_
   simp -implicitDefEqProofs [i77, r77, Ex.v, Ex.c, Ex.cL, w0]
   refine callq_go (fun _ => ha97 _) ?_
   simp -implicitDefEqProofs [B_cat, B_size]
   refine ⟨by omega, by omega, by omega, callq_go (fun _ => hb97 _) ?_⟩
   simp -implicitDefEqProofs [B_cat, B_size]
   refine ⟨by omega, ?_⟩
   refine cv_fz 3 hcl rfl ?_
   simp
 · have e2 : binS.getD (10 - 5 : Int).toNat [] = [61, 61] := rfl
   rw [e2] at hb ⊢
   simp only [List.length_cons, List.length_nil] at hb
   have w0 : IntKind.i64.wrap 5 = 5 := by decide
   refine ok_fn hm Tryz.func77 c77 (by simp) fun hcl => ?_
   simp -implicitDefEqProofs [i77, r77, Ex.v, Ex.c, Ex.cL, w0]
   refine callq_go (fun _ => ha97 _) ?_
   simp -implicitDefEqProofs [B_cat, B_size]
   refine ⟨by omega, by omega, by omega, callq_go (fun _ => hb97 _) ?_⟩
   simp -implicitDefEqProofs [B_cat, B_size]
   refine ⟨by omega, ?_⟩
   refine cv_fz 3 hcl rfl ?_
   simp
 · have e2 : binS.getD (11 - 5 : Int).toNat [] = [33, 61] := rfl
   rw [e2] at hb ⊢
   simp only [List.length_cons, List.length_nil] at hb
   have w0 : IntKind.i64.wrap 6 = 6 := by decide
   refine ok_fn hm Tryz.func77 c77 (by simp) fun hcl => ?_
   simp -implicitDefEqProofs [i77, r77, Ex.v, Ex.c, Ex.cL, w0]
   refine callq_go (fun _ => ha97 _) ?_
   simp -implicitDefEqProofs [B_cat, B_size]
   refine ⟨by omega, by omega, by omega, callq_go (fun _ => hb97 _) ?_⟩
   simp -implicitDefEqProofs [B_cat, B_size]
   refine ⟨by omega, ?_⟩
   refine cv_fz 3 hcl rfl ?_
   simp
 · have e2 : binS.getD (12 - 5 : Int).toNat [] = [60] := rfl
   rw [e2] at hb ⊢
   simp only [List.length_cons, List.length_nil] at hb
   have w0 : IntKind.i64.wrap 7 = 7 := by decide
   refine ok_fn hm Tryz.func77 c77 (by simp) fun hcl => ?_
   simp -implicitDefEqProofs [i77, r77, Ex.v, Ex.c, Ex.cL, w0]
   refine callq_go (fun _ => ha97 _) ?_
   simp -implicitDefEqProofs [B_cat, B_size]
   refine ⟨by omega, by omega, by omega, callq_go (fun _ => hb97 _) ?_⟩
   simp -implicitDefEqProofs [B_cat, B_size]
   refine ⟨by omega, ?_⟩
   refine cv_fz 3 hcl rfl ?_
   simp
 · have e2 : binS.getD (13 - 5 : Int).toNat [] = [60, 61] := rfl
   rw [e2] at hb ⊢
   simp only [List.length_cons, List.length_nil] at hb
   have w0 : IntKind.i64.wrap 8 = 8 := by decide
   refine ok_fn hm Tryz.func77 c77 (by simp) fun hcl => ?_
   simp -implicitDefEqProofs [i77, r77, Ex.v, Ex.c, Ex.cL, w0]
   refine callq_go (fun _ => ha97 _) ?_
   simp -implicitDefEqProofs [B_cat, B_size]
   refine ⟨by omega, by omega, by omega, callq_go (fun _ => hb97 _) ?_⟩
   simp -implicitDefEqProofs [B_cat, B_size]
   refine ⟨by omega, ?_⟩
   refine cv_fz 3 hcl rfl ?_
   simp
 · have e2 : binS.getD (14 - 5 : Int).toNat [] = [62] := rfl
   rw [e2] at hb ⊢
   simp only [List.length_cons, List.length_nil] at hb
   have w0 : IntKind.i64.wrap 9 = 9 := by decide
   refine ok_fn hm Tryz.func77 c77 (by simp) fun hcl => ?_
   simp -implicitDefEqProofs [i77, r77, Ex.v, Ex.c, Ex.cL, w0]
   refine callq_go (fun _ => ha97 _) ?_
   simp -implicitDefEqProofs [B_cat, B_size]
   refine ⟨by omega, by omega, by omega, callq_go (fun _ => hb97 _) ?_⟩
   simp -implicitDefEqProofs [B_cat, B_size]
   refine ⟨by omega, ?_⟩
   refine cv_fz 3 hcl rfl ?_
   simp
 · have e2 : binS.getD (15 - 5 : Int).toNat [] = [62, 61] := rfl
   rw [e2] at hb ⊢
   simp only [List.length_cons, List.length_nil] at hb
   have w0 : IntKind.i64.wrap 10 = 10 := by decide
   refine ok_fn hm Tryz.func77 c77 (by simp) fun hcl => ?_
   simp -implicitDefEqProofs [i77, r77, Ex.v, Ex.c, Ex.cL, w0]
   refine callq_go (fun _ => ha97 _) ?_
   simp -implicitDefEqProofs [B_cat, B_size]
   refine ⟨by omega, by omega, by omega, callq_go (fun _ => hb97 _) ?_⟩
   simp -implicitDefEqProofs [B_cat, B_size]
   refine ⟨by omega, ?_⟩
   refine cv_fz 3 hcl rfl ?_
   simp
 · have e2 : binS.getD (16 - 5 : Int).toNat [] = [97, 110, 100] := rfl
   rw [e2] at hb ⊢
   simp only [List.length_cons, List.length_nil] at hb
   have w0 : IntKind.i64.wrap 11 = 11 := by decide
   refine ok_fn hm Tryz.func77 c77 (by simp) fun hcl => ?_
   simp -implicitDefEqProofs [i77, r77, Ex.v, Ex.c, Ex.cL, w0]
   refine callq_go (fun _ => ha97 _) ?_
   simp -implicitDefEqProofs [B_cat, B_size]
   refine ⟨by omega, by omega, by omega, callq_go (fun _ => hb97 _) ?_⟩
   simp -implicitDefEqProofs [B_cat, B_size]
   refine ⟨by omega, ?_⟩
   refine cv_fz 3 hcl rfl ?_
   simp
 · have e2 : binS.getD (17 - 5 : Int).toNat [] = [111, 114] := rfl
   rw [e2] at hb ⊢
   simp only [List.length_cons, List.length_nil] at hb
   have w0 : IntKind.i64.wrap 12 = 12 := by decide
   refine ok_fn hm Tryz.func77 c77 (by simp) fun hcl => ?_
   simp -implicitDefEqProofs [i77, r77, Ex.v, Ex.c, Ex.cL, w0]
   refine callq_go (fun _ => ha97 _) ?_
   simp -implicitDefEqProofs [B_cat, B_size]
   refine ⟨by omega, by omega, by omega, callq_go (fun _ => hb97 _) ?_⟩
   simp -implicitDefEqProofs [B_cat, B_size]
   refine ⟨by omega, ?_⟩
   refine cv_fz 3 hcl rfl ?_
   simp
end
theorem sh_step {op n p : Int} {nm : List UInt8} {l : List Ex} (hIH : ∀ e ∈ l, Sh77 e) : Sh77 (.mk op n nm l p) := by
 intro hf hb H
 obtain ⟨h1, h2, h3, h4, h5, h6, h7⟩ := fineE_iff.1 hf
 have hr := opN_cases h1
 have hfl := fineL_mem h7
 by_cases e1 : op = 1
 · exact sh_one e1 hf
 by_cases e2 : op = 2
 · exact sh_two e2
 by_cases e3 : op = 3 ∨ op = 4
 · obtain ⟨a, rfl⟩ : ∃ a, l = [a] := by
    have hl : (l.length : Int) = 1 := by rw [h1]; rcases e3 with rfl | rfl <;> rfl
    match l, hl with
    | [a], _ => exact ⟨a, rfl⟩
    | [], h => simp at h
    | a :: b :: r, h => simp at h; omega
   exact sh_un e3 (hIH a (by simp)) (hfl a (by simp)) hb
 by_cases e18 : 18 ≤ op
 · have hop : op = 18 ∨ op = 19 ∨ op = 20 := by omega
   have hl : l.length < 4611686018427387904 := by
    have : opN op ≤ 3 := by unfold opN; split <;> (try split) <;> (try split) <;> (try split) <;> omega
    omega
   exact sh_call hop hl hIH hfl hb
 · obtain ⟨a, b, rfl⟩ : ∃ a b, l = [a, b] := by
    have hl2 : (l.length : Int) = 2 := by
     rw [h1]; unfold opN
     rw [if_neg (by omega), if_neg (by omega), if_neg (by omega), if_pos (by omega)]
    match l, hl2 with
    | [a, b], _ => exact ⟨a, b, rfl⟩
    | [], h => simp at h
    | [a], h => simp at h
    | a :: b :: e :: r, h => simp at h; omega
   exact sh_bin (by omega) (by omega) (hIH a (by simp)) (hIH b (by simp)) (hfl a (by simp)) (hfl b (by simp)) hb
mutual
theorem ok77 : ∀ e : Ex, Sh77 e
 | .mk op n nm l p => sh_step (ok77L l)
theorem ok77L : ∀ l : List Ex, ∀ e ∈ l, Sh77 e
 | [], e, he => by simp at he
 | x :: r, e, he => by
  by_cases hx : e = x
  · rw [hx]; exact ok77 x
  · exact ok77L r e (by simpa [hx] using he)
end
end Go.Proofs.YthmdmnfojbnobaaGreatDoor
namespace Go.Proofs.YthmdmnfojbnobaaGreatDoor
open Go.Ab
structure ActP.Nb (a : ActP) : Prop where
 nm : a.nm.length < 4611686018427387904
 go : a.go.length < 4611686018427387904
 wh : ∀ e ∈ a.wh, e.nmB
 sets : ∀ s ∈ a.sets, s.nm.length < 4611686018427387904 ∧ s.e.nmB
structure StageP.Nb (x : StageP) : Prop where
 lb : x.lb.length < 4611686018427387904
 nm : x.nm.length < 4611686018427387904
 wt : ∀ e ∈ x.wt, e.nmB
 who : ∀ e ∈ x.who, e.nmB
 pays : ∀ e ∈ x.pays, e.nmB
 acts : ∀ a ∈ x.acts, a.Nb
section
variable {H : List AO}
theorem loop75 {l : List Ex} (hl : l.length < 4611686018427387904) (hn : ∀ e ∈ l, e.nmB) {N : Nat} {K : XE -> Env -> List AO -> Prop}
 (hret : fineL l = false -> ∀ env, env.get 2 = bl false -> K .ret env H) (hexit : fineL l = true -> ∀ env, K (.exit 0) env H) :
 ∀ (m i : Nat) (env : Env), i + m = l.length -> fineL l = fineL (l.drop i) -> env.get 0 = exS l -> env.get 3 = i64 i -> LI Tryz.prog N drawB l75_0 env H K := by
 intro m
 induction m with
 | zero =>
  intro i env hi hq h0 h3
  refine li_go hm l75_0.eq_1 ?_
  have e : i = l.length := by omega
  subst e
  rw [List.drop_length] at hq
  simp -implicitDefEqProofs [h0, h3, exS]
  exact hexit hq _
 | succ m ih =>
  intro i env hi hq h0 h3
  refine li_go hm l75_0.eq_1 ?_
  have hlt : i < l.length := by omega
  have hlt' : (i : Int) < l.length := by omega
  have hg := exL_get hlt
  have hcl := exL_len l
  rw [List.drop_eq_getElem_cons hlt, fineL] at hq
  have h := ok96 l[i] (hn _ (List.getElem_mem hlt))
  generalize l[i] = e at hq hg h
  simp -implicitDefEqProofs [h0, h3, exS, hlt, hlt', hg, hcl]
  refine ⟨by omega, call_go (h _) ?_⟩
  cases he : fineE e with
  | true =>
   rw [he, Bool.true_and] at hq
   simp -implicitDefEqProofs [h0, h3, exS]
   refine ih (i + 1) _ (by omega) hq ?_ ?_
   all_goals simp [h0, exS, wrap_suc (show i < 9223372036854775807 by omega)]
  | false =>
   rw [he, Bool.false_and] at hq
   simp -implicitDefEqProofs [h0, h3, exS]
   exact hret hq _ (by simp)
theorem ok75 {l : List Ex} (hl : l.length < 4611686018427387904) (hn : ∀ e ∈ l, e.nmB) : Ok Tryz.prog 75 [exS l] H (.ret (bl (fineL l))) H := by
 refine ok_fn hm Tryz.func75 c75 (by simp [exS]) fun hcl => ?_
 simp -implicitDefEqProofs [i75, r75, exS]
 refine loop75 hl hn (fun hq env h2 => ?_) (fun hq env => ?_) l.length 0 _ (by omega) rfl ?_ ?_
 · simp -implicitDefEqProofs [h2, hq]
   exact cv_id
 · simp -implicitDefEqProofs [hq]
   exact cv_id
 all_goals simp [exS]
theorem loop76 {a : ActP} (hl : a.sets.length ≤ 1048576) (hn : ∀ s ∈ a.sets, s.nm.length < 4611686018427387904 ∧ s.e.nmB) {N : Nat} {K : XE -> Env -> List AO -> Prop}
 (hret : a.sets.all fineS = false -> ∀ env G, env.get 2 = bl false -> K .ret env (H ++ ⟨a.c, 51, 0, true⟩ :: G)) (hexit : a.sets.all fineS = true -> ∀ env G, K (.exit 0) env (H ++ ⟨a.c, 51, 0, true⟩ :: G)) :
 ∀ (m i : Nat) (G : List AO) (env : Env), i + m = a.sets.length -> a.sets.all fineS = (a.sets.drop i).all fineS -> env.get 1 = rp H.length -> env.get 3 = i64 i -> LI Tryz.prog N drawB l76_0 env (H ++ ⟨a.c, 51, 0, true⟩ :: G) K := by
 intro m
 induction m with
 | zero =>
  intro i G env hi hq h1 h3
  refine li_go hm l76_0.eq_1 ?_
  have e : i = a.sets.length := by omega
  subst e
  rw [List.drop_length] at hq
  simp -implicitDefEqProofs [h1, h3, rp, ActP.c, exS]
  exact hexit hq _ _
 | succ m ih =>
  intro i G env hi hq h1 h3
  refine li_go hm l76_0.eq_1 ?_
  have hlt : i < a.sets.length := by omega
  have hlt' : (i : Int) < a.sets.length := by omega
  have g0 : ∀ h, (rws SetP.c a.sets)[i * 7]'(h) = st (B a.sets[i].nm) := fun h => Option.some.inj ((List.getElem?_eq_getElem h).symm.trans (set_0 hlt))
  have ge := set_e hlt
  have hlen := rws_len SetP.len a.sets
  rw [List.drop_eq_getElem_cons hlt, List.all_cons] at hq
  have hs := hn _ (List.getElem_mem hlt)
  generalize a.sets[i] = s at hq g0 ge hs
  have h43 := fun H => ok43 (H := H) hs.1
  have h96 := ok96 s.e hs.2
  have hfs : fineS s = (nmdF s.nm && fineE s.e) := rfl
  rw [hfs] at hq
  simp -implicitDefEqProofs [h1, h3, rp, hlt, hlt', g0, hlen, ActP.c, exS]
  refine ⟨by omega, call_go (h43 _) ?_⟩
  cases hc : nmdF s.nm with
  | false =>
   rw [hc, Bool.false_and, Bool.false_and] at hq
   simp -implicitDefEqProofs [h1, h3, rp, hlt, hlt', g0, hlen, ActP.c, exS]
   refine callq_go (r := bl false) (fun h => by cases h) ?_
   simp -implicitDefEqProofs [h1, h3, rp, hlt, hlt', g0, hlen, ActP.c, exS]
   exact hret hq _ _ (by simp)
  | true =>
   rw [hc, Bool.true_and] at hq
   simp -implicitDefEqProofs [h1, h3, rp, hlt, hlt', g0, ge, hlen, ActP.c, exS]
   refine ⟨by omega, callq_st (r := bl (fineE s.e)) (fun _ => h96 _) ?_⟩
   cases he : fineE s.e with
   | true =>
    rw [he, Bool.true_and] at hq
    simp -implicitDefEqProofs [h1, h3, rp]
    refine LI.cong ?_ (ih (i + 1) G _ (by omega) hq ?_ ?_)
    · simp [ActP.c, exS]
    all_goals simp [h1, rp, wrap_suc (show i < 9223372036854775807 by omega)]
   | false =>
    rw [he, Bool.false_and] at hq
    simp -implicitDefEqProofs [h1, h3, rp]
    exact hret hq _ _ (by simp)
theorem ok76 {a : ActP} (hn : a.Nb) (hb : a.Bd) : Ok Tryz.prog 76 [actV a] H (.ret (bl (fineA a))) H := by
 have h43a := fun H => ok43 (H := H) hn.nm
 have h43b := fun H => ok43 (H := H) hn.go
 have h75 := fun H => ok75 (H := H) (l := a.wh) (by have := hb.wh; omega) hn.wh
 simp only [exS] at h75
 generalize hw : fineA a = w
 unfold fineA at hw
 refine ok_fn hm Tryz.func76 c76 (by simp) fun hcl => ?_
 simp -implicitDefEqProofs [i76, r76, actV, ActP.c, exS]
 refine call_go (h43a _) ?_
 cases hc : nmdF a.nm with
 | false =>
  rw [hc, Bool.false_and] at hw
  subst hw
  simp -implicitDefEqProofs
  refine callq_go (r := bl false) (fun h => by cases h) ?_
  simp -implicitDefEqProofs
  refine callq_go (r := bl false) (fun h => by cases h) ?_
  simp -implicitDefEqProofs
  exact cv_fz 3 hcl rfl rfl
 | true =>
  rw [hc, Bool.true_and] at hw
  by_cases hwl : a.wh.length ≤ 1
  · have hwl' : ¬ (1 : Int) < a.wh.length := by omega
    rw [decide_eq_true hwl, Bool.true_and] at hw
    simp -implicitDefEqProofs [hwl']
    refine callq_st (r := bl (fineL a.wh)) (fun _ => h75 _) ?_
    cases hfl : fineL a.wh with
    | false =>
     rw [hfl, Bool.false_and] at hw
     subst hw
     simp -implicitDefEqProofs [hwl']
     refine callq_go (r := bl false) (fun h => by cases h) ?_
     simp -implicitDefEqProofs [hwl']
     exact cv_fz 3 hcl rfl rfl
    | true =>
     rw [hfl, Bool.true_and] at hw
     have fin : ∀ (env : Env), w = a.sets.all fineS -> env.get 1 = rp H.length -> env.get 3 = i64 0 -> ∀ K : XE -> Env -> List AO -> Prop,
      (a.sets.all fineS = false -> ∀ env G, env.get 2 = bl false -> K .ret env (H ++ ⟨a.c, 51, 0, true⟩ :: G)) -> (a.sets.all fineS = true -> ∀ env G, K (.exit 0) env (H ++ ⟨a.c, 51, 0, true⟩ :: G)) →
      LI Tryz.prog Tryz.f76.ntmps drawB l76_0 env (H ++ ⟨a.c, 51, 0, true⟩ :: []) K := fun env _ g1 g3 K k1 k2 =>
      loop76 hb.sets hn.sets k1 k2 a.sets.length 0 [] env (by omega) rfl g1 g3
     by_cases hg : a.go = []
     · have hwq : w = a.sets.all fineS := by rw [← hw, decide_eq_true hg, Bool.true_or, Bool.true_and]
       simp -implicitDefEqProofs [hwl', hg]
       refine callq_go (r := bl false) (fun h => by cases h) ?_
       simp -implicitDefEqProofs [hwl', hg]
       refine LI.cong (H' := H ++ ⟨a.c, 51, 0, true⟩ :: []) (by simp [ActP.c, exS, hg]) ?_
       refine fin _ hwq ?_ ?_ _ (fun hq env G h2 => ?_) (fun hq env G => ?_)
       · simp [rp]
       · simp
       · simp -implicitDefEqProofs [h2]
         rw [hwq, hq]
         exact cv_fz 3 hcl rfl rfl
       · simp -implicitDefEqProofs
         rw [hwq, hq]
         exact cv_fz 3 hcl rfl rfl
     · rw [decide_eq_false hg, Bool.false_or] at hw
       simp -implicitDefEqProofs [hwl', hg]
       refine callq_st (r := bl (nmdF a.go)) (fun _ => h43b _) ?_
       cases hgn : nmdF a.go with
       | false =>
        rw [hgn, Bool.false_and] at hw
        subst hw
        simp -implicitDefEqProofs [hwl', hg]
        exact cv_fz 3 hcl rfl rfl
       | true =>
        rw [hgn, Bool.true_and] at hw
        have hwq : w = a.sets.all fineS := hw.symm
        simp -implicitDefEqProofs [hwl', hg]
        refine LI.cong (H' := H ++ ⟨a.c, 51, 0, true⟩ :: []) (by simp [ActP.c, exS]) ?_
        refine fin _ hwq ?_ ?_ _ (fun hq env G h2 => ?_) (fun hq env G => ?_)
        · simp [rp]
        · simp
        · simp -implicitDefEqProofs [h2]
          rw [hwq, hq]
          exact cv_fz 3 hcl rfl rfl
        · simp -implicitDefEqProofs
          rw [hwq, hq]
          exact cv_fz 3 hcl rfl rfl
  · have hwl' : (1 : Int) < a.wh.length := by omega
    rw [decide_eq_false hwl, Bool.false_and] at hw
    subst hw
    simp -implicitDefEqProofs [hwl']
    refine callq_go (r := bl false) (fun h => by cases h) ?_
    simp -implicitDefEqProofs [hwl']
    refine callq_go (r := bl false) (fun h => by cases h) ?_
    simp -implicitDefEqProofs [hwl']
    exact cv_fz 3 hcl rfl rfl
end
end Go.Proofs.YthmdmnfojbnobaaGreatDoor
namespace Go.Proofs.YthmdmnfojbnobaaGreatDoor
open Go.Ab
section
variable {H : List AO}
theorem loop47_0 {x : StageP} (hl : x.seen.length ≤ 1048576) {N : Nat} {K : XE -> Env -> List AO -> Prop} {x4 x5 : SV}
 (hret : x.seen.all inB = false -> ∀ env G, env.get 2 = bl false -> K .ret env (H ++ ⟨x.c, 45, 0, true⟩ :: G)) (hexit : x.seen.all inB = true -> ∀ env G, env.get 1 = rp H.length -> env.get 4 = x4 -> env.get 5 = x5 -> K (.exit 1) env (H ++ ⟨x.c, 45, 0, true⟩ :: G)) :
 ∀ (m i : Nat) (G : List AO) (env : Env), i + m = x.seen.length -> x.seen.all inB = (x.seen.drop i).all inB -> env.get 1 = rp H.length -> env.get 4 = x4 -> env.get 5 = x5 -> env.get 6 = i64 i -> LI Tryz.prog N drawB l47_0 env (H ++ ⟨x.c, 45, 0, true⟩ :: G) K := by
 intro m
 induction m with
 | zero =>
  intro i G env hi hq h1 h4 h5 h6
  refine li_go hm l47_0.eq_1 ?_
  have e : i = x.seen.length := by omega
  subst e
  rw [List.drop_length] at hq
  simp -implicitDefEqProofs [h1, h4, h5, h6, rp, StageP.c, exS]
  refine hexit hq _ _ ?_ ?_ ?_ <;> simp [h1, h4, h5, rp]
 | succ m ih =>
  intro i G env hi hq h1 h4 h5 h6
  refine li_go hm l47_0.eq_1 ?_
  have hlt : i < x.seen.length := by omega
  have hlt' : (i : Int) < x.seen.length := by omega
  have hge : ∀ h, (ints x.seen)[i]'(h) = i64 x.seen[i] := fun h => by simp [ints]
  have hlen : (ints x.seen).length = x.seen.length := by simp [ints]
  rw [List.drop_eq_getElem_cons hlt, List.all_cons] at hq
  generalize x.seen[i] = q at hq hge
  simp -implicitDefEqProofs [h1, h4, h5, h6, rp, hlt, hlt', StageP.c, exS, hge, hlen]
  refine ⟨by omega, call_go (ok44 q 0) ?_⟩
  have hib : inB q = decide (0 ≤ q ∧ q ≤ 1000000000) := by unfold inB; rw [Bool.decide_and]
  rw [hib] at hq
  by_cases hc : 0 ≤ q ∧ q ≤ 1000000000
  · rw [decide_eq_true hc, Bool.true_and] at hq
    simp -implicitDefEqProofs [h1, h4, h5, h6, rp, hc]
    refine LI.cong ?_ (ih (i + 1) G _ (by omega) hq ?_ ?_ ?_ ?_)
    · simp [StageP.c, exS]
    all_goals simp [h1, h4, h5, rp, wrap_suc (show i < 9223372036854775807 by omega)]
  · rw [decide_eq_false hc, Bool.false_and] at hq
    simp -implicitDefEqProofs [h1, h4, h5, h6, rp, hc]
    exact hret hq _ _ (by simp)
theorem loop47_1 {x : StageP} (hl : x.acts.length ≤ 1048576) (hn : ∀ a ∈ x.acts, a.Nb) (hb : ∀ a ∈ x.acts, a.Bd) {N : Nat} {K : XE -> Env -> List AO -> Prop} {x3 x5 : SV}
 (hret : x.acts.all fineA = false -> ∀ env G, env.get 2 = bl false -> K .ret env (H ++ ⟨x.c, 45, 0, true⟩ :: G)) (hexit : x.acts.all fineA = true -> ∀ env G, env.get 1 = rp H.length -> env.get 3 = x3 -> env.get 5 = x5 -> K (.exit 3) env (H ++ ⟨x.c, 45, 0, true⟩ :: G)) :
 ∀ (m i : Nat) (G : List AO) (env : Env), i + m = x.acts.length -> x.acts.all fineA = (x.acts.drop i).all fineA -> env.get 1 = rp H.length -> env.get 3 = x3 -> env.get 5 = x5 -> env.get 7 = i64 i -> LI Tryz.prog N drawB l47_1 env (H ++ ⟨x.c, 45, 0, true⟩ :: G) K := by
 intro m
 induction m with
 | zero =>
  intro i G env hi hq h1 h4 h5 h6
  refine li_go hm l47_1.eq_1 ?_
  have e : i = x.acts.length := by omega
  subst e
  rw [List.drop_length] at hq
  simp -implicitDefEqProofs [h1, h4, h5, h6, rp, StageP.c, exS]
  refine hexit hq _ _ ?_ ?_ ?_ <;> simp [h1, h4, h5, rp]
 | succ m ih =>
  intro i G env hi hq h1 h4 h5 h6
  refine li_go hm l47_1.eq_1 ?_
  have hlt : i < x.acts.length := by omega
  have hlt' : (i : Int) < x.acts.length := by omega
  have hg := rws_c ActP.c_len hlt
  have hlen := rws_len ActP.c_len x.acts
  have h76 := fun H => ok76 (H := H) (hn _ (List.getElem_mem hlt)) (hb _ (List.getElem_mem hlt))
  rw [List.drop_eq_getElem_cons hlt, List.all_cons] at hq
  generalize x.acts[i] = a at hq hg h76
  simp only [actV] at h76
  simp -implicitDefEqProofs [h1, h4, h5, h6, rp, hlt, hlt', StageP.c, exS, hg, hlen]
  refine ⟨by omega, call_go (h76 _) ?_⟩
  cases hc : fineA a with
  | true =>
   rw [hc, Bool.true_and] at hq
   simp -implicitDefEqProofs [h1, h4, h5, h6, rp]
   refine LI.cong ?_ (ih (i + 1) G _ (by omega) hq ?_ ?_ ?_ ?_)
   · simp [StageP.c, exS]
   all_goals simp [h1, h4, h5, rp, wrap_suc (show i < 9223372036854775807 by omega)]
  | false =>
   rw [hc, Bool.false_and] at hq
   simp -implicitDefEqProofs [h1, h4, h5, h6, rp]
   exact hret hq _ _ (by simp)
def fstB (x : StageP) : Bool := (decide (x.lb = []) || nmdF x.lb) && (fineL x.wt && (fineL x.who && fineL x.pays))
set_option maxRecDepth 100000 in
theorem t47_a {x : StageP} {t : IC} {N : Nat} {K : XE -> Env -> List AO -> Prop} {env : Env} (h1 : env.get 1 = rp H.length)
 (hk : ∀ env : Env, env.get 1 = rp H.length -> env.get 3 = bl (notD x) -> env.get 4 = bl (notT x) -> env.get 5 = bl (decide (x.pays.length = 0)) -> X Tryz.prog N drawB t env (H ++ [⟨x.c, 45, 0, true⟩]) K) :
 X Tryz.prog N drawB (.seq (IC.nth 2 i47) (.seq (IC.nth 3 i47) (.seq (IC.nth 4 i47) t))) env (H ++ [⟨x.c, 45, 0, true⟩]) K := by
 have e3 : (decide (x.nm = []) && decide (x.lo = 0) && decide (x.hi = 0) && decide (x.wt = []) && !x.all && decide (x.seen = [])) = notD x := by unfold notD; simp [Bool.and_assoc]
 have e4 : (decide (x.who = []) && decide (x.acts = [])) = notT x := by unfold notT; simp [List.length_eq_zero_iff]
 have e5 : decide (x.pays = []) = decide (x.pays.length = 0) := by simp [List.length_eq_zero_iff]
 unfold i47
 simp only [IC.nth]
 simp -implicitDefEqProofs [h1, rp, StageP.c, exS]
 refine ⟨fun a b => ⟨a, b⟩, fun a b c => ⟨⟨a, b⟩, c⟩, fun a b c d => ⟨⟨⟨a, b⟩, c⟩, d⟩, fun a b c d e => ⟨⟨⟨⟨a, b⟩, c⟩, d⟩, e⟩, ?_⟩
 refine hk _ ?_ ?_ ?_ ?_
 · simp [h1, rp]
 · simp [e3]
 · simp [e4]
 · simp [e5]
def scdB (x : StageP) : Bool :=
 if x.k = 1 then x.seen.all inB && (notT x && (decide (x.pays.length = 0) && (nmdF x.nm && (inB x.lo && (inB x.hi && (decide (x.wt.length ≤ 1) && (!x.all || decide (x.seen.length = 0))))))))
 else if x.k = 2 then x.acts.all fineA && (notD x && (decide (x.pays.length = 0) && (decide (x.who.length = 1) && decide (x.acts.length ≠ 0))))
 else if x.k = 3 then notD x && (notT x && decide (x.pays.length ≠ 0)) else false
theorem fineSt_eq (x : StageP) : fineSt x = (fstB x && scdB x) := by
 unfold fineSt fstB scdB; simp only [Bool.and_assoc]
set_option maxRecDepth 100000 in
theorem t47_c (hcl : closed H) {x : StageP} (hn : x.Nb) (hb : x.Bd) {env : Env} (h1 : env.get 1 = rp H.length) (h3 : env.get 3 = bl (notD x)) (h4 : env.get 4 = bl (notT x)) (h5 : env.get 5 = bl (decide (x.pays.length = 0))) :
 X Tryz.prog Tryz.f47.ntmps drawB (IC.tl 5 i47) env (H ++ [⟨x.c, 45, 0, true⟩]) (Fin H.length r47 (.ret (bl (scdB x))) H) := by
 have h43 := fun H => ok43 (H := H) hn.nm
 generalize hw : scdB x = w
 unfold scdB at hw
 unfold i47 r47
 simp only [IC.tl]
 by_cases k1 : x.k = 1
 · rw [if_pos k1] at hw
   simp -implicitDefEqProofs [h1, h3, h4, h5, rp, StageP.c, exS, k1]
   refine LI.cong (H' := H ++ ⟨x.c, 45, 0, true⟩ :: []) (by simp [StageP.c, exS, k1]) ?_
   refine loop47_0 hb.seen (x4 := bl (notT x)) (x5 := bl (decide (x.pays.length = 0))) (fun hq env G h2 => ?_) (fun hq env G h1 h4 h5 => ?_) x.seen.length 0 [] _ (by omega) rfl ?_ ?_ ?_ ?_
   · rw [hq, Bool.false_and] at hw
     subst hw
     simp -implicitDefEqProofs [h2]
     exact cv_fz 3 hcl rfl rfl
   · rw [hq, Bool.true_and] at hw
     simp -implicitDefEqProofs [h1, h4, h5, rp, StageP.c, exS]
     have l0 := ok44 (H := H ++ ⟨x.c, 45, 0, true⟩ :: G) x.lo 0
     have hi0 := ok44 (H := H ++ ⟨x.c, 45, 0, true⟩ :: G) x.hi 0
     have il : inB x.lo = decide (0 ≤ x.lo ∧ x.lo ≤ 1000000000) := by unfold inB; rw [Bool.decide_and]
     have ih : inB x.hi = decide (0 ≤ x.hi ∧ x.hi ≤ 1000000000) := by unfold inB; rw [Bool.decide_and]
     rw [← il] at l0
     rw [← ih] at hi0
     simp only [StageP.c, exS] at l0 hi0
     refine ⟨fun a b => ⟨a, b⟩, callq_st (r := bl (nmdF x.nm)) (fun hon => by rw [hon]; exact h43 _) ?_⟩
     simp -implicitDefEqProofs [h1, h4, h5, rp, StageP.c, exS]
     refine callq_st (r := bl (inB x.lo)) (fun hon => by rw [hon]; exact l0) ?_
     simp -implicitDefEqProofs [h1, h4, h5, rp, StageP.c, exS]
     refine callq_st (r := bl (inB x.hi)) (fun hon => by rw [hon]; exact hi0) ?_
     simp -implicitDefEqProofs [h1, h4, h5, rp, StageP.c, exS]
     have hlast : (notT x && decide (x.pays = []) && nmdF x.nm && inB x.lo && inB x.hi && decide ((x.wt.length : Int) ≤ 1) && (!x.all || decide (x.seen = []))) = w := by
      rw [← hw]
      have z1 : decide (x.pays = []) = decide (x.pays.length = 0) := by simp [List.length_eq_zero_iff]
      have z2 : decide (x.seen = []) = decide (x.seen.length = 0) := by simp [List.length_eq_zero_iff]
      have z3 : decide ((x.wt.length : Int) ≤ 1) = decide (x.wt.length ≤ 1) := by
       rw [decide_eq_decide]; omega
      rw [z1, z2, z3]
      simp only [Bool.and_assoc]
     refine ⟨fun a b c d e f => ⟨⟨⟨⟨⟨⟨a, b⟩, c⟩, d⟩, e⟩, f⟩, fun g => ⟨⟨⟨⟨⟨⟨a, b⟩, c⟩, d⟩, e⟩, f⟩, g⟩⟩, ?_⟩
     rw [hlast]
     exact cv_fz 3 hcl rfl rfl
   all_goals simp [rp, h1, h4, h5]
 · rw [if_neg k1] at hw
   by_cases k2 : x.k = 2
   · rw [if_pos k2] at hw
     simp -implicitDefEqProofs [h1, h3, h4, h5, rp, StageP.c, exS, k2]
     refine LI.cong (H' := H ++ ⟨x.c, 45, 0, true⟩ :: []) (by simp [StageP.c, exS, k2]) ?_
     refine loop47_1 hb.acts hn.acts hb.act (x3 := bl (notD x)) (x5 := bl (decide (x.pays.length = 0))) (fun hq env G h2 => ?_) (fun hq env G h1 h3 h5 => ?_) x.acts.length 0 [] _ (by omega) rfl ?_ ?_ ?_ ?_
     · rw [hq, Bool.false_and] at hw
       subst hw
       simp -implicitDefEqProofs [h2]
       exact cv_fz 3 hcl rfl rfl
     · rw [hq, Bool.true_and] at hw
       simp -implicitDefEqProofs [h1, h3, h5, rp, StageP.c, exS]
       have hlast : (notD x && decide (x.pays = []) && decide ((x.who.length : Int) = 1) && decide (0 < x.acts.length)) = w := by
        rw [← hw]
        have z1 : decide (x.pays = []) = decide (x.pays.length = 0) := by simp [List.length_eq_zero_iff]
        have z2 : decide ((x.who.length : Int) = 1) = decide (x.who.length = 1) := by rw [decide_eq_decide]; omega
        have z3 : decide (0 < x.acts.length) = decide (x.acts.length ≠ 0) := by rw [decide_eq_decide]; omega
        rw [z1, z2, z3]
        simp only [Bool.and_assoc]
       refine ⟨fun a b => ⟨a, b⟩, fun a b c => ⟨⟨a, b⟩, c⟩, ?_⟩
       rw [hlast]
       exact cv_fz 3 hcl rfl rfl
     all_goals simp [rp, h1, h3, h5]
   · rw [if_neg k2] at hw
     by_cases k3 : x.k = 3
     · rw [if_pos k3] at hw
       simp -implicitDefEqProofs [h1, h3, h4, h5, rp, StageP.c, exS, k3]
       have hlast : (notD x && notT x && decide (0 < x.pays.length)) = w := by
        rw [← hw]
        have z3 : decide (0 < x.pays.length) = decide (x.pays.length ≠ 0) := by rw [decide_eq_decide]; omega
        rw [z3]
        simp only [Bool.and_assoc]
       rw [hlast]
       exact cv_fz 3 hcl rfl rfl
     · rw [if_neg k3] at hw
       subst hw
       simp -implicitDefEqProofs [h1, h3, h4, h5, rp, StageP.c, exS, k1, k2, k3]
       exact cv_fz 3 hcl rfl rfl
theorem ok47 {x : StageP} (hn : x.Nb) (hb : x.Bd) : Ok Tryz.prog 47 [stageV x] H (.ret (bl (fineSt x))) H := by
 have h43 := fun H => ok43 (H := H) hn.lb
 have h75a := fun H => ok75 (H := H) (l := x.wt) (by have := hb.wt; omega) hn.wt
 have h75b := fun H => ok75 (H := H) (l := x.who) (by have := hb.who; omega) hn.who
 have h75c := fun H => ok75 (H := H) (l := x.pays) (by have := hb.pays; omega) hn.pays
 simp only [exS] at h75a h75b h75c
 rw [fineSt_eq]
 refine ok_fn hm Tryz.func47 c47 (by simp) fun hcl => ?_
 have hd : i47 = .seq (IC.nth 0 i47) (.seq (IC.nth 1 i47) (.seq (IC.nth 2 i47) (.seq (IC.nth 3 i47) (.seq (IC.nth 4 i47) (IC.tl 5 i47))))) := rfl
 rw [hd]
 have htl : ∀ env : Env, env.get 1 = rp H.length -> X Tryz.prog Tryz.f47.ntmps drawB (.seq (IC.nth 2 i47) (.seq (IC.nth 3 i47) (.seq (IC.nth 4 i47) (IC.tl 5 i47)))) env (H ++ [⟨x.c, 45, 0, true⟩]) (Fin H.length r47 (.ret (bl (scdB x))) H) := fun env h1 =>
  t47_a h1 fun env g1 g3 g4 g5 => t47_c hcl hn hb g1 g3 g4 g5
 generalize hw : scdB x = w at htl
 generalize (.seq (IC.nth 2 i47) (.seq (IC.nth 3 i47) (.seq (IC.nth 4 i47) (IC.tl 5 i47))) : IC) = t at htl
 unfold i47 r47
 unfold r47 at htl
 simp only [IC.nth]
 unfold fstB
 by_cases hlb : x.lb = []
 · rw [decide_eq_true hlb, Bool.true_or, Bool.true_and]
   simp -implicitDefEqProofs [stageV, StageP.c, exS, hlb]
   refine callq_go (r := bl false) (fun h => by cases h) ?_
   simp -implicitDefEqProofs [hlb]
   refine callq_st (r := bl (fineL x.wt)) (fun _ => h75a _) ?_
   cases c1 : fineL x.wt with
   | false =>
    simp -implicitDefEqProofs [hlb]
    refine callq_go (r := bl false) (fun h => by cases h) ?_
    simp -implicitDefEqProofs [hlb]
    refine callq_go (r := bl false) (fun h => by cases h) ?_
    simp -implicitDefEqProofs [hlb]
    exact cv_fz 3 hcl rfl rfl
   | true =>
    simp -implicitDefEqProofs [hlb]
    refine callq_st (r := bl (fineL x.who)) (fun _ => h75b _) ?_
    cases c2 : fineL x.who with
    | false =>
     simp -implicitDefEqProofs [hlb]
     refine callq_go (r := bl false) (fun h => by cases h) ?_
     simp -implicitDefEqProofs [hlb]
     exact cv_fz 3 hcl rfl rfl
    | true =>
     simp -implicitDefEqProofs [hlb]
     refine callq_st (r := bl (fineL x.pays)) (fun _ => h75c _) ?_
     cases c3 : fineL x.pays with
     | false =>
      simp -implicitDefEqProofs [hlb]
      exact cv_fz 3 hcl rfl rfl
     | true =>
      simp -implicitDefEqProofs [hlb]
      have hx : (⟨[i64 x.k, st (B []), st (B x.nm), i64 x.lo, i64 x.hi, .slc (Ex.cL x.wt) x.wt.length, bl x.all, .slc (ints x.seen) x.seen.length, .slc (Ex.cL x.who) x.who.length, .slc (rws ActP.c x.acts) x.acts.length, .slc (Ex.cL x.pays) x.pays.length, i64 x.p], 45, 0, true⟩ : AO) = ⟨x.c, 45, 0, true⟩ := by simp [StageP.c, exS, hlb]
      rw [hx]
      refine htl _ ?_
      simp [rp]
 · rw [decide_eq_false hlb, Bool.false_or]
   cases c0 : nmdF x.lb with
   | false =>
    simp -implicitDefEqProofs [stageV, StageP.c, exS, hlb]
    refine callq_st (r := bl (nmdF x.lb)) (fun _ => h43 _) ?_
    simp -implicitDefEqProofs [hlb, c0]
    refine callq_go (r := bl false) (fun h => by cases h) ?_
    simp -implicitDefEqProofs [hlb, c0]
    refine callq_go (r := bl false) (fun h => by cases h) ?_
    simp -implicitDefEqProofs [hlb, c0]
    refine callq_go (r := bl false) (fun h => by cases h) ?_
    simp -implicitDefEqProofs [hlb, c0]
    exact cv_fz 3 hcl rfl rfl
   | true =>
    simp -implicitDefEqProofs [stageV, StageP.c, exS, hlb]
    refine callq_st (r := bl (nmdF x.lb)) (fun _ => h43 _) ?_
    simp -implicitDefEqProofs [hlb, c0]
    refine callq_st (r := bl (fineL x.wt)) (fun _ => h75a _) ?_
    cases c1 : fineL x.wt with
    | false =>
     simp -implicitDefEqProofs [hlb, c0]
     refine callq_go (r := bl false) (fun h => by cases h) ?_
     simp -implicitDefEqProofs [hlb, c0]
     refine callq_go (r := bl false) (fun h => by cases h) ?_
     simp -implicitDefEqProofs [hlb, c0]
     exact cv_fz 3 hcl rfl rfl
    | true =>
     simp -implicitDefEqProofs [hlb, c0]
     refine callq_st (r := bl (fineL x.who)) (fun _ => h75b _) ?_
     cases c2 : fineL x.who with
     | false =>
      simp -implicitDefEqProofs [hlb, c0]
      refine callq_go (r := bl false) (fun h => by cases h) ?_
      simp -implicitDefEqProofs [hlb, c0]
      exact cv_fz 3 hcl rfl rfl
     | true =>
      simp -implicitDefEqProofs [hlb, c0]
      refine callq_st (r := bl (fineL x.pays)) (fun _ => h75c _) ?_
      cases c3 : fineL x.pays with
      | false =>
       simp -implicitDefEqProofs [hlb, c0]
       exact cv_fz 3 hcl rfl rfl
      | true =>
       simp -implicitDefEqProofs [hlb, c0]
       refine htl _ ?_
       simp [rp]
end
end Go.Proofs.YthmdmnfojbnobaaGreatDoor
namespace Go.Proofs.YthmdmnfojbnobaaGreatDoor
open Go.Ab
theorem txt_b (c : UInt8) (l : List Pc) : txt (.b c :: l) = [c] ++ txt l := rfl
theorem txt_t (k : TK) (l : List Pc) : txt (.t k :: l) = k.tx ++ txt l := rfl
theorem txt_set (s : SetP) : txt (setPc s) = [32] ++ s.nm ++ [32, 61, 32] ++ txt (shP s.e) ++ [59] := by
 simp [setPc, txt, txt_app, TK.tx]
theorem flat_take_len {α : Type} (f : α -> List Pc) : ∀ (l : List α) (i : Nat), (txt ((l.take i).flatMap f)).length ≤ (txt (l.flatMap f)).length
 | [], i => by simp
 | x :: r, 0 => by simp [txt]
 | x :: r, i + 1 => by
  have := flat_take_len f r i
  rw [List.take_succ_cons, List.flatMap_cons, List.flatMap_cons, txt_app, txt_app, List.length_append, List.length_append]
  omega
theorem flat_take_succ {α : Type} (f : α -> List Pc) {l : List α} {i : Nat} (h : i < l.length) : txt ((l.take (i + 1)).flatMap f) = txt ((l.take i).flatMap f) ++ txt (f l[i]) := by
 rw [List.take_succ_eq_append_getElem h, List.flatMap_append, txt_app]
 simp
def goTx (s : List UInt8) : List UInt8 := if s = [] then [] else [32, 103, 111, 116, 111, 32] ++ s ++ [59]
theorem txt_go (s : List UInt8) : txt (goPc s) = goTx s := by
 unfold goPc goTx
 split <;> simp [txt, TK.tx, kwGo]
def whTx (w : List UInt8) (l : List Ex) : List UInt8 := match l with
 | [] => []
 | e :: _ => [32] ++ w ++ [32] ++ txt (shP e)
theorem txt_opt (w : List UInt8) (l : List Ex) : txt (optPc w l) = whTx w l := by
 cases l <;> simp [optPc, whTx, txt, TK.tx]
def fgTx (w : List UInt8) (b : Bool) : List UInt8 := if b = true then [32] ++ w else []
theorem txt_flag (w : List UInt8) (b : Bool) : txt (flagPc w b) = fgTx w b := by
 unfold flagPc fgTx
 split <;> simp [txt, TK.tx]
theorem txt_act (a : ActP) : txt (actPc a) = [32, 32, 97, 99, 116, 105, 111, 110, 32] ++ a.nm ++ whTx kwWh a.wh ++ fgTx kwH a.hid ++ [32, 123] ++ txt (a.sets.flatMap setPc) ++ [32, 125] ++ goTx a.go ++ [10] := by
 unfold actPc
 simp [txt, txt_app, TK.tx, txt_go, txt_opt, txt_flag, kwAc]
section
variable {H : List AO}
theorem loop78 {a : ActP} (hl : a.sets.length ≤ 1048576) (hf : a.sets.all fineS = true) {P : List UInt8} (hb : P.length + (txt (a.sets.flatMap setPc)).length ≤ 4611686018427387904) {N : Nat} {K : XE -> Env -> List AO -> Prop}
 (hexit : ∀ env G, env.get 1 = rp H.length -> env.get 3 = st (B (P ++ txt (a.sets.flatMap setPc))) -> K (.exit 0) env (H ++ ⟨a.c, 51, 0, true⟩ :: G)) :
 ∀ (m i : Nat) (G : List AO) (env : Env), i + m = a.sets.length -> env.get 1 = rp H.length -> env.get 3 = st (B (P ++ txt ((a.sets.take i).flatMap setPc))) -> env.get 4 = i64 i -> LI Tryz.prog N drawB l78_0 env (H ++ ⟨a.c, 51, 0, true⟩ :: G) K := by
 intro m
 induction m with
 | zero =>
  intro i G env hi h1 h3 h4
  refine li_go hm l78_0.eq_1 ?_
  have e : i = a.sets.length := by omega
  subst e
  rw [List.take_of_length_le (Nat.le_refl _)] at h3
  simp -implicitDefEqProofs [h1, h3, h4, rp, ActP.c, exS]
  refine hexit _ _ ?_ ?_ <;> simp [h1, h3, rp]
 | succ m ih =>
  intro i G env hi h1 h3 h4
  refine li_go hm l78_0.eq_1 ?_
  have hlt : i < a.sets.length := by omega
  have hlt' : (i : Int) < a.sets.length := by omega
  have g0 : ∀ h, (rws SetP.c a.sets)[i * 7]'(h) = st (B a.sets[i].nm) := fun h => Option.some.inj ((List.getElem?_eq_getElem h).symm.trans (set_0 hlt))
  have ge := set_e hlt
  have hlen := rws_len SetP.len a.sets
  have hfs := List.all_eq_true.1 hf _ (List.getElem_mem hlt)
  have hle := flat_take_len setPc a.sets (i + 1)
  have ih := ih (i + 1)
  rw [flat_take_succ setPc hlt, txt_set] at hle
  rw [flat_take_succ setPc hlt, txt_set] at ih
  generalize txt ((a.sets.take i).flatMap setPc) = q at h3 hle ih
  unfold fineS at hfs
  rw [Bool.and_eq_true] at hfs
  simp only [List.length_append, List.length_cons, List.length_nil] at hle
  have h77 := ok77 _ hfs.2 (by omega)
  generalize a.sets[i] = s at g0 ge hle ih h77
  generalize txt (shP s.e) = t at hle ih h77
  simp -implicitDefEqProofs [h1, h3, h4, rp, hlt, hlt', g0, ge, hlen, ActP.c, exS, B_cat, B_size]
  refine ⟨by omega, by omega, by omega, by omega, by omega, callq_go (fun _ => h77 _) ?_⟩
  simp -implicitDefEqProofs [h1, h3, h4, rp, hlt, hlt', g0, ge, hlen, ActP.c, exS, B_cat, B_size]
  repeat (refine ⟨by omega, ?_⟩)
  refine LI.cong ?_ (ih G _ (by omega) ?_ ?_ ?_)
  · simp [ActP.c, exS]
  all_goals simp [h1, rp, wrap_suc (show i < 9223372036854775807 by omega)]
theorem ok78 {a : ActP} (hb : a.Bd) (hf : fineA a = true) (hl : (txt (actPc a)).length ≤ 4611686018427387904) : Ok Tryz.prog 78 [actV a] H (.ret (st (B (txt (actPc a))))) H := by
 unfold fineA at hf
 simp only [Bool.and_eq_true, Bool.or_eq_true, decide_eq_true_eq] at hf
 obtain ⟨f1, f2, f3, f4, f5⟩ := hf
 rw [txt_act] at hl ⊢
 simp only [List.length_append, List.length_cons, List.length_nil] at hl
 have hset : ∀ P, P.length + (txt (a.sets.flatMap setPc)).length ≤ 4611686018427387904 -> ∀ {K : XE -> Env -> List AO -> Prop} (env : Env), (∀ env G, env.get 1 = rp H.length -> env.get 3 = st (B (P ++ txt (a.sets.flatMap setPc))) -> K (.exit 0) env (H ++ ⟨a.c, 51, 0, true⟩ :: G)) -> env.get 1 = rp H.length -> env.get 3 = st (B P) -> env.get 4 = i64 0 -> LI Tryz.prog Tryz.f78.ntmps drawB l78_0 env (H ++ ⟨a.c, 51, 0, true⟩ :: []) K := by
  intro P hP K env hk g1 g3 g4
  exact loop78 hb.sets f5 hP hk a.sets.length 0 [] env (by omega) g1 (by rw [g3]; simp [txt]) g4
 refine ok_fn hm Tryz.func78 c78 (by simp) fun hcl => ?_
 have hd : i78 = .seq (IC.nth 0 i78) (.seq (IC.nth 1 i78) (.seq (IC.nth 2 i78) (.seq (IC.nth 3 i78) (IC.tl 4 i78)))) := rfl
 rw [hd]
 -- what follows the flag
 have tail : ∀ (P : List UInt8) (env : Env), P.length + 2 + (txt (a.sets.flatMap setPc)).length + 2 + (goTx a.go).length + 1 ≤ 4611686018427387904 -> env.get 1 = rp H.length -> env.get 3 = st (B P) →
  X Tryz.prog Tryz.f78.ntmps drawB (IC.tl 4 i78) env (H ++ [⟨a.c, 51, 0, true⟩]) (Fin H.length r78 (.ret (st (B (P ++ [32, 123] ++ txt (a.sets.flatMap setPc) ++ [32, 125] ++ goTx a.go ++ [10])))) H) := by
  intro P env hP g1 g3
  unfold i78 r78
  simp only [IC.tl]
  simp -implicitDefEqProofs [g1, g3, rp, ActP.c, exS, B_cat, B_size]
  refine ⟨by omega, ?_⟩
  refine LI.cong (H' := H ++ ⟨a.c, 51, 0, true⟩ :: []) (by simp [ActP.c, exS]) ?_
  refine hset (P ++ [32, 123]) (by simp only [List.length_append, List.length_cons, List.length_nil]; omega) _ (fun env G g1 g3 => ?_) ?_ ?_ ?_
  · by_cases hg : a.go = []
    · have e : goTx a.go = [] := by unfold goTx; rw [if_pos hg]
      rw [e] at hP ⊢
      generalize txt (a.sets.flatMap setPc) = q at hP g3 ⊢
      simp -implicitDefEqProofs [g1, g3, rp, ActP.c, exS, B_cat, B_size, hg]
      repeat (refine ⟨by omega, ?_⟩)
      refine cv_fz 3 hcl rfl ?_
      simp
    · have e : goTx a.go = [32, 103, 111, 116, 111, 32] ++ a.go ++ [59] := by unfold goTx; rw [if_neg hg]
      rw [e] at hP ⊢
      simp only [List.length_append, List.length_cons, List.length_nil] at hP
      generalize txt (a.sets.flatMap setPc) = q at hP g3 ⊢
      simp -implicitDefEqProofs [g1, g3, rp, ActP.c, exS, B_cat, B_size, hg]
      repeat (refine ⟨by omega, ?_⟩)
      refine cv_fz 3 hcl rfl ?_
      simp
  all_goals simp [g1, rp]
 generalize txt (a.sets.flatMap setPc) = q at hl tail ⊢
 generalize goTx a.go = u at hl tail ⊢
 generalize IC.tl 4 i78 = t at tail
 unfold i78 r78
 unfold r78 at tail
 simp only [IC.nth]
 generalize ho : ([32, 32, 97, 99, 116, 105, 111, 110, 32] ++ a.nm ++ whTx kwWh a.wh ++ fgTx kwH a.hid ++ [32, 123] ++ q ++ [32, 125] ++ u ++ [10] : List UInt8) = out
 cases hw : a.wh with
 | nil =>
  have e1 : whTx kwWh [] = [] := rfl
  rw [hw, e1] at hl ho
  cases hh : a.hid with
  | false =>
   have e2 : fgTx kwH false = [] := rfl
   rw [hh, e2] at hl ho
   have hP := tail ([32, 32, 97, 99, 116, 105, 111, 110, 32] ++ a.nm)
   have eo : ([32, 32, 97, 99, 116, 105, 111, 110, 32] ++ a.nm) ++ [32, 123] ++ q ++ [32, 125] ++ u ++ [10] = out := by rw [← ho]; try simp
   rw [eo] at hP
   simp only [List.length_append, List.length_cons, List.length_nil, kwH, kwWh] at hl
   have hx : (⟨[st (B a.nm), .slc (Ex.cL []) 0, bl false, .slc (rws SetP.c a.sets) a.sets.length, st (B a.go), i64 a.p], 51, 0, true⟩ : AO) = ⟨a.c, 51, 0, true⟩ := by simp [ActP.c, exS, hw, hh]
   simp -implicitDefEqProofs [actV, ActP.c, exS, hw, hh, B_cat, B_size]
   repeat (refine ⟨by omega, ?_⟩)
   rw [hx]
   refine hP _ (by simp only [List.length_append, List.length_cons, List.length_nil, kwH]; omega) ?_ ?_
   · simp [rp]
   · simp [kwH, B_cat]
  | true =>
   have e2 : fgTx kwH true = [32] ++ kwH := rfl
   rw [hh, e2] at hl ho
   have hP := tail ([32, 32, 97, 99, 116, 105, 111, 110, 32] ++ a.nm ++ ([32] ++ kwH))
   have eo : ([32, 32, 97, 99, 116, 105, 111, 110, 32] ++ a.nm ++ ([32] ++ kwH)) ++ [32, 123] ++ q ++ [32, 125] ++ u ++ [10] = out := by rw [← ho]; try simp
   rw [eo] at hP
   simp only [List.length_append, List.length_cons, List.length_nil, kwH, kwWh] at hl
   have hx : (⟨[st (B a.nm), .slc (Ex.cL []) 0, bl true, .slc (rws SetP.c a.sets) a.sets.length, st (B a.go), i64 a.p], 51, 0, true⟩ : AO) = ⟨a.c, 51, 0, true⟩ := by simp [ActP.c, exS, hw, hh]
   simp -implicitDefEqProofs [actV, ActP.c, exS, hw, hh, B_cat, B_size]
   repeat (refine ⟨by omega, ?_⟩)
   rw [hx]
   refine hP _ (by simp only [List.length_append, List.length_cons, List.length_nil, kwH]; omega) ?_ ?_
   · simp [rp]
   · simp [kwH, B_cat]
 | cons e r =>
  have e1 : whTx kwWh (e :: r) = [32] ++ kwWh ++ [32] ++ txt (shP e) := rfl
  rw [hw, e1] at hl ho
  rw [hw, fineL, Bool.and_eq_true] at f3
  have hl2 := hl
  simp only [List.length_append, List.length_cons, List.length_nil, kwH, kwWh] at hl2
  have h77 := ok77 e f3.1 (by omega)
  have hpos : (0 : Int) < (r.length : Int) + 1 := by omega
  have htk : (Ex.cL (e :: r)).take 5 = e.c := by rw [Ex.cL, List.take_left' (by simp)]
  have hc5 : (Ex.cL (e :: r)).length = (r.length + 1) * 5 := exL_len _
  cases hh : a.hid with
  | false =>
   have e2 : fgTx kwH false = [] := rfl
   rw [hh, e2] at hl ho
   have hP := tail ([32, 32, 97, 99, 116, 105, 111, 110, 32] ++ a.nm ++ ([32] ++ kwWh ++ [32] ++ txt (shP e)))
   have eo : ([32, 32, 97, 99, 116, 105, 111, 110, 32] ++ a.nm ++ ([32] ++ kwWh ++ [32] ++ txt (shP e))) ++ [32, 123] ++ q ++ [32, 125] ++ u ++ [10] = out := by rw [← ho]; try simp
   rw [eo] at hP
   simp only [List.length_append, List.length_cons, List.length_nil, kwH, kwWh] at hl
   have hx : (⟨[st (B a.nm), .slc (Ex.cL (e :: r)) (r.length + 1), bl false, .slc (rws SetP.c a.sets) a.sets.length, st (B a.go), i64 a.p], 51, 0, true⟩ : AO) = ⟨a.c, 51, 0, true⟩ := by simp [ActP.c, exS, hw, hh]
   simp -implicitDefEqProofs [actV, ActP.c, exS, hw, hh, B_cat, B_size, hpos, htk, hc5]
   repeat (refine ⟨by omega, ?_⟩)
   refine call_go (h77 _) ?_
   generalize txt (shP e) = v at *
   simp -implicitDefEqProofs [actV, ActP.c, exS, hw, hh, B_cat, B_size]
   repeat (refine ⟨by omega, ?_⟩)
   rw [hx]
   refine hP _ (by simp only [List.length_append, List.length_cons, List.length_nil, kwH, kwWh]; omega) ?_ ?_
   · simp [rp]
   · simp [kwH, kwWh, B_cat]
  | true =>
   have e2 : fgTx kwH true = [32] ++ kwH := rfl
   rw [hh, e2] at hl ho
   have hP := tail ([32, 32, 97, 99, 116, 105, 111, 110, 32] ++ a.nm ++ ([32] ++ kwWh ++ [32] ++ txt (shP e)) ++ ([32] ++ kwH))
   have eo : ([32, 32, 97, 99, 116, 105, 111, 110, 32] ++ a.nm ++ ([32] ++ kwWh ++ [32] ++ txt (shP e)) ++ ([32] ++ kwH)) ++ [32, 123] ++ q ++ [32, 125] ++ u ++ [10] = out := by rw [← ho]; try simp
   rw [eo] at hP
   simp only [List.length_append, List.length_cons, List.length_nil, kwH, kwWh] at hl
   have hx : (⟨[st (B a.nm), .slc (Ex.cL (e :: r)) (r.length + 1), bl true, .slc (rws SetP.c a.sets) a.sets.length, st (B a.go), i64 a.p], 51, 0, true⟩ : AO) = ⟨a.c, 51, 0, true⟩ := by simp [ActP.c, exS, hw, hh]
   simp -implicitDefEqProofs [actV, ActP.c, exS, hw, hh, B_cat, B_size, hpos, htk, hc5]
   repeat (refine ⟨by omega, ?_⟩)
   refine call_go (h77 _) ?_
   generalize txt (shP e) = v at *
   simp -implicitDefEqProofs [actV, ActP.c, exS, hw, hh, B_cat, B_size]
   repeat (refine ⟨by omega, ?_⟩)
   rw [hx]
   refine hP _ (by simp only [List.length_append, List.length_cons, List.length_nil, kwH, kwWh]; omega) ?_ ?_
   · simp [rp]
   · simp [kwH, kwWh, B_cat]
end
end Go.Proofs.YthmdmnfojbnobaaGreatDoor
namespace Go.Proofs.YthmdmnfojbnobaaGreatDoor
open Go.Ab
def lbTx (s : List UInt8) : List UInt8 := if s = [] then [] else s ++ [58, 32]
theorem txt_lb (s : List UInt8) : txt (lbPc s) = lbTx s := by
 unfold lbPc lbTx
 split <;> simp [txt, TK.tx]
def allTx (b : Bool) : List UInt8 := if b = true then [32, 115, 101, 101, 110, 32, 98, 121, 32, 97, 108, 108] else []
theorem txt_all (b : Bool) : txt (allPc b) = allTx b := by
 unfold allPc allTx
 split <;> simp [txt, TK.tx, kwS, kwB, kwA]
theorem txt_deal (x : StageP) : txt (dealPc x) = [100, 101, 97, 108, 32] ++ x.nm ++ [32, 105, 110, 32] ++ decN x.lo.toNat ++ [32, 46, 46, 32] ++ decN x.hi.toNat ++ whTx kwW x.wt ++ allTx x.all ++ txt (seenPc x.seen) ++ [59, 10] := by
 unfold dealPc
 simp [txt, txt_app, TK.tx, txt_opt, txt_all, kwD, kwI]
theorem txt_turn {x : StageP} {e : Ex} (h : x.who = [e]) : txt (turnPc x) = [116, 117, 114, 110, 32] ++ txt (shP e) ++ [32, 123, 10] ++ txt (x.acts.flatMap actPc) ++ [125, 10] := by
 unfold turnPc
 rw [h]
 simp [txt, txt_app, TK.tx, kwT, whoP]
theorem txt_end (x : StageP) : txt (endPc x) = [101, 110, 100, 32, 123, 32, 112, 97, 121, 32] ++ txt (lsP (shL x.pays)) ++ [59, 32, 125, 10] := by
 unfold endPc
 simp [txt, txt_app, TK.tx, kwE, kwP]
theorem seen_succ {l : List Int} {i : Nat} (h : i < l.length) : txt (seenPc (l.take (i + 1))) = txt (seenPc (l.take i)) ++ (if i = 0 then [32, 115, 101, 101, 110, 32, 98, 121, 32] else [44, 32]) ++ decN l[i].toNat := by
 cases l with
 | nil => simp at h
 | cons n r =>
  cases i with
  | zero => simp [seenPc, txt, TK.tx, kwS, kwB]
  | succ i =>
   have hi : i < r.length := by simpa using h
   have e : txt ((r.take (i + 1)).flatMap fun m => [.t (.sg [44]), .b 32, .t (.nm m.toNat)]) = txt ((r.take i).flatMap fun m => [.t (.sg [44]), .b 32, .t (.nm m.toNat)]) ++ txt [.t (.sg [44]), .b 32, .t (.nm r[i].toNat)] := flat_take_succ (fun m : Int => [Pc.t (.sg [44]), .b 32, .t (.nm m.toNat)]) hi
   rw [if_neg (by omega), List.take_succ_cons, List.take_succ_cons]
   simp only [seenPc, txt_b, txt_t, List.getElem_cons_succ]
   rw [e]
   simp [txt, TK.tx]
theorem seen_take_len (l : List Int) (i : Nat) : (txt (seenPc (l.take i))).length ≤ (txt (seenPc l)).length := by
 cases l with
 | nil => simp
 | cons n r =>
  cases i with
  | zero => simp [seenPc, txt]
  | succ i =>
   have := flat_take_len (fun m : Int => [Pc.t (.sg [44]), .b 32, .t (.nm m.toNat)]) r i
   rw [List.take_succ_cons]
   simp only [seenPc, txt_b, txt_t, List.length_append]
   omega
section
variable {H : List AO}
theorem loop48_0 {x : StageP} (hl : x.seen.length ≤ 1048576) (hf : x.seen.all inB = true) {P : List UInt8} (hb : P.length + (txt (seenPc x.seen)).length ≤ 4611686018427387904) {N : Nat} {K : XE -> Env -> List AO -> Prop}
 (hexit : ∀ env G, env.get 3 = st (B (P ++ txt (seenPc x.seen))) -> K (.exit 1) env (H ++ ⟨x.c, 45, 0, true⟩ :: G)) :
 ∀ (m i : Nat) (G : List AO) (env : Env), i + m = x.seen.length -> env.get 1 = rp H.length -> env.get 3 = st (B (P ++ txt (seenPc (x.seen.take i)))) -> env.get 4 = i64 i -> LI Tryz.prog N drawB l48_0 env (H ++ ⟨x.c, 45, 0, true⟩ :: G) K := by
 intro m
 induction m with
 | zero =>
  intro i G env hi h1 h3 h4
  refine li_go hm l48_0.eq_1 ?_
  have e : i = x.seen.length := by omega
  subst e
  rw [List.take_of_length_le (Nat.le_refl _)] at h3
  simp -implicitDefEqProofs [h1, h3, h4, rp, StageP.c, exS]
  refine hexit _ _ ?_ ; simp [h3]
 | succ m ih =>
  intro i G env hi h1 h3 h4
  refine li_go hm l48_0.eq_1 ?_
  have hlt : i < x.seen.length := by omega
  have hlt' : (i : Int) < x.seen.length := by omega
  have hge : ∀ h, (ints x.seen)[i]'(h) = i64 x.seen[i] := fun h => by simp [ints]
  have hlen : (ints x.seen).length = x.seen.length := by simp [ints]
  have hh0 : i = 0 -> (ints x.seen).head? = some (i64 x.seen[i]) := fun h => by
   subst h
   rw [List.head?_eq_getElem?]; simp [ints, hlt]
  have hle := seen_take_len x.seen (i + 1)
  have ih := ih (i + 1)
  rw [seen_succ hlt] at hle
  rw [seen_succ hlt] at ih
  have hin := inB_of (List.all_eq_true.1 hf _ (List.getElem_mem hlt))
  have h45 := fun H => ok45 (H := H) (n := x.seen[i].toNat) (by omega)
  have hn : ((x.seen[i].toNat : Nat) : Int) = x.seen[i] := by omega
  rw [hn] at h45
  have hdl := decN_len x.seen[i].toNat
  generalize x.seen[i] = q at hle ih h45 hge hdl hh0
  generalize decN q.toNat = t at hle ih h45 hdl
  generalize txt (seenPc (x.seen.take i)) = p at h3 hle ih
  simp only [List.length_append] at hle
  by_cases hi0 : i = 0
  · have hh0 := hh0 hi0
    rw [if_pos hi0] at hle ih
    subst hi0
    simp only [List.length_cons, List.length_nil] at hle
    simp -implicitDefEqProofs [h1, h3, h4, rp, hlt, hlt', StageP.c, exS, hge, hlen, hh0, B_cat, B_size]
    repeat (refine ⟨by omega, ?_⟩)
    refine call_go (h45 _) ?_
    simp -implicitDefEqProofs [h1, h3, h4, rp, StageP.c, exS, B_cat, B_size]
    repeat (refine ⟨by omega, ?_⟩)
    refine LI.cong ?_ (ih G _ (by omega) ?_ ?_ ?_)
    · simp [StageP.c, exS]
    all_goals simp [h1, rp, show IntKind.i64.wrap 1 = 1 from by decide]
  · rw [if_neg hi0] at hle ih
    have hi1 : 0 < i := by omega
    simp only [List.length_cons, List.length_nil] at hle
    simp -implicitDefEqProofs [h1, h3, h4, rp, hlt, hlt', StageP.c, exS, hge, hlen, hi0, B_cat, B_size]
    repeat (refine ⟨by omega, ?_⟩)
    refine call_go (h45 _) ?_
    simp -implicitDefEqProofs [h1, h3, h4, rp, StageP.c, exS, B_cat, B_size]
    repeat (refine ⟨by omega, ?_⟩)
    refine LI.cong ?_ (ih G _ (by omega) ?_ ?_ ?_)
    · simp [StageP.c, exS]
    all_goals simp [h1, rp, wrap_suc (show i < 9223372036854775807 by omega)]
theorem loop48_1 {x : StageP} (hl : x.acts.length ≤ 1048576) (hbd : ∀ a ∈ x.acts, a.Bd) (hf : x.acts.all fineA = true) {P : List UInt8} (hb : P.length + (txt (x.acts.flatMap actPc)).length ≤ 4611686018427387904) {N : Nat} {K : XE -> Env -> List AO -> Prop}
 (hexit : ∀ env G, env.get 3 = st (B (P ++ txt (x.acts.flatMap actPc))) -> K (.exit 3) env (H ++ ⟨x.c, 45, 0, true⟩ :: G)) :
 ∀ (m i : Nat) (G : List AO) (env : Env), i + m = x.acts.length -> env.get 1 = rp H.length -> env.get 3 = st (B (P ++ txt ((x.acts.take i).flatMap actPc))) -> env.get 5 = i64 i -> LI Tryz.prog N drawB l48_1 env (H ++ ⟨x.c, 45, 0, true⟩ :: G) K := by
 intro m
 induction m with
 | zero =>
  intro i G env hi h1 h3 h4
  refine li_go hm l48_1.eq_1 ?_
  have e : i = x.acts.length := by omega
  subst e
  rw [List.take_of_length_le (Nat.le_refl _)] at h3
  simp -implicitDefEqProofs [h1, h3, h4, rp, StageP.c, exS]
  refine hexit _ _ ?_ ; simp [h3]
 | succ m ih =>
  intro i G env hi h1 h3 h4
  refine li_go hm l48_1.eq_1 ?_
  have hlt : i < x.acts.length := by omega
  have hlt' : (i : Int) < x.acts.length := by omega
  have hg := rws_c ActP.c_len hlt
  have hlen := rws_len ActP.c_len x.acts
  have hle := flat_take_len actPc x.acts (i + 1)
  have ih := ih (i + 1)
  rw [flat_take_succ actPc hlt] at hle
  rw [flat_take_succ actPc hlt] at ih
  simp only [List.length_append] at hle
  have h78 := fun H => ok78 (H := H) (hbd _ (List.getElem_mem hlt)) (List.all_eq_true.1 hf _ (List.getElem_mem hlt)) (by omega)
  generalize x.acts[i] = a at hle ih h78 hg
  generalize txt (actPc a) = t at hle ih h78
  generalize txt ((x.acts.take i).flatMap actPc) = p at h3 hle ih
  simp only [actV] at h78
  simp -implicitDefEqProofs [h1, h3, h4, rp, hlt, hlt', StageP.c, exS, hg, hlen]
  refine ⟨by omega, call_go (h78 _) ?_⟩
  simp -implicitDefEqProofs [h1, h3, h4, rp, StageP.c, exS, B_cat, B_size]
  refine ⟨by omega, ?_⟩
  refine LI.cong ?_ (ih G _ (by omega) ?_ ?_ ?_)
  · simp [StageP.c, exS]
  all_goals simp [h1, rp, wrap_suc (show i < 9223372036854775807 by omega)]
end
end Go.Proofs.YthmdmnfojbnobaaGreatDoor
namespace Go.Proofs.YthmdmnfojbnobaaGreatDoor
open Go.Ab
section
variable {H : List AO}
theorem t48_deal (hcl : closed H) {x : StageP} (hb : x.Bd) (k1 : x.k = 1) (hf : fineSt x = true) {P : List UInt8} {env : Env} (hl : P.length + (txt (dealPc x)).length ≤ 4611686018427387904) (g1 : env.get 1 = rp H.length) (g3 : env.get 3 = st (B P)) :
 X Tryz.prog Tryz.f48.ntmps drawB (IC.tl 3 i48) env (H ++ [⟨x.c, 45, 0, true⟩]) (Fin H.length r48 (.ret (st (B (P ++ txt (dealPc x))))) H) := by
 unfold fineSt at hf
 rw [if_pos k1] at hf
 simp only [Bool.and_eq_true, Bool.or_eq_true, decide_eq_true_eq, Bool.not_eq_true'] at hf
 obtain ⟨f1, f2, f3, f4, f5, f6, f7, f8, f9, f10, f11, f12⟩ := hf
 have q1 := inB_of f9
 have q2 := inB_of f10
 have h45a := fun H => ok45 (H := H) (n := x.lo.toNat) (by omega)
 have h45b := fun H => ok45 (H := H) (n := x.hi.toNat) (by omega)
 rw [show ((x.lo.toNat : Nat) : Int) = x.lo by omega] at h45a
 rw [show ((x.hi.toNat : Nat) : Int) = x.hi by omega] at h45b
 rw [txt_deal] at hl ⊢
 simp only [List.length_append, List.length_cons, List.length_nil] at hl
 have hseen : ∀ P, P.length + (txt (seenPc x.seen)).length ≤ 4611686018427387904 -> ∀ {K : XE -> Env -> List AO -> Prop} (env : Env), (∀ env G, env.get 3 = st (B (P ++ txt (seenPc x.seen))) -> K (.exit 1) env (H ++ ⟨x.c, 45, 0, true⟩ :: G)) -> env.get 1 = rp H.length -> env.get 3 = st (B P) -> env.get 4 = i64 0 -> LI Tryz.prog Tryz.f48.ntmps drawB l48_0 env (H ++ ⟨x.c, 45, 0, true⟩ :: []) K := by
  intro P hP K env hk g1 g3 g4
  exact loop48_0 hb.seen f5 hP hk x.seen.length 0 [] env (by omega) g1 (by rw [g3]; simp [seenPc, txt]) g4
 generalize txt (seenPc x.seen) = q at hl hseen ⊢
 generalize decN x.lo.toNat = lo at hl h45a ⊢
 generalize decN x.hi.toNat = hi at hl h45b ⊢
 unfold i48 r48
 simp only [IC.tl]
 generalize ho : (P ++ ([100, 101, 97, 108, 32] ++ x.nm ++ [32, 105, 110, 32] ++ lo ++ [32, 46, 46, 32] ++ hi ++ whTx kwW x.wt ++ allTx x.all ++ q ++ [59, 10]) : List UInt8) = out
 simp -implicitDefEqProofs [g1, g3, rp, StageP.c, exS, k1, B_cat, B_size]
 repeat (refine ⟨by omega, ?_⟩)
 refine callq_go (fun _ => h45a _) ?_
 simp -implicitDefEqProofs [g1, g3, rp, StageP.c, exS, k1, B_cat, B_size]
 repeat (refine ⟨by omega, ?_⟩)
 refine callq_go (fun _ => h45b _) ?_
 simp -implicitDefEqProofs [g1, g3, rp, StageP.c, exS, k1, B_cat, B_size]
 repeat (refine ⟨by omega, ?_⟩)
 cases hw : x.wt with
 | nil =>
  have e1 : whTx kwW [] = [] := rfl
  rw [hw, e1] at hl ho
  cases ha : x.all with
  | false =>
   have e2 : allTx false = [] := rfl
   rw [ha, e2] at hl ho
   simp only [List.length_nil] at hl
   simp -implicitDefEqProofs [g1, g3, rp, StageP.c, exS, k1, hw, ha, B_cat, B_size]
   refine LI.cong (H' := H ++ ⟨x.c, 45, 0, true⟩ :: []) (by simp [StageP.c, exS, k1, hw, ha]) ?_
   refine hseen (P ++ ([100, 101, 97, 108, 32] ++ x.nm ++ [32, 105, 110, 32] ++ lo ++ [32, 46, 46, 32] ++ hi)) (by simp only [List.length_append, List.length_cons, List.length_nil]; omega) _ (fun env G g3 => ?_) ?_ ?_ ?_
   · simp -implicitDefEqProofs [g3, B_cat, B_size]
     repeat (refine ⟨by omega, ?_⟩)
     refine cv_fz 3 hcl rfl ?_
     rw [← ho]; simp
   all_goals simp [g1, rp]
  | true =>
   have e2 : allTx true = [32, 115, 101, 101, 110, 32, 98, 121, 32, 97, 108, 108] := rfl
   rw [ha, e2] at hl ho
   simp only [List.length_cons, List.length_nil] at hl
   simp -implicitDefEqProofs [g1, g3, rp, StageP.c, exS, k1, hw, ha, B_cat, B_size]
   repeat (refine ⟨by omega, ?_⟩)
   refine LI.cong (H' := H ++ ⟨x.c, 45, 0, true⟩ :: []) (by simp [StageP.c, exS, k1, hw, ha]) ?_
   refine hseen (P ++ ([100, 101, 97, 108, 32] ++ x.nm ++ [32, 105, 110, 32] ++ lo ++ [32, 46, 46, 32] ++ hi ++ [32, 115, 101, 101, 110, 32, 98, 121, 32, 97, 108, 108])) (by simp only [List.length_append, List.length_cons, List.length_nil]; omega) _ (fun env G g3 => ?_) ?_ ?_ ?_
   · simp -implicitDefEqProofs [g3, B_cat, B_size]
     repeat (refine ⟨by omega, ?_⟩)
     refine cv_fz 3 hcl rfl ?_
     rw [← ho]; simp
   all_goals simp [g1, rp]
 | cons e r =>
  have e1 : whTx kwW (e :: r) = [32, 119, 101, 105, 103, 104, 116, 32] ++ txt (shP e) := by simp [whTx, kwW]
  rw [hw, e1] at hl ho
  rw [hw, fineL, Bool.and_eq_true] at f2
  simp only [List.length_append, List.length_cons, List.length_nil] at hl
  have h77 := ok77 e f2.1 (by omega)
  have hpos : (0 : Int) < (r.length : Int) + 1 := by omega
  have htk : (Ex.cL (e :: r)).take 5 = e.c := by rw [Ex.cL, List.take_left' (by simp)]
  have hc5 : (Ex.cL (e :: r)).length = (r.length + 1) * 5 := exL_len _
  simp -implicitDefEqProofs [g1, g3, rp, StageP.c, exS, k1, hw, B_cat, B_size, hpos, htk, hc5]
  repeat (refine ⟨by omega, ?_⟩)
  refine call_go (h77 _) ?_
  generalize txt (shP e) = v at *
  cases ha : x.all with
  | false =>
   have e2 : allTx false = [] := rfl
   rw [ha, e2] at hl ho
   simp only [List.length_nil] at hl
   simp -implicitDefEqProofs [g1, g3, rp, StageP.c, exS, k1, hw, ha, B_cat, B_size]
   repeat (refine ⟨by omega, ?_⟩)
   refine LI.cong (H' := H ++ ⟨x.c, 45, 0, true⟩ :: []) (by simp [StageP.c, exS, k1, hw, ha]) ?_
   refine hseen (P ++ ([100, 101, 97, 108, 32] ++ x.nm ++ [32, 105, 110, 32] ++ lo ++ [32, 46, 46, 32] ++ hi ++ ([32, 119, 101, 105, 103, 104, 116, 32] ++ v))) (by simp only [List.length_append, List.length_cons, List.length_nil]; omega) _ (fun env G g3 => ?_) ?_ ?_ ?_
   · simp -implicitDefEqProofs [g3, B_cat, B_size]
     repeat (refine ⟨by omega, ?_⟩)
     refine cv_fz 3 hcl rfl ?_
     rw [← ho]; simp
   all_goals simp [g1, rp]
  | true =>
   have e2 : allTx true = [32, 115, 101, 101, 110, 32, 98, 121, 32, 97, 108, 108] := rfl
   rw [ha, e2] at hl ho
   simp only [List.length_cons, List.length_nil] at hl
   simp -implicitDefEqProofs [g1, g3, rp, StageP.c, exS, k1, hw, ha, B_cat, B_size]
   repeat (refine ⟨by omega, ?_⟩)
   refine LI.cong (H' := H ++ ⟨x.c, 45, 0, true⟩ :: []) (by simp [StageP.c, exS, k1, hw, ha]) ?_
   refine hseen (P ++ ([100, 101, 97, 108, 32] ++ x.nm ++ [32, 105, 110, 32] ++ lo ++ [32, 46, 46, 32] ++ hi ++ ([32, 119, 101, 105, 103, 104, 116, 32] ++ v) ++ [32, 115, 101, 101, 110, 32, 98, 121, 32, 97, 108, 108])) (by simp only [List.length_append, List.length_cons, List.length_nil]; omega) _ (fun env G g3 => ?_) ?_ ?_ ?_
   · simp -implicitDefEqProofs [g3, B_cat, B_size]
     repeat (refine ⟨by omega, ?_⟩)
     refine cv_fz 3 hcl rfl ?_
     rw [← ho]; simp
   all_goals simp [g1, rp]
theorem t48_turn (hcl : closed H) {x : StageP} (hb : x.Bd) (k2 : x.k = 2) (hf : fineSt x = true) {P : List UInt8} {env : Env} (hl : P.length + (txt (turnPc x)).length ≤ 4611686018427387904) (g1 : env.get 1 = rp H.length) (g3 : env.get 3 = st (B P)) :
 X Tryz.prog Tryz.f48.ntmps drawB (IC.tl 3 i48) env (H ++ [⟨x.c, 45, 0, true⟩]) (Fin H.length r48 (.ret (st (B (P ++ txt (turnPc x))))) H) := by
 unfold fineSt at hf
 rw [if_neg (by omega), if_pos k2] at hf
 simp only [Bool.and_eq_true, Bool.or_eq_true, decide_eq_true_eq, Bool.not_eq_true'] at hf
 obtain ⟨f1, f2, f3, f4, f5, f6, f7, f8, f9⟩ := hf
 obtain ⟨e, hw⟩ : ∃ e, x.who = [e] := by
  match hq : x.who, f8 with
  | [e], _ => exact ⟨e, rfl⟩
 rw [hw, fineL, Bool.and_eq_true] at f3
 rw [txt_turn hw] at hl ⊢
 simp only [List.length_append, List.length_cons, List.length_nil] at hl
 have h77 := ok77 e f3.1 (by omega)
 have hacts : ∀ P, P.length + (txt (x.acts.flatMap actPc)).length ≤ 4611686018427387904 -> ∀ {K : XE -> Env -> List AO -> Prop} (env : Env), (∀ env G, env.get 3 = st (B (P ++ txt (x.acts.flatMap actPc))) -> K (.exit 3) env (H ++ ⟨x.c, 45, 0, true⟩ :: G)) -> env.get 1 = rp H.length -> env.get 3 = st (B P) -> env.get 5 = i64 0 -> LI Tryz.prog Tryz.f48.ntmps drawB l48_1 env (H ++ ⟨x.c, 45, 0, true⟩ :: []) K := by
  intro P hP K env hk g1 g3 g4
  exact loop48_1 hb.acts hb.act f5 hP hk x.acts.length 0 [] env (by omega) g1 (by rw [g3]; simp [txt]) g4
 have htk : (Ex.cL [e]).take 5 = e.c := by rw [Ex.cL, List.take_left' (by simp)]
 have hc5 : (Ex.cL [e]).length = 5 := exL_len [e]
 generalize txt (x.acts.flatMap actPc) = q at hl hacts ⊢
 generalize txt (shP e) = v at hl h77 ⊢
 generalize ho : (P ++ ([116, 117, 114, 110, 32] ++ v ++ [32, 123, 10] ++ q ++ [125, 10]) : List UInt8) = out
 unfold i48 r48
 simp only [IC.tl]
 simp -implicitDefEqProofs [g1, g3, rp, StageP.c, exS, k2, hw, B_cat, B_size, htk, hc5]
 repeat (refine ⟨by omega, ?_⟩)
 refine call_go (h77 _) ?_
 simp -implicitDefEqProofs [g1, g3, rp, StageP.c, exS, k2, hw, B_cat, B_size]
 repeat (refine ⟨by omega, ?_⟩)
 refine LI.cong (H' := H ++ ⟨x.c, 45, 0, true⟩ :: []) (by simp [StageP.c, exS, k2, hw]) ?_
 refine hacts (P ++ ([116, 117, 114, 110, 32] ++ v ++ [32, 123, 10])) (by simp only [List.length_append, List.length_cons, List.length_nil]; omega) _ (fun env G g3 => ?_) ?_ ?_ ?_
 · simp -implicitDefEqProofs [g3, B_cat, B_size]
   repeat (refine ⟨by omega, ?_⟩)
   refine cv_fz 3 hcl rfl ?_
   rw [← ho]; simp
 all_goals simp [g1, rp]
theorem t48_end (hcl : closed H) {x : StageP} (hb : x.Bd) (k3 : x.k = 3) (hf : fineSt x = true) {P : List UInt8} {env : Env} (hl : P.length + (txt (endPc x)).length ≤ 4611686018427387904) (g1 : env.get 1 = rp H.length) (g3 : env.get 3 = st (B P)) :
 X Tryz.prog Tryz.f48.ntmps drawB (IC.tl 3 i48) env (H ++ [⟨x.c, 45, 0, true⟩]) (Fin H.length r48 (.ret (st (B (P ++ txt (endPc x))))) H) := by
 unfold fineSt at hf
 rw [if_neg (by omega), if_neg (by omega), if_pos k3] at hf
 simp only [Bool.and_eq_true, Bool.or_eq_true, decide_eq_true_eq, Bool.not_eq_true'] at hf
 obtain ⟨f1, f2, f3, f4, f5, f6, f7⟩ := hf
 rw [txt_end] at hl ⊢
 simp only [List.length_append, List.length_cons, List.length_nil] at hl
 have h79 := fun H => ok79 (H := H) (l := x.pays) (by have := hb.pays; omega) (ok77L x.pays) (fineL_mem f4) (by omega)
 simp only [exS] at h79
 generalize txt (lsP (shL x.pays)) = q at hl h79 ⊢
 generalize ho : (P ++ ([101, 110, 100, 32, 123, 32, 112, 97, 121, 32] ++ q ++ [59, 32, 125, 10]) : List UInt8) = out
 unfold i48 r48
 simp only [IC.tl]
 simp -implicitDefEqProofs [g1, g3, rp, StageP.c, exS, k3, B_cat, B_size]
 repeat (refine ⟨by omega, ?_⟩)
 refine call_go (h79 _) ?_
 simp -implicitDefEqProofs [g1, g3, rp, StageP.c, exS, k3, B_cat, B_size]
 repeat (refine ⟨by omega, ?_⟩)
 refine cv_fz 3 hcl rfl ?_
 rw [← ho]; simp
theorem ok48 {x : StageP} (hb : x.Bd) (hf : fineSt x = true) (hl : (txt (stagePc x)).length ≤ 4611686018427387904) : Ok Tryz.prog 48 [stageV x] H (.ret (st (B (txt (stagePc x))))) H := by
 have hk : x.k = 1 ∨ x.k = 2 ∨ x.k = 3 := by
  have hf := hf
  unfold fineSt at hf
  simp only [Bool.and_eq_true] at hf
  obtain ⟨_, _, _, _, f5⟩ := hf
  by_cases h1 : x.k = 1
  · exact .inl h1
  · rw [if_neg h1] at f5
    by_cases h2 : x.k = 2
    · exact .inr (.inl h2)
    · rw [if_neg h2] at f5
      by_cases h3 : x.k = 3
      · exact .inr (.inr h3)
      · rw [if_neg h3] at f5; cases f5
 refine ok_fn hm Tryz.func48 c48 (by simp) fun hcl => ?_
 have hd : i48 = .seq (IC.nth 0 i48) (.seq (IC.nth 1 i48) (.seq (IC.nth 2 i48) (IC.tl 3 i48))) := rfl
 rw [hd]
 have tail : ∀ (env : Env), env.get 1 = rp H.length -> env.get 3 = st (B (lbTx x.lb)) -> X Tryz.prog Tryz.f48.ntmps drawB (IC.tl 3 i48) env (H ++ [⟨x.c, 45, 0, true⟩]) (Fin H.length r48 (.ret (st (B (txt (stagePc x))))) H) := by
  intro env g1 g3
  unfold stagePc at hl ⊢
  rw [txt_app, txt_lb, List.length_append] at hl
  rw [txt_app, txt_lb]
  rcases hk with hk | hk | hk
  · rw [if_pos hk] at hl ⊢
    exact t48_deal hcl hb hk hf hl g1 g3
  · rw [if_neg (by omega), if_pos hk] at hl ⊢
    exact t48_turn hcl hb hk hf hl g1 g3
  · rw [if_neg (by omega), if_neg (by omega)] at hl ⊢
    exact t48_end hcl hb hk hf hl g1 g3
 have hlb : x.lb.length + 2 ≤ 4611686018427387906 := by
  by_cases h : x.lb = []
  · simp [h]
  · unfold stagePc at hl
    rw [txt_app, txt_lb, List.length_append] at hl
    have : (lbTx x.lb).length = x.lb.length + 2 := by unfold lbTx; rw [if_neg h]; simp
    omega
 generalize txt (stagePc x) = out at tail
 generalize IC.tl 3 i48 = t at tail
 unfold i48 r48
 unfold r48 at tail
 simp only [IC.nth]
 by_cases h : x.lb = []
 · have e : lbTx x.lb = [] := by unfold lbTx; rw [if_pos h]
   rw [e] at tail
   have hx : (⟨[i64 x.k, st (B []), st (B x.nm), i64 x.lo, i64 x.hi, .slc (Ex.cL x.wt) x.wt.length, bl x.all, .slc (ints x.seen) x.seen.length, .slc (Ex.cL x.who) x.who.length, .slc (rws ActP.c x.acts) x.acts.length, .slc (Ex.cL x.pays) x.pays.length, i64 x.p], 45, 0, true⟩ : AO) = ⟨x.c, 45, 0, true⟩ := by simp [StageP.c, exS, h]
   simp -implicitDefEqProofs [stageV, StageP.c, exS, h]
   rw [hx]
   refine tail _ ?_ ?_
   · simp [rp]
   · simp
 · have e : lbTx x.lb = x.lb ++ [58, 32] := by unfold lbTx; rw [if_neg h]
   rw [e] at tail
   simp -implicitDefEqProofs [stageV, StageP.c, exS, h, B_cat, B_size]
   refine ⟨by omega, ?_⟩
   refine tail _ ?_ ?_
   · simp [rp]
   · simp
end
end Go.Proofs.YthmdmnfojbnobaaGreatDoor
namespace Go.Proofs.YthmdmnfojbnobaaGreatDoor
open Go.Ab
structure RulesP.Nb (r : RulesP) : Prop where
 nm : r.nm.length < 4611686018427387904
 vars : ∀ v ∈ r.vars, v.nm.length < 4611686018427387904
 st : ∀ x ∈ r.stages, x.Nb
def prnR (r : RulesP) : List UInt8 × Int :=
 if fineR r = true then (if 20000 < (txt (rulesPc r)).length then ([], 4) else if (parseR (txt (rulesPc r))).2.1 ≠ 0 then ([], (parseR (txt (rulesPc r))).2.1) else (txt (rulesPc r), 0)) else ([], 3)
theorem txt_sgn (n : Int) : txt (sgnPc n) = sgnN n := by
 unfold sgnPc sgnN
 split <;> simp [txt, TK.tx]
theorem txt_var (v : VarP) : txt (varPc v) = [118, 97, 114, 32] ++ v.nm ++ [32, 61, 32] ++ sgnN v.n ++ [59, 10] := by
 unfold varPc
 simp [txt, txt_app, TK.tx, txt_sgn, kwV]
theorem sgnN_len (n : Int) : (sgnN n).length ≤ 21 := by
 have := decN_len n.natAbs
 unfold sgnN
 split
 · simp; omega
 · omega
theorem var_len {v : VarP} (hf : fineV v = true) : (txt (varPc v)).length ≤ 70 := by
 unfold fineV at hf
 simp only [Bool.and_eq_true] at hf
 have h1 := (nmd_of hf.1).1.2.2.2
 have h2 := sgnN_len v.n
 rw [txt_var]
 simp only [List.length_append, List.length_cons, List.length_nil]
 omega
theorem vars_len : ∀ (l : List VarP), (l.all fineV) = true -> (txt (l.flatMap varPc)).length ≤ 70 * l.length
 | [], _ => by simp [txt]
 | v :: r, h => by
  rw [List.all_cons, Bool.and_eq_true] at h
  have h1 := var_len h.1
  have h2 := vars_len r h.2
  rw [List.flatMap_cons, txt_app, List.length_append, List.length_cons]
  omega
theorem txt_rules (r : RulesP) : txt (rulesPc r) = ([103, 97, 109, 101, 32] ++ r.nm ++ [59, 10, 112, 108, 97, 121, 101, 114, 115, 32] ++ decN r.pl.toNat ++ [59, 10]) ++ txt (r.vars.flatMap varPc) ++ txt (r.stages.flatMap stagePc) := by
 unfold rulesPc
 simp [txt, txt_app, TK.tx, kwG, kwPl]
section
variable {H : List AO}
theorem loop19_0 {r : RulesP} (hl : r.vars.length ≤ 1048576) (hn : ∀ v ∈ r.vars, v.nm.length < 4611686018427387904) {P : List UInt8} (hP : P.length ≤ 1000) {N : Nat} {K : XE -> Env -> List AO -> Prop}
 (hret : r.vars.all fineV = false -> ∀ env G, env.get 2 = st (B []) -> env.get 3 = i64 3 -> K .ret env (H ++ rO r :: G))
 (hexit : r.vars.all fineV = true -> ∀ env G, env.get 1 = rp H.length -> env.get 4 = st (B (P ++ txt (r.vars.flatMap varPc))) -> K (.exit 0) env (H ++ rO r :: G)) :
 ∀ (m i : Nat) (G : List AO) (env : Env), i + m = r.vars.length -> (r.vars.take i).all fineV = true -> r.vars.all fineV = (r.vars.drop i).all fineV -> env.get 1 = rp H.length -> env.get 4 = st (B (P ++ txt ((r.vars.take i).flatMap varPc))) -> env.get 5 = i64 i -> LI Tryz.prog N drawB l19_0 env (H ++ rO r :: G) K := by
 intro m
 induction m with
 | zero =>
  intro i G env hi hq0 hq h1 h4 h5
  refine li_go hm l19_0.eq_1 ?_
  have e : i = r.vars.length := by omega
  subst e
  rw [List.drop_length] at hq
  rw [List.take_of_length_le (Nat.le_refl _)] at h4
  simp -implicitDefEqProofs [h1, h4, h5, rp, RulesP.c, rO]
  refine hexit hq _ _ ?_ ?_ <;> simp [h1, h4, rp]
 | succ m ih =>
  intro i G env hi hq0 hq h1 h4 h5
  refine li_go hm l19_0.eq_1 ?_
  have hlt : i < r.vars.length := by omega
  have hlt' : (i : Int) < r.vars.length := by omega
  have hlen := rws_len VarP.c_len r.vars
  have g0 := var_0 hlt
  have g1 := var_1 hlt
  have hvl := vars_len _ hq0
  rw [List.length_take] at hvl
  have ih := ih (i + 1)
  rw [flat_take_succ varPc hlt, txt_var] at ih
  have htk : (r.vars.take (i + 1)).all fineV = ((r.vars.take i).all fineV && fineV r.vars[i]) := by
   rw [List.take_succ_eq_append_getElem hlt, List.all_append]; simp
  rw [htk, hq0, Bool.true_and] at ih
  rw [List.drop_eq_getElem_cons hlt, List.all_cons] at hq
  have hvn := hn _ (List.getElem_mem hlt)
  have hfl : fineV r.vars[i] = true -> r.vars[i].nm.length ≤ 40 := fun h => by
   unfold fineV at h
   simp only [Bool.and_eq_true] at h
   exact (nmd_of h.1).1.2.2.2
  generalize r.vars[i] = v at g0 g1 ih hq hvn hfl
  generalize txt ((r.vars.take i).flatMap varPc) = q at h4 ih hvl
  have h43 := fun H => ok43 (H := H) hvn
  have h44 := fun H => ok44 (H := H) v.n (-1000000000)
  have hsl := sgnN_len v.n
  have hfv : fineV v = (nmdF v.nm && decide (-1000000000 ≤ v.n ∧ v.n ≤ 1000000000)) := by unfold fineV; rw [Bool.decide_and]
  rw [hfv] at hq ih hfl
  simp -implicitDefEqProofs [h1, h4, h5, rp, hlt, hlt', g0, hlen, RulesP.c, rO]
  refine ⟨by omega, call_go (h43 _) ?_⟩
  cases hc : nmdF v.nm with
  | false =>
   rw [hc, Bool.false_and, Bool.false_and] at hq
   simp -implicitDefEqProofs [h1, h4, h5, rp, hlt, hlt', g0, hlen, RulesP.c, rO]
   refine callq_go (r := bl false) (fun h => by cases h) ?_
   simp -implicitDefEqProofs [h1, h4, h5, rp, hlt, hlt', g0, hlen, RulesP.c, rO]
   refine hret hq _ _ ?_ ?_ <;> simp
  | true =>
   rw [hc, Bool.true_and] at hq ih hfl
   simp -implicitDefEqProofs [h1, h4, h5, rp, hlt, hlt', g0, g1, hlen, RulesP.c, rO]
   refine ⟨by omega, callq_st (r := bl (decide (-1000000000 ≤ v.n ∧ v.n ≤ 1000000000))) (fun _ => h44 _) ?_⟩
   by_cases hb : -1000000000 ≤ v.n ∧ v.n ≤ 1000000000
   · rw [decide_eq_true hb] at hfl
     rw [decide_eq_true hb, Bool.true_and] at hq
     have hfl := hfl rfl
     have h46 := fun H => ok46 (H := H) (n := v.n) (by omega) (by omega)
     have ih := ih G
     rw [decide_eq_true hb] at ih
     generalize sgnN v.n = u at hsl ih h46
     simp -implicitDefEqProofs [h1, h4, h5, rp, hlt, hlt', g0, g1, hlen, RulesP.c, rO, hb, B_cat, B_size]
     repeat (refine ⟨by omega, ?_⟩)
     refine callq_go (fun _ => h46 _) ?_
     simp -implicitDefEqProofs [h1, h4, h5, rp, hlt, hlt', g0, g1, hlen, RulesP.c, rO, hb, B_cat, B_size]
     repeat (refine ⟨by omega, ?_⟩)
     refine LI.cong ?_ (ih _ (by omega) rfl hq ?_ ?_ ?_)
     · simp [RulesP.c]
     all_goals simp [h1, rp, wrap_suc (show i < 9223372036854775807 by omega)]
   · rw [decide_eq_false hb, Bool.false_and] at hq
     simp -implicitDefEqProofs [h1, h4, h5, rp, hlt, hlt', g0, hlen, RulesP.c, rO, hb]
     refine hret hq _ _ ?_ ?_ <;> simp
theorem loop19_1 {r : RulesP} (hl : r.stages.length ≤ 1048576) (hn : ∀ x ∈ r.stages, x.Nb) (hb : ∀ x ∈ r.stages, x.Bd) {N : Nat} {K : XE -> Env -> List AO -> Prop} {x4 : SV}
 (hret : r.stages.all fineSt = false -> ∀ env G, env.get 2 = st (B []) -> env.get 3 = i64 3 -> K .ret env (H ++ rO r :: G))
 (hexit : r.stages.all fineSt = true -> ∀ env G, env.get 1 = rp H.length -> env.get 4 = x4 -> K (.exit 2) env (H ++ rO r :: G)) :
 ∀ (m i : Nat) (G : List AO) (env : Env), i + m = r.stages.length -> r.stages.all fineSt = (r.stages.drop i).all fineSt -> env.get 1 = rp H.length -> env.get 4 = x4 -> env.get 6 = i64 i -> LI Tryz.prog N drawB l19_1 env (H ++ rO r :: G) K := by
 intro m
 induction m with
 | zero =>
  intro i G env hi hq h1 h4 h6
  refine li_go hm l19_1.eq_1 ?_
  have e : i = r.stages.length := by omega
  subst e
  rw [List.drop_length] at hq
  simp -implicitDefEqProofs [h1, h4, h6, rp, RulesP.c, rO]
  refine hexit hq _ _ ?_ ?_ <;> simp [h1, h4, rp]
 | succ m ih =>
  intro i G env hi hq h1 h4 h6
  refine li_go hm l19_1.eq_1 ?_
  have hlt : i < r.stages.length := by omega
  have hlt' : (i : Int) < r.stages.length := by omega
  have hg := rws_c StageP.c_len hlt
  have hlen := rws_len StageP.c_len r.stages
  have h47 := fun H => ok47 (H := H) (hn _ (List.getElem_mem hlt)) (hb _ (List.getElem_mem hlt))
  rw [List.drop_eq_getElem_cons hlt, List.all_cons] at hq
  generalize r.stages[i] = a at hq hg h47
  simp only [stageV] at h47
  simp -implicitDefEqProofs [h1, h4, h6, rp, hlt, hlt', RulesP.c, rO, hg, hlen]
  refine ⟨by omega, call_go (h47 _) ?_⟩
  cases hc : fineSt a with
  | true =>
   rw [hc, Bool.true_and] at hq
   simp -implicitDefEqProofs [h1, h4, h6, rp]
   refine LI.cong ?_ (ih (i + 1) G _ (by omega) hq ?_ ?_ ?_)
   · simp [RulesP.c]
   all_goals simp [h1, h4, rp, wrap_suc (show i < 9223372036854775807 by omega)]
  | false =>
   rw [hc, Bool.false_and] at hq
   simp -implicitDefEqProofs [h1, h4, h6, rp]
   refine hret hq _ _ ?_ ?_ <;> simp
theorem loop19_2 {r : RulesP} (hl : r.stages.length ≤ 1048576) (hb : ∀ x ∈ r.stages, x.Bd) (hf : r.stages.all fineSt = true) {P : List UInt8} (hP : P.length + (txt (r.stages.flatMap stagePc)).length ≤ 4611686018427387904) {N : Nat} {K : XE -> Env -> List AO -> Prop}
 (hexit : ∀ env G, env.get 1 = rp H.length -> env.get 4 = st (B (P ++ txt (r.stages.flatMap stagePc))) -> K (.exit 4) env (H ++ rO r :: G)) :
 ∀ (m i : Nat) (G : List AO) (env : Env), i + m = r.stages.length -> env.get 1 = rp H.length -> env.get 4 = st (B (P ++ txt ((r.stages.take i).flatMap stagePc))) -> env.get 7 = i64 i -> LI Tryz.prog N drawB l19_2 env (H ++ rO r :: G) K := by
 intro m
 induction m with
 | zero =>
  intro i G env hi h1 h4 h7
  refine li_go hm l19_2.eq_1 ?_
  have e : i = r.stages.length := by omega
  subst e
  rw [List.take_of_length_le (Nat.le_refl _)] at h4
  simp -implicitDefEqProofs [h1, h4, h7, rp, RulesP.c, rO]
  refine hexit _ _ ?_ ?_ <;> simp [h1, h4, rp]
 | succ m ih =>
  intro i G env hi h1 h4 h7
  refine li_go hm l19_2.eq_1 ?_
  have hlt : i < r.stages.length := by omega
  have hlt' : (i : Int) < r.stages.length := by omega
  have hg := rws_c StageP.c_len hlt
  have hlen := rws_len StageP.c_len r.stages
  have hle := flat_take_len stagePc r.stages (i + 1)
  have ih := ih (i + 1)
  rw [flat_take_succ stagePc hlt] at hle
  rw [flat_take_succ stagePc hlt] at ih
  simp only [List.length_append] at hle
  have h48 := fun H => ok48 (H := H) (hb _ (List.getElem_mem hlt)) (List.all_eq_true.1 hf _ (List.getElem_mem hlt)) (by omega)
  generalize r.stages[i] = a at hle ih h48 hg
  generalize txt (stagePc a) = t at hle ih h48
  generalize txt ((r.stages.take i).flatMap stagePc) = p at h4 hle ih
  simp only [stageV] at h48
  simp -implicitDefEqProofs [h1, h4, h7, rp, hlt, hlt', RulesP.c, rO, hg, hlen]
  refine ⟨by omega, call_go (h48 _) ?_⟩
  simp -implicitDefEqProofs [h1, h4, h7, rp, RulesP.c, rO, B_cat, B_size]
  refine ⟨by omega, ?_⟩
  refine LI.cong ?_ (ih G _ (by omega) ?_ ?_ ?_)
  · simp [RulesP.c]
  all_goals simp [h1, rp, wrap_suc (show i < 9223372036854775807 by omega)]
end
end Go.Proofs.YthmdmnfojbnobaaGreatDoor
namespace Go.Proofs.YthmdmnfojbnobaaGreatDoor
open Go.Ab
section
variable {H : List AO}
set_option maxRecDepth 100000 in
theorem t19 (hcl : closed H) {r : RulesP} (hb : r.Bd) (hn : r.Nb) (hst : r.stages.length ≠ 0) {P : List UInt8} (hP : P.length ≤ 1000)
 (hL : r.stages.all fineSt = true -> (txt (r.stages.flatMap stagePc)).length ≤ 4611686018327387904) {w : List UInt8 × Int}
 (hw : w = if (r.vars.all fineV && r.stages.all fineSt) = true then (if 20000 < (P ++ txt (r.vars.flatMap varPc) ++ txt (r.stages.flatMap stagePc)).length then ([], 4) else if (parseR (P ++ txt (r.vars.flatMap varPc) ++ txt (r.stages.flatMap stagePc))).2.1 ≠ 0 then ([], (parseR (P ++ txt (r.vars.flatMap varPc) ++ txt (r.stages.flatMap stagePc))).2.1) else (P ++ txt (r.vars.flatMap varPc) ++ txt (r.stages.flatMap stagePc), 0)) else ([], 3))
 {env : Env} (g1 : env.get 1 = rp H.length) (g4 : env.get 4 = st (B P)) :
 X Tryz.prog Tryz.f19.ntmps drawB (IC.tl 3 i19) env (H ++ [rO r]) (Fin H.length r19 (.ret (.tup [st (B w.1), i64 w.2])) H) := by
 unfold i19 r19
 simp only [IC.tl]
 simp -implicitDefEqProofs [g1, g4, rp]
 refine LI.cong (H' := H ++ rO r :: []) (by simp) ?_
 refine loop19_0 hb.vars hn.vars hP (fun hq env G h2 h3 => ?_) (fun hq env G g1 g4 => ?_) r.vars.length 0 [] _ (by omega) rfl rfl ?_ ?_ ?_
 · rw [hq, Bool.false_and, if_neg (by decide)] at hw
   subst hw
   simp -implicitDefEqProofs [h2, h3]
   refine cv_fz 3 hcl rfl ?_
   simp
 · rw [hq, Bool.true_and] at hw
   have hvl := vars_len _ hq
   have hv2 := hb.vars
   generalize txt (r.vars.flatMap varPc) = q at hvl g4 hw
   simp -implicitDefEqProofs [g1, g4, rp]
   refine loop19_1 hb.stages hn.st hb.st (x4 := st (B (P ++ q))) (fun hq env G h2 h3 => ?_) (fun hq env G g1 g4 => ?_) r.stages.length 0 _ _ (by omega) rfl ?_ ?_ ?_
   · rw [hq, if_neg (by decide)] at hw
     subst hw
     simp -implicitDefEqProofs [h2, h3]
     refine cv_fz 3 hcl rfl ?_
     simp
   · rw [hq, if_pos rfl] at hw
     have hL := hL hq
     simp -implicitDefEqProofs [g1, g4, rp]
     refine loop19_2 hb.stages hb.st hq (P := P ++ q) (by rw [List.length_append]; omega) (fun env G g1 g4 => ?_) r.stages.length 0 _ _ (by omega) ?_ ?_ ?_
     · generalize hs : P ++ q ++ txt (r.stages.flatMap stagePc) = s at g4 hw
       by_cases hlen : 20000 < s.length
       · rw [if_pos hlen] at hw
         subst hw
         have hlen' : (20000 : Int) < s.length := by omega
         simp -implicitDefEqProofs [g1, g4, rp, hlen, hlen', B_size]
         refine cv_fz 3 hcl rfl ?_
         simp
       · rw [if_neg hlen] at hw
         have hlen' : ¬ (20000 : Int) < s.length := by omega
         have h36 := fun H => ok36 (H := H) (l := s) (by omega)
         generalize parseR s = pr at h36 hw
         obtain ⟨⟨nm, pl, vs, ss⟩, e, at_⟩ := pr
         simp only [rulesV, RulesP.c] at h36
         simp only at hw
         simp -implicitDefEqProofs [g1, g4, rp, hlen, hlen', B_size]
         refine call_go (h36 _) ?_
         by_cases he : e = 0
         · rw [if_neg (by simp [he])] at hw
           subst hw
           simp -implicitDefEqProofs [g1, g4, rp, fltV, he]
           refine cv_fz 4 hcl rfl ?_
           simp
         · rw [if_pos he] at hw
           subst hw
           simp -implicitDefEqProofs [g1, g4, rp, fltV, he]
           refine cv_fz 4 hcl rfl ?_
           simp
     all_goals simp [g1, g4, rp, txt]
   all_goals simp [g1, g4, rp]
 all_goals simp [g1, g4, rp, txt]
theorem ok19 {r : RulesP} (hb : r.Bd) (hn : r.Nb) (hL : r.stages.all fineSt = true -> (txt (r.stages.flatMap stagePc)).length ≤ 4611686018327387904) : Ok Tryz.prog 19 [rulesV r] H (.ret (.tup [st (B (prnR r).1), i64 (prnR r).2])) H := by
 have h43 := fun H => ok43 (H := H) hn.nm
 have h44 := fun H => ok44 (H := H) r.pl 0
 have hpl : inB r.pl = decide (0 ≤ r.pl ∧ r.pl ≤ 1000000000) := by unfold inB; rw [Bool.decide_and]
 rw [← hpl] at h44
 generalize hw : prnR r = w
 unfold prnR fineR at hw
 rw [txt_rules] at hw
 refine ok_fn hm Tryz.func19 c19 (by simp) fun hcl => ?_
 have hd : i19 = .seq (IC.nth 0 i19) (.seq (IC.nth 1 i19) (.seq (IC.nth 2 i19) (IC.tl 3 i19))) := rfl
 rw [hd]
 have ht := fun (P : List UInt8) hP (hst : r.stages.length ≠ 0) hw env g1 g4 => t19 (H := H) hcl hb hn hst (P := P) hP hL (w := w) hw (env := env) g1 g4
 generalize IC.tl 3 i19 = t at ht
 unfold i19 r19
 unfold r19 at ht
 simp only [IC.nth]
 simp -implicitDefEqProofs [rulesV, RulesP.c]
 refine call_go (h43 _) ?_
 cases hc : nmdF r.nm with
 | false =>
  rw [hc, Bool.false_and, if_neg (by decide)] at hw
  subst hw
  simp -implicitDefEqProofs
  refine callq_go (r := bl false) (fun h => by cases h) ?_
  simp -implicitDefEqProofs
  refine cv_fz 3 hcl rfl ?_
  simp
 | true =>
  rw [hc, Bool.true_and] at hw
  have hnl := (nmd_of hc).1.2.2.2
  simp -implicitDefEqProofs
  refine callq_st (r := bl (inB r.pl)) (fun _ => h44 _) ?_
  cases hp : inB r.pl with
  | false =>
   rw [hp, Bool.false_and, if_neg (by decide)] at hw
   subst hw
   simp -implicitDefEqProofs
   refine cv_fz 3 hcl rfl ?_
   simp
  | true =>
   rw [hp, Bool.true_and] at hw
   have hpb := inB_of hp
   have h45 := fun H => ok45 (H := H) (n := r.pl.toNat) (by omega)
   rw [show ((r.pl.toNat : Nat) : Int) = r.pl by omega] at h45
   have hdl := decN_len r.pl.toNat
   by_cases hz : r.stages = []
   · have hz' : decide (r.stages.length ≠ 0) = false := by rw [hz]; rfl
     rw [hz', Bool.false_and, if_neg (by decide)] at hw
     subst hw
     simp -implicitDefEqProofs [hz]
     refine cv_fz 3 hcl rfl ?_
     simp
   · have hz0 : r.stages.length ≠ 0 := fun h => hz (List.length_eq_zero_iff.1 h)
     have hz1 : ¬ (r.stages.length : Int) = 0 := by omega
     have hz' : decide (r.stages.length ≠ 0) = true := decide_eq_true hz0
     rw [hz', Bool.true_and] at hw
     generalize decN r.pl.toNat = dp at hw h45 hdl
     have ht := ht ([103, 97, 109, 101, 32] ++ r.nm ++ [59, 10, 112, 108, 97, 121, 101, 114, 115, 32] ++ dp ++ [59, 10]) (by simp only [List.length_append, List.length_cons, List.length_nil]; omega) hz0 hw.symm
     simp -implicitDefEqProofs [hz, hz1, B_cat, B_size]
     repeat (refine ⟨by omega, ?_⟩)
     refine callq_go (fun _ => h45 _) ?_
     simp -implicitDefEqProofs [hz, hz1, B_cat, B_size]
     repeat (refine ⟨by omega, ?_⟩)
     refine ht _ ?_ ?_
     · simp [rp]
     · simp [B_cat]
end
end Go.Proofs.YthmdmnfojbnobaaGreatDoor
namespace Go.Proofs.YthmdmnfojbnobaaGreatDoor
open Go.Ab
theorem erL_len : ∀ l : List Ex, (Ex.erL l).length = l.length
 | [] => rfl
 | e :: r => by simp [Ex.erL, erL_len r]
theorem chk_er (own : Int) : ∀ (ts ks : List Int) (l : List Ex), (chkT own ts ks (Ex.erL l)).1 = (chkT own ts ks l).1 ∧ (chkT own ts ks (Ex.erL l)).2.1 = (chkT own ts ks l).2.1
 | t :: ts, k :: ks, e :: l => by
  rw [Ex.erL, chkT, chkT]
  split
  · exact ⟨rfl, rfl⟩
  · exact chk_er own ts ks l
 | [], _, _ => by simp [chkT]
 | _ :: _, [], _ => by simp [chkT]
 | _ :: _, _ :: _, [] => by simp [chkT, Ex.erL]
def SameK : Except (Int × Int) (List Int) -> Except (Int × Int) (List Int) -> Prop
 | .error f, .error g => f.1 = g.1
 | .ok a, .ok b => a = b
 | _, _ => False
mutual
theorem tyE_er (vs : List (List UInt8)) : ∀ e : Ex, (tyE vs e.er).1 = (tyE vs e).1 ∧ (tyE vs e.er).2.1 = (tyE vs e).2.1
 | .mk op n nm l p => by
  have hl := tyL_er vs l
  rw [Ex.er, tyE, tyE, erL_len]
  cases ho : opOf op with
  | none =>
   simp only
   split
   · split
     · exact ⟨rfl, rfl⟩
     · split <;> exact ⟨rfl, rfl⟩
   · exact ⟨rfl, rfl⟩
  | some o =>
   simp only
   split
   · exact ⟨rfl, rfl⟩
   · cases h1 : tyL vs l with
     | error f =>
      cases h2 : tyL vs (Ex.erL l) with
      | error g => rw [h1, h2] at hl; exact ⟨rfl, hl⟩
      | ok b => rw [h1, h2] at hl; exact hl.elim
     | ok a =>
      cases h2 : tyL vs (Ex.erL l) with
      | error g => rw [h1, h2] at hl; exact hl.elim
      | ok b =>
       rw [h1, h2] at hl
       have hl : b = a := hl
       subst hl
       exact chk_er _ _ _ _
theorem tyL_er (vs : List (List UInt8)) : ∀ l : List Ex, SameK (tyL vs (Ex.erL l)) (tyL vs l)
 | [] => by rw [Ex.erL, tyL]; rfl
 | e :: r => by
  obtain ⟨h1, h2⟩ := tyE_er vs e
  have h3 := tyL_er vs r
  rw [Ex.erL, tyL, tyL]
  by_cases he : (tyE vs e).2.1 = 0
  · rw [if_neg (by rw [h2]; exact fun h => h he), if_neg (fun h => h he)]
    cases q1 : tyL vs (Ex.erL r) with
    | error f =>
     cases q2 : tyL vs r with
     | error g => rw [q1, q2] at h3; exact h3
     | ok b => rw [q1, q2] at h3; exact h3.elim
    | ok a =>
     cases q2 : tyL vs r with
     | error g => rw [q1, q2] at h3; exact h3.elim
     | ok b =>
      rw [q1, q2] at h3
      have h3 : a = b := h3
      show _ :: _ = _ :: _
      rw [h1, h3]
  · rw [if_pos (by rw [h2]; exact he), if_pos he]
    exact h2
end
theorem ife {A A' B B' : Int × Int} (h : A.1 = A'.1) (hb : B.1 = B'.1) : (if A.1 ≠ 0 then A else B).1 = (if A'.1 ≠ 0 then A' else B').1 := by
 rw [h]
 split
 · exact h
 · exact hb
theorem itc {p : Prop} [Decidable p] {A A' B B' : Int × Int} (h : A.1 = A'.1) (hb : B.1 = B'.1) : (if p then A else B).1 = (if p then A' else B').1 := by
 split
 · exact h
 · exact hb
section
variable {vs : List (List UInt8)}
theorem wantF_er (e : Ex) (k : Int) : (wantF vs e.er k).1 = (wantF vs e k).1 := by
 obtain ⟨h1, h2⟩ := tyE_er vs e
 refine ife h2 ?_
 rw [h1]
 split <;> rfl
theorem wantL_er (k : Int) : ∀ l : List Ex, (wantL vs k (Ex.erL l)).1 = (wantL vs k l).1
 | [] => rfl
 | e :: r => by
  rw [Ex.erL, wantL, wantL]
  have h := wantF_er (vs := vs) e k
  by_cases he : (wantF vs e k).1 = 0
  · rw [if_neg (by rw [h]; exact fun h => h he), if_neg (fun h => h he)]
    exact wantL_er k r
  · rw [if_pos (by rw [h]; exact he), if_pos he]
    exact h
theorem seen_er (pl p p' : Int) : ∀ (q : Int) (l : List Int), (seenF pl p q l).1 = (seenF pl p' q l).1
 | _, [] => rfl
 | q, n :: r => by
  rw [seenF, seenF]
  split
  · rfl
  · split
    · rfl
    · exact seen_er pl p p' n r
theorem deal_er (pl : Int) (x : StageP) : (dealF vs pl x.er).1 = (dealF vs pl x).1 := by
 have h := wantL_er (vs := vs) 1 x.wt
 unfold dealF StageP.er
 simp only
 split
 · rfl
 · split
   · rfl
   · by_cases he : (wantL vs 1 x.wt).1 = 0
     · rw [if_neg (by rw [h]; exact fun h => h he), if_neg (fun h => h he)]
       exact seen_er ..
     · rw [if_pos (by rw [h]; exact he), if_pos he]
       exact h
theorem set_er : ∀ l : List SetP, (setF vs (l.map SetP.er)).1 = (setF vs l).1
 | [] => rfl
 | s :: r => by
  have h := wantF_er (vs := vs) s.e 1
  rw [List.map_cons, setF, setF]
  show (if s.nm ∉ vs then _ else if (wantF vs s.e.er 1).1 ≠ 0 then wantF vs s.e.er 1 else setF vs (r.map SetP.er)).1 = _
  split
  · rfl
  · by_cases he : (wantF vs s.e 1).1 = 0
    · rw [if_neg (by rw [h]; exact fun h => h he), if_neg (fun h => h he)]
      exact set_er r
    · rw [if_pos (by rw [h]; exact he), if_pos he]
      exact h
theorem find_er (s : List UInt8) : ∀ (i : Nat) (l : List StageP), findG s i (l.map StageP.er) = findG s i l
 | _, [] => rfl
 | i, x :: r => by
  rw [List.map_cons, findG, findG, find_er s (i + 1) r]
  rfl
theorem findF_er (l : List StageP) (s : List UInt8) : findF (l.map StageP.er) s = findF l s := find_er s 0 l
theorem act_er (stgs : List StageP) (i : Int) (a : ActP) : (actF vs (stgs.map StageP.er) i a.er).1 = (actF vs stgs i a).1 := by
 have h1 := wantL_er (vs := vs) 2 a.wh
 have h2 := set_er (vs := vs) a.sets
 show (if 1 < (Ex.erL a.wh).length then _ else _ : Int × Int).1 = _
 rw [erL_len]
 refine itc rfl (ife h1 (ife h2 ?_))
 unfold goF
 rw [findF_er]
 refine itc rfl (itc rfl (itc rfl rfl))
theorem acts_er (stgs : List StageP) (i : Int) : ∀ (l : List (List UInt8)) (as' : List ActP), (actsF vs (stgs.map StageP.er) i l (as'.map ActP.er)).1 = (actsF vs stgs i l as').1
 | _, [] => rfl
 | l, a :: r => by
  have h := act_er (vs := vs) stgs i a
  rw [List.map_cons, actsF, actsF]
  show (if a.nm ∈ l then _ else if (actF vs (stgs.map StageP.er) i a.er).1 ≠ 0 then actF vs (stgs.map StageP.er) i a.er else actsF vs (stgs.map StageP.er) i (addS l a.nm) (r.map ActP.er)).1 = _
  split
  · rfl
  · by_cases he : (actF vs stgs i a).1 = 0
    · rw [if_neg (by rw [h]; exact fun h => h he), if_neg (fun h => h he)]
      exact acts_er stgs i (addS l a.nm) r
    · rw [if_pos (by rw [h]; exact he), if_pos he]
      exact h
theorem turn_er (stgs : List StageP) (i : Int) (x : StageP) : (turnF vs (stgs.map StageP.er) i x.er).1 = (turnF vs stgs i x).1 := by
 have e1 : x.er.who = Ex.erL x.who := rfl
 have e2 : x.er.acts = x.acts.map ActP.er := rfl
 unfold turnF
 rw [e1, e2]
 cases x.who with
 | nil => rfl
 | cons e r =>
  rw [Ex.erL, List.length_map]
  exact ife (wantF_er e 1) (itc rfl (acts_er stgs i [] x.acts))
theorem stage_er (pl : Int) (stgs : List StageP) (i : Int) (x : StageP) : (stageF vs pl (stgs.map StageP.er) i x.er).1 = (stageF vs pl stgs i x).1 := by
 have h1 := deal_er (vs := vs) pl x
 have h2 := turn_er (vs := vs) stgs i x
 have h3 : (endF vs pl x.er).1 = (endF vs pl x).1 := by
  unfold endF StageP.er
  simp only [erL_len]
  split
  · rfl
  · exact wantL_er 1 x.pays
 have e1 : x.er.wt.length = x.wt.length := erL_len _
 have e2 : x.er.who.length = x.who.length := erL_len _
 have e3 : x.er.k = x.k := rfl
 unfold stageF
 rw [e1, e2, e3]
 split
 · rfl
 · split
   · exact h1
   · split
     · exact h2
     · split
       · exact h3
       · rfl
theorem stages_er (pl : Int) (stgs : List StageP) : ∀ (i : Nat) (l : List StageP), (stagesF vs pl (stgs.map StageP.er) i (l.map StageP.er)).1 = (stagesF vs pl stgs i l).1
 | _, [] => rfl
 | i, x :: r => by
  have h := stage_er (vs := vs) pl stgs i x
  rw [List.map_cons, stagesF, stagesF]
  by_cases he : (stageF vs pl stgs i x).1 = 0
  · rw [if_neg (by rw [h]; exact fun h => h he), if_neg (fun h => h he)]
    exact stages_er pl stgs (i + 1) r
  · rw [if_pos (by rw [h]; exact he), if_pos he]
    exact h
end
theorem names_er (r : RulesP) : namesOf r.er = namesOf r := by
 unfold namesOf RulesP.er
 simp only [List.map_map]
 rfl
theorem var_er : ∀ (l : List (List UInt8)) (vs : List VarP), (varF l (vs.map VarP.er)).1 = (varF l vs).1
 | _, [] => rfl
 | l, v :: r => by
  rw [List.map_cons, varF, varF]
  show (if v.n < -1000000000 ∨ 1000000000 < v.n then _ else if v.nm ∈ l then _ else varF (addS l v.nm) (r.map VarP.er)).1 = _
  split
  · rfl
  · split
    · rfl
    · exact var_er (addS l v.nm) r
theorem lab_er : ∀ (l : List (List UInt8)) (ss : List StageP), (labF l (ss.map StageP.er)).1 = (labF l ss).1
 | _, [] => rfl
 | l, x :: r => by
  rw [List.map_cons, labF, labF]
  show (if x.lb = [] then labF l (r.map StageP.er) else if x.lb ∈ l then _ else labF (addS l x.lb) (r.map StageP.er)).1 = _
  split
  · exact lab_er l r
  · split
    · rfl
    · exact lab_er (addS l x.lb) r
theorem last_er (ss : List StageP) : (lastF (ss.map StageP.er)).1 = (lastF ss).1 := by
 unfold lastF
 rw [List.getLast?_map]
 cases ss.getLast? with
 | none => rfl
 | some x =>
  show (if x.er.k ≠ 3 then _ else _ : Int × Int).1 = _
  have e3 : x.er.k = x.k := rfl
  simp only [e3]
  split <;> rfl
theorem check_er (r : RulesP) : (checkF r.er).1 = (checkF r).1 := by
 unfold checkF
 rw [names_er]
 have h1 : plF r.er = plF r := rfl
 have h2 : (varF [] r.er.vars).1 = (varF [] r.vars).1 := var_er [] r.vars
 have h3 : (labF [] r.er.stages).1 = (labF [] r.stages).1 := lab_er [] r.stages
 have h4 : (lastF r.er.stages).1 = (lastF r.stages).1 := last_er r.stages
 have h5 : (stagesF (namesOf r) r.er.pl r.er.stages 0 r.er.stages).1 = (stagesF (namesOf r) r.pl r.stages 0 r.stages).1 := stages_er r.pl r.stages 0 r.stages
 have key : ∀ a b : List (Int × Int), a.map (·.1) = b.map (·.1) -> (firstF a).1 = (firstF b).1 := by
  intro a
  induction a with
  | nil => intro b h; cases b with
   | nil => rfl
   | cons y b => simp at h
  | cons x a ih =>
   intro b h
   cases b with
   | nil => simp at h
   | cons y b =>
    simp only [List.map_cons, List.cons.injEq] at h
    rw [firstF, firstF]
    by_cases hx : x.1 = 0
    · rw [if_neg (fun h => h hx), if_neg (by rw [← h.1]; exact fun h => h hx)]
      exact ih b h.2
    · rw [if_pos hx, if_pos (by rw [← h.1]; exact hx)]
      exact h.1
 refine key _ _ ?_
 simp only [List.map_cons, List.map_nil, h1, h2, h3, h4, h5]
theorem tgt_er (l : List StageP) (i act : Int) : tgtF (l.map StageP.er) i act = tgtF l i act := by
 unfold tgtF
 rw [List.getElem?_map]
 split
 · rfl
 · cases l[i.toNat]? with
   | none => rfl
   | some x =>
    show actT (l.map StageP.er) i act x.er = actT l i act x
    unfold actT
    have e1 : x.er.k = x.k := rfl
    have e2 : x.er.acts = x.acts.map ActP.er := rfl
    rw [e1, e2, List.getElem?_map]
    split
    · rfl
    · cases x.acts[act.toNat]? with
      | none => rfl
      | some a =>
       show goT (l.map StageP.er) i a.er.go = goT l i a.go
       have e3 : a.er.go = a.go := rfl
       unfold goT
       rw [findF_er, e3]
mutual
theorem hgt_er : ∀ e : Ex, e.er.hgt = e.hgt
 | .mk op n nm l p => by rw [Ex.er, Ex.hgt, Ex.hgt, hgtL_er l]
theorem hgtL_er : ∀ l : List Ex, Ex.hgtL (Ex.erL l) = Ex.hgtL l
 | [] => rfl
 | e :: r => by rw [Ex.erL, Ex.hgtL, Ex.hgtL, hgt_er e, hgtL_er r]
end
theorem erL_map : ∀ l : List Ex, Ex.erL l = l.map Ex.er
 | [] => rfl
 | e :: r => by rw [Ex.erL, erL_map r]; rfl
theorem actOk_er {a : ActP} : a.er.Ok ↔ a.Ok := by
 constructor
 · rintro ⟨h1, h2, h3⟩
   unfold ActP.er at h1 h2 h3
   simp only [List.length_map] at h1
   refine ⟨h1, fun e he => ?_, fun s hs => ?_⟩
   · have := h2 e.er (by simp only [erL_map, List.mem_map]; exact ⟨e, he, rfl⟩)
     rwa [hgt_er] at this
   · have := h3 s.er (by simp only [List.mem_map]; exact ⟨s, hs, rfl⟩)
     have e : s.er.e = s.e.er := rfl
     rwa [e, hgt_er] at this
 · rintro ⟨h1, h2, h3⟩
   refine ⟨?_, ?_, ?_⟩
   · show (a.sets.map SetP.er).length < _
     rw [List.length_map]; exact h1
   · intro e he
     have he : e ∈ Ex.erL a.wh := he
     rw [erL_map, List.mem_map] at he
     obtain ⟨x, hx, rfl⟩ := he
     rw [hgt_er]; exact h2 x hx
   · intro s hs
     have hs : s ∈ a.sets.map SetP.er := hs
     rw [List.mem_map] at hs
     obtain ⟨x, hx, rfl⟩ := hs
     have e : x.er.e = x.e.er := rfl
     rw [e, hgt_er]; exact h3 x hx
theorem stgOk_er {x : StageP} : x.er.Ok ↔ x.Ok := by
 have key : ∀ l : List Ex, (∀ e ∈ Ex.erL l, e.hgt ≤ 100000) ↔ (∀ e ∈ l, e.hgt ≤ 100000) := by
  intro l
  rw [erL_map]
  constructor
  · intro h e he
    have := h e.er (List.mem_map_of_mem he)
    rwa [hgt_er] at this
  · intro h e he
    rw [List.mem_map] at he
    obtain ⟨y, hy, rfl⟩ := he
    rw [hgt_er]; exact h y hy
 constructor
 · rintro ⟨h1, h2, h3, h4, h5, h6, h7⟩
   refine ⟨(key _).1 h1, h2, (key _).1 h3, ?_, ?_, ?_, (key _).1 h7⟩
   · have : (x.acts.map ActP.er).length < 4611686018427387904 := h4
     rwa [List.length_map] at this
   · intro a ha
     exact actOk_er.1 (h5 a.er (List.mem_map_of_mem (f := ActP.er) ha))
   · have : (Ex.erL x.pays).length < 4611686018427387904 := h6
     rwa [erL_len] at this
 · rintro ⟨h1, h2, h3, h4, h5, h6, h7⟩
   refine ⟨(key _).2 h1, h2, (key _).2 h3, ?_, ?_, ?_, (key _).2 h7⟩
   · show (x.acts.map ActP.er).length < _
     rwa [List.length_map]
   · intro a ha
     have ha : a ∈ x.acts.map ActP.er := ha
     rw [List.mem_map] at ha
     obtain ⟨y, hy, rfl⟩ := ha
     exact actOk_er.2 (h5 y hy)
   · show (Ex.erL x.pays).length < _
     rwa [erL_len]
theorem ok_er {r : RulesP} : r.er.Ok ↔ r.Ok := by
 constructor
 · rintro ⟨h1, h2, h3⟩
   refine ⟨?_, ?_, fun x hx => stgOk_er.1 (h3 x.er (List.mem_map_of_mem (f := StageP.er) hx))⟩
   · have : (r.vars.map VarP.er).length < 1099511627776 := h1
     rwa [List.length_map] at this
   · have : (r.stages.map StageP.er).length < 4611686018427387904 := h2
     rwa [List.length_map] at this
 · rintro ⟨h1, h2, h3⟩
   refine ⟨?_, ?_, ?_⟩
   · show (r.vars.map VarP.er).length < _
     rwa [List.length_map]
   · show (r.stages.map StageP.er).length < _
     rwa [List.length_map]
   · intro x hx
     have hx : x ∈ r.stages.map StageP.er := hx
     rw [List.mem_map] at hx
     obtain ⟨y, hy, rfl⟩ := hx
     exact stgOk_er.2 (h3 y hy)
end Go.Proofs.YthmdmnfojbnobaaGreatDoor
