/-
  Steps of the proof: contracts of functions and plain facts that the statement rests on.
-/
import Derived.Test.YthmdmnfojbnobaaGreatDoorPart1
set_option linter.all false
namespace Go.Proofs.YthmdmnfojbnobaaGreatDoor
open Go.Ab
theorem exprsL_keep {c : Cx} {d : Nat} {orP : Rd -> Ex × Rd} (hk : Kp c d orP) : ∀ (n : Nat) (l : List Ex) (r : Rd), Gd c d r -> Gd c d (exprsL c orP n l r).2 ∧ r.a ≤ (exprsL c orP n l r).2.a
 | 0, l, r, h => ⟨h, Nat.le_refl _⟩
 | n + 1, l, r, h => by
  rw [exprsL]
  split
  · obtain ⟨h1, h2⟩ := t2_keep [44] h
    have h3 : Gd c d (if l.length = 32 ∧ begR c (t2 c [44] r) = true then failR c 12 (t2 c [44] r) else t2 c [44] r) ∧ (if l.length = 32 ∧ begR c (t2 c [44] r) = true then failR c 12 (t2 c [44] r) else t2 c [44] r).a = (t2 c [44] r).a := by
     split
     · obtain ⟨h4, h5, _⟩ := fail_keep (e := 12) (by decide) h1; exact ⟨h4, h5⟩
     · exact ⟨h1, rfl⟩
    dsimp only
    generalize (if l.length = 32 ∧ begR c (t2 c [44] r) = true then failR c 12 (t2 c [44] r) else t2 c [44] r) = r2 at h3 ⊢
    obtain ⟨h6, h7⟩ := hk _ h3.1
    obtain ⟨h8, h9⟩ := exprsL_keep hk n (l ++ [(orP r2).1]) _ h6
    exact ⟨h8, by omega⟩
  · exact ⟨h, Nat.le_refl _⟩
theorem exprsR_keep {c : Cx} {d : Nat} {orP : Rd -> Ex × Rd} (hk : Kp c d orP) : Kp c d (exprsR c orP) := by
 intro r h
 obtain ⟨h1, h2⟩ := hk r h
 obtain ⟨h3, h4⟩ := exprsL_keep hk c.ts.length [(orP r).1] _ h1
 exact ⟨h3, Nat.le_trans h2 h4⟩
section
variable {H : List AO} {c : Cx} {r : Rd} {j : Nat}
theorem ok110a (hj : j < H.length) (r : Rd) (L : List AO) : Ok Tryz.prog 110 [rp j] (H.set j (rdO c r) ++ L) (.ret (bl (begR c r))) (H.set j (rdO c r) ++ L) :=
 ok110 (c := c) (r := r) (by rw [List.getElem?_append_left (by simpa using hj)]; simp [hj])
theorem loop95 (h20 : c.ts.length ≤ 20000) (hj : j < H.length) {d : Nat} {orP : Rd -> Ex × Rd} (h1 : RdC c 99 orP d) (hk : Kp c d orP) {N : Nat} {K : XE -> Env -> List AO -> Prop} {res : List Ex × Rd}
 (hexit : ∀ env G, env.get 3 = .own H.length 0 res.1.length 5 (res.1.length - 1) -> K (.exit 0) env (H.set j (rdO c res.2) ++ ⟨Ex.cL res.1, 53, res.1.length - 1, true⟩ :: G)) :
 ∀ (n : Nat) (l : List Ex) (m : Nat) (r : Rd) (G : List AO) (env : Env), c.ts.length ≤ r.a + n -> l.length = m + 1 -> l.length ≤ r.a + 1 -> exprsL c orP n l r = res -> Gd c d r -> env.get 0 = rp j -> env.get 3 = .own H.length 0 (m + 1) 5 m →
  LI Tryz.prog N drawB l95_0 env (H.set j (rdO c r) ++ ⟨Ex.cL l, 53, m, true⟩ :: G) K := by
 have hl : c.ts.length < 4611686018427387904 := by omega
 intro n
 induction n with
 | zero =>
  intro l m r G env hn hlm hla hr hg h0 h3
  refine li_go hm l95_0.eq_1 ?_
  have hp : peekR c [44] r = false := by rw [← Bool.not_eq_true]; intro h; have := peek_lt h; omega
  simp -implicitDefEqProofs [h0, h3]
  refine call_go (ok65a hj r _ [44]) ?_
  simp -implicitDefEqProofs [h0, h3, hp]
  simp only [exprsL] at hr
  subst hr
  have : m = l.length - 1 := by omega
  subst this
  exact hexit _ G (by simp [h3]; omega)
 | succ n ih =>
  intro l m r G env hn hlm hla hr hg h0 h3
  refine li_go hm l95_0.eq_1 ?_
  simp -implicitDefEqProofs [h0, h3]
  refine call_go (ok65a hj r _ [44]) ?_
  rw [exprsL] at hr
  by_cases hp : peekR c [44] r = true
  · rw [if_pos hp] at hr
    have hlt := peek_lt hp
    simp -implicitDefEqProofs [h0, h3, hp]
    have ht : t2 c [44] r = nextR r := by simp [t2, takeR, hp]
    have hg1 := hg.next hlt
    refine call_go (ok62a hl hj r _ [44]) ?_
    rw [show (takeR c [44] r).2 = nextR r from ht]
    rw [ht] at hr
    dsimp only at hr
    have fin : ∀ (r2 : Rd) (env : Env), r2.a = r.a + 1 -> Gd c d r2 -> exprsL c orP n (l ++ [(orP r2).1]) (orP r2).2 = res -> env.get 0 = rp j -> env.get 3 = .own H.length 0 (m + 1 + 1) 5 (m + 1) -> ∀ G, LI Tryz.prog N drawB l95_0 env (H.set j (rdO c (orP r2).2) ++ ⟨Ex.cL (l ++ [(orP r2).1]), 53, m + 1, true⟩ :: G) K := by
     intro r2 env ha hg2 hr g0 g3 G
     obtain ⟨k1, k2⟩ := hk _ hg2
     exact ih (l ++ [(orP r2).1]) (m + 1) _ G env (by omega) (by simp [hlm]) (by simp; omega) hr k1 g0 g3
    have hcl := exL_len l
    have hla2 := hg.a
    by_cases h32 : l.length = 32
    · have hm31 : m = 31 := by omega
      subst hm31
      simp -implicitDefEqProofs [h0, h3]
      refine callq_st (r := bl (begR c (nextR r))) (fun _ => ok110a hj (nextR r) _) ?_
      by_cases hb : begR c (nextR r) = true
      · rw [if_pos ⟨h32, hb⟩] at hr
        obtain ⟨h4, h5, _⟩ := fail_keep (e := 12) (by decide) hg1
        simp -implicitDefEqProofs [h0, h3, hb]
        refine call_go (ok67a hj (nextR r) _ 12) ?_
        simp -implicitDefEqProofs [h0, h3]
        refine call_go (RdC.app h1 hj h4 _) ?_
        simp -implicitDefEqProofs [h0, h3, Ex.v, hcl, h32]
        refine LI.cong ?_ (fin _ _ h5 h4 hr ?_ ?_ (G ++ [eO (orP (failR c 12 (nextR r))).1]))
        · simp [eO, exL_app, Ex.cL]
        all_goals simp [h0]
      · rw [if_neg (fun h => hb h.2)] at hr
        rw [Bool.not_eq_true] at hb
        simp -implicitDefEqProofs [h0, h3, hb]
        refine call_go (RdC.app h1 hj hg1 _) ?_
        simp -implicitDefEqProofs [h0, h3, Ex.v, hcl, h32]
        refine LI.cong ?_ (fin _ _ rfl hg1 hr ?_ ?_ (G ++ [eO (orP (nextR r)).1]))
        · simp [eO, exL_app, Ex.cL]
        all_goals simp [h0]
    · have hm31 : ¬ ((m : Int) + 1 = 32) := by omega
      rw [if_neg (fun h => h32 h.1)] at hr
      simp -implicitDefEqProofs [h0, h3, hm31]
      refine callq_go (r := bl false) (fun h => by cases h) ?_
      simp -implicitDefEqProofs [h0, h3, hm31]
      refine call_go (RdC.app h1 hj hg1 _) ?_
      simp -implicitDefEqProofs [h0, h3, Ex.v, hcl, hlm]
      refine ⟨by omega, by omega, ?_⟩
      refine LI.cong ?_ (fin _ _ rfl hg1 hr ?_ ?_ (G ++ [eO (orP (nextR r)).1]))
      · simp [eO, exL_app, Ex.cL]
      all_goals simp [h0]
  · rw [if_neg hp] at hr
    rw [Bool.not_eq_true] at hp
    simp -implicitDefEqProofs [h0, h3, hp]
    subst hr
    have : m = l.length - 1 := by omega
    subst this
    exact hexit _ G (by simp [h3]; omega)
theorem ok95 (h20 : c.ts.length ≤ 20000) {d : Nat} {orP : Rd -> Ex × Rd} (h1 : RdC c 99 orP d) (hk : Kp c d orP) : RdA c 95 [] (exprsR c orP) exS d := by
 intro H j r hj hr
 refine ok_fn hm Tryz.func95 c95 (by simp [rp, SV.under, hj]) fun hcl => ?_
 simp -implicitDefEqProofs [i95, r95]
 refine call_go (h1 hj hr) ?_
 obtain ⟨k1, k2⟩ := hk r hr
 simp -implicitDefEqProofs [Ex.v]
 generalize hres : exprsL c orP c.ts.length [(orP r).1] (orP r).2 = res
 refine LI.cong (H' := H.set j (rdO c (orP r).2) ++ ⟨Ex.cL [(orP r).1], 53, 0, true⟩ :: []) (by simp [Ex.cL]) ?_
 refine loop95 h20 hj h1 hk (res := res) (fun env G g3 => ?_) c.ts.length [(orP r).1] 0 _ _ _ (by omega) rfl (by simp) hres k1 ?_ ?_
 · have hR : exprsR c orP r = res := hres
   rw [hR]
   simp -implicitDefEqProofs [g3]
   exact cv_fz 2 (closed_rd hcl) (by simp) (by simp [exS, exL_len, take_cL])
 all_goals simp
end
end Go.Proofs.YthmdmnfojbnobaaGreatDoor
namespace Go.Proofs.YthmdmnfojbnobaaGreatDoor
open Go.Ab
def IC.tl : Nat -> IC -> IC
 | 0, a => a
 | k + 1, .seq _ b => IC.tl k b
 | _, a => a
def IC.nth : Nat -> IC -> IC
 | 0, .seq a _ => a
 | k + 1, .seq _ b => IC.nth k b
 | _, a => a
abbrev nl : SV := .val (.slice none 0 0)
def RowE (n f : Nat) (G : List AO) (x : SV) (l : List Ex) : Prop :=
 (x = nl ∧ l = []) ∨ ∃ k v, x = .own (n + (k + f)) 0 l.length 5 v ∧ G[k]? = some ⟨Ex.cL l, 53, v, true⟩
theorem RowE.app {n f : Nat} {G : List AO} {x : SV} {l : List Ex} (h : RowE n f G x l) (M : List AO) : RowE n f (G ++ M) x l := by
 rcases h with h | ⟨k, v, h1, h2⟩
 · exact .inl h
 · exact .inr ⟨k, v, h1, by rw [List.getElem?_append_left (getElem?_lt h2)]; exact h2⟩
theorem RowE.cell {n f : Nat} {G : List AO} {x : SV} {l : List Ex} (h : RowE n f G x l) : x.isCell = true := by
 rcases h with ⟨rfl, _⟩ | ⟨k, v, rfl, _⟩ <;> rfl
theorem RowE.fz {n f : Nat} {G : List AO} {x : SV} {l : List Ex} (h : RowE n f G x l) (A : List AO) (hA : A.length = f) (d : Nat) : SV.le (SV.fz n [] (A ++ G) (d + 2) x) (exS l) := by
 rcases h with ⟨rfl, rfl⟩ | ⟨k, v, rfl, h2⟩
 · rw [fz_under (by rfl)]; exact le_nil
 · have h3 : (A ++ G)[k + f]? = some ⟨Ex.cL l, 53, v, true⟩ := by
    rw [List.getElem?_append_right (by omega), show k + f - A.length = k by omega]; exact h2
   rw [fz_own, h3]
   simp only [placeOf]
   have e : (Ex.cL l).take (l.length * 5) = Ex.cL l := List.take_of_length_le (by rw [exL_len]; exact Nat.le_refl _)
   simp only [List.drop_zero, e, exL_fzm, exL_len, Nat.zero_add, Nat.le_refl, and_self, if_true]
   exact SV.le.refl _
@[simp] theorem Ex.take6 (e : Ex) (x : SV) : List.take 6 (e.c ++ [x]) = e.c ++ [x] := List.take_of_length_le (by simp)
def aZ : AO := ⟨[st (B []), nl, bl false, nl, st (B []), i64 0], 51, 0, true⟩
def actO (n : Nat) (nm : List UInt8) (xW : SV) (hid : Bool) (m : Nat) (go : List UInt8) (p : Int) : AO := ⟨[st (B nm), xW, bl hid, .own (n + 2) 0 m 7 m, st (B go), i64 p], 51, 0, true⟩
def setO (l : List SetP) : AO := ⟨rws SetP.c l, 55, l.length, true⟩
theorem SetP.len (s : SetP) : s.c.length = 7 := by simp [SetP.c]
theorem SetP.und (n : Nat) (s : SetP) : SV.underL n s.c = true := by simp [SetP.c, SV.underL, SV.under, SV.underL_append, Ex.und]
@[simp] theorem sets_fzm (n : Nat) (ks : List Nat) (L : List AO) (d : Nat) (l : List SetP) : (rws SetP.c l).map (SV.fz n ks L (d + 1)) = rws SetP.c l := map_fz_under _ _ _ _ (rws_under (SetP.und _) l)
theorem full_keep {c : Cx} {d : Nat} {r : Rd} {P : Prop} [Decidable P] (h : Gd c d r) : Gd c d (if P then failR c 12 r else r) ∧ (if P then failR c 12 r else r).a = r.a ∧ ((if P then failR c 12 r else r).e = 0 -> r.e = 0) := by
 split
 · obtain ⟨h4, h5, h6⟩ := fail_keep (e := 12) (by decide) h; exact ⟨h4, h5, fun h => absurd h h6⟩
 · exact ⟨h, rfl, fun h => h⟩
theorem setR_keep {c : Cx} {d : Nat} {orP : Rd -> Ex × Rd} (hk : Kp c d orP) (l : List SetP) {r : Rd} (h : Gd c d r) : Gd c d (setR c orP l r).2 ∧ r.a ≤ (setR c orP l r).2.a ∧ ((setR c orP l r).2.e = 0 -> r.a < (setR c orP l r).2.a) := by
 unfold setR
 dsimp only
 obtain ⟨h1, h2, _⟩ := full_keep (P := l.length = 32 ∧ freeR c r = true) h
 generalize (if l.length = 32 ∧ freeR c r = true then failR c 12 r else r) = r1 at *
 obtain ⟨h3, h4⟩ := word_keep r1 h1
 obtain ⟨h5, h6⟩ := t2_keep [61] h3
 obtain ⟨h7, h8⟩ := hk _ h5
 obtain ⟨h9, h10⟩ := t2_keep [59] h7
 refine ⟨h9, by omega, fun he => ?_⟩
 have := (t2_strict he).2
 omega
section
variable {H : List AO} {c : Cx} {r : Rd} {j : Nat} {G : List AO} {nm : List UInt8} {xW : SV} {wh : List Ex} {hid : Bool} {sets : List SetP} {p : Int}
theorem cv_act {x : AO} {o : AO} {go : List UInt8} (hcl : closed (H.set j o)) (hW : RowE H.length 3 G xW wh) :
 Cv H.length (.agg [st (B nm), xW, bl hid, .own (H.length + 2) 0 sets.length 7 sets.length, st (B go), i64 p]) (H.set j o ++ (x :: actO H.length nm xW hid sets.length go p :: setO sets :: G)) (.agg (ActP.mk nm wh hid sets go p).c) (H.set j o) := by
 refine Cv.le (cv_fz (n0 := H.length) 4 hcl (by simp) rfl) ?_
 have h1 := hW.fz [x, actO H.length nm xW hid sets.length go p, setO sets] rfl 1
 simp only [List.cons_append, List.nil_append] at h1
 have e : (rws SetP.c sets).take (sets.length * 7) = rws SetP.c sets := List.take_of_length_le (by rw [rws_len SetP.len]; exact Nat.le_refl _)
 simp [ActP.c, setO, rws_len SetP.len, e]
 simp only [setO] at h1
 exact le_agg (leL.cons (SV.le.refl _) (leL.cons h1 (leL.cons (SV.le.refl _) (leL.cons (SV.le.refl _) (leL.cons (SV.le.refl _) (leL.cons (SV.le.refl _) leL.nil))))))
theorem act_t7 (hl : c.ts.length < 4611686018427387904) (hj : j < H.length) (hcl : closed (H.set j (rdO c r))) (hW : RowE H.length 3 G xW wh) {env : Env}
 (h0 : env.get 0 = rp j) (h2 : env.get 2 = .ptr (.own H.length 0 0 0 0) 0) (h3 : env.get 3 = .ptr (.own (H.length + 1) 0 0 0 0) 0) :
 X Tryz.prog Tryz.f109.ntmps drawB (IC.tl 7 i109) env (H.set j (rdO c r) ++ (aZ :: actO H.length nm xW hid sets.length [] p :: setO sets :: G))
  (Fin H.length r109 (.ret (.agg (ActP.mk nm wh hid sets (gotoR c (t2 c [125] r)).1 p).c)) (H.set j (rdO c (gotoR c (t2 c [125] r)).2))) := by
 have hc := hW.cell
 simp -implicitDefEqProofs [IC.tl, i109, r109, h0, h2, h3]
 refine call_go (ok62a hl hj r _ [125]) ?_
 rw [show (takeR c [125] r).2 = t2 c [125] r from rfl]
 generalize t2 c [125] r = r1
 simp -implicitDefEqProofs [h0, h2, h3]
 refine call_go (ok65a hj r1 _ [103, 111, 116, 111]) ?_
 generalize hg : gotoR c r1 = g
 unfold gotoR at hg
 by_cases hp : peekR c [103, 111, 116, 111] r1 = true
 · rw [if_pos hp] at hg
   subst hg
   simp -implicitDefEqProofs [h0, h2, h3, hp]
   refine call_go (ok62a hl hj r1 _ [103, 111, 116, 111]) ?_
   rw [show (takeR c [103, 111, 116, 111] r1).2 = t2 c [103, 111, 116, 111] r1 from rfl]
   generalize t2 c [103, 111, 116, 111] r1 = r2
   simp -implicitDefEqProofs [h0, h2, h3]
   refine call_go (ok63a hl hj r2 _) ?_
   generalize wordR c r2 = w
   simp -implicitDefEqProofs [h0, h2, h3, actO]
   refine call_go (ok62a hl hj w.2 _ [59]) ?_
   rw [show (takeR c [59] w.2).2 = t2 c [59] w.2 from rfl]
   simp -implicitDefEqProofs [h0, h2, h3, aZ]
   exact ⟨hc, cv_act (closed_rd hcl) hW⟩
 · rw [if_neg hp] at hg
   subst hg
   rw [Bool.not_eq_true] at hp
   simp -implicitDefEqProofs [h0, h2, h3, hp, actO, aZ]
   exact ⟨hc, cv_act (closed_rd hcl) hW⟩
theorem setsL_keep {d : Nat} {orP : Rd -> Ex × Rd} (hk : Kp c d orP) : ∀ (n : Nat) (l : List SetP) (r : Rd), Gd c d r -> Gd c d (setsL c orP n l r).2 ∧ r.a ≤ (setsL c orP n l r).2.a
 | 0, l, r, h => ⟨h, Nat.le_refl _⟩
 | n + 1, l, r, h => by
  rw [setsL]
  split
  · obtain ⟨h1, h2, _⟩ := setR_keep hk l h
    obtain ⟨h3, h4⟩ := setsL_keep hk n (l ++ [(setR c orP l r).1]) _ h1
    exact ⟨h3, Nat.le_trans h2 h4⟩
  · exact ⟨h, Nat.le_refl _⟩
theorem loop109 (h20 : c.ts.length ≤ 20000) (hj : j < H.length) {d : Nat} {orP : Rd -> Ex × Rd} (h1 : RdC c 99 orP d) (hk : Kp c d orP) {N : Nat} {K : XE -> Env -> List AO -> Prop} {res : List SetP × Rd} {p : Int}
 (hexit : ∀ env G, RowE H.length 3 G xW wh -> env.get 0 = rp j -> env.get 2 = .ptr (.own H.length 0 0 0 0) 0 -> env.get 3 = .ptr (.own (H.length + 1) 0 0 0 0) 0 -> K (.exit 0) env (H.set j (rdO c res.2) ++ (aZ :: actO H.length nm xW hid res.1.length [] p :: setO res.1 :: G))) :
 ∀ (n : Nat) (l : List SetP) (r : Rd) (G : List AO) (env : Env), (r.e = 0 -> c.ts.length < r.a + n) -> l.length ≤ r.a -> setsL c orP n l r = res -> Gd c d r -> RowE H.length 3 G xW wh -> env.get 0 = rp j -> env.get 2 = .ptr (.own H.length 0 0 0 0) 0 -> env.get 3 = .ptr (.own (H.length + 1) 0 0 0 0) 0 →
  LI Tryz.prog N drawB l109_0 env (H.set j (rdO c r) ++ (aZ :: actO H.length nm xW hid l.length [] p :: setO l :: G)) K := by
 have hl : c.ts.length < 4611686018427387904 := by omega
 have out_ok : ∀ (l : List SetP) (r : Rd) (G : List AO) (env : Env), ¬ (r.e = 0 ∧ peekR c [125] r = false) -> (l, r) = res -> RowE H.length 3 G xW wh -> env.get 0 = rp j -> env.get 2 = .ptr (.own H.length 0 0 0 0) 0 -> env.get 3 = .ptr (.own (H.length + 1) 0 0 0 0) 0 →
  LI Tryz.prog N drawB l109_0 env (H.set j (rdO c r) ++ (aZ :: actO H.length nm xW hid l.length [] p :: setO l :: G)) K := by
  intro l r G env hn hr hW h0 h2 h3
  subst hr
  refine li_go hm l109_0.eq_1 ?_
  simp -implicitDefEqProofs [h0, h2, h3]
  refine call_go (ok69a hj r _) ?_
  by_cases he : r.e = 0
  · have hp : peekR c [125] r = true := by rw [← Bool.not_eq_false]; exact fun h => hn ⟨he, h⟩
    simp -implicitDefEqProofs [h0, h2, h3, he]
    refine callq_st (r := bl (peekR c [125] r)) (fun _ => ok65a hj r _ [125]) ?_
    simp -implicitDefEqProofs [h0, h2, h3, he, hp]
    refine hexit _ G hW ?_ ?_ ?_ <;> simp [h0, h2, h3]
  · simp -implicitDefEqProofs [h0, h2, h3, he]
    refine callq_go (r := bl false) (fun h => by cases h) ?_
    simp -implicitDefEqProofs [h0, h2, h3, he]
    refine hexit _ G hW ?_ ?_ ?_ <;> simp [h0, h2, h3]
 intro n
 induction n with
 | zero =>
  intro l r G env hn hla hr hg hW h0 h2 h3
  have := hg.a
  exact out_ok l r G env (fun h => by have := hn h.1; omega) hr hW h0 h2 h3
 | succ n ih =>
  intro l r G env hn hla hr hg hW h0 h2 h3
  rw [setsL] at hr
  by_cases hc : r.e = 0 ∧ peekR c [125] r = false
  · rw [if_pos hc] at hr
    obtain ⟨k1, k2, k3⟩ := setR_keep hk l hg
    have hWc := hW.cell
    have ha := hg.a
    have fin : ∀ (env : Env) (G : List AO), RowE H.length 3 G xW wh -> env.get 0 = rp j -> env.get 2 = .ptr (.own H.length 0 0 0 0) 0 -> env.get 3 = .ptr (.own (H.length + 1) 0 0 0 0) 0 -> (l.length + 1 ≤ (setR c orP l r).2.a ∨ (setR c orP l r).2.e ≠ 0) →
     LI Tryz.prog N drawB l109_0 env (H.set j (rdO c (setR c orP l r).2) ++ (aZ :: actO H.length nm xW hid (l.length + 1) [] p :: setO (l ++ [(setR c orP l r).1]) :: G)) K := by
     intro env G hW g0 g2 g3 hb
     have e : (l ++ [(setR c orP l r).1]).length = l.length + 1 := by simp
     rw [← e]
     by_cases he : (setR c orP l r).2.e = 0
     · exact ih _ _ G env (fun he => by have := hn hc.1; have := k3 he; omega) (by rw [e]; exact hb.resolve_right (fun h => h he)) hr k1 hW g0 g2 g3
     · refine out_ok _ _ G env (fun h => he h.1) ?_ hW g0 g2 g3
       rw [← hr]
       cases n with
       | zero => rfl
       | succ n => rw [setsL, if_neg (fun h => he h.1)]
    refine li_go hm l109_0.eq_1 ?_
    simp -implicitDefEqProofs [h0, h2, h3]
    refine call_go (ok69a hj r _) ?_
    simp -implicitDefEqProofs [h0, h2, h3, hc.1]
    refine callq_st (r := bl (peekR c [125] r)) (fun _ => ok65a hj r _ [125]) ?_
    simp -implicitDefEqProofs [h0, h2, h3, hc.2, actO]
    have hset : ∀ r1, (if l.length = 32 ∧ freeR c r = true then failR c 12 r else r) = r1 -> setR c orP l r = (⟨(wordR c r1).1, (orP (t2 c [61] (wordR c r1).2)).1, hereR c r1⟩, t2 c [59] (orP (t2 c [61] (wordR c r1).2)).2) := fun r1 h => by subst h; rfl
    have hq3 : ∀ r1, (if l.length = 32 ∧ freeR c r = true then failR c 12 r else r) = r1 -> Gd c d (t2 c [61] (wordR c r1).2) := fun r1 h => by
     have := (full_keep (P := l.length = 32 ∧ freeR c r = true) hg).1
     rw [h] at this
     exact (t2_keep [61] (word_keep r1 this).1).1
    have hb : l.length + 1 ≤ (setR c orP l r).2.a ∨ (setR c orP l r).2.e ≠ 0 := by
     by_cases he : (setR c orP l r).2.e = 0
     · left; have := k3 he; omega
     · exact .inr he
    by_cases h32 : l.length = 32
    · have hd : decide ((l.length : Int) = 32) = true := decide_eq_true (by omega)
      by_cases hf : freeR c r = true
      · have hset := hset _ (if_pos ⟨h32, hf⟩)
        have q3 := hq3 _ (if_pos ⟨h32, hf⟩)
        refine callq_st (r := bl (freeR c r)) (fun _ => by rw [hd]; exact ok66a hj r _) ?_
        simp -implicitDefEqProofs [h0, h2, h3, hd, hf, actO]
        refine call_go (ok67a hj r _ 12) ?_
        simp -implicitDefEqProofs [h0, h2, h3, hd, hf]
        refine call_go (ok68a hj (failR c 12 r) _) ?_
        simp -implicitDefEqProofs [h0, h2, h3]
        refine ⟨rfl, call_go (ok63a hl hj (failR c 12 r) _) ?_⟩
        simp -implicitDefEqProofs [h0, h2, h3]
        refine call_go (ok62a hl hj _ _ [61]) ?_
        rw [show (takeR c [61] (wordR c (failR c 12 r)).2).2 = t2 c [61] (wordR c (failR c 12 r)).2 from rfl]
        simp -implicitDefEqProofs [h0, h2, h3]
        refine call_go (RdC.app h1 hj q3 _) ?_
        simp -implicitDefEqProofs [h0, h2, h3, Ex.v]
        refine call_go (ok62a hl hj _ _ [59]) ?_
        rw [show (takeR c [59] (orP (t2 c [61] (wordR c (failR c 12 r)).2)).2).2 = t2 c [59] (orP (t2 c [61] (wordR c (failR c 12 r)).2)).2 from rfl]
        simp -implicitDefEqProofs [h0, h2, h3, Ex.v, setO, rws_len SetP.len, hWc]
        refine ⟨by omega, by omega, ?_⟩
        refine LI.cong ?_ (fin _ (G ++ [⟨(SetP.mk (wordR c (failR c 12 r)).1 (orP (t2 c [61] (wordR c (failR c 12 r)).2)).1 (hereR c (failR c 12 r))).c, 55, 0, true⟩, ⟨(SetP.mk (wordR c (failR c 12 r)).1 (orP (t2 c [61] (wordR c (failR c 12 r)).2)).1 (hereR c (failR c 12 r))).c, 55, 0, true⟩]) (hW.app _) ?_ ?_ ?_ hb)
        · rw [hset]; simp [actO, setO, rws_app, rws, SetP.c]
        all_goals simp [h0, h2, h3]
      · have hset := hset _ (if_neg (fun h => hf h.2))
        have q3 := hq3 _ (if_neg (fun h => hf h.2))
        rw [Bool.not_eq_true] at hf
        refine callq_st (r := bl (freeR c r)) (fun _ => by rw [hd]; exact ok66a hj r _) ?_
        simp -implicitDefEqProofs [h0, h2, h3, hd, hf, actO]
        refine call_go (ok68a hj (r) _) ?_
        simp -implicitDefEqProofs [h0, h2, h3]
        refine ⟨rfl, call_go (ok63a hl hj (r) _) ?_⟩
        simp -implicitDefEqProofs [h0, h2, h3]
        refine call_go (ok62a hl hj _ _ [61]) ?_
        rw [show (takeR c [61] (wordR c (r)).2).2 = t2 c [61] (wordR c (r)).2 from rfl]
        simp -implicitDefEqProofs [h0, h2, h3]
        refine call_go (RdC.app h1 hj q3 _) ?_
        simp -implicitDefEqProofs [h0, h2, h3, Ex.v]
        refine call_go (ok62a hl hj _ _ [59]) ?_
        rw [show (takeR c [59] (orP (t2 c [61] (wordR c (r)).2)).2).2 = t2 c [59] (orP (t2 c [61] (wordR c (r)).2)).2 from rfl]
        simp -implicitDefEqProofs [h0, h2, h3, Ex.v, setO, rws_len SetP.len, hWc]
        refine ⟨by omega, by omega, ?_⟩
        refine LI.cong ?_ (fin _ (G ++ [⟨(SetP.mk (wordR c (r)).1 (orP (t2 c [61] (wordR c (r)).2)).1 (hereR c (r))).c, 55, 0, true⟩, ⟨(SetP.mk (wordR c (r)).1 (orP (t2 c [61] (wordR c (r)).2)).1 (hereR c (r))).c, 55, 0, true⟩]) (hW.app _) ?_ ?_ ?_ hb)
        · rw [hset]; simp [actO, setO, rws_app, rws, SetP.c]
        all_goals simp [h0, h2, h3]
    · have hd : decide ((l.length : Int) = 32) = false := decide_eq_false (by omega)
      have hset := hset _ (if_neg (fun h => h32 h.1))
      have q3 := hq3 _ (if_neg (fun h => h32 h.1))
      refine callq_go (r := bl false) (fun h => by rw [hd] at h; cases h) ?_
      simp -implicitDefEqProofs [h0, h2, h3, hd, actO]
      refine call_go (ok68a hj (r) _) ?_
      simp -implicitDefEqProofs [h0, h2, h3]
      refine ⟨rfl, call_go (ok63a hl hj (r) _) ?_⟩
      simp -implicitDefEqProofs [h0, h2, h3]
      refine call_go (ok62a hl hj _ _ [61]) ?_
      rw [show (takeR c [61] (wordR c (r)).2).2 = t2 c [61] (wordR c (r)).2 from rfl]
      simp -implicitDefEqProofs [h0, h2, h3]
      refine call_go (RdC.app h1 hj q3 _) ?_
      simp -implicitDefEqProofs [h0, h2, h3, Ex.v]
      refine call_go (ok62a hl hj _ _ [59]) ?_
      rw [show (takeR c [59] (orP (t2 c [61] (wordR c (r)).2)).2).2 = t2 c [59] (orP (t2 c [61] (wordR c (r)).2)).2 from rfl]
      simp -implicitDefEqProofs [h0, h2, h3, Ex.v, setO, rws_len SetP.len, hWc]
      refine ⟨by omega, by omega, ?_⟩
      refine LI.cong ?_ (fin _ (G ++ [⟨(SetP.mk (wordR c (r)).1 (orP (t2 c [61] (wordR c (r)).2)).1 (hereR c (r))).c, 55, 0, true⟩, ⟨(SetP.mk (wordR c (r)).1 (orP (t2 c [61] (wordR c (r)).2)).1 (hereR c (r))).c, 55, 0, true⟩]) (hW.app _) ?_ ?_ ?_ hb)
      · rw [hset]; simp [actO, setO, rws_app, rws, SetP.c]
      all_goals simp [h0, h2, h3]
  · rw [if_neg hc] at hr
    exact out_ok l r G env hc hr hW h0 h2 h3
end
end Go.Proofs.YthmdmnfojbnobaaGreatDoor
namespace Go.Proofs.YthmdmnfojbnobaaGreatDoor
open Go.Ab
theorem Xc {P : Program} {N : Nat} {D : Array Oper -> List Nat -> List Ins -> Bool} {i : IC} {env : Env} {H H' : List AO} {K : XE -> Env -> List AO -> Prop} (e : H' = H) (h : X P N D i env H' K) : X P N D i env H K := by rw [← e]; exact h
def actV (a : ActP) : SV := .agg a.c
section
variable {H : List AO} {c : Cx} {r : Rd} {j : Nat} {G : List AO} {nm : List UInt8} {xW : SV} {wh : List Ex} {hid : Bool} {p : Int}
theorem act_t5 (h20 : c.ts.length ≤ 20000) (hj : j < H.length) (hcl : closed (H.set j (rdO c r))) {d : Nat} {orP : Rd -> Ex × Rd} (h1 : RdC c 99 orP d) (hk : Kp c d orP) (hg : Gd c d r) (hW : RowE H.length 3 G xW wh) {env : Env} {res : ActP × Rd}
 (hres : (⟨nm, wh, hid, (setsL c orP (c.ts.length + 1) [] (t2 c [123] r)).1, (gotoR c (t2 c [125] (setsL c orP (c.ts.length + 1) [] (t2 c [123] r)).2)).1, p⟩, (gotoR c (t2 c [125] (setsL c orP (c.ts.length + 1) [] (t2 c [123] r)).2)).2) = res)
 (h0 : env.get 0 = rp j) (h2 : env.get 2 = .ptr (.own H.length 0 0 0 0) 0) (h3 : env.get 3 = .ptr (.own (H.length + 1) 0 0 0 0) 0) :
 X Tryz.prog Tryz.f109.ntmps drawB (IC.tl 5 i109) env (H.set j (rdO c r) ++ (aZ :: actO H.length nm xW hid 0 [] p :: setO [] :: G))
  (Fin H.length r109 (.ret (actV res.1)) (H.set j (rdO c res.2))) := by
 have hl : c.ts.length < 4611686018427387904 := by omega
 have tail : ∀ (sets : List SetP) (r : Rd) (G : List AO) (env : Env), (sets, r) = setsL c orP (c.ts.length + 1) [] (t2 c [123] r) ∨ True -> closed (H.set j (rdO c r)) -> RowE H.length 3 G xW wh -> env.get 0 = rp j -> env.get 2 = .ptr (.own H.length 0 0 0 0) 0 -> env.get 3 = .ptr (.own (H.length + 1) 0 0 0 0) 0 -> _ := fun sets r G env _ hcl hW h0 h2 h3 => act_t7 (sets := sets) (nm := nm) (hid := hid) (p := p) hl hj hcl hW h0 h2 h3
 rw [show IC.tl 5 i109 = .seq (IC.nth 5 i109) (.seq (IC.nth 6 i109) (IC.tl 7 i109)) from rfl]
 generalize IC.tl 7 i109 = t7 at tail ⊢
 simp -implicitDefEqProofs [IC.nth, i109, h0, h2, h3]
 refine call_go (ok62a hl hj r _ [123]) ?_
 obtain ⟨k1, k2⟩ := t2_keep [123] hg
 have hcl1 : closed (H.set j (rdO c (t2 c [123] r))) := closed_rd hcl
 rw [show (takeR c [123] r).2 = t2 c [123] r from rfl]
 generalize t2 c [123] r = r1 at hres k1 k2 hcl1 ⊢
 simp -implicitDefEqProofs [h0, h2, h3]
 generalize hs : setsL c orP (c.ts.length + 1) [] r1 = s at hres ⊢
 refine loop109 (xW := xW) (wh := wh) h20 hj h1 hk (res := s) (fun env G hW h0 h2 h3 => ?_) (c.ts.length + 1) [] r1 G _ (fun _ => by omega) (Nat.zero_le _) hs k1 hW ?_ ?_ ?_
 · have := tail s.1 s.2 G env (.inr trivial) (closed_rd hcl) hW h0 h2 h3
   simp -implicitDefEqProofs
   rw [← hres]
   exact this
 all_goals simp [h0, h2, h3]
theorem act_t4 (h20 : c.ts.length ≤ 20000) (hj : j < H.length) (hcl : closed (H.set j (rdO c r))) {d : Nat} {orP : Rd -> Ex × Rd} (h1 : RdC c 99 orP d) (hk : Kp c d orP) (hg : Gd c d r) (hW : RowE H.length 3 G xW wh) {env : Env} {res : ActP × Rd}
 (hres : (fun (h : Bool × Rd) => ((⟨nm, wh, h.1, (setsL c orP (c.ts.length + 1) [] (t2 c [123] h.2)).1, (gotoR c (t2 c [125] (setsL c orP (c.ts.length + 1) [] (t2 c [123] h.2)).2)).1, p⟩, (gotoR c (t2 c [125] (setsL c orP (c.ts.length + 1) [] (t2 c [123] h.2)).2)).2) : ActP × Rd)) (flagR c [104, 105, 100, 100, 101, 110] r) = res)
 (h0 : env.get 0 = rp j) (h2 : env.get 2 = .ptr (.own H.length 0 0 0 0) 0) (h3 : env.get 3 = .ptr (.own (H.length + 1) 0 0 0 0) 0) :
 X Tryz.prog Tryz.f109.ntmps drawB (IC.tl 4 i109) env (H.set j (rdO c r) ++ (aZ :: actO H.length nm xW false 0 [] p :: setO [] :: G))
  (Fin H.length r109 (.ret (actV res.1)) (H.set j (rdO c res.2))) := by
 have hl : c.ts.length < 4611686018427387904 := by omega
 have tail : ∀ (hid : Bool) (r : Rd) (env : Env), flagR c [104, 105, 100, 100, 101, 110] _ = (hid, r) -> closed (H.set j (rdO c r)) -> Gd c d r -> env.get 0 = rp j -> env.get 2 = .ptr (.own H.length 0 0 0 0) 0 -> env.get 3 = .ptr (.own (H.length + 1) 0 0 0 0) 0 →
  X Tryz.prog Tryz.f109.ntmps drawB (IC.tl 5 i109) env (H.set j (rdO c r) ++ (aZ :: actO H.length nm xW hid 0 [] p :: setO [] :: G)) (Fin H.length r109 (.ret (actV res.1)) (H.set j (rdO c res.2))) :=
  fun hid r env hf hcl hg h0 h2 h3 => act_t5 h20 hj hcl h1 hk hg hW (by rw [hf] at hres; exact hres) h0 h2 h3
 have hWc := hW.cell
 rw [show IC.tl 4 i109 = .seq (IC.nth 4 i109) (IC.tl 5 i109) from rfl]
 generalize IC.tl 5 i109 = t5 at tail ⊢
 simp -implicitDefEqProofs [IC.nth, i109, h0, h2, h3]
 refine call_go (ok65a hj r _ [104, 105, 100, 100, 101, 110]) ?_
 by_cases hp : peekR c [104, 105, 100, 100, 101, 110] r = true
 · have hf : flagR c [104, 105, 100, 100, 101, 110] r = (true, t2 c [104, 105, 100, 100, 101, 110] r) := by unfold flagR; rw [if_pos hp]
   simp -implicitDefEqProofs [h0, h2, h3, hp]
   refine call_go (ok62a hl hj r _ [104, 105, 100, 100, 101, 110]) ?_
   simp -implicitDefEqProofs [h0, h2, h3, actO]
   exact tail true _ _ hf (closed_rd hcl) (t2_keep _ hg).1 (by simp [h0]) (by simp [h2]) (by simp [h3])
 · have hf : flagR c [104, 105, 100, 100, 101, 110] r = (false, r) := by unfold flagR; rw [if_neg hp]
   rw [Bool.not_eq_true] at hp
   simp -implicitDefEqProofs [h0, h2, h3, hp]
   exact tail false _ _ hf hcl hg (by simp [h0]) (by simp [h2]) (by simp [h3])
theorem act_t3 (h20 : c.ts.length ≤ 20000) (hj : j < H.length) (hcl : closed (H.set j (rdO c r))) {d : Nat} {orP : Rd -> Ex × Rd} (h1 : RdC c 99 orP d) (hk : Kp c d orP) (hg : Gd c d r) {env : Env} {res : ActP × Rd}
 (hres : (fun (w : List Ex × Rd) => (fun (h : Bool × Rd) => ((⟨nm, w.1, h.1, (setsL c orP (c.ts.length + 1) [] (t2 c [123] h.2)).1, (gotoR c (t2 c [125] (setsL c orP (c.ts.length + 1) [] (t2 c [123] h.2)).2)).1, p⟩, (gotoR c (t2 c [125] (setsL c orP (c.ts.length + 1) [] (t2 c [123] h.2)).2)).2) : ActP × Rd)) (flagR c [104, 105, 100, 100, 101, 110] w.2)) (optR c orP [119, 104, 101, 110] r) = res)
 (h0 : env.get 0 = rp j) (h2 : env.get 2 = .ptr (.own H.length 0 0 0 0) 0) (h3 : env.get 3 = .ptr (.own (H.length + 1) 0 0 0 0) 0) :
 X Tryz.prog Tryz.f109.ntmps drawB (IC.tl 3 i109) env (H.set j (rdO c r) ++ [aZ, actO H.length nm nl false 0 [] p, setO []])
  (Fin H.length r109 (.ret (actV res.1)) (H.set j (rdO c res.2))) := by
 have hl : c.ts.length < 4611686018427387904 := by omega
 have tail : ∀ (wh : List Ex) (xW : SV) (G : List AO) (r1 : Rd) (env : Env), optR c orP [119, 104, 101, 110] r = (wh, r1) -> RowE H.length 3 G xW wh -> Gd c d r1 -> env.get 0 = rp j -> env.get 2 = .ptr (.own H.length 0 0 0 0) 0 -> env.get 3 = .ptr (.own (H.length + 1) 0 0 0 0) 0 →
  X Tryz.prog Tryz.f109.ntmps drawB (IC.tl 4 i109) env (H.set j (rdO c r1) ++ (aZ :: actO H.length nm xW false 0 [] p :: setO [] :: G)) (Fin H.length r109 (.ret (actV res.1)) (H.set j (rdO c res.2))) :=
  fun wh xW G r1 env hf hW hg h0 h2 h3 => act_t4 h20 hj (closed_rd hcl) h1 hk hg hW (by rw [hf] at hres; exact hres) h0 h2 h3
 rw [show IC.tl 3 i109 = .seq (IC.nth 3 i109) (IC.tl 4 i109) from rfl]
 generalize IC.tl 4 i109 = t4 at tail ⊢
 simp -implicitDefEqProofs [IC.nth, i109, h0, h2, h3]
 refine call_go (ok65a hj r _ [119, 104, 101, 110]) ?_
 by_cases hp : peekR c [119, 104, 101, 110] r = true
 · have hf : optR c orP [119, 104, 101, 110] r = ([(orP (t2 c [119, 104, 101, 110] r)).1], (orP (t2 c [119, 104, 101, 110] r)).2) := by unfold optR; rw [if_pos hp]
   have hg1 := (t2_keep (c := c) (d := d) [119, 104, 101, 110] hg).1
   simp -implicitDefEqProofs [h0, h2, h3, hp]
   refine call_go (ok62a hl hj r _ [119, 104, 101, 110]) ?_
   rw [show (takeR c [119, 104, 101, 110] r).2 = t2 c [119, 104, 101, 110] r from rfl]
   simp -implicitDefEqProofs [h0, h2, h3]
   refine call_go (RdC.app h1 hj hg1 _) ?_
   simp -implicitDefEqProofs [h0, h2, h3, actO, Ex.v]
   refine Xc ?_ (tail _ (.own (H.length + 3) 0 1 5 0) [⟨Ex.cL [(orP (t2 c [119, 104, 101, 110] r)).1], 53, 0, true⟩] _ _ hf (.inr ⟨0, 0, by simp, rfl⟩) (hk _ hg1).1 ?_ ?_ ?_)
   · simp [Ex.cL]; rfl
   all_goals simp [h0, h2, h3]
 · have hf : optR c orP [119, 104, 101, 110] r = ([], r) := by unfold optR; rw [if_neg hp]
   rw [Bool.not_eq_true] at hp
   simp -implicitDefEqProofs [h0, h2, h3, hp]
   exact tail [] nl [] _ _ hf (.inl ⟨rfl, rfl⟩) hg (by simp [h0]) (by simp [h2]) (by simp [h3])
theorem ok109 (h20 : c.ts.length ≤ 20000) {d : Nat} {orP : Rd -> Ex × Rd} (h1 : RdC c 99 orP d) (hk : Kp c d orP) : RdA c 109 [] (actR c orP) actV d := by
 intro H j r hj hg
 have hl : c.ts.length < 4611686018427387904 := by omega
 refine ok_WI hm Tryz.func109 c109 (by simp) fun hcl => ?_
 obtain ⟨k1, k2⟩ := take_keep (c := c) (d := d) [97, 99, 116, 105, 111, 110] r hg
 obtain ⟨k3, k4⟩ := word_keep _ k1
 have tail : ∀ env : Env, env.get 0 = rp j -> env.get 2 = .ptr (.own H.length 0 0 0 0) 0 -> env.get 3 = .ptr (.own (H.length + 1) 0 0 0 0) 0 -> _ :=
  fun env h0 h2 h3 => act_t3 (nm := (wordR c (takeR c [97, 99, 116, 105, 111, 110] r).2).1) (p := (takeR c [97, 99, 116, 105, 111, 110] r).1) (res := actR c orP r) h20 hj (closed_rd hcl) h1 hk k3 rfl h0 h2 h3
 rw [show i109 = .seq (IC.nth 0 i109) (.seq (IC.nth 1 i109) (.seq (IC.nth 2 i109) (IC.tl 3 i109))) from rfl]
 generalize IC.tl 3 i109 = t3 at tail ⊢
 refine WI.seq (draw_ok hm) ?_
 simp -implicitDefEqProofs [IC.nth, i109]
 refine WI.seq (draw_ok hm) ?_
 simp -implicitDefEqProofs [IC.nth, i109]
 refine call_go (ok62a hl hj r _ [97, 99, 116, 105, 111, 110]) ?_
 simp -implicitDefEqProofs
 refine ⟨rfl, WI.tell (Tell.own0 (j := H.length + 1) (p := 3) (o := ⟨[st (B []), nl, bl false, nl, st (B []), i64 (takeR c [97, 99, 116, 105, 111, 110] r).1], 51, 0, true⟩) (by simp) rfl rfl 55 7) ?_⟩
 refine WI.cong (H' := H.set j (rdO c (takeR c [97, 99, 116, 105, 111, 110] r).2) ++ [aZ, actO H.length [] nl false 0 [] (takeR c [97, 99, 116, 105, 111, 110] r).1, setO []]) ?_ ?_
 · simp [aZ, actO, setO, rws]
 refine WI.of_X (draw_ok hm) ?_
 simp -implicitDefEqProofs
 refine call_go (ok63a hl hj _ _) ?_
 simp -implicitDefEqProofs [actO]
 exact tail _ (by simp) (by simp) (by simp)
end
end Go.Proofs.YthmdmnfojbnobaaGreatDoor
namespace Go.Proofs.YthmdmnfojbnobaaGreatDoor
open Go.Ab
def RowI (n f : Nat) (G : List AO) (x : SV) (l : List Int) : Prop :=
 (x = nl ∧ l = []) ∨ ∃ k v, x = .own (n + (k + f)) 0 l.length 1 v ∧ G[k]? = some ⟨ints l, 3, v, true⟩
theorem RowI.cell {n f : Nat} {G : List AO} {x : SV} {l : List Int} (h : RowI n f G x l) : x.isCell = true := by
 rcases h with ⟨rfl, _⟩ | ⟨k, v, rfl, _⟩ <;> rfl
theorem ints_und (n : Nat) (l : List Int) : SV.underL n (ints l) = true := (SV.underL_iff _ _).2 fun s hs => by
 simp [ints] at hs; obtain ⟨a, _, rfl⟩ := hs; rfl
theorem RowI.fz {n f : Nat} {G : List AO} {x : SV} {l : List Int} (h : RowI n f G x l) (A : List AO) (hA : A.length = f) (d : Nat) : SV.le (SV.fz n [] (A ++ G) (d + 2) x) (.slc (ints l) l.length) := by
 rcases h with ⟨rfl, rfl⟩ | ⟨k, v, rfl, h2⟩
 · rw [fz_under (by rfl)]; exact le_nil
 · have h3 : (A ++ G)[k + f]? = some ⟨ints l, 3, v, true⟩ := by
    rw [List.getElem?_append_right (by omega), show k + f - A.length = k by omega]; exact h2
   rw [fz_own, h3]
   simp only [placeOf]
   have e3 : (ints l).length = l.length := by simp [ints]
   have e : (ints l).take l.length = ints l := List.take_of_length_le (by rw [e3]; exact Nat.le_refl _)
   have e2 : (ints l).map (SV.fz n [] (A ++ G) (d + 1)) = ints l := map_fz_under _ _ _ _ (ints_und _ l)
   simp only [List.drop_zero, e, e2, e3, Nat.zero_add, Nat.mul_one, and_self, if_true, Nat.le_refl]
   exact SV.le.refl _
def zS : AO := ⟨[i64 0, st (B []), st (B []), i64 0, i64 0, nl, bl false, nl, nl, nl, nl, i64 0], 45, 0, true⟩
def stV (lb : List UInt8) : SV := .agg [i64 0, st (B lb), st (B []), i64 0, i64 0, nl, bl false, nl, nl, nl, nl, i64 0]
def dlO (lb nm : List UInt8) (lo hi : Int) (xW : SV) (all : Bool) (xS : SV) (p : Int) : AO := ⟨[i64 1, st (B lb), st (B nm), i64 lo, i64 hi, xW, bl all, xS, nl, nl, nl, i64 p], 45, 0, true⟩
def stageV (x : StageP) : SV := .agg x.c
section
variable {H : List AO} {c : Cx} {r : Rd} {j : Nat} {G : List AO} {lb nm : List UInt8} {lo hi : Int} {xW xS : SV} {wt : List Ex} {all : Bool} {seen : List Int} {p : Int}
theorem cv_deal {x : AO} {o : AO} (hcl : closed (H.set j o)) (hW : RowE H.length 2 G xW wt) (hS : RowI H.length 2 G xS seen) :
 Cv H.length (.agg [i64 1, st (B lb), st (B nm), i64 lo, i64 hi, xW, bl all, xS, nl, nl, nl, i64 p]) (H.set j o ++ (dlO lb nm lo hi xW all xS p :: x :: G)) (stageV ⟨1, lb, nm, lo, hi, wt, all, seen, [], [], [], p⟩) (H.set j o) := by
 refine Cv.le (cv_fz (n0 := H.length) 4 hcl (by simp) rfl) ?_
 have h1 := hW.fz [dlO lb nm lo hi xW all xS p, x] rfl 1
 have h2 := hS.fz [dlO lb nm lo hi xW all xS p, x] rfl 1
 simp only [List.cons_append, List.nil_append] at h1 h2
 simp [stageV, StageP.c]
 refine le_agg (leL.cons (SV.le.refl _) (leL.cons (SV.le.refl _) (leL.cons (SV.le.refl _) (leL.cons (SV.le.refl _) (leL.cons (SV.le.refl _) (leL.cons h1 (leL.cons (SV.le.refl _) (leL.cons h2 (leL.cons le_nil (leL.cons le_nil (leL.cons le_nil (leL.cons (SV.le.refl _) leL.nil))))))))))))
theorem deal_t10 (hl : c.ts.length < 4611686018427387904) (hj : j < H.length) (hcl : closed (H.set j (rdO c r))) (hW : RowE H.length 2 G xW wt) (hS : RowI H.length 2 G xS seen) {env : Env}
 (h0 : env.get 0 = rp j) (h3 : env.get 3 = .ptr (.own H.length 0 0 0 0) 0) (h4 : env.get 4 = .ptr (.own (H.length + 1) 0 0 0 0) 0) :
 X Tryz.prog Tryz.f93.ntmps drawB (IC.tl 10 i93) env (H.set j (rdO c r) ++ (dlO lb nm lo hi xW all xS p :: zS :: G))
  (Fin H.length r93 (.ret (stageV ⟨1, lb, nm, lo, hi, wt, all, seen, [], [], [], p⟩)) (H.set j (rdO c (t2 c [59] r)))) := by
 have hc := hW.cell
 have hc2 := hS.cell
 simp -implicitDefEqProofs [IC.tl, i93, r93, h0, h3, h4]
 refine call_go (ok62a hl hj r _ [59]) ?_
 rw [show (takeR c [59] r).2 = t2 c [59] r from rfl]
 simp -implicitDefEqProofs [h0, h3, h4, dlO, zS]
 exact ⟨⟨hc, hc2, rfl⟩, cv_deal (closed_rd hcl) hW hS⟩
theorem seenL_keep {d : Nat} : ∀ (n : Nat) (l : List Int) (r : Rd), Gd c d r -> Gd c d (seenL c n l r).2 ∧ r.a ≤ (seenL c n l r).2.a
 | 0, l, r, h => ⟨h, Nat.le_refl _⟩
 | n + 1, l, r, h => by
  rw [seenL]
  split
  · dsimp only
    obtain ⟨h1, h2⟩ := t2_keep [44] h
    obtain ⟨h3, h4, _⟩ := full_keep (P := l.length = 32 ∧ (t2 c [44] r).a < c.ts.length ∧ tokB c { t2 c [44] r with e := 0 } (fun t => decide (t.k = 2)) = true) h1
    generalize (if l.length = 32 ∧ (t2 c [44] r).a < c.ts.length ∧ tokB c { t2 c [44] r with e := 0 } (fun t => decide (t.k = 2)) = true then failR c 12 (t2 c [44] r) else t2 c [44] r) = r2 at *
    obtain ⟨h6, h7⟩ := num_keep r2 h3
    obtain ⟨h8, h9⟩ := seenL_keep n (l ++ [(nmR c r2).1]) _ h6
    exact ⟨h8, by omega⟩
  · exact ⟨h, Nat.le_refl _⟩
theorem seenR_keep {d : Nat} : Kp c d (seenR c) := by
 intro r h
 unfold seenR
 split
 · dsimp only
   obtain ⟨h1, h2⟩ := t2_keep [115, 101, 101, 110] h
   obtain ⟨h3, h4⟩ := t2_keep [98, 121] h1
   split
   · obtain ⟨h5, h6⟩ := t2_keep [97, 108, 108] h3
     exact ⟨h5, by simp only; omega⟩
   · obtain ⟨h5, h6⟩ := num_keep _ h3
     obtain ⟨h7, h8⟩ := seenL_keep c.ts.length [(nmR c (t2 c [98, 121] (t2 c [115, 101, 101, 110] r))).1] _ h5
     exact ⟨h7, by simp only; omega⟩
 · exact ⟨h, Nat.le_refl _⟩
theorem loop93 (h20 : c.ts.length ≤ 20000) (hj : j < H.length) {d : Nat} (hW : RowE H.length 2 G xW wt) {N : Nat} {K : XE -> Env -> List AO -> Prop} {res : List Int × Rd}
 (hexit : ∀ env M, env.get 0 = rp j -> env.get 3 = .ptr (.own H.length 0 0 0 0) 0 -> env.get 4 = .ptr (.own (H.length + 1) 0 0 0 0) 0 -> K (.exit 0) env (H.set j (rdO c res.2) ++ (dlO lb nm lo hi xW false (.own (H.length + (G.length + 2)) 0 res.1.length 1 (res.1.length - 1)) p :: zS :: (G ++ ⟨ints res.1, 3, res.1.length - 1, true⟩ :: M)))) :
 ∀ (n : Nat) (l : List Int) (m : Nat) (r : Rd) (M : List AO) (env : Env), c.ts.length ≤ r.a + n -> l.length = m + 1 -> l.length ≤ r.a + 1 -> seenL c n l r = res -> Gd c d r -> env.get 0 = rp j -> env.get 3 = .ptr (.own H.length 0 0 0 0) 0 -> env.get 4 = .ptr (.own (H.length + 1) 0 0 0 0) 0 →
  LI Tryz.prog N drawB l93_0 env (H.set j (rdO c r) ++ (dlO lb nm lo hi xW false (.own (H.length + (G.length + 2)) 0 (m + 1) 1 m) p :: zS :: (G ++ ⟨ints l, 3, m, true⟩ :: M))) K := by
 have hl : c.ts.length < 4611686018427387904 := by omega
 have hWc := hW.cell
 intro n
 induction n with
 | zero =>
  intro l m r M env hn hlm hla hr hg h0 h3 h4
  refine li_go hm l93_0.eq_1 ?_
  have hp : peekR c [44] r = false := by rw [← Bool.not_eq_true]; intro h; have := peek_lt h; omega
  simp -implicitDefEqProofs [h0, h3, h4]
  refine call_go (ok65a hj r _ [44]) ?_
  simp -implicitDefEqProofs [h0, h3, h4, hp]
  simp only [seenL] at hr
  subst hr
  have : m = l.length - 1 := by omega
  subst this
  have e : l.length - 1 + 1 = l.length := by omega
  rw [e]
  exact hexit _ M (by simp [h0]) (by simp [h3]) (by simp [h4])
 | succ n ih =>
  intro l m r M env hn hlm hla hr hg h0 h3 h4
  refine li_go hm l93_0.eq_1 ?_
  simp -implicitDefEqProofs [h0, h3, h4]
  refine call_go (ok65a hj r _ [44]) ?_
  rw [seenL] at hr
  by_cases hp : peekR c [44] r = true
  · rw [if_pos hp] at hr
    have hlt := peek_lt hp
    have hla2 := hg.a
    have ht : t2 c [44] r = nextR r := by simp [t2, takeR, hp]
    have hg1 := hg.next hlt
    have he0 := (peek_tok hp).1
    rw [ht] at hr
    dsimp only at hr
    simp -implicitDefEqProofs [h0, h3, h4, hp]
    refine call_go (ok62a hl hj r _ [44]) ?_
    rw [show (takeR c [44] r).2 = nextR r from ht]
    have e1 := ocL hj
    have fin : ∀ (r2 : Rd) (env : Env), r2.a = r.a + 1 -> Gd c d r2 -> seenL c n (l ++ [(nmR c r2).1]) (nmR c r2).2 = res -> env.get 0 = rp j -> env.get 3 = .ptr (.own H.length 0 0 0 0) 0 -> env.get 4 = .ptr (.own (H.length + 1) 0 0 0 0) 0 -> ∀ M,
     LI Tryz.prog N drawB l93_0 env (H.set j (rdO c (nmR c r2).2) ++ (dlO lb nm lo hi xW false (.own (H.length + (G.length + 2)) 0 (m + 1 + 1) 1 (m + 1)) p :: zS :: (G ++ ⟨ints (l ++ [(nmR c r2).1]), 3, m + 1, true⟩ :: M))) K := by
     intro r2 env ha hg2 hr g0 g3 g4 M
     obtain ⟨k1, k2⟩ := num_keep r2 hg2
     exact ih (l ++ [(nmR c r2).1]) (m + 1) _ M env (by omega) (by simp [hlm]) (by simp; omega) hr k1 g0 g3 g4
    by_cases hm : (m : Int) + 1 = 32
    · have hm' : l.length = 32 := by omega
      have hm2 : m = 31 := by omega
      by_cases hlt2 : r.a + 1 < c.ts.length
      · have hlt2' : (r.a : Int) + 1 < (c.ts.length : Int) := by omega
        have k0 := tk_at (k := 0) hlt2 (by omega)
        rw [Nat.add_zero] at k0
        by_cases h2 : c.ts[r.a + 1].k = 2
        · rw [if_pos ⟨hm', hlt2, by simp [tokB, nextR, hlt2, h2]⟩] at hr
          obtain ⟨q1, q2, _⟩ := fail_keep (e := 12) (by decide) hg1
          simp -implicitDefEqProofs [h0, h3, h4, dlO, rp, e1, rdO, nextR, hWc, hm, hlt2', tksV, k0, h2, sum4, Tok.c]
          refine ⟨by omega, by omega, ?_⟩
          refine call_go (ok67a hj (nextR r) _ 12) ?_
          simp -implicitDefEqProofs [h0, h3, h4, hm]
          refine call_go (ok64a hl hj (failR c 12 (nextR r)) _) ?_
          simp -implicitDefEqProofs [h0, h3, h4, hWc, hlm]
          refine ⟨by omega, by omega, ?_⟩
          refine LI.cong ?_ (fin (failR c 12 (nextR r)) _ q2 q1 hr ?_ ?_ ?_ (M ++ [⟨[i64 (nmR c (failR c 12 (nextR r))).1], 3, 0, true⟩]))
          · simp [dlO, ints]
          all_goals simp [h0, h3, h4, rp]
        · rw [if_neg (fun h => h2 (by have h3 := h.2.2; simp [tokB, nextR, hlt2] at h3; exact of_decide_eq_true h3))] at hr
          simp -implicitDefEqProofs [h0, h3, h4, dlO, rp, e1, rdO, nextR, hWc, hm, hlt2', tksV, k0, h2, sum4, Tok.c]
          refine ⟨by omega, by omega, ?_⟩
          refine call_go (ok64a hl hj (nextR r) _) ?_
          simp -implicitDefEqProofs [h0, h3, h4, hWc, hlm]
          refine ⟨by omega, by omega, ?_⟩
          refine LI.cong ?_ (fin (nextR r) _ rfl hg1 hr ?_ ?_ ?_ (M ++ [⟨[i64 (nmR c (nextR r)).1], 3, 0, true⟩]))
          · simp [dlO, ints]
          all_goals simp [h0, h3, h4, rp]
      · have hlt2' : ¬ (r.a : Int) + 1 < (c.ts.length : Int) := by omega
        rw [if_neg (fun h => hlt2 h.2.1)] at hr
        simp -implicitDefEqProofs [h0, h3, h4, dlO, rp, e1, rdO, nextR, hWc, hm, hlt2', tksV]
        refine call_go (ok64a hl hj (nextR r) _) ?_
        simp -implicitDefEqProofs [h0, h3, h4, hWc, hlm]
        refine ⟨by omega, by omega, ?_⟩
        refine LI.cong ?_ (fin (nextR r) _ rfl hg1 hr ?_ ?_ ?_ (M ++ [⟨[i64 (nmR c (nextR r)).1], 3, 0, true⟩]))
        · simp [dlO, ints]
        all_goals simp [h0, h3, h4, rp]
    · have hm' : ¬ l.length = 32 := by omega
      rw [if_neg (fun h => hm' h.1)] at hr
      simp -implicitDefEqProofs [h0, h3, h4, dlO, rp, e1, rdO, nextR, hWc, hm, tksV]
      refine call_go (ok64a hl hj (nextR r) _) ?_
      simp -implicitDefEqProofs [h0, h3, h4, hWc, hlm]
      refine ⟨by omega, by omega, ?_⟩
      refine LI.cong ?_ (fin (nextR r) _ rfl hg1 hr ?_ ?_ ?_ (M ++ [⟨[i64 (nmR c (nextR r)).1], 3, 0, true⟩]))
      · simp [dlO, ints]
      all_goals simp [h0, h3, h4, rp]
  · rw [if_neg hp] at hr
    rw [Bool.not_eq_true] at hp
    simp -implicitDefEqProofs [h0, h3, h4, hp]
    subst hr
    have : m = l.length - 1 := by omega
    subst this
    have e : l.length - 1 + 1 = l.length := by omega
    rw [e]
    exact hexit _ M (by simp [h0]) (by simp [h3]) (by simp [h4])
end
end Go.Proofs.YthmdmnfojbnobaaGreatDoor
namespace Go.Proofs.YthmdmnfojbnobaaGreatDoor
open Go.Ab
section
variable {H : List AO} {c : Cx} {r : Rd} {j : Nat} {G : List AO} {lb nm : List UInt8} {lo hi : Int} {xW : SV} {wt : List Ex} {p : Int}
theorem deal_t9 (h20 : c.ts.length ≤ 20000) (hj : j < H.length) (hcl : closed (H.set j (rdO c r))) {d : Nat} (hg : Gd c d r) (hW : RowE H.length 2 G xW wt) {env : Env} {res : StageP × Rd}
 (hres : (fun (s : (Bool × List Int) × Rd) => ((⟨1, lb, nm, lo, hi, wt, s.1.1, s.1.2, [], [], [], p⟩, t2 c [59] s.2) : StageP × Rd)) (seenR c r) = res)
 (h0 : env.get 0 = rp j) (h3 : env.get 3 = .ptr (.own H.length 0 0 0 0) 0) (h4 : env.get 4 = .ptr (.own (H.length + 1) 0 0 0 0) 0) :
 X Tryz.prog Tryz.f93.ntmps drawB (IC.tl 9 i93) env (H.set j (rdO c r) ++ (dlO lb nm lo hi xW false nl p :: zS :: G))
  (Fin H.length r93 (.ret (stageV res.1)) (H.set j (rdO c res.2))) := by
 have hl : c.ts.length < 4611686018427387904 := by omega
 have hWc := hW.cell
 have tail : ∀ (all : Bool) (seen : List Int) (xS : SV) (r1 : Rd) (M : List AO) (env : Env), seenR c r = ((all, seen), r1) -> RowI H.length 2 (G ++ M) xS seen -> env.get 0 = rp j -> env.get 3 = .ptr (.own H.length 0 0 0 0) 0 -> env.get 4 = .ptr (.own (H.length + 1) 0 0 0 0) 0 →
  X Tryz.prog Tryz.f93.ntmps drawB (IC.tl 10 i93) env (H.set j (rdO c r1) ++ (dlO lb nm lo hi xW all xS p :: zS :: (G ++ M))) (Fin H.length r93 (.ret (stageV res.1)) (H.set j (rdO c res.2))) := by
  intro all seen xS r1 M env hs hS h0 h3 h4
  rw [hs] at hres
  subst hres
  exact deal_t10 hl hj (closed_rd hcl) (hW.app M) hS h0 h3 h4
 rw [show IC.tl 9 i93 = .seq (IC.nth 9 i93) (IC.tl 10 i93) from rfl]
 generalize IC.tl 10 i93 = t10 at tail ⊢
 simp -implicitDefEqProofs [IC.nth, i93, h0, h3, h4]
 refine call_go (ok65a hj r _ [115, 101, 101, 110]) ?_
 generalize hs : seenR c r = s at tail hres
 unfold seenR at hs
 by_cases hp : peekR c [115, 101, 101, 110] r = true
 · rw [if_pos hp] at hs
   dsimp only at hs
   have g1 := (t2_keep (c := c) (d := d) [115, 101, 101, 110] hg).1
   simp -implicitDefEqProofs [h0, h3, h4, hp]
   refine call_go (ok62a hl hj r _ [115, 101, 101, 110]) ?_
   rw [show (takeR c [115, 101, 101, 110] r).2 = t2 c [115, 101, 101, 110] r from rfl]
   generalize t2 c [115, 101, 101, 110] r = r1 at hs g1 ⊢
   simp -implicitDefEqProofs [h0, h3, h4]
   refine call_go (ok62a hl hj r1 _ [98, 121]) ?_
   have g2 := (t2_keep (c := c) (d := d) [98, 121] g1).1
   rw [show (takeR c [98, 121] r1).2 = t2 c [98, 121] r1 from rfl]
   generalize t2 c [98, 121] r1 = r2 at hs g2 ⊢
   simp -implicitDefEqProofs [h0, h3, h4]
   refine call_go (ok65a hj r2 _ [97, 108, 108]) ?_
   by_cases hp2 : peekR c [97, 108, 108] r2 = true
   · rw [if_pos hp2] at hs
     simp -implicitDefEqProofs [h0, h3, h4, hp2]
     refine call_go (ok62a hl hj r2 _ [97, 108, 108]) ?_
     simp -implicitDefEqProofs [h0, h3, h4, dlO]
     refine Xc ?_ (tail true [] nl _ [] _ hs.symm (.inl ⟨rfl, rfl⟩) ?_ ?_ ?_)
     · simp [dlO]; rfl
     all_goals simp [h0, h3, h4]
   · rw [if_neg hp2] at hs
     rw [Bool.not_eq_true] at hp2
     obtain ⟨g3, g4⟩ := num_keep r2 g2
     simp -implicitDefEqProofs [h0, h3, h4, hp2]
     refine call_go (ok64a hl hj r2 _) ?_
     simp -implicitDefEqProofs [h0, h3, h4, dlO]
     generalize hsl : seenL c c.ts.length [(nmR c r2).1] (nmR c r2).2 = sl at hs
     refine LI.cong (H' := H.set j (rdO c (nmR c r2).2) ++ (dlO lb nm lo hi xW false (.own (H.length + (G.length + 2)) 0 (0 + 1) 1 0) p :: zS :: (G ++ ⟨ints [(nmR c r2).1], 3, 0, true⟩ :: []))) (by simp [dlO, ints]) ?_
     refine loop93 h20 hj hW (res := sl) (fun env M q0 q3 q4 => ?_) c.ts.length [(nmR c r2).1] 0 _ [] _ (by omega) rfl (by simp) hsl g3 ?_ ?_ ?_
     · simp -implicitDefEqProofs
       refine tail false sl.1 _ sl.2 (⟨ints sl.1, 3, sl.1.length - 1, true⟩ :: M) env hs.symm (.inr ⟨G.length, sl.1.length - 1, rfl, by simp⟩) q0 q3 q4
     all_goals simp [h0, h3, h4]
 · rw [if_neg hp] at hs
   rw [Bool.not_eq_true] at hp
   simp -implicitDefEqProofs [h0, h3, h4, hp]
   refine Xc ?_ (tail false [] nl r [] _ hs.symm (.inl ⟨rfl, rfl⟩) ?_ ?_ ?_)
   · simp
   all_goals simp [h0, h3, h4]
theorem deal_t8 (h20 : c.ts.length ≤ 20000) (hj : j < H.length) (hcl : closed (H.set j (rdO c r))) {d : Nat} {orP : Rd -> Ex × Rd} (h1 : RdC c 99 orP d) (hk : Kp c d orP) (hg : Gd c d r) {env : Env} {res : StageP × Rd}
 (hres : (fun (w : List Ex × Rd) => (fun (s : (Bool × List Int) × Rd) => ((⟨1, lb, nm, lo, hi, w.1, s.1.1, s.1.2, [], [], [], p⟩, t2 c [59] s.2) : StageP × Rd)) (seenR c w.2)) (optR c orP [119, 101, 105, 103, 104, 116] r) = res)
 (h0 : env.get 0 = rp j) (h3 : env.get 3 = .ptr (.own H.length 0 0 0 0) 0) (h4 : env.get 4 = .ptr (.own (H.length + 1) 0 0 0 0) 0) :
 X Tryz.prog Tryz.f93.ntmps drawB (IC.tl 8 i93) env (H.set j (rdO c r) ++ [dlO lb nm lo hi nl false nl p, zS])
  (Fin H.length r93 (.ret (stageV res.1)) (H.set j (rdO c res.2))) := by
 have hl : c.ts.length < 4611686018427387904 := by omega
 have tail : ∀ (wt : List Ex) (xW : SV) (G : List AO) (r1 : Rd) (env : Env), optR c orP [119, 101, 105, 103, 104, 116] r = (wt, r1) -> RowE H.length 2 G xW wt -> Gd c d r1 -> env.get 0 = rp j -> env.get 3 = .ptr (.own H.length 0 0 0 0) 0 -> env.get 4 = .ptr (.own (H.length + 1) 0 0 0 0) 0 →
  X Tryz.prog Tryz.f93.ntmps drawB (IC.tl 9 i93) env (H.set j (rdO c r1) ++ (dlO lb nm lo hi xW false nl p :: zS :: G)) (Fin H.length r93 (.ret (stageV res.1)) (H.set j (rdO c res.2))) :=
  fun wt xW G r1 env hf hW hg h0 h3 h4 => deal_t9 h20 hj (closed_rd hcl) hg hW (by rw [hf] at hres; exact hres) h0 h3 h4
 rw [show IC.tl 8 i93 = .seq (IC.nth 8 i93) (IC.tl 9 i93) from rfl]
 generalize IC.tl 9 i93 = t9 at tail ⊢
 simp -implicitDefEqProofs [IC.nth, i93, h0, h3, h4]
 refine call_go (ok65a hj r _ [119, 101, 105, 103, 104, 116]) ?_
 by_cases hp : peekR c [119, 101, 105, 103, 104, 116] r = true
 · have hf : optR c orP [119, 101, 105, 103, 104, 116] r = ([(orP (t2 c [119, 101, 105, 103, 104, 116] r)).1], (orP (t2 c [119, 101, 105, 103, 104, 116] r)).2) := by unfold optR; rw [if_pos hp]
   have hg1 := (t2_keep (c := c) (d := d) [119, 101, 105, 103, 104, 116] hg).1
   simp -implicitDefEqProofs [h0, h3, h4, hp]
   refine call_go (ok62a hl hj r _ [119, 101, 105, 103, 104, 116]) ?_
   rw [show (takeR c [119, 101, 105, 103, 104, 116] r).2 = t2 c [119, 101, 105, 103, 104, 116] r from rfl]
   simp -implicitDefEqProofs [h0, h3, h4]
   refine call_go (RdC.app h1 hj hg1 _) ?_
   simp -implicitDefEqProofs [h0, h3, h4, dlO, Ex.v]
   refine Xc ?_ (tail _ (.own (H.length + 2) 0 1 5 0) [⟨Ex.cL [(orP (t2 c [119, 101, 105, 103, 104, 116] r)).1], 53, 0, true⟩] _ _ hf (.inr ⟨0, 0, by simp, rfl⟩) (hk _ hg1).1 ?_ ?_ ?_)
   · simp [Ex.cL]; rfl
   all_goals simp [h0, h3, h4]
 · have hf : optR c orP [119, 101, 105, 103, 104, 116] r = ([], r) := by unfold optR; rw [if_neg hp]
   rw [Bool.not_eq_true] at hp
   simp -implicitDefEqProofs [h0, h3, h4, hp]
   exact tail [] nl [] _ _ hf (.inl ⟨rfl, rfl⟩) hg (by simp [h0]) (by simp [h3]) (by simp [h4])
theorem ok93 (h20 : c.ts.length ≤ 20000) {d : Nat} {orP : Rd -> Ex × Rd} (h1 : RdC c 99 orP d) (hk : Kp c d orP) (lb : List UInt8) : RdA c 93 [stV lb] (dealR c orP { zStage with lb := lb }) stageV d := by
 intro H j r hj hg
 have hl : c.ts.length < 4611686018427387904 := by omega
 refine ok_fn hm Tryz.func93 c93 (by simp) fun hcl => ?_
 have g1 := (take_keep (c := c) (d := d) [100, 101, 97, 108] r hg).1
 have g2 := (word_keep _ g1).1
 have g3 := (t2_keep (c := c) (d := d) [105, 110] g2).1
 have g4 := (num_keep _ g3).1
 have g5 := (t2_keep (c := c) (d := d) [46, 46] g4).1
 have g6 := (num_keep _ g5).1
 have tail : ∀ env : Env, env.get 0 = rp j -> env.get 3 = .ptr (.own H.length 0 0 0 0) 0 -> env.get 4 = .ptr (.own (H.length + 1) 0 0 0 0) 0 -> _ :=
  fun env h0 h3 h4 => deal_t8 (lb := lb) (nm := (wordR c (takeR c [100, 101, 97, 108] r).2).1) (lo := (nmR c (t2 c [105, 110] (wordR c (takeR c [100, 101, 97, 108] r).2).2)).1) (hi := (nmR c (t2 c [46, 46] (nmR c (t2 c [105, 110] (wordR c (takeR c [100, 101, 97, 108] r).2).2)).2)).1) (p := (takeR c [100, 101, 97, 108] r).1) (res := dealR c orP { zStage with lb := lb } r) h20 hj (closed_rd hcl) h1 hk g6 rfl h0 h3 h4
 rw [show i93 = .seq (IC.nth 0 i93) (.seq (IC.nth 1 i93) (.seq (IC.nth 2 i93) (.seq (IC.nth 3 i93) (.seq (IC.nth 4 i93) (.seq (IC.nth 5 i93) (.seq (IC.nth 6 i93) (.seq (IC.nth 7 i93) (IC.tl 8 i93)))))))) from rfl]
 generalize IC.tl 8 i93 = t8 at tail ⊢
 simp -implicitDefEqProofs [IC.nth, i93, stV]
 refine ⟨rfl, call_go (ok62a hl hj r _ [100, 101, 97, 108]) ?_⟩
 simp -implicitDefEqProofs
 refine call_go (ok63a hl hj _ _) ?_
 simp -implicitDefEqProofs
 refine call_go (ok62a hl hj _ _ [105, 110]) ?_
 simp -implicitDefEqProofs
 refine call_go (ok64a hl hj _ _) ?_
 simp -implicitDefEqProofs
 refine call_go (ok62a hl hj _ _ [46, 46]) ?_
 simp -implicitDefEqProofs
 refine call_go (ok64a hl hj _ _) ?_
 simp -implicitDefEqProofs
 exact tail _ (by simp) (by simp) (by simp)
end
end Go.Proofs.YthmdmnfojbnobaaGreatDoor
namespace Go.Proofs.YthmdmnfojbnobaaGreatDoor
open Go.Ab
@[simp] theorem ActP.c_len (a : ActP) : a.c.length = 6 := rfl
@[simp] theorem ActP.take6 (a : ActP) : List.take 6 a.c = a.c := rfl
theorem ActP.und (n : Nat) (a : ActP) : SV.underL n a.c = true := by
 simp [ActP.c, exS, SV.underL, SV.under, Ex.undL, rws_under (SetP.und n)]
theorem ActP.ok (a : ActP) : cellsOk a.c := by
 intro s hs
 simp [ActP.c] at hs
 rcases hs with rfl | rfl | rfl | rfl | rfl | rfl <;> rfl
@[simp] theorem ActP.okT (a : ActP) : cellsOk a.c = True := eq_true a.ok
@[simp] theorem acts_fzm (n : Nat) (ks : List Nat) (L : List AO) (d : Nat) (l : List ActP) : (rws ActP.c l).map (SV.fz n ks L (d + 1)) = rws ActP.c l := map_fz_under _ _ _ _ (rws_under (ActP.und _) l)
theorem flagR_keep {c : Cx} {d : Nat} (s : List UInt8) : Kp c d (flagR c s) := by
 intro r h
 unfold flagR
 split
 · exact t2_keep s h
 · exact ⟨h, Nat.le_refl _⟩
theorem optR_keep {c : Cx} {d : Nat} {orP : Rd -> Ex × Rd} (hk : Kp c d orP) (s : List UInt8) : Kp c d (optR c orP s) := by
 intro r h
 unfold optR
 split
 · obtain ⟨h1, h2⟩ := t2_keep s h
   obtain ⟨h3, h4⟩ := hk _ h1
   exact ⟨h3, Nat.le_trans h2 h4⟩
 · exact ⟨h, Nat.le_refl _⟩
theorem gotoR_keep {c : Cx} {d : Nat} : Kp c d (gotoR c) := by
 intro r h
 unfold gotoR
 split
 · obtain ⟨h1, h2⟩ := t2_keep [103, 111, 116, 111] h
   obtain ⟨h3, h4⟩ := word_keep _ h1
   obtain ⟨h5, h6⟩ := t2_keep [59] h3
   exact ⟨h5, by simp only; omega⟩
 · exact ⟨h, Nat.le_refl _⟩
theorem actR_keep {c : Cx} {d : Nat} {orP : Rd -> Ex × Rd} (hk : Kp c d orP) : Kp c d (actR c orP) := by
 intro r h
 unfold actR
 dsimp only
 obtain ⟨h1, i1⟩ := take_keep [97, 99, 116, 105, 111, 110] r h
 obtain ⟨h2, i2⟩ := word_keep _ h1
 obtain ⟨h3, i3⟩ := optR_keep hk [119, 104, 101, 110] _ h2
 obtain ⟨h4, i4⟩ := flagR_keep [104, 105, 100, 100, 101, 110] _ h3
 obtain ⟨h5, i5⟩ := t2_keep [123] h4
 obtain ⟨h6, i6⟩ := setsL_keep hk (c.ts.length + 1) [] _ h5
 obtain ⟨h7, i7⟩ := t2_keep [125] h6
 obtain ⟨h8, i8⟩ := gotoR_keep _ h7
 exact ⟨h8, by omega⟩
theorem act_from {c : Cx} {d : Nat} {orP : Rd -> Ex × Rd} (hk : Kp c d orP) {r : Rd} (h1 : Gd c d (takeR c [97, 99, 116, 105, 111, 110] r).2) : (takeR c [97, 99, 116, 105, 111, 110] r).2.a ≤ (actR c orP r).2.a := by
 unfold actR
 dsimp only
 obtain ⟨h2, i2⟩ := word_keep _ h1
 obtain ⟨h3, i3⟩ := optR_keep hk [119, 104, 101, 110] _ h2
 obtain ⟨h4, i4⟩ := flagR_keep [104, 105, 100, 100, 101, 110] _ h3
 obtain ⟨h5, i5⟩ := t2_keep [123] h4
 obtain ⟨h6, i6⟩ := setsL_keep hk (c.ts.length + 1) [] _ h5
 obtain ⟨h7, i7⟩ := t2_keep [125] h6
 obtain ⟨h8, i8⟩ := gotoR_keep _ h7
 omega
def Still {α : Type} (F : Rd -> α × Rd) : Prop := ∀ r, r.e ≠ 0 -> (F r).2 = r
theorem fail_bad {c : Cx} {r : Rd} {e : Int} (h : r.e ≠ 0) : failR c e r = r := by unfold failR; rw [if_neg h]
theorem peek_bad {c : Cx} {r : Rd} (h : r.e ≠ 0) (s : List UInt8) : peekR c s r = false := by
 rw [← Bool.not_eq_true]; exact fun h2 => h (peek_tok h2).1
theorem free_bad {c : Cx} {r : Rd} (h : r.e ≠ 0) : freeR c r = false := by
 rw [← Bool.not_eq_true]; exact fun h2 => h (tokB_lt h2).1
theorem take_still {c : Cx} (s : List UInt8) : Still (takeR c s) := fun r h => by unfold takeR; rw [peek_bad h, fail_bad h]; rfl
theorem t2_still {c : Cx} (s : List UInt8) {r : Rd} (h : r.e ≠ 0) : t2 c s r = r := take_still s r h
theorem word_still {c : Cx} : Still (wordR c) := fun r h => by unfold wordR; rw [free_bad h, fail_bad h]; rfl
theorem opAt_bad {c : Cx} {r : Rd} (h : r.e ≠ 0) (ops : List (List UInt8 × Int)) : opAt c ops r = none := by
 cases ho : opAt c ops r with
 | none => rfl
 | some op => exact absurd (opAt_lt ho).1 h
theorem bin_still {c : Cx} {ops : List (List UInt8 × Int)} {f : Rd -> Ex × Rd} (hf : Still f) : Still (binF c ops f) := by
 intro r h
 unfold binF
 rw [hf r h]
 cases c.ts.length with
 | zero => rfl
 | succ n => rw [binL, opAt_bad h]
theorem cmp_still {c : Cx} {f : Rd -> Ex × Rd} (hf : Still f) : Still (cmpF c f) := by
 intro r h
 unfold cmpF
 rw [hf r h, opAt_bad h]
 exact hf r h
theorem not_still {c : Cx} {cmp ntP : Rd -> Ex × Rd} (hf : Still cmp) : Still (notG c cmp ntP) := by
 intro r h
 unfold notG
 rw [if_neg (by rw [peek_bad h]; decide)]
 exact hf r h
theorem fac_still {c : Cx} {orP facP : Rd -> Ex × Rd} : Still (facG c orP facP) := by
 intro r h
 unfold facG
 rw [if_pos h]
theorem or_still (c : Cx) (d : Nat) : Still (orOf c (lv c d)) := by
 have hn : Still (lv c d).nt := by
  cases d with
  | zero => exact not_still (cmp_still (bin_still (bin_still fac_still)))
  | succ d => exact not_still (cmp_still (bin_still (bin_still fac_still)))
 exact bin_still (bin_still hn)
theorem opt_still {c : Cx} {orP : Rd -> Ex × Rd} (s : List UInt8) : Still (optR c orP s) := fun r h => by unfold optR; rw [if_neg (by rw [peek_bad h]; decide)]
theorem flag_still {c : Cx} (s : List UInt8) : Still (flagR c s) := fun r h => by unfold flagR; rw [if_neg (by rw [peek_bad h]; decide)]
theorem goto_still {c : Cx} : Still (gotoR c) := fun r h => by unfold gotoR; rw [if_neg (by rw [peek_bad h]; decide)]
theorem sets_still {c : Cx} {orP : Rd -> Ex × Rd} (n : Nat) (l : List SetP) : Still (setsL c orP n l) := by
 intro r h
 cases n with
 | zero => rfl
 | succ n => rw [setsL, if_neg (fun h2 => h h2.1)]
theorem act_still {c : Cx} {orP : Rd -> Ex × Rd} : Still (actR c orP) := by
 intro r h
 unfold actR
 dsimp only
 rw [take_still _ r h, word_still r h, opt_still _ r h, flag_still _ r h, t2_still _ h, sets_still _ _ r h, t2_still _ h, goto_still r h]
def tnO (n : Nat) (lb : List UInt8) (m : Nat) (p : Int) : AO := ⟨[i64 2, st (B lb), st (B []), i64 0, i64 0, nl, bl false, nl, .own (n + 2) 0 1 5 0, .own (n + 3) 0 (m + 1) 6 m, nl, i64 p], 45, 0, true⟩
section
variable {H : List AO} {c : Cx} {r : Rd} {j : Nat} {G : List AO} {lb : List UInt8} {w : Ex} {p : Int}
theorem cv_turn {x : AO} {o : AO} {l : List ActP} {m : Nat} (hm' : l.length = m + 1) (hcl : closed (H.set j o)) :
 Cv H.length (.agg [i64 2, st (B lb), st (B []), i64 0, i64 0, nl, bl false, nl, .own (H.length + 2) 0 1 5 0, .own (H.length + 3) 0 (m + 1) 6 m, nl, i64 p]) (H.set j o ++ (tnO H.length lb m p :: x :: ⟨Ex.cL [w], 53, 0, true⟩ :: ⟨rws ActP.c l, 51, m, true⟩ :: G)) (stageV ⟨2, lb, [], 0, 0, [], false, [], [w], l, [], p⟩) (H.set j o) := by
 refine Cv.le (cv_fz (n0 := H.length) 4 hcl (by simp) rfl) ?_
 have e : (rws ActP.c l).take ((m + 1) * 6) = rws ActP.c l := List.take_of_length_le (by rw [rws_len ActP.c_len, hm']; exact Nat.le_refl _)
 have e2 : (Ex.cL [w]).take 5 = Ex.cL [w] := by simp [Ex.cL]
 have e3 : (Ex.cL [w]).length = 5 := by simp [Ex.cL]
 simp [stageV, StageP.c, rws_len ActP.c_len, hm', e, e2, e3]
 refine le_agg (leL.cons (SV.le.refl _) (leL.cons (SV.le.refl _) (leL.cons (SV.le.refl _) (leL.cons (SV.le.refl _) (leL.cons (SV.le.refl _) (leL.cons le_nil (leL.cons (SV.le.refl _) (leL.cons le_nil (leL.cons (SV.le.refl _) (leL.cons (SV.le.refl _) (leL.cons le_nil (leL.cons (SV.le.refl _) leL.nil))))))))))))
theorem loop94 (h20 : c.ts.length ≤ 20000) (hj : j < H.length) {d : Nat} {orP : Rd -> Ex × Rd} (h1 : RdC c 99 orP d) (hk : Kp c d orP) {N : Nat} {K : XE -> Env -> List AO -> Prop} {res : List ActP × Rd}
 (hexit : ∀ env G m, res.1.length = m + 1 -> env.get 0 = rp j -> env.get 3 = .ptr (.own H.length 0 0 0 0) 0 -> env.get 4 = .ptr (.own (H.length + 1) 0 0 0 0) 0 -> K (.exit 0) env (H.set j (rdO c res.2) ++ (tnO H.length lb m p :: zS :: ⟨Ex.cL [w], 53, 0, true⟩ :: ⟨rws ActP.c res.1, 51, m, true⟩ :: G))) :
 ∀ (n : Nat) (l : List ActP) (m : Nat) (r : Rd) (G : List AO) (env : Env), c.ts.length ≤ r.a + n -> l.length = m + 1 -> l.length ≤ r.a + 1 -> actsL c orP 0 n l r = res -> Gd c d r -> env.get 0 = rp j -> env.get 3 = .ptr (.own H.length 0 0 0 0) 0 -> env.get 4 = .ptr (.own (H.length + 1) 0 0 0 0) 0 →
  LI Tryz.prog N drawB l94_0 env (H.set j (rdO c r) ++ (tnO H.length lb m p :: zS :: ⟨Ex.cL [w], 53, 0, true⟩ :: ⟨rws ActP.c l, 51, m, true⟩ :: G)) K := by
 have hl : c.ts.length < 4611686018427387904 := by omega
 have out_ok : ∀ (l : List ActP) (m : Nat) (r : Rd) (G : List AO) (env : Env), peekR c [97, 99, 116, 105, 111, 110] r = false -> (l, r) = res -> l.length = m + 1 -> env.get 0 = rp j -> env.get 3 = .ptr (.own H.length 0 0 0 0) 0 -> env.get 4 = .ptr (.own (H.length + 1) 0 0 0 0) 0 →
  LI Tryz.prog N drawB l94_0 env (H.set j (rdO c r) ++ (tnO H.length lb m p :: zS :: ⟨Ex.cL [w], 53, 0, true⟩ :: ⟨rws ActP.c l, 51, m, true⟩ :: G)) K := by
  intro l m r G env hp hr hlm h0 h3 h4
  subst hr
  refine li_go hm l94_0.eq_1 ?_
  simp -implicitDefEqProofs [h0, h3, h4]
  refine call_go (ok65a hj r _ [97, 99, 116, 105, 111, 110]) ?_
  simp -implicitDefEqProofs [h0, h3, h4, hp]
  exact hexit _ G m hlm (by simp [h0]) (by simp [h3]) (by simp [h4])
 intro n
 induction n with
 | zero =>
  intro l m r G env hn hlm hla hr hg h0 h3 h4
  exact out_ok l m r G env (by rw [← Bool.not_eq_true]; intro h; have := peek_lt h; omega) hr hlm h0 h3 h4
 | succ n ih =>
  intro l m r G env hn hlm hla hr hg h0 h3 h4
  rw [actsL] at hr
  by_cases hp : peekR c [97, 99, 116, 105, 111, 110] r = true
  · rw [if_pos hp] at hr
    dsimp only at hr
    have hlt := peek_lt hp
    have hla2 := hg.a
    have fin : ∀ (r2 : Rd) (env : Env), Gd c d r2 -> r2.a = r.a -> (r2.e = 0 -> r2 = r) -> actsL c orP 0 n (l ++ [(actR c orP r2).1]) (actR c orP r2).2 = res -> env.get 0 = rp j -> env.get 3 = .ptr (.own H.length 0 0 0 0) 0 -> env.get 4 = .ptr (.own (H.length + 1) 0 0 0 0) 0 -> ∀ G,
     LI Tryz.prog N drawB l94_0 env (H.set j (rdO c (actR c orP r2).2) ++ (tnO H.length lb (m + 1) p :: zS :: ⟨Ex.cL [w], 53, 0, true⟩ :: ⟨rws ActP.c (l ++ [(actR c orP r2).1]), 51, m + 1, true⟩ :: G)) K := by
     intro r2 env hg2 ha hb hr2 g0 g3 g4 G
     obtain ⟨k1, k2⟩ := actR_keep hk r2 hg2
     by_cases he : r2.e = 0
     · have := hb he
       subst this
       have hstr : r2.a + 1 ≤ (actR c orP r2).2.a := by
        have ht : (takeR c [97, 99, 116, 105, 111, 110] r2).2 = nextR r2 := by simp [takeR, hp]
        have := act_from hk (r := r2) (by rw [ht]; exact hg2.next hlt)
        rw [ht] at this
        exact this
       exact ih _ (m + 1) _ G env (by omega) (by simp [hlm]) (by simp; omega) hr2 k1 g0 g3 g4
     · have hbad : (actR c orP r2).2.e ≠ 0 := by rw [act_still r2 he]; exact he
       refine out_ok _ (m + 1) _ G env (peek_bad hbad _) ?_ (by simp [hlm]) g0 g3 g4
       rw [← hr2]
       cases n with
       | zero => rfl
       | succ n => rw [actsL, if_neg (by rw [peek_bad hbad]; decide)]
    refine li_go hm l94_0.eq_1 ?_
    simp -implicitDefEqProofs [h0, h3, h4]
    refine call_go (ok65a hj r _ [97, 99, 116, 105, 111, 110]) ?_
    by_cases h10 : l.length = 10
    · have hm9 : ((m : Int) + 1) = 10 := by omega
      rw [if_pos h10] at hr
      obtain ⟨q1, q2, q3⟩ := fail_keep (e := 12) (by decide) hg
      simp -implicitDefEqProofs [h0, h3, h4, hp, tnO, hm9]
      refine call_go (ok67a hj r _ 12) ?_
      simp -implicitDefEqProofs [h0, h3, h4]
      refine call_go (RdA.app (ok109 h20 h1 hk) hj q1 _) ?_
      simp -implicitDefEqProofs [h0, h3, h4, actV, rws_len ActP.c_len, hlm]
      refine ⟨by omega, by omega, ?_⟩
      refine LI.cong ?_ (fin (failR c 12 r) _ q1 q2 (fun h => absurd h q3) hr ?_ ?_ ?_ (G ++ [⟨(actR c orP (failR c 12 r)).1.c, 51, 0, true⟩]))
      · simp [tnO, rws_app, rws]
      all_goals simp [h0, h3, h4]
    · have hm9 : ¬ ((m : Int) + 1) = 10 := by omega
      rw [if_neg h10] at hr
      simp -implicitDefEqProofs [h0, h3, h4, hp, tnO, hm9]
      refine call_go (RdA.app (ok109 h20 h1 hk) hj hg _) ?_
      simp -implicitDefEqProofs [h0, h3, h4, actV, rws_len ActP.c_len, hlm]
      refine ⟨by omega, by omega, ?_⟩
      refine LI.cong ?_ (fin (r) _ hg rfl (fun _ => rfl) hr ?_ ?_ ?_ (G ++ [⟨(actR c orP (r)).1.c, 51, 0, true⟩]))
      · simp [tnO, rws_app, rws]
      all_goals simp [h0, h3, h4]
  · rw [if_neg hp] at hr
    rw [Bool.not_eq_true] at hp
    exact out_ok l m r G env hp hr hlm h0 h3 h4
theorem actsL_keep {d : Nat} {orP : Rd -> Ex × Rd} (hk : Kp c d orP) : ∀ (n : Nat) (l : List ActP) (r : Rd), Gd c d r -> Gd c d (actsL c orP 0 n l r).2 ∧ r.a ≤ (actsL c orP 0 n l r).2.a
 | 0, l, r, h => ⟨h, Nat.le_refl _⟩
 | n + 1, l, r, h => by
  rw [actsL]
  split
  · dsimp only
    obtain ⟨h3, h4, _⟩ := full_keep (P := l.length = 10) h
    generalize (if l.length = 10 then failR c 12 r else r) = r2 at *
    obtain ⟨h6, h7⟩ := actR_keep hk r2 h3
    obtain ⟨h8, h9⟩ := actsL_keep hk n (l ++ [(actR c orP r2).1]) _ h6
    exact ⟨h8, by omega⟩
  · exact ⟨h, Nat.le_refl _⟩
theorem ok94 (h20 : c.ts.length ≤ 20000) {d : Nat} {orP : Rd -> Ex × Rd} (h1 : RdC c 99 orP d) (hk : Kp c d orP) (lb : List UInt8) : RdA c 94 [stV lb] (turnR c orP { zStage with lb := lb }) stageV d := by
 intro H j r hj hg
 have hl : c.ts.length < 4611686018427387904 := by omega
 refine ok_fn hm Tryz.func94 c94 (by simp) fun hcl => ?_
 have g1 := (take_keep (c := c) (d := d) [116, 117, 114, 110] r hg).1
 generalize hw : turnR c orP { zStage with lb := lb } r = res
 unfold turnR at hw
 dsimp only at hw
 simp -implicitDefEqProofs [i94, r94, stV]
 refine ⟨rfl, call_go (ok62a hl hj r _ [116, 117, 114, 110]) ?_⟩
 generalize takeR c [116, 117, 114, 110] r = t at g1 hw ⊢
 have g2 := (hk _ g1).1
 simp -implicitDefEqProofs
 refine call_go (RdC.app h1 hj g1 _) ?_
 generalize orP t.2 = w at g2 hw ⊢
 simp -implicitDefEqProofs [Ex.v]
 refine call_go (ok62a hl hj w.2 _ [123]) ?_
 have g3 := (t2_keep (c := c) (d := d) [123] g2).1
 rw [show (takeR c [123] w.2).2 = t2 c [123] w.2 from rfl]
 generalize t2 c [123] w.2 = r3 at g3 hw ⊢
 simp -implicitDefEqProofs
 refine call_go (RdA.app (ok109 h20 h1 hk) hj g3 _) ?_
 have g4 := (actR_keep hk _ g3).1
 generalize actR c orP r3 = a at g4 hw ⊢
 simp -implicitDefEqProofs [actV]
 generalize hl2 : actsL c orP 0 c.ts.length [a.1] a.2 = l at hw
 refine LI.cong (H' := H.set j (rdO c a.2) ++ (tnO H.length lb 0 t.1 :: zS :: ⟨Ex.cL [w.1], 53, 0, true⟩ :: ⟨rws ActP.c [a.1], 51, 0, true⟩ :: [])) (by simp [tnO, zS, Ex.cL, rws]) ?_
 refine loop94 h20 hj h1 hk (res := l) (fun env G m hlm q0 q3 q4 => ?_) c.ts.length [a.1] 0 a.2 [] _ (by omega) rfl (by simp) hl2 g4 ?_ ?_ ?_
 · simp -implicitDefEqProofs [q0, q3, q4]
   refine call_go (ok62a hl hj l.2 _ [125]) ?_
   rw [show (takeR c [125] l.2).2 = t2 c [125] l.2 from rfl]
   subst hw
   simp -implicitDefEqProofs [q0, q3, q4, tnO, zS]
   exact ⟨rfl, cv_turn hlm (closed_rd hcl)⟩
 all_goals simp
end
end Go.Proofs.YthmdmnfojbnobaaGreatDoor
namespace Go.Proofs.YthmdmnfojbnobaaGreatDoor
open Go.Ab
theorem dealR_keep {c : Cx} {d : Nat} {orP : Rd -> Ex × Rd} (hk : Kp c d orP) (x : StageP) : Kp c d (dealR c orP x) := by
 intro r h
 unfold dealR
 dsimp only
 obtain ⟨g1, i1⟩ := take_keep [100, 101, 97, 108] r h
 obtain ⟨g2, i2⟩ := word_keep _ g1
 obtain ⟨g3, i3⟩ := t2_keep [105, 110] g2
 obtain ⟨g4, i4⟩ := num_keep _ g3
 obtain ⟨g5, i5⟩ := t2_keep [46, 46] g4
 obtain ⟨g6, i6⟩ := num_keep _ g5
 obtain ⟨g7, i7⟩ := optR_keep hk [119, 101, 105, 103, 104, 116] _ g6
 obtain ⟨g8, i8⟩ := seenR_keep _ g7
 obtain ⟨g9, i9⟩ := t2_keep [59] g8
 exact ⟨g9, by omega⟩
theorem turnR_keep {c : Cx} {d : Nat} {orP : Rd -> Ex × Rd} (hk : Kp c d orP) (x : StageP) : Kp c d (turnR c orP x) := by
 intro r h
 unfold turnR
 dsimp only
 obtain ⟨g1, i1⟩ := take_keep [116, 117, 114, 110] r h
 obtain ⟨g2, i2⟩ := hk _ g1
 obtain ⟨g3, i3⟩ := t2_keep [123] g2
 obtain ⟨g4, i4⟩ := actR_keep hk _ g3
 obtain ⟨g5, i5⟩ := actsL_keep hk c.ts.length [(actR c orP (t2 c [123] (orP (takeR c [116, 117, 114, 110] r).2).2)).1] _ g4
 obtain ⟨g6, i6⟩ := t2_keep [125] g5
 exact ⟨g6, by omega⟩
theorem labelR_keep {c : Cx} {d : Nat} : Kp c d (labelR c) := by
 intro r h
 unfold labelR
 split
 · obtain ⟨g1, i1⟩ := word_keep r h
   obtain ⟨g2, i2⟩ := t2_keep [58] g1
   exact ⟨g2, by simp only; omega⟩
 · exact ⟨h, Nat.le_refl _⟩
theorem stageR_keep {c : Cx} {d : Nat} {orP : Rd -> Ex × Rd} (hk : Kp c d orP) : Kp c d (stageR c orP) := by
 intro r h
 unfold stageR
 dsimp only
 obtain ⟨g1, i1⟩ := labelR_keep r h
 split
 · obtain ⟨g2, i2⟩ := dealR_keep hk _ _ g1
   exact ⟨g2, by omega⟩
 split
 · obtain ⟨g2, i2⟩ := turnR_keep hk _ _ g1
   exact ⟨g2, by omega⟩
 · obtain ⟨g2, i2⟩ := take_keep [101, 110, 100] _ g1
   obtain ⟨g3, i3⟩ := t2_keep [123] g2
   obtain ⟨g4, i4⟩ := t2_keep [112, 97, 121] g3
   obtain ⟨g5, i5⟩ := exprsR_keep hk _ g4
   obtain ⟨g6, i6⟩ := t2_keep [59] g5
   obtain ⟨g7, i7⟩ := t2_keep [125] g6
   exact ⟨g7, by simp only; omega⟩
theorem stageR_on {c : Cx} {d : Nat} {orP : Rd -> Ex × Rd} (hk : Kp c d orP) {r : Rd} (h : Gd c d r) (he : (stageR c orP r).2.e = 0) : r.a < (stageR c orP r).2.a := by
 unfold stageR at he ⊢
 dsimp only at he ⊢
 obtain ⟨g1, i1⟩ := labelR_keep r h
 split at he
 · rename_i hp
   rw [if_pos hp]
   unfold dealR at he ⊢
   dsimp only at he ⊢
   obtain ⟨g1, i1⟩ := take_keep [100, 101, 97, 108] _ g1
   obtain ⟨g2, i2⟩ := word_keep _ g1
   obtain ⟨g3, i3⟩ := t2_keep [105, 110] g2
   obtain ⟨g4, i4⟩ := num_keep _ g3
   obtain ⟨g5, i5⟩ := t2_keep [46, 46] g4
   obtain ⟨g6, i6⟩ := num_keep _ g5
   obtain ⟨g7, i7⟩ := optR_keep hk [119, 101, 105, 103, 104, 116] _ g6
   obtain ⟨g8, i8⟩ := seenR_keep _ g7
   have := (t2_strict he).2
   omega
 · rename_i hp
   rw [if_neg hp]
   split at he
   · rename_i hp
     rw [if_pos hp]
     unfold turnR at he ⊢
     dsimp only at he ⊢
     obtain ⟨g1, i1⟩ := take_keep [116, 117, 114, 110] _ g1
     obtain ⟨g2, i2⟩ := hk _ g1
     obtain ⟨g3, i3⟩ := t2_keep [123] g2
     obtain ⟨g4, i4⟩ := actR_keep hk _ g3
     obtain ⟨g5, i5⟩ := actsL_keep hk c.ts.length [(actR c orP (t2 c [123] (orP (takeR c [116, 117, 114, 110] (labelR c r).2).2).2)).1] _ g4
     have := (t2_strict he).2
     omega
   · rename_i hp
     rw [if_neg hp]
     dsimp only at he ⊢
     obtain ⟨g2, i2⟩ := take_keep [101, 110, 100] _ g1
     obtain ⟨g3, i3⟩ := t2_keep [123] g2
     obtain ⟨g4, i4⟩ := t2_keep [112, 97, 121] g3
     obtain ⟨g5, i5⟩ := exprsR_keep hk _ g4
     obtain ⟨g6, i6⟩ := t2_keep [59] g5
     have := (t2_strict he).2
     omega
theorem StageP.c_len (x : StageP) : x.c.length = 12 := rfl
theorem StageP.und (n : Nat) (x : StageP) : SV.underL n x.c = true := by
 simp [StageP.c, exS, SV.underL, SV.under, Ex.undL, rws_under (ActP.und n), ints_und]
@[simp] theorem StageP.fzm (n : Nat) (ks : List Nat) (L : List AO) (d : Nat) (x : StageP) : x.c.map (SV.fz n ks L (d + 1)) = x.c := map_fz_under _ _ _ _ (StageP.und _ x)
theorem StageP.ok (x : StageP) : cellsOk x.c := by
 intro s hs
 simp [StageP.c] at hs
 rcases hs with rfl | rfl | rfl | rfl | rfl | rfl | rfl | rfl | rfl | rfl | rfl | rfl <;> rfl
@[simp] theorem StageP.okT (x : StageP) : cellsOk x.c = True := eq_true x.ok
@[simp] theorem StageP.take12 (x : StageP) : List.take 12 x.c = x.c := rfl
@[simp] theorem StageP.len12 (x : StageP) : x.c.length = 12 := rfl
def lbO (lb : List UInt8) : AO := ⟨[i64 0, st (B lb), st (B []), i64 0, i64 0, nl, bl false, nl, nl, nl, nl, i64 0], 45, 0, true⟩
section
variable {H : List AO} {c : Cx} {r : Rd} {j : Nat} {G : List AO} {lb : List UInt8}
theorem stage_t3 (h20 : c.ts.length ≤ 20000) (hj : j < H.length) (hcl : closed (H.set j (rdO c r))) {d : Nat} {orP : Rd -> Ex × Rd} (h1 : RdC c 99 orP d) (hk : Kp c d orP) (hg : Gd c d r) {env : Env} {res : StageP × Rd}
 (hres : (if peekR c [100, 101, 97, 108] r = true then dealR c orP { zStage with lb := lb } r
 else if peekR c [116, 117, 114, 110] r = true then turnR c orP { zStage with lb := lb } r
 else ({ zStage with lb := lb, k := 3, p := (takeR c [101, 110, 100] r).1, pays := (exprsR c orP (t2 c [112, 97, 121] (t2 c [123] (takeR c [101, 110, 100] r).2))).1 }, t2 c [125] (t2 c [59] (exprsR c orP (t2 c [112, 97, 121] (t2 c [123] (takeR c [101, 110, 100] r).2))).2))) = res)
  (h0 : env.get 0 = rp j) (h2 : env.get 2 = .ptr (.own H.length 0 0 0 0) 0) (h3 : env.get 3 = .ptr (.own (H.length + 1) 0 0 0 0) 0) :
  X Tryz.prog Tryz.f70.ntmps drawB (IC.tl 3 i70) env (H.set j (rdO c r) ++ [zS, lbO lb])
   (Fin H.length r70 (.ret (stageV res.1)) (H.set j (rdO c res.2))) := by
 have hl : c.ts.length < 4611686018427387904 := by omega
 simp -implicitDefEqProofs [IC.tl, i70, r70, h0, h2, h3]
 refine call_go (ok65a hj r _ [100, 101, 97, 108]) ?_
 by_cases hp : peekR c [100, 101, 97, 108] r = true
 · rw [if_pos hp] at hres
   simp -implicitDefEqProofs [h0, h2, h3, hp, lbO]
   refine call_go (RdA.app (ok93 h20 h1 hk lb) hj hg _) ?_
   rw [hres]
   simp -implicitDefEqProofs [h0, h2, h3, stageV, zS]
   exact cv_fz 2 (closed_rd hcl) (by simp) (by simp)
 · rw [if_neg hp] at hres
   rw [Bool.not_eq_true] at hp
   simp -implicitDefEqProofs [h0, h2, h3, hp]
   refine call_go (ok65a hj r _ [116, 117, 114, 110]) ?_
   by_cases hp2 : peekR c [116, 117, 114, 110] r = true
   · rw [if_pos hp2] at hres
     simp -implicitDefEqProofs [h0, h2, h3, hp2, lbO]
     refine call_go (RdA.app (ok94 h20 h1 hk lb) hj hg _) ?_
     rw [hres]
     simp -implicitDefEqProofs [h0, h2, h3, stageV, zS]
     exact cv_fz 2 (closed_rd hcl) (by simp) (by simp)
   · rw [if_neg hp2] at hres
     rw [Bool.not_eq_true] at hp2
     simp -implicitDefEqProofs [h0, h2, h3, hp2, lbO]
     refine call_go (ok62a hl hj r _ [101, 110, 100]) ?_
     have g1 := (take_keep (c := c) (d := d) [101, 110, 100] r hg).1
     generalize takeR c [101, 110, 100] r = t at hres g1 ⊢
     simp -implicitDefEqProofs [h0, h2, h3]
     refine call_go (ok62a hl hj _ _ [123]) ?_
     have g2 := (t2_keep (c := c) (d := d) [123] g1).1
     rw [show (takeR c [123] t.2).2 = t2 c [123] t.2 from rfl]
     generalize t2 c [123] t.2 = r2 at hres g2 ⊢
     simp -implicitDefEqProofs [h0, h2, h3]
     refine call_go (ok62a hl hj _ _ [112, 97, 121]) ?_
     have g3 := (t2_keep (c := c) (d := d) [112, 97, 121] g2).1
     rw [show (takeR c [112, 97, 121] r2).2 = t2 c [112, 97, 121] r2 from rfl]
     generalize t2 c [112, 97, 121] r2 = r3 at hres g3 ⊢
     simp -implicitDefEqProofs [h0, h2, h3]
     refine call_go (RdA.app (ok95 h20 h1 hk) hj g3 _) ?_
     generalize exprsR c orP r3 = x at hres ⊢
     simp -implicitDefEqProofs [h0, h2, h3, exS]
     refine call_go (ok62a hl hj _ _ [59]) ?_
     rw [show (takeR c [59] x.2).2 = t2 c [59] x.2 from rfl]
     simp -implicitDefEqProofs [h0, h2, h3]
     refine call_go (ok62a hl hj _ _ [125]) ?_
     rw [show (takeR c [125] (t2 c [59] x.2)).2 = t2 c [125] (t2 c [59] x.2) from rfl]
     subst hres
     simp -implicitDefEqProofs [h0, h2, h3, zS]
     refine ⟨rfl, Cv.le (cv_fz (n0 := H.length) (r1 := .agg [i64 3, st (B lb), st (B []), i64 0, i64 0, nl, bl false, nl, nl, nl, .slc (Ex.cL x.1) x.1.length, i64 t.1]) (r := .agg [i64 3, st (B lb), st (B []), i64 0, i64 0, nl, bl false, nl, nl, nl, .slc (Ex.cL x.1) x.1.length, i64 t.1]) 3 (closed_rd hcl) (by simp) ?_) ?_⟩
     · simp [SV.under, Ex.undL]
     · exact le_agg (leL.cons (SV.le.refl _) (leL.cons (SV.le.refl _) (leL.cons (SV.le.refl _) (leL.cons (SV.le.refl _) (leL.cons (SV.le.refl _) (leL.cons le_nil (leL.cons (SV.le.refl _) (leL.cons le_nil (leL.cons le_nil (leL.cons le_nil (leL.cons (SV.le.refl _) (leL.cons (SV.le.refl _) leL.nil))))))))))))
theorem ok70 (h20 : c.ts.length ≤ 20000) {d : Nat} {orP : Rd -> Ex × Rd} (h1 : RdC c 99 orP d) (hk : Kp c d orP) : RdA c 70 [] (stageR c orP) stageV d := by
 intro H j r hj hg
 have hl : c.ts.length < 4611686018427387904 := by omega
 refine ok_fn hm Tryz.func70 c70 (by simp) fun hcl => ?_
 have tail : ∀ (lb : List UInt8) (r1 : Rd) (env : Env), labelR c r = (lb, r1) -> Gd c d r1 -> env.get 0 = rp j -> env.get 2 = .ptr (.own H.length 0 0 0 0) 0 -> env.get 3 = .ptr (.own (H.length + 1) 0 0 0 0) 0 →
  X Tryz.prog Tryz.f70.ntmps drawB (IC.tl 3 i70) env (H.set j (rdO c r1) ++ [zS, lbO lb]) (Fin H.length r70 (.ret (stageV (stageR c orP r).1)) (H.set j (rdO c (stageR c orP r).2))) :=
  fun lb r1 env hlb hg h0 h2 h3 => stage_t3 h20 hj (closed_rd hcl) h1 hk hg (by unfold stageR; rw [hlb]) h0 h2 h3
 rw [show i70 = .seq (IC.nth 0 i70) (.seq (IC.nth 1 i70) (.seq (IC.nth 2 i70) (IC.tl 3 i70))) from rfl]
 generalize IC.tl 3 i70 = t3 at tail ⊢
 simp -implicitDefEqProofs [IC.nth, i70]
 refine call_go (ok66a hj r _) ?_
 by_cases hf : freeR c r = true
 · have hlb : labelR c r = ((wordR c r).1, t2 c [58] (wordR c r).2) := by unfold labelR; rw [if_pos hf]
   have g1 := (word_keep (c := c) (d := d) r hg).1
   simp -implicitDefEqProofs [hf]
   refine call_go (ok63a hl hj r _) ?_
   simp -implicitDefEqProofs
   refine call_go (ok62a hl hj _ _ [58]) ?_
   simp -implicitDefEqProofs
   exact tail _ _ _ hlb (t2_keep _ g1).1 (by simp) (by simp) (by simp)
 · have hlb : labelR c r = ([], r) := by unfold labelR; rw [if_neg hf]
   rw [Bool.not_eq_true] at hf
   simp -implicitDefEqProofs [hf]
   exact tail _ _ _ hlb hg (by simp) (by simp) (by simp)
end
end Go.Proofs.YthmdmnfojbnobaaGreatDoor
namespace Go.Proofs.YthmdmnfojbnobaaGreatDoor
open Go.Ab
theorem RdA.mid {α : Type} {c : Cx} {k : FuncId} {args : List SV} {F : Rd -> α × Rd} {v : α -> SV} {d : Nat} (H A L : List AO) (h : RdA c k args F v d) {r : Rd} (hr : Gd c d r) :
 Ok Tryz.prog k (rp (H.length + A.length) :: args) (H ++ (A ++ rdO c r :: L)) (.ret (v (F r).1)) (H ++ (A ++ rdO c (F r).2 :: L)) := by
 have hg := get_mid H A L (rdO c r)
 have := h (H := H ++ (A ++ rdO c r :: L)) (getElem?_lt hg) hr
 rwa [set_same hg, set_mid] at this
theorem varR_keep {c : Cx} {d : Nat} (l : List VarP) : Kp c d (varR c l) := by
 intro r h
 unfold varR
 dsimp only
 obtain ⟨g0, i0⟩ := t2_keep [118, 97, 114] h
 obtain ⟨g1, i1, _⟩ := full_keep (P := l.length = 40 ∧ freeR c (t2 c [118, 97, 114] r) = true) g0
 generalize (if l.length = 40 ∧ freeR c (t2 c [118, 97, 114] r) = true then failR c 12 (t2 c [118, 97, 114] r) else t2 c [118, 97, 114] r) = r1 at *
 obtain ⟨g2, i2⟩ := word_keep _ g1
 obtain ⟨g3, i3⟩ := t2_keep [61] g2
 obtain ⟨g4, i4⟩ := flagR_keep [45] _ g3
 obtain ⟨g5, i5⟩ := num_keep _ g4
 obtain ⟨g6, i6⟩ := t2_keep [59] g5
 exact ⟨g6, by omega⟩
theorem varR_on {c : Cx} {d : Nat} (l : List VarP) {r : Rd} (h : Gd c d r) (he : (varR c l r).2.e = 0) : r.a < (varR c l r).2.a := by
 unfold varR at he ⊢
 dsimp only at he ⊢
 obtain ⟨g0, i0⟩ := t2_keep [118, 97, 114] h
 obtain ⟨g1, i1, _⟩ := full_keep (P := l.length = 40 ∧ freeR c (t2 c [118, 97, 114] r) = true) g0
 generalize (if l.length = 40 ∧ freeR c (t2 c [118, 97, 114] r) = true then failR c 12 (t2 c [118, 97, 114] r) else t2 c [118, 97, 114] r) = r1 at *
 obtain ⟨g2, i2⟩ := word_keep _ g1
 obtain ⟨g3, i3⟩ := t2_keep [61] g2
 obtain ⟨g4, i4⟩ := flagR_keep [45] _ g3
 obtain ⟨g5, i5⟩ := num_keep _ g4
 have := (t2_strict he).2
 omega
theorem varsL_keep {c : Cx} {d : Nat} : ∀ (n : Nat) (l : List VarP) (r : Rd), Gd c d r -> Gd c d (varsL c n l r).2 ∧ r.a ≤ (varsL c n l r).2.a
 | 0, l, r, h => ⟨h, Nat.le_refl _⟩
 | n + 1, l, r, h => by
  rw [varsL]
  split
  · obtain ⟨h6, h7⟩ := varR_keep l r h
    obtain ⟨h8, h9⟩ := varsL_keep n (l ++ [(varR c l r).1]) _ h6
    exact ⟨h8, by omega⟩
  · exact ⟨h, Nat.le_refl _⟩
theorem VarP.c_len (v : VarP) : v.c.length = 3 := rfl
theorem VarP.und (n : Nat) (v : VarP) : SV.underL n v.c = true := rfl
@[simp] theorem vars_fzm (n : Nat) (ks : List Nat) (L : List AO) (d : Nat) (l : List VarP) : (rws VarP.c l).map (SV.fz n ks L (d + 1)) = rws VarP.c l := map_fz_under _ _ _ _ (rws_under (VarP.und _) l)
@[simp] theorem stages_fzm (n : Nat) (ks : List Nat) (L : List AO) (d : Nat) (l : List StageP) : (rws StageP.c l).map (SV.fz n ks L (d + 1)) = rws StageP.c l := map_fz_under _ _ _ _ (rws_under (StageP.und _) l)
def zR : AO := ⟨[st (B []), i64 0, nl, nl], 25, 0, true⟩
def flO (e p : Int) : AO := ⟨[i64 e, i64 p], 32, 0, true⟩
def outO (n : Nat) (nm : List UInt8) (pl : Int) (v s : Nat) : AO := ⟨[st (B nm), i64 pl, .own (n + 5) 0 v 3 v, .own (n + 6) 0 s 12 s], 25, 0, true⟩
def varsO (l : List VarP) : AO := ⟨rws VarP.c l, 77, l.length, true⟩
def stgsO (l : List StageP) : AO := ⟨rws StageP.c l, 45, l.length, true⟩
abbrev paA : List AO := [zR, flO 0 0, flO 0 0]
abbrev paL (n : Nat) (nm : List UInt8) (pl : Int) (vs : List VarP) (ss : List StageP) (G : List AO) : List AO := outO n nm pl vs.length ss.length :: varsO vs :: stgsO ss :: G
section
variable {H : List AO} {c : Cx} {r : Rd} {nm : List UInt8} {pl : Int}
theorem loop36_0 (h20 : c.ts.length ≤ 20000) {d : Nat} {N : Nat} {K : XE -> Env -> List AO -> Prop} {res : List VarP × Rd}
 (hexit : ∀ env G, env.get 2 = .ptr (.own H.length 0 0 0 0) 0 -> env.get 3 = .ptr (.own (H.length + 1) 0 0 0 0) 0 -> env.get 6 = rp (H.length + 3) -> env.get 7 = .ptr (.own (H.length + 4) 0 0 0 0) 0 -> K (.exit 0) env (H ++ (paA ++ rdO c res.2 :: paL H.length nm pl res.1 [] G))) :
 ∀ (n : Nat) (l : List VarP) (r : Rd) (G : List AO) (env : Env), c.ts.length ≤ r.a + n -> l.length ≤ r.a -> varsL c n l r = res -> Gd c d r -> env.get 2 = .ptr (.own H.length 0 0 0 0) 0 -> env.get 3 = .ptr (.own (H.length + 1) 0 0 0 0) 0 -> env.get 6 = rp (H.length + 3) -> env.get 7 = .ptr (.own (H.length + 4) 0 0 0 0) 0 →
  LI Tryz.prog N drawB l36_0 env (H ++ (paA ++ rdO c r :: paL H.length nm pl l [] G)) K := by
 have hl : c.ts.length < 4611686018427387904 := by omega
 have out_ok : ∀ (l : List VarP) (r : Rd) (G : List AO) (env : Env), peekR c [118, 97, 114] r = false -> (l, r) = res -> env.get 2 = .ptr (.own H.length 0 0 0 0) 0 -> env.get 3 = .ptr (.own (H.length + 1) 0 0 0 0) 0 -> env.get 6 = rp (H.length + 3) -> env.get 7 = .ptr (.own (H.length + 4) 0 0 0 0) 0 →
  LI Tryz.prog N drawB l36_0 env (H ++ (paA ++ rdO c r :: paL H.length nm pl l [] G)) K := by
  intro l r G env hp hr h2 h3 h6 h7
  subst hr
  refine li_go hm l36_0.eq_1 ?_
  simp -implicitDefEqProofs [h2, h3, h6, h7]
  refine call_go (ok65m H paA (paL H.length nm pl l [] G) r [118, 97, 114]) ?_
  simp -implicitDefEqProofs [h2, h3, h6, h7, hp]
  exact hexit _ G (by simp [h2]) (by simp [h3]) (by simp [h6]) (by simp [h7])
 intro n
 induction n with
 | zero =>
  intro l r G env hn hla hr hg h2 h3 h6 h7
  exact out_ok l r G env (by rw [← Bool.not_eq_true]; intro h; have := peek_lt h; omega) hr h2 h3 h6 h7
 | succ n ih =>
  intro l r G env hn hla hr hg h2 h3 h6 h7
  rw [varsL] at hr
  by_cases hp : peekR c [118, 97, 114] r = true
  · rw [if_pos hp] at hr
    have hla2 := hg.a
    obtain ⟨k1, k2⟩ := varR_keep l r hg
    have fin : ∀ (env : Env) (G : List AO), env.get 2 = .ptr (.own H.length 0 0 0 0) 0 -> env.get 3 = .ptr (.own (H.length + 1) 0 0 0 0) 0 -> env.get 6 = rp (H.length + 3) -> env.get 7 = .ptr (.own (H.length + 4) 0 0 0 0) 0 →
     LI Tryz.prog N drawB l36_0 env (H ++ (paA ++ rdO c (varR c l r).2 :: paL H.length nm pl (l ++ [(varR c l r).1]) [] G)) K := by
     intro env G g2 g3 g6 g7
     by_cases he : (varR c l r).2.e = 0
     · have := varR_on l hg he
       exact ih _ _ G env (by omega) (by simp; omega) hr k1 g2 g3 g6 g7
     · refine out_ok _ _ G env (peek_bad he _) ?_ g2 g3 g6 g7
       rw [← hr]
       cases n with
       | zero => rfl
       | succ n => rw [varsL, if_neg (by rw [peek_bad he]; decide)]
    refine li_go hm l36_0.eq_1 ?_
    simp -implicitDefEqProofs [h2, h3, h6, h7]
    refine call_go (ok65m H paA (paL H.length nm pl l [] G) r [118, 97, 114]) ?_
    simp -implicitDefEqProofs [h2, h3, h6, h7, hp]
    refine call_go (ok62m H paA (paL H.length nm pl l [] G) r hl [118, 97, 114]) ?_
    simp -implicitDefEqProofs [h2, h3, h6, h7, outO]
    have hset : ∀ r1, (if l.length = 40 ∧ freeR c (t2 c [118, 97, 114] r) = true then failR c 12 (t2 c [118, 97, 114] r) else t2 c [118, 97, 114] r) = r1 -> varR c l r =
     (⟨(wordR c r1).1, IntKind.i64.wrap ((if (flagR c [45] (t2 c [61] (wordR c r1).2)).1 then -1 else 1) * (nmR c (flagR c [45] (t2 c [61] (wordR c r1).2)).2).1), hereR c r1⟩, t2 c [59] (nmR c (flagR c [45] (t2 c [61] (wordR c r1).2)).2).2) := fun r1 h => by subst h; rfl
    rw [show (takeR c [118, 97, 114] r).2 = t2 c [118, 97, 114] r from rfl]
    generalize t2 c [118, 97, 114] r = r0 at hset ⊢
    by_cases h40 : l.length = 40
    · have hd : decide ((l.length : Int) = 40) = true := decide_eq_true (by omega)
      by_cases hf : freeR c r0 = true
      · refine callq_st (r := bl (freeR c r0)) (fun _ => by rw [hd]; exact ok66m H paA _ r0) ?_
        simp -implicitDefEqProofs [h2, h3, h6, h7, hd, hf]
        refine call_go (ok67m H paA _ r0 12) ?_
        simp -implicitDefEqProofs [h2, h3, h6, h7]
        have hset := hset _ (if_pos ⟨h40, hf⟩)
        refine call_go (ok68m H paA _ (failR c 12 r0)) ?_
        simp -implicitDefEqProofs [h2, h3, h6, h7]
        refine call_go (ok63m H paA _ (failR c 12 r0) hl) ?_
        simp -implicitDefEqProofs [h2, h3, h6, h7]
        refine call_go (ok62m H paA _ (wordR c (failR c 12 r0)).2 hl [61]) ?_
        rw [show (takeR c [61] (wordR c (failR c 12 r0)).2).2 = t2 c [61] (wordR c (failR c 12 r0)).2 from rfl]
        simp -implicitDefEqProofs [h2, h3, h6, h7]
        refine call_go (ok65m H paA _ (t2 c [61] (wordR c (failR c 12 r0)).2) [45]) ?_
        by_cases hq : peekR c [45] (t2 c [61] (wordR c (failR c 12 r0)).2) = true
        · have hf : flagR c [45] (t2 c [61] (wordR c (failR c 12 r0)).2) = (true, t2 c [45] (t2 c [61] (wordR c (failR c 12 r0)).2)) := by unfold flagR; rw [if_pos hq]
          rw [hf] at hset
          dsimp only at hset
          simp -implicitDefEqProofs [h2, h3, h6, h7, hq]
          refine call_go (ok62m H paA _ (t2 c [61] (wordR c (failR c 12 r0)).2) hl [45]) ?_
          rw [show (takeR c [45] (t2 c [61] (wordR c (failR c 12 r0)).2)).2 = t2 c [45] (t2 c [61] (wordR c (failR c 12 r0)).2) from rfl]
          simp -implicitDefEqProofs [h2, h3, h6, h7]
          refine call_go (ok64m H paA _ (t2 c [45] (t2 c [61] (wordR c (failR c 12 r0)).2)) hl) ?_
          simp -implicitDefEqProofs [h2, h3, h6, h7]
          refine call_go (ok62m H paA _ (nmR c (t2 c [45] (t2 c [61] (wordR c (failR c 12 r0)).2))).2 hl [59]) ?_
          simp -implicitDefEqProofs [h2, h3, h6, h7, varsO, outO, rws_len VarP.c_len]
          refine ⟨by omega, by omega, ?_⟩
          refine LI.cong ?_ (fin _ (G ++ [⟨(varR c l r).1.c, 77, 0, true⟩, ⟨(varR c l r).1.c, 77, 0, true⟩]) ?_ ?_ ?_ ?_)
          · rw [hset]; simp [outO, varsO, stgsO, rws_app, rws, VarP.c, t2]
          all_goals simp [h2, h3, h6, h7]
        · have hf : flagR c [45] (t2 c [61] (wordR c (failR c 12 r0)).2) = (false, t2 c [61] (wordR c (failR c 12 r0)).2) := by unfold flagR; rw [if_neg hq]
          rw [hf] at hset
          dsimp only at hset
          rw [Bool.not_eq_true] at hq
          simp -implicitDefEqProofs [h2, h3, h6, h7, hq]
          refine call_go (ok64m H paA _ (t2 c [61] (wordR c (failR c 12 r0)).2) hl) ?_
          simp -implicitDefEqProofs [h2, h3, h6, h7]
          refine call_go (ok62m H paA _ (nmR c (t2 c [61] (wordR c (failR c 12 r0)).2)).2 hl [59]) ?_
          simp -implicitDefEqProofs [h2, h3, h6, h7, varsO, outO, rws_len VarP.c_len]
          refine ⟨by omega, by omega, ?_⟩
          refine LI.cong ?_ (fin _ (G ++ [⟨(varR c l r).1.c, 77, 0, true⟩, ⟨(varR c l r).1.c, 77, 0, true⟩]) ?_ ?_ ?_ ?_)
          · rw [hset]; simp [outO, varsO, stgsO, rws_app, rws, VarP.c, t2]
          all_goals simp [h2, h3, h6, h7]
      · have hnf := hf
        rw [Bool.not_eq_true] at hf
        refine callq_st (r := bl (freeR c r0)) (fun _ => by rw [hd]; exact ok66m H paA _ r0) ?_
        simp -implicitDefEqProofs [h2, h3, h6, h7, hd, hf]
        have hset := hset _ (if_neg (fun h => hnf h.2))
        refine call_go (ok68m H paA _ (r0)) ?_
        simp -implicitDefEqProofs [h2, h3, h6, h7]
        refine call_go (ok63m H paA _ (r0) hl) ?_
        simp -implicitDefEqProofs [h2, h3, h6, h7]
        refine call_go (ok62m H paA _ (wordR c (r0)).2 hl [61]) ?_
        rw [show (takeR c [61] (wordR c (r0)).2).2 = t2 c [61] (wordR c (r0)).2 from rfl]
        simp -implicitDefEqProofs [h2, h3, h6, h7]
        refine call_go (ok65m H paA _ (t2 c [61] (wordR c (r0)).2) [45]) ?_
        by_cases hq : peekR c [45] (t2 c [61] (wordR c (r0)).2) = true
        · have hf : flagR c [45] (t2 c [61] (wordR c (r0)).2) = (true, t2 c [45] (t2 c [61] (wordR c (r0)).2)) := by unfold flagR; rw [if_pos hq]
          rw [hf] at hset
          dsimp only at hset
          simp -implicitDefEqProofs [h2, h3, h6, h7, hq]
          refine call_go (ok62m H paA _ (t2 c [61] (wordR c (r0)).2) hl [45]) ?_
          rw [show (takeR c [45] (t2 c [61] (wordR c (r0)).2)).2 = t2 c [45] (t2 c [61] (wordR c (r0)).2) from rfl]
          simp -implicitDefEqProofs [h2, h3, h6, h7]
          refine call_go (ok64m H paA _ (t2 c [45] (t2 c [61] (wordR c (r0)).2)) hl) ?_
          simp -implicitDefEqProofs [h2, h3, h6, h7]
          refine call_go (ok62m H paA _ (nmR c (t2 c [45] (t2 c [61] (wordR c (r0)).2))).2 hl [59]) ?_
          simp -implicitDefEqProofs [h2, h3, h6, h7, varsO, outO, rws_len VarP.c_len]
          refine ⟨by omega, by omega, ?_⟩
          refine LI.cong ?_ (fin _ (G ++ [⟨(varR c l r).1.c, 77, 0, true⟩, ⟨(varR c l r).1.c, 77, 0, true⟩]) ?_ ?_ ?_ ?_)
          · rw [hset]; simp [outO, varsO, stgsO, rws_app, rws, VarP.c, t2]
          all_goals simp [h2, h3, h6, h7]
        · have hf : flagR c [45] (t2 c [61] (wordR c (r0)).2) = (false, t2 c [61] (wordR c (r0)).2) := by unfold flagR; rw [if_neg hq]
          rw [hf] at hset
          dsimp only at hset
          rw [Bool.not_eq_true] at hq
          simp -implicitDefEqProofs [h2, h3, h6, h7, hq]
          refine call_go (ok64m H paA _ (t2 c [61] (wordR c (r0)).2) hl) ?_
          simp -implicitDefEqProofs [h2, h3, h6, h7]
          refine call_go (ok62m H paA _ (nmR c (t2 c [61] (wordR c (r0)).2)).2 hl [59]) ?_
          simp -implicitDefEqProofs [h2, h3, h6, h7, varsO, outO, rws_len VarP.c_len]
          refine ⟨by omega, by omega, ?_⟩
          refine LI.cong ?_ (fin _ (G ++ [⟨(varR c l r).1.c, 77, 0, true⟩, ⟨(varR c l r).1.c, 77, 0, true⟩]) ?_ ?_ ?_ ?_)
          · rw [hset]; simp [outO, varsO, stgsO, rws_app, rws, VarP.c, t2]
          all_goals simp [h2, h3, h6, h7]
    · have hd : decide ((l.length : Int) = 40) = false := decide_eq_false (by omega)
      refine callq_go (r := bl false) (fun h => by rw [hd] at h; cases h) ?_
      simp -implicitDefEqProofs [h2, h3, h6, h7, hd]
      have hset := hset _ (if_neg (fun h => h40 h.1))
      refine call_go (ok68m H paA _ (r0)) ?_
      simp -implicitDefEqProofs [h2, h3, h6, h7]
      refine call_go (ok63m H paA _ (r0) hl) ?_
      simp -implicitDefEqProofs [h2, h3, h6, h7]
      refine call_go (ok62m H paA _ (wordR c (r0)).2 hl [61]) ?_
      rw [show (takeR c [61] (wordR c (r0)).2).2 = t2 c [61] (wordR c (r0)).2 from rfl]
      simp -implicitDefEqProofs [h2, h3, h6, h7]
      refine call_go (ok65m H paA _ (t2 c [61] (wordR c (r0)).2) [45]) ?_
      by_cases hq : peekR c [45] (t2 c [61] (wordR c (r0)).2) = true
      · have hf : flagR c [45] (t2 c [61] (wordR c (r0)).2) = (true, t2 c [45] (t2 c [61] (wordR c (r0)).2)) := by unfold flagR; rw [if_pos hq]
        rw [hf] at hset
        dsimp only at hset
        simp -implicitDefEqProofs [h2, h3, h6, h7, hq]
        refine call_go (ok62m H paA _ (t2 c [61] (wordR c (r0)).2) hl [45]) ?_
        rw [show (takeR c [45] (t2 c [61] (wordR c (r0)).2)).2 = t2 c [45] (t2 c [61] (wordR c (r0)).2) from rfl]
        simp -implicitDefEqProofs [h2, h3, h6, h7]
        refine call_go (ok64m H paA _ (t2 c [45] (t2 c [61] (wordR c (r0)).2)) hl) ?_
        simp -implicitDefEqProofs [h2, h3, h6, h7]
        refine call_go (ok62m H paA _ (nmR c (t2 c [45] (t2 c [61] (wordR c (r0)).2))).2 hl [59]) ?_
        simp -implicitDefEqProofs [h2, h3, h6, h7, varsO, outO, rws_len VarP.c_len]
        refine ⟨by omega, by omega, ?_⟩
        refine LI.cong ?_ (fin _ (G ++ [⟨(varR c l r).1.c, 77, 0, true⟩, ⟨(varR c l r).1.c, 77, 0, true⟩]) ?_ ?_ ?_ ?_)
        · rw [hset]; simp [outO, varsO, stgsO, rws_app, rws, VarP.c, t2]
        all_goals simp [h2, h3, h6, h7]
      · have hf : flagR c [45] (t2 c [61] (wordR c (r0)).2) = (false, t2 c [61] (wordR c (r0)).2) := by unfold flagR; rw [if_neg hq]
        rw [hf] at hset
        dsimp only at hset
        rw [Bool.not_eq_true] at hq
        simp -implicitDefEqProofs [h2, h3, h6, h7, hq]
        refine call_go (ok64m H paA _ (t2 c [61] (wordR c (r0)).2) hl) ?_
        simp -implicitDefEqProofs [h2, h3, h6, h7]
        refine call_go (ok62m H paA _ (nmR c (t2 c [61] (wordR c (r0)).2)).2 hl [59]) ?_
        simp -implicitDefEqProofs [h2, h3, h6, h7, varsO, outO, rws_len VarP.c_len]
        refine ⟨by omega, by omega, ?_⟩
        refine LI.cong ?_ (fin _ (G ++ [⟨(varR c l r).1.c, 77, 0, true⟩, ⟨(varR c l r).1.c, 77, 0, true⟩]) ?_ ?_ ?_ ?_)
        · rw [hset]; simp [outO, varsO, stgsO, rws_app, rws, VarP.c, t2]
        all_goals simp [h2, h3, h6, h7]
  · rw [if_neg hp] at hr
    rw [Bool.not_eq_true] at hp
    exact out_ok l r G env hp hr h2 h3 h6 h7
end
end Go.Proofs.YthmdmnfojbnobaaGreatDoor
namespace Go.Proofs.YthmdmnfojbnobaaGreatDoor
open Go.Ab
section
variable {H : List AO} {c : Cx} {r : Rd} {nm : List UInt8} {pl : Int} {vs : List VarP}
theorem loop36_1 (h20 : c.ts.length ≤ 20000) {d : Nat} {orP : Rd -> Ex × Rd} (h1 : RdC c 99 orP d) (hk : Kp c d orP) (hst : Still orP) {N : Nat} {K : XE -> Env -> List AO -> Prop} {res : List StageP × Rd}
 (hexit : ∀ env G, env.get 2 = .ptr (.own H.length 0 0 0 0) 0 -> env.get 3 = .ptr (.own (H.length + 1) 0 0 0 0) 0 -> env.get 6 = rp (H.length + 3) -> env.get 7 = .ptr (.own (H.length + 4) 0 0 0 0) 0 -> K (.exit 2) env (H ++ (paA ++ rdO c res.2 :: paL H.length nm pl vs res.1 G))) :
 ∀ (n : Nat) (l : List StageP) (r : Rd) (G : List AO) (env : Env), (r.e = 0 -> c.ts.length < r.a + n) -> l.length ≤ r.a -> stagesL c orP n l r = res -> Gd c d r -> env.get 2 = .ptr (.own H.length 0 0 0 0) 0 -> env.get 3 = .ptr (.own (H.length + 1) 0 0 0 0) 0 -> env.get 6 = rp (H.length + 3) -> env.get 7 = .ptr (.own (H.length + 4) 0 0 0 0) 0 →
  LI Tryz.prog N drawB l36_1 env (H ++ (paA ++ rdO c r :: paL H.length nm pl vs l G)) K := by
 have hl : c.ts.length < 4611686018427387904 := by omega
 have out_ok : ∀ (l : List StageP) (r : Rd) (G : List AO) (env : Env), ¬ (r.e = 0 ∧ (l = [] ∨ r.a < c.ts.length)) -> (l, r) = res -> env.get 2 = .ptr (.own H.length 0 0 0 0) 0 -> env.get 3 = .ptr (.own (H.length + 1) 0 0 0 0) 0 -> env.get 6 = rp (H.length + 3) -> env.get 7 = .ptr (.own (H.length + 4) 0 0 0 0) 0 →
  LI Tryz.prog N drawB l36_1 env (H ++ (paA ++ rdO c r :: paL H.length nm pl vs l G)) K := by
  intro l r G env hp hr h2 h3 h6 h7
  subst hr
  refine li_go hm l36_1.eq_1 ?_
  simp -implicitDefEqProofs [h2, h3, h6, h7]
  refine callq_go (fun _ => ok69m H paA (paL H.length nm pl vs l G) r) ?_
  by_cases he : r.e = 0
  · have hne : ¬ l = [] := fun h => hp ⟨he, .inl h⟩
    have hlt : ¬ r.a < c.ts.length := fun h => hp ⟨he, .inr h⟩
    have hne' : ¬ l.length = 0 := by cases l with | nil => exact absurd rfl hne | cons x y => simp
    have hne2 : ¬ (l.length : Int) = 0 := by omega
    have hlt' : ¬ (r.a : Int) < c.ts.length := by omega
    have he0 : decide (r.e = 0) = true := decide_eq_true he
    simp -implicitDefEqProofs [h2, h3, h6, h7, he0, rp, outO, rdO, tksV, hne, hne', hne2, hlt, hlt']
    refine hexit _ G ?_ ?_ ?_ ?_ <;> simp [h2, h3, h6, h7, rp]
  · simp -implicitDefEqProofs [h2, h3, h6, h7, he, rp]
    refine hexit _ G ?_ ?_ ?_ ?_ <;> simp [h2, h3, h6, h7, rp]
 intro n
 induction n with
 | zero =>
  intro l r G env hn hla hr hg h2 h3 h6 h7
  have := hg.a
  exact out_ok l r G env (fun h => by have := hn h.1; omega) hr h2 h3 h6 h7
 | succ n ih =>
  intro l r G env hn hla hr hg h2 h3 h6 h7
  rw [stagesL] at hr
  by_cases hp : r.e = 0 ∧ (l = [] ∨ r.a < c.ts.length)
  · rw [if_pos hp] at hr
    have hla2 := hg.a
    have hfk := full_keep (P := l.length = 100 ∧ (freeR c r || peekR c [100, 101, 97, 108] r || peekR c [116, 117, 114, 110] r || peekR c [101, 110, 100] r) = true) hg
    have fin : ∀ (env : Env) (r2 : Rd), fullR c l r = r2 -> ∀ G, env.get 2 = .ptr (.own H.length 0 0 0 0) 0 -> env.get 3 = .ptr (.own (H.length + 1) 0 0 0 0) 0 -> env.get 6 = rp (H.length + 3) -> env.get 7 = .ptr (.own (H.length + 4) 0 0 0 0) 0 →
     LI Tryz.prog N drawB l36_1 env (H ++ (paA ++ rdO c (stageR c orP r2).2 :: paL H.length nm pl vs (l ++ [(stageR c orP r2).1]) G)) K := by
     intro env r2 hf G g2 g3 g6 g7
     have hfk' : Gd c d r2 ∧ r2.a = r.a ∧ (r2.e = 0 -> r.e = 0) := by rw [← hf]; exact hfk
     rw [hf] at hr
     obtain ⟨k1, k2⟩ := stageR_keep hk r2 hfk'.1
     by_cases he : (stageR c orP r2).2.e = 0
     · have := stageR_on hk hfk'.1 he
       exact ih _ _ G env (fun _ => by have := hn hp.1; omega) (by simp; omega) hr k1 g2 g3 g6 g7
     · refine out_ok _ _ G env (fun h => he h.1) ?_ g2 g3 g6 g7
       rw [← hr]
       cases n with
       | zero => rfl
       | succ n => rw [stagesL, if_neg (fun h => he h.1)]
    refine li_go hm l36_1.eq_1 ?_
    simp -implicitDefEqProofs [h2, h3, h6, h7]
    refine callq_go (fun _ => ok69m H paA (paL H.length nm pl vs l G) r) ?_
    have hl0 : ((l.length : Int) = 0) ↔ l = [] := by cases l with | nil => simp | cons x y => simp; omega
    by_cases hnil : l = []
    · have hz : l.length = 0 := by simp [hnil]
      have hz' : (l.length : Int) = 0 := by omega
      have he0 : decide (r.e = 0) = true := decide_eq_true hp.1
      have hdz : decide ((l.length : Int) = 0) = true := decide_eq_true hz'
      simp -implicitDefEqProofs [h2, h3, h6, h7, he0, rp, outO, rdO, tksV, hdz]
      rw [if_pos (.inl hnil)]
      have hd : decide ((l.length : Int) = 100) = false := decide_eq_false (by omega)
      have h100 : ¬ l.length = 100 := by omega
      refine callq_go (r := bl false) (fun h => by first | (rw [hd] at h; cases h) | cases h) ?_
      simp -implicitDefEqProofs [h2, h3, h6, h7, outO, hd]
      refine callq_go (r := bl false) (fun h => by first | (rw [hd] at h; cases h) | cases h) ?_
      simp -implicitDefEqProofs [h2, h3, h6, h7, outO, hd]
      refine callq_go (r := bl false) (fun h => by first | (rw [hd] at h; cases h) | cases h) ?_
      simp -implicitDefEqProofs [h2, h3, h6, h7, outO, hd]
      refine callq_go (r := bl false) (fun h => by first | (rw [hd] at h; cases h) | cases h) ?_
      simp -implicitDefEqProofs [h2, h3, h6, h7, outO, hd]
      refine call_go (RdA.mid H paA _ (ok70 h20 h1 hk) (r := r) hg) ?_
      simp -implicitDefEqProofs [h2, h3, h6, h7, stageV, outO, stgsO, rws_len StageP.c_len]
      refine ⟨by omega, by omega, ?_⟩
      refine LI.cong ?_ (fin _ (r) (if_neg (fun h => h100 h.1)) (G ++ [⟨(stageR c orP (r)).1.c, 45, 0, true⟩]) ?_ ?_ ?_ ?_)
      · simp [outO, stgsO, rws_app, rws]
      all_goals simp [h2, h3, h6, h7]
    have hlt : r.a < c.ts.length := hp.2.resolve_left hnil
    have hlt' : (r.a : Int) < c.ts.length := by omega
    have hz : ¬ l.length = 0 := by cases l with | nil => exact absurd rfl hnil | cons x y => simp
    have hz' : ¬ (l.length : Int) = 0 := by omega
    have he0 : decide (r.e = 0) = true := decide_eq_true hp.1
    simp -implicitDefEqProofs [h2, h3, h6, h7, he0, rp, outO, rdO, tksV, hz, hz', hnil, hlt, hlt']
    by_cases h100 : l.length = 100
    · have hd : decide ((l.length : Int) = 100) = true := decide_eq_true (by omega)
      by_cases q0 : freeR c r = true
      · skip
        refine callq_st (r := bl (freeR c r)) (fun _ => by first | (rw [hd]; exact ok66m H paA _ r) | exact ok66m H paA _ r) ?_
        simp -implicitDefEqProofs [h2, h3, h6, h7, outO, hd, q0]
        refine callq_go (r := bl true) (fun h => by cases h) ?_
        simp -implicitDefEqProofs [h2, h3, h6, h7, outO, hd, q0]
        refine callq_go (r := bl true) (fun h => by cases h) ?_
        simp -implicitDefEqProofs [h2, h3, h6, h7, outO, hd, q0]
        refine callq_go (r := bl true) (fun h => by cases h) ?_
        simp -implicitDefEqProofs [h2, h3, h6, h7, outO, hd, q0]
        refine call_go (ok67m H paA _ r 12) ?_
        simp -implicitDefEqProofs [h2, h3, h6, h7, outO]
        refine call_go (RdA.mid H paA _ (ok70 h20 h1 hk) (r := failR c 12 r) (fail_keep (e := 12) (by decide) hg).1) ?_
        simp -implicitDefEqProofs [h2, h3, h6, h7, stageV, outO, stgsO, rws_len StageP.c_len]
        refine ⟨by omega, by omega, ?_⟩
        refine LI.cong ?_ (fin _ (failR c 12 r) (if_pos ⟨h100, by simp [q0]⟩) (G ++ [⟨(stageR c orP (failR c 12 r)).1.c, 45, 0, true⟩]) ?_ ?_ ?_ ?_)
        · simp [outO, stgsO, rws_app, rws]
        all_goals simp [h2, h3, h6, h7]
      rw [Bool.not_eq_true] at q0
      by_cases q1 : peekR c [100, 101, 97, 108] r = true
      · skip
        refine callq_st (r := bl (freeR c r)) (fun _ => by first | (rw [hd]; exact ok66m H paA _ r) | exact ok66m H paA _ r) ?_
        simp -implicitDefEqProofs [h2, h3, h6, h7, outO, hd, q0, q1]
        refine callq_st (r := bl (peekR c [100, 101, 97, 108] r)) (fun _ => by first | (rw [hd]; exact ok65m H paA _ r [100, 101, 97, 108]) | exact ok65m H paA _ r [100, 101, 97, 108]) ?_
        simp -implicitDefEqProofs [h2, h3, h6, h7, outO, hd, q0, q1]
        refine callq_go (r := bl true) (fun h => by cases h) ?_
        simp -implicitDefEqProofs [h2, h3, h6, h7, outO, hd, q0, q1]
        refine callq_go (r := bl true) (fun h => by cases h) ?_
        simp -implicitDefEqProofs [h2, h3, h6, h7, outO, hd, q0, q1]
        refine call_go (ok67m H paA _ r 12) ?_
        simp -implicitDefEqProofs [h2, h3, h6, h7, outO]
        refine call_go (RdA.mid H paA _ (ok70 h20 h1 hk) (r := failR c 12 r) (fail_keep (e := 12) (by decide) hg).1) ?_
        simp -implicitDefEqProofs [h2, h3, h6, h7, stageV, outO, stgsO, rws_len StageP.c_len]
        refine ⟨by omega, by omega, ?_⟩
        refine LI.cong ?_ (fin _ (failR c 12 r) (if_pos ⟨h100, by simp [q0, q1]⟩) (G ++ [⟨(stageR c orP (failR c 12 r)).1.c, 45, 0, true⟩]) ?_ ?_ ?_ ?_)
        · simp [outO, stgsO, rws_app, rws]
        all_goals simp [h2, h3, h6, h7]
      rw [Bool.not_eq_true] at q1
      by_cases q2 : peekR c [116, 117, 114, 110] r = true
      · skip
        refine callq_st (r := bl (freeR c r)) (fun _ => by first | (rw [hd]; exact ok66m H paA _ r) | exact ok66m H paA _ r) ?_
        simp -implicitDefEqProofs [h2, h3, h6, h7, outO, hd, q0, q1, q2]
        refine callq_st (r := bl (peekR c [100, 101, 97, 108] r)) (fun _ => by first | (rw [hd]; exact ok65m H paA _ r [100, 101, 97, 108]) | exact ok65m H paA _ r [100, 101, 97, 108]) ?_
        simp -implicitDefEqProofs [h2, h3, h6, h7, outO, hd, q0, q1, q2]
        refine callq_st (r := bl (peekR c [116, 117, 114, 110] r)) (fun _ => by first | (rw [hd]; exact ok65m H paA _ r [116, 117, 114, 110]) | exact ok65m H paA _ r [116, 117, 114, 110]) ?_
        simp -implicitDefEqProofs [h2, h3, h6, h7, outO, hd, q0, q1, q2]
        refine callq_go (r := bl true) (fun h => by cases h) ?_
        simp -implicitDefEqProofs [h2, h3, h6, h7, outO, hd, q0, q1, q2]
        refine call_go (ok67m H paA _ r 12) ?_
        simp -implicitDefEqProofs [h2, h3, h6, h7, outO]
        refine call_go (RdA.mid H paA _ (ok70 h20 h1 hk) (r := failR c 12 r) (fail_keep (e := 12) (by decide) hg).1) ?_
        simp -implicitDefEqProofs [h2, h3, h6, h7, stageV, outO, stgsO, rws_len StageP.c_len]
        refine ⟨by omega, by omega, ?_⟩
        refine LI.cong ?_ (fin _ (failR c 12 r) (if_pos ⟨h100, by simp [q0, q1, q2]⟩) (G ++ [⟨(stageR c orP (failR c 12 r)).1.c, 45, 0, true⟩]) ?_ ?_ ?_ ?_)
        · simp [outO, stgsO, rws_app, rws]
        all_goals simp [h2, h3, h6, h7]
      rw [Bool.not_eq_true] at q2
      by_cases q3 : peekR c [101, 110, 100] r = true
      · skip
        refine callq_st (r := bl (freeR c r)) (fun _ => by first | (rw [hd]; exact ok66m H paA _ r) | exact ok66m H paA _ r) ?_
        simp -implicitDefEqProofs [h2, h3, h6, h7, outO, hd, q0, q1, q2, q3]
        refine callq_st (r := bl (peekR c [100, 101, 97, 108] r)) (fun _ => by first | (rw [hd]; exact ok65m H paA _ r [100, 101, 97, 108]) | exact ok65m H paA _ r [100, 101, 97, 108]) ?_
        simp -implicitDefEqProofs [h2, h3, h6, h7, outO, hd, q0, q1, q2, q3]
        refine callq_st (r := bl (peekR c [116, 117, 114, 110] r)) (fun _ => by first | (rw [hd]; exact ok65m H paA _ r [116, 117, 114, 110]) | exact ok65m H paA _ r [116, 117, 114, 110]) ?_
        simp -implicitDefEqProofs [h2, h3, h6, h7, outO, hd, q0, q1, q2, q3]
        refine callq_st (r := bl (peekR c [101, 110, 100] r)) (fun _ => by first | (rw [hd]; exact ok65m H paA _ r [101, 110, 100]) | exact ok65m H paA _ r [101, 110, 100]) ?_
        simp -implicitDefEqProofs [h2, h3, h6, h7, outO, hd, q0, q1, q2, q3]
        refine call_go (ok67m H paA _ r 12) ?_
        simp -implicitDefEqProofs [h2, h3, h6, h7, outO]
        refine call_go (RdA.mid H paA _ (ok70 h20 h1 hk) (r := failR c 12 r) (fail_keep (e := 12) (by decide) hg).1) ?_
        simp -implicitDefEqProofs [h2, h3, h6, h7, stageV, outO, stgsO, rws_len StageP.c_len]
        refine ⟨by omega, by omega, ?_⟩
        refine LI.cong ?_ (fin _ (failR c 12 r) (if_pos ⟨h100, by simp [q0, q1, q2, q3]⟩) (G ++ [⟨(stageR c orP (failR c 12 r)).1.c, 45, 0, true⟩]) ?_ ?_ ?_ ?_)
        · simp [outO, stgsO, rws_app, rws]
        all_goals simp [h2, h3, h6, h7]
      rw [Bool.not_eq_true] at q3
      refine callq_st (r := bl (freeR c r)) (fun _ => by first | (rw [hd]; exact ok66m H paA _ r) | exact ok66m H paA _ r) ?_
      simp -implicitDefEqProofs [h2, h3, h6, h7, outO, hd, q0, q1, q2, q3]
      refine callq_st (r := bl (peekR c [100, 101, 97, 108] r)) (fun _ => by first | (rw [hd]; exact ok65m H paA _ r [100, 101, 97, 108]) | exact ok65m H paA _ r [100, 101, 97, 108]) ?_
      simp -implicitDefEqProofs [h2, h3, h6, h7, outO, hd, q0, q1, q2, q3]
      refine callq_st (r := bl (peekR c [116, 117, 114, 110] r)) (fun _ => by first | (rw [hd]; exact ok65m H paA _ r [116, 117, 114, 110]) | exact ok65m H paA _ r [116, 117, 114, 110]) ?_
      simp -implicitDefEqProofs [h2, h3, h6, h7, outO, hd, q0, q1, q2, q3]
      refine callq_st (r := bl (peekR c [101, 110, 100] r)) (fun _ => by first | (rw [hd]; exact ok65m H paA _ r [101, 110, 100]) | exact ok65m H paA _ r [101, 110, 100]) ?_
      simp -implicitDefEqProofs [h2, h3, h6, h7, outO, hd, q0, q1, q2, q3]
      refine call_go (RdA.mid H paA _ (ok70 h20 h1 hk) (r := r) hg) ?_
      simp -implicitDefEqProofs [h2, h3, h6, h7, stageV, outO, stgsO, rws_len StageP.c_len]
      refine ⟨by omega, by omega, ?_⟩
      refine LI.cong ?_ (fin _ (r) (if_neg (fun h => by have := h.2; simp [q0, q1, q2, q3] at this)) (G ++ [⟨(stageR c orP (r)).1.c, 45, 0, true⟩]) ?_ ?_ ?_ ?_)
      · simp [outO, stgsO, rws_app, rws]
      all_goals simp [h2, h3, h6, h7]
    · have hd : decide ((l.length : Int) = 100) = false := decide_eq_false (by omega)
      refine callq_go (r := bl false) (fun h => by first | (rw [hd] at h; cases h) | cases h) ?_
      simp -implicitDefEqProofs [h2, h3, h6, h7, outO, hd]
      refine callq_go (r := bl false) (fun h => by first | (rw [hd] at h; cases h) | cases h) ?_
      simp -implicitDefEqProofs [h2, h3, h6, h7, outO, hd]
      refine callq_go (r := bl false) (fun h => by first | (rw [hd] at h; cases h) | cases h) ?_
      simp -implicitDefEqProofs [h2, h3, h6, h7, outO, hd]
      refine callq_go (r := bl false) (fun h => by first | (rw [hd] at h; cases h) | cases h) ?_
      simp -implicitDefEqProofs [h2, h3, h6, h7, outO, hd]
      refine call_go (RdA.mid H paA _ (ok70 h20 h1 hk) (r := r) hg) ?_
      simp -implicitDefEqProofs [h2, h3, h6, h7, stageV, outO, stgsO, rws_len StageP.c_len]
      refine ⟨by omega, by omega, ?_⟩
      refine LI.cong ?_ (fin _ (r) (if_neg (fun h => h100 h.1)) (G ++ [⟨(stageR c orP (r)).1.c, 45, 0, true⟩]) ?_ ?_ ?_ ?_)
      · simp [outO, stgsO, rws_app, rws]
      all_goals simp [h2, h3, h6, h7]
  · rw [if_neg hp] at hr
    exact out_ok l r G env hp hr h2 h3 h6 h7
end
end Go.Proofs.YthmdmnfojbnobaaGreatDoor
namespace Go.Proofs.YthmdmnfojbnobaaGreatDoor
open Go.Ab
def rulesV (r : RulesP) : SV := .agg r.c
theorem zR_le (e p : Int) : SV.le (.tup [.agg [st (B []), i64 0, nl, nl], .agg [i64 e, i64 p]]) (.tup [rulesV zRules, fltV e p]) :=
 le_tup (leL.cons (le_agg (leL.cons (SV.le.refl _) (leL.cons (SV.le.refl _) (leL.cons le_nil (leL.cons le_nil leL.nil))))) (leL.cons (SV.le.refl _) leL.nil))
theorem scan_zero (l : List UInt8) (h : (scanG l).2.1 = 0) : (scanG l).2.2 = 0 := by
 unfold scanG at h ⊢
 split at h
 · exact absurd h (by decide)
 · rename_i h1
   rw [if_neg h1]
   split at h
   · rename_i h2; rw [if_pos h2]
   · rename_i h2; exact absurd h h2
section
variable {H : List AO} {l : List UInt8}
theorem cv_rules (hcl : closed H) {nm : List UInt8} {pl : Int} {vs : List VarP} {ss : List StageP} {x y z w : AO} {G : List AO} :
 Cv H.length (.tup [.agg [st (B nm), i64 pl, .own (H.length + 5) 0 vs.length 3 vs.length, .own (H.length + 6) 0 ss.length 12 ss.length], .agg [i64 0, i64 0]]) (H ++ (x :: y :: z :: w :: outO H.length nm pl vs.length ss.length :: varsO vs :: stgsO ss :: G)) (.tup [rulesV ⟨nm, pl, vs, ss⟩, fltV 0 0]) H := by
 have e : (rws VarP.c vs).take (vs.length * 3) = rws VarP.c vs := List.take_of_length_le (by rw [rws_len VarP.c_len]; exact Nat.le_refl _)
 have e2 : (rws StageP.c ss).take (ss.length * 12) = rws StageP.c ss := List.take_of_length_le (by rw [rws_len StageP.c_len]; exact Nat.le_refl _)
 refine cv_fz 4 hcl rfl ?_
 simp [rulesV, RulesP.c, fltV, varsO, stgsO, rws_len VarP.c_len, rws_len StageP.c_len, e, e2]
theorem parse_t13 (hcl : closed H) {c : Cx} {r : Rd} {nm : List UInt8} {pl : Int} {vs : List VarP} {ss : List StageP} {G : List AO} {env : Env} {res : RulesP × Int × Int}
 (hres : (if r.e ≠ 0 then (zRules, r.e, r.p) else (⟨nm, pl, vs, ss⟩, 0, 0)) = res)
 (h2 : env.get 2 = .ptr (.own H.length 0 0 0 0) 0) (h3 : env.get 3 = .ptr (.own (H.length + 1) 0 0 0 0) 0) (h6 : env.get 6 = rp (H.length + 3)) (h7 : env.get 7 = .ptr (.own (H.length + 4) 0 0 0 0) 0) :
 X Tryz.prog Tryz.f36.ntmps drawB (IC.tl 13 i36) env (H ++ (paA ++ rdO c r :: paL H.length nm pl vs ss G)) (Fin H.length r36 (.ret (.tup [rulesV res.1, fltV res.2.1 res.2.2])) H) := by
 simp -implicitDefEqProofs [IC.tl, i36, r36, h2, h3, h6, h7]
 refine call_go (ok69m H paA _ r) ?_
 by_cases he : r.e = 0
 · rw [if_neg (by simp [he])] at hres
   subst hres
   simp -implicitDefEqProofs [h2, h3, h6, h7, he, outO, zR, flO]
   exact cv_rules hcl
 · rw [if_pos he] at hres
   subst hres
   simp -implicitDefEqProofs [h2, h3, h6, h7, he, rp, rdO, zR, flO]
   exact ⟨rfl, Cv.le (cv_fz (n0 := H.length) (r1 := .tup [.agg [st (B []), i64 0, nl, nl], .agg [i64 r.e, i64 r.p]]) (r := .tup [.agg [st (B []), i64 0, nl, nl], .agg [i64 r.e, i64 r.p]]) 3 hcl rfl (by simp)) (zR_le r.e r.p)⟩
theorem parse_t11 (hcl : closed H) {c : Cx} {r : Rd} {nm : List UInt8} {pl : Int} (h20 : c.ts.length ≤ 20000) {d : Nat} {orP : Rd -> Ex × Rd} (h1 : RdC c 99 orP d) (hk : Kp c d orP) (hst : Still orP) (hg : Gd c d r) {env : Env} {res : RulesP × Int × Int}
 (hres : (fun (s : List VarP × Rd) => (fun (t : List StageP × Rd) => if t.2.e ≠ 0 then (zRules, t.2.e, t.2.p) else ((⟨nm, pl, s.1, t.1⟩ : RulesP), (0 : Int), (0 : Int))) (stagesL c orP (c.ts.length + 1) [] s.2)) (varsL c c.ts.length [] r) = res)
 (h2 : env.get 2 = .ptr (.own H.length 0 0 0 0) 0) (h3 : env.get 3 = .ptr (.own (H.length + 1) 0 0 0 0) 0) (h6 : env.get 6 = rp (H.length + 3)) (h7 : env.get 7 = .ptr (.own (H.length + 4) 0 0 0 0) 0) :
 X Tryz.prog Tryz.f36.ntmps drawB (IC.tl 11 i36) env (H ++ (paA ++ rdO c r :: paL H.length nm pl [] [] [])) (Fin H.length r36 (.ret (.tup [rulesV res.1, fltV res.2.1 res.2.2])) H) := by
 have tail : ∀ (r : Rd) (vs : List VarP) (ss : List StageP) (G : List AO) (env : Env), (if r.e ≠ 0 then (zRules, r.e, r.p) else (⟨nm, pl, vs, ss⟩, 0, 0)) = res -> env.get 2 = .ptr (.own H.length 0 0 0 0) 0 -> env.get 3 = .ptr (.own (H.length + 1) 0 0 0 0) 0 -> env.get 6 = rp (H.length + 3) -> env.get 7 = .ptr (.own (H.length + 4) 0 0 0 0) 0 -> _ :=
  fun r vs ss G env hres h2 h3 h6 h7 => parse_t13 (c := c) (r := r) (G := G) hcl hres h2 h3 h6 h7
 rw [show IC.tl 11 i36 = .seq (IC.nth 11 i36) (.seq (IC.nth 12 i36) (IC.tl 13 i36)) from rfl]
 generalize IC.tl 13 i36 = t13 at tail ⊢
 simp -implicitDefEqProofs [IC.nth, i36, h2, h3, h6, h7]
 obtain ⟨k1, k2⟩ := varsL_keep (c := c) (d := d) c.ts.length [] r hg
 generalize hv : varsL c c.ts.length [] r = v at hres k1
 refine loop36_0 (nm := nm) (pl := pl) h20 (d := d) (res := v) (fun env G h2 h3 h6 h7 => ?_) c.ts.length [] r [] env (by omega) (Nat.zero_le _) hv hg h2 h3 h6 h7
 simp -implicitDefEqProofs
 dsimp only at hres
 generalize hs : stagesL c orP (c.ts.length + 1) [] v.2 = s at hres
 refine loop36_1 (nm := nm) (pl := pl) (vs := v.1) h20 h1 hk hst (res := s) (fun env G h2 h3 h6 h7 => ?_) (c.ts.length + 1) [] v.2 G env (fun _ => by omega) (Nat.zero_le _) hs k1 h2 h3 h6 h7
 simp -implicitDefEqProofs
 exact tail s.2 v.1 s.1 G env hres h2 h3 h6 h7
theorem ok36 (hl : l.length < 4611686018427387904) : Ok Tryz.prog 36 [st (B l)] H (.ret (.tup [rulesV (parseR l).1, fltV (parseR l).2.1 (parseR l).2.2])) H := by
 refine ok_WI hm Tryz.func36 c36 (by simp) fun hcl => ?_
 have hlen := scan_len l
 have hz0 := scan_zero l
 generalize hp : parseR l = res
 unfold parseR at hp
 have h33 := fun H => ok61 (H := H) hl
 generalize scanG l = s at hlen hp h33 hz0
 obtain ⟨ts, fe, fp⟩ := s
 rw [show i36 = .seq (IC.nth 0 i36) (.seq (IC.nth 1 i36) (.seq (IC.nth 2 i36) (IC.tl 3 i36))) from rfl]
 by_cases hs : fe = 0
 · subst hs
   have hz : fp = 0 := hz0 rfl
   subst hz
   rw [if_neg (by simp)] at hp
   have h20 : ts.length ≤ 20000 := hlen
   have hlc : ts.length < 4611686018427387904 := by omega
   have hg : Gd ⟨ts, l.length⟩ 40 ⟨0, 0, 0, 0⟩ := ⟨Nat.zero_le _, .inr rfl⟩
   have hor : RdC ⟨ts, l.length⟩ 99 (orT ⟨ts, l.length⟩) 40 := (ok_lv hlc 40 (by omega)).2.2
   have hk : Kp ⟨ts, l.length⟩ 40 (orT ⟨ts, l.length⟩) := (lv_keep ⟨ts, l.length⟩ 40 (by omega)).2.2
   have hst : Still (orT ⟨ts, l.length⟩) := or_still ⟨ts, l.length⟩ 40
   dsimp only at hp
   generalize hc : (⟨ts, l.length⟩ : Cx) = c at hg hor hk hst hp
   have hcts : c.ts = ts := by rw [← hc]
   have hcen : c.en = l.length := by rw [← hc]
   rw [← hcts] at h20 hlc
   unfold parseT at hp
   dsimp only at hp
   have g1 := (t2_keep (c := c) (d := 40) [103, 97, 109, 101] hg).1
   have g2 := (word_keep _ g1).1
   have g3 := (t2_keep (c := c) (d := 40) [59] g2).1
   have g4 := (t2_keep (c := c) (d := 40) [112, 108, 97, 121, 101, 114, 115] g3).1
   have g5 := (num_keep _ g4).1
   have g6 := (t2_keep (c := c) (d := 40) [59] g5).1
   have tail : ∀ env : Env, env.get 2 = .ptr (.own H.length 0 0 0 0) 0 -> env.get 3 = .ptr (.own (H.length + 1) 0 0 0 0) 0 -> env.get 6 = rp (H.length + 3) -> env.get 7 = .ptr (.own (H.length + 4) 0 0 0 0) 0 -> _ :=
    fun env h2 h3 h6 h7 => parse_t11 hcl (env := env) (nm := (wordR c (t2 c [103, 97, 109, 101] ⟨0, 0, 0, 0⟩)).1) (pl := (nmR c (t2 c [112, 108, 97, 121, 101, 114, 115] (t2 c [59] (wordR c (t2 c [103, 97, 109, 101] ⟨0, 0, 0, 0⟩)).2))).1) (res := res) h20 hor hk hst g6 hp h2 h3 h6 h7
   rw [show IC.tl 3 i36 = .seq (IC.nth 3 i36) (.seq (IC.nth 4 i36) (.seq (IC.nth 5 i36) (.seq (IC.nth 6 i36) (.seq (IC.nth 7 i36) (.seq (IC.nth 8 i36) (.seq (IC.nth 9 i36) (.seq (IC.nth 10 i36) (IC.tl 11 i36)))))))) from rfl]
   generalize IC.tl 11 i36 = t11 at tail ⊢
   refine WI.seq (draw_ok hm) ?_
   simp -implicitDefEqProofs [IC.nth, i36]
   refine WI.seq (draw_ok hm) ?_
   simp -implicitDefEqProofs [IC.nth, i36]
   refine call_go (h33 _) ?_
   simp -implicitDefEqProofs [fltV, tksV]
   refine WI.seq (draw_ok hm) ?_
   simp -implicitDefEqProofs [IC.nth, i36]
   refine WI.seq (draw_ok hm) ?_
   simp -implicitDefEqProofs [IC.nth, i36]
   refine WI.seq (draw_ok hm) ?_
   simp -implicitDefEqProofs [IC.nth, i36]
   refine WI.tell (Tell.own0 (j := H.length + 4) (p := 2) (o := ⟨[st (B []), i64 0, nl, nl], 25, 0, true⟩) (by simp) rfl rfl 77 3) ?_
   refine WI.tell (Tell.own0 (j := H.length + 4) (p := 3) (o := ⟨[st (B []), i64 0, .own (H.length + 5) 0 0 3 0, nl], 25, 0, true⟩) (by simp) rfl rfl 45 12) ?_
   refine WI.cong (H' := H ++ (paA ++ rdO c ⟨0, 0, 0, 0⟩ :: paL H.length [] 0 [] [] [])) ?_ ?_
   · simp [zR, flO, rdO, outO, varsO, stgsO, rws, hcts, hcen, tksV]
   refine WI.of_X (draw_ok hm) ?_
   simp -implicitDefEqProofs
   refine call_go (ok62m H paA _ _ hlc [103, 97, 109, 101]) ?_
   simp -implicitDefEqProofs
   refine call_go (ok63m H paA _ _ hlc) ?_
   simp -implicitDefEqProofs [outO]
   refine call_go (ok62m H paA _ _ hlc [59]) ?_
   simp -implicitDefEqProofs
   refine call_go (ok62m H paA _ _ hlc [112, 108, 97, 121, 101, 114, 115]) ?_
   simp -implicitDefEqProofs
   refine call_go (ok64m H paA _ _ hlc) ?_
   simp -implicitDefEqProofs
   refine call_go (ok62m H paA _ _ hlc [59]) ?_
   simp -implicitDefEqProofs
   exact tail _ (by simp) (by simp) (by simp [rp]) (by simp)
 · rw [if_pos (by simpa using hs)] at hp
   subst hp
   refine WI.of_X (draw_ok hm) ?_
   generalize IC.tl 3 i36 = t3
   simp -implicitDefEqProofs [IC.nth, i36]
   refine call_go (h33 _) ?_
   simp -implicitDefEqProofs [fltV, hs, tksV, r36]
   exact ⟨rfl, Cv.le (cv_fz (n0 := H.length) (r1 := .tup [.agg [st (B []), i64 0, nl, nl], .agg [i64 fe, i64 fp]]) (r := .tup [.agg [st (B []), i64 0, nl, nl], .agg [i64 fe, i64 fp]]) 3 hcl rfl (by simp)) (zR_le fe fp)⟩
end
end Go.Proofs.YthmdmnfojbnobaaGreatDoor
namespace Go.Proofs.YthmdmnfojbnobaaGreatDoor
open Go.Ab
@[simp] theorem ug_mpf (ks : List Value) (vs : List SV) : (SV.mpf ks vs).ug = .mpf ks vs := rfl
@[simp] theorem vd_mpf (ks : List Value) (vs : List SV) : (SV.mpf ks vs).vd = true := rfl
@[simp] theorem ug_mp (i ver : Nat) : (SV.mp i ver).ug = .mp i ver := rfl
@[simp] theorem vd_mp (i ver : Nat) : (SV.mp i ver).vd = true := rfl
@[simp] theorem mapOf_mpf (H : List AO) (ks : List Value) (vs : List SV) : SV.mapOf H (.mpf ks vs) = some (ks, vs) := rfl
@[simp] theorem isK_st (s : ByteArray) : SV.isK KK.s (st s) = true := rfl
@[simp] theorem key_st (s : ByteArray) : SV.key KK.s (st s) = .string s := rfl
@[simp] theorem isK_i64 (n : Int) : SV.isK (KK.i .i64) (i64 n) = true := rfl
@[simp] theorem key_i64 (n : Int) : SV.key (KK.i .i64) (i64 n) = .int .i64 n := rfl
@[simp] theorem flat_mp (i ver : Nat) : (SV.mp i ver).flat = [.mp i ver] := rfl
@[simp] theorem cell_mp (i ver : Nat) : (SV.mp i ver).isCell = true := rfl
@[simp] theorem cell_mpf (ks : List Value) (vs : List SV) : (SV.mpf ks vs).isCell = true := rfl
@[simp] theorem part_mp (n i ver : Nat) : partOk n (.mp i ver) = (n = 1) := by simp [partOk, SV.ug, SV.vd, SV.isCell]
@[simp] theorem fz_mp (n d k ver : Nat) (L : List AO) : SV.fz n [] L (d + 1) (.mp (n + k) ver) = (match L[k]? with
 | some o => if o.live = false ∧ o.ver = ver then (match o.cells with | .mk kk :: vs => .mpf kk (vs.map (SV.fz n [] L d)) | _ => .any) else .any
 | none => .any) := by
 conv => lhs; unfold SV.fz
 rw [if_neg (by simp [SV.under])]
 have e : n + k - n = k := by omega
 simp only [e]
 cases L[k]? with
 | none => rfl
 | some o => rfl
def errV (e p : Int) : SV := if e = 0 then .val .nilIface else .ifc 107 (fltV e p)
theorem errV_of {e : Int} (h : e ≠ 0) (p : Int) : errV e p = .ifc 107 (fltV e p) := by unfold errV; rw [if_neg h]
section
variable {H : List AO}
theorem ok53 {e : Int} (he : e ≠ 0) (p : Int) : Ok Tryz.prog 53 [i64 e, i64 p] H (.ret (errV e p)) H := by
 rw [errV_of he]
 refine ok_fn hm Tryz.func53 c53 (by simp) fun hcl => ?_
 simp -implicitDefEqProofs [i53, r53, fltV]
 exact cv_id
theorem ok31 {e : Int} (he : e ≠ 0) (p : Int) : Ok Tryz.prog 31 [errV e p] H (.ret (fltV e p)) H := by
 rw [errV_of he]
 refine ok_fn hm Tryz.func31 c31 (by simp [SV.under, fltV, SV.underL]) fun hcl => ?_
 simp -implicitDefEqProofs [i31, r31, fltV]
 refine call_go (ok57 (j := H.length + 1) (a := i64 0) (b := i64 0) (by simp) e p) ?_
 simp -implicitDefEqProofs [set_app]
 refine cv_fz 4 hcl rfl ?_
 simp
end
def sks (l : List (List UInt8)) : List Value := l.map fun s => .string (B s)
def addS (l : List (List UInt8)) (s : List UInt8) : List (List UInt8) := if s ∈ l then l else l ++ [s]
def nubS : List (List UInt8) -> List (List UInt8) -> List (List UInt8)
 | acc, [] => acc
 | acc, s :: r => nubS (addS acc s) r
def trues (n : Nat) : List SV := List.replicate n (bl true)
theorem vkeq_s (a b : List UInt8) : vkeq (.string (B a)) (.string (B b)) = decide (a = b) := by simp [vkeq]
theorem setK_s (s : List UInt8) : ∀ l : List (List UInt8), msetK (.string (B s)) (sks l) = sks (addS l s)
 | [] => by simp [sks, msetK, addS]
 | x :: l => by
  simp only [sks, List.map_cons, msetK, vkeq_s]
  by_cases h : s = x
  · subst h; simp [addS]
  · have ih := setK_s s l
    simp only [sks] at ih
    rw [if_neg (by simpa using h), ih]
    unfold addS
    by_cases h2 : s ∈ l
    · rw [if_pos h2, if_pos (by simp [h2])]; simp
    · rw [if_neg h2, if_neg (by simp [h, h2])]; simp
theorem setV_s (s : List UInt8) : ∀ l : List (List UInt8), msetV (.string (B s)) (bl true) (sks l) (trues l.length) = trues (addS l s).length
 | [] => by simp [sks, msetV, addS, trues]
 | x :: l => by
  simp only [sks, List.map_cons, List.length_cons, trues, List.replicate_succ, msetV, vkeq_s]
  by_cases h : s = x
  · subst h; simp [addS, List.replicate_succ]
  · have ih := setV_s s l
    simp only [sks, trues] at ih
    rw [if_neg (by simpa using h), ih]
    unfold addS
    by_cases h2 : s ∈ l
    · rw [if_pos h2, if_pos (by simp [h2])]; simp [List.replicate_succ]
    · rw [if_neg h2, if_neg (by simp [h, h2])]; simp [List.replicate_succ]
theorem lkm_s (s : List UInt8) : ∀ l : List (List UInt8), lkm (.string (B s)) (sks l) (trues l.length) = if s ∈ l then some (bl true) else none
 | [] => by simp [sks, trues, lkm]
 | x :: l => by
  simp only [sks, List.map_cons, List.length_cons, trues, List.replicate_succ, lkm, vkeq_s]
  by_cases h : s = x
  · subst h; simp
  · have ih := lkm_s s l
    simp only [sks, trues] at ih
    rw [if_neg (by simpa using h), ih]
    simp [h]
theorem mem_add (l : List (List UInt8)) (s t : List UInt8) : t ∈ addS l s ↔ t ∈ l ∨ t = s := by
 unfold addS; split
 · rename_i h; constructor
   · exact .inl
   · rintro (h2 | rfl); exact h2; exact h
 · simp
theorem mem_nub : ∀ (r acc : List (List UInt8)) (t : List UInt8), t ∈ nubS acc r ↔ t ∈ acc ∨ t ∈ r
 | [], acc, t => by simp [nubS]
 | s :: r, acc, t => by rw [nubS, mem_nub r, mem_add]; simp [or_assoc]
theorem sks_all (l : List (List UInt8)) : (sks l).all KK.s.is = true := by simp [sks, KK.is]
def varsM (vs : List (List UInt8)) : SV := .mpf (sks (nubS [] vs)) (trues (nubS [] vs).length)
def tyO (m1 m2 : SV) (rest : List SV) (T : TypeId) : AO := ⟨m1 :: m2 :: rest, T, 0, true⟩
theorem oc_app {H : List AO} {j : Nat} {o : AO} (ho : H[j]? = some o) (hv : o.ver = 0) (hl : o.live = true) (L : List AO) : objCells (H ++ L) j 0 = o.cells := by
 have : (H ++ L)[j]? = some o := by rw [List.getElem?_append_left (getElem?_lt ho)]; exact ho
 rw [← hv]; exact objCells_of this hl
theorem get_app_l {H : List AO} {j : Nat} {o : AO} (ho : H[j]? = some o) (L : List AO) : (H ++ L)[j]? = some o := by
 rw [List.getElem?_append_left (getElem?_lt ho)]; exact ho
theorem trues_und (n k : Nat) : SV.underL n (trues k) = true := (SV.underL_iff _ _).2 fun s hs => by
 have := List.eq_of_mem_replicate hs; subst this; rfl
section
variable {H : List AO}
theorem ok82 {j : Nat} {vs : List (List UInt8)} {m2 : SV} {rest : List SV} {T : TypeId} (ho : H[j]? = some (tyO (varsM vs) m2 rest T)) (nm : List UInt8) :
 Ok Tryz.prog 82 [rp j, st (B nm)] H (.ret (bl (decide (nm ∈ vs)))) H := by
 have hj := getElem?_lt ho
 have e1 : objCells H j 0 = varsM vs :: m2 :: rest := objCells_of (o := tyO (varsM vs) m2 rest T) ho rfl
 refine ok_fn hm Tryz.func82 c82 (by simp [rp]) fun hcl => ?_
 have hal := sks_all (nubS [] vs)
 have hal' : ∀ v ∈ sks (nubS [] vs), KK.s.is v = true := fun v hv => List.all_eq_true.1 hal v hv
 have hl := lkm_s nm (nubS [] vs)
 simp -implicitDefEqProofs [i82, r82, rp, e1, varsM, hl]
 refine ⟨hal', ?_⟩
 have hmem : nm ∈ nubS [] vs ↔ nm ∈ vs := by rw [mem_nub]; simp
 by_cases h : nm ∈ vs
 · rw [if_pos (hmem.2 h)]; simp [h]; exact cv_id
 · rw [if_neg (fun h2 => h (hmem.1 h2))]; simp [h]; exact cv_id
end
end Go.Proofs.YthmdmnfojbnobaaGreatDoor
namespace Go.Proofs.YthmdmnfojbnobaaGreatDoor
open Go.Ab
abbrev MapV := List Value × List SV
def setM (v : SV) (m : MapV) (k : Int) : MapV := (msetK (.int .i64 k) m.1, msetV (.int .i64 k) v m.1 m.2)
def mpO (T : TypeId) (m : MapV) : AO := ⟨.mk m.1 :: m.2, T, 0, false⟩
def iK (m : MapV) : Prop := m.1.all (KK.i .i64).is = true
theorem iK_set {v : SV} {m : MapV} {k : Int} (h : iK m) : iK (setM v m k) := by
 obtain ⟨ks, vs⟩ := m
 unfold iK setM at *
 simp only at *
 induction ks with
 | nil => simp [msetK, KK.is]
 | cons x r ih =>
  simp only [List.all_cons, Bool.and_eq_true] at h
  simp only [msetK]
  split
  · simp only [List.all_cons, Bool.and_eq_true]; exact h
  · simp only [List.all_cons, Bool.and_eq_true]; exact ⟨h.1, ih h.2⟩
theorem und_set {n : Nat} {v : SV} {k : Value} (hv : v.under n = true) : ∀ (ks : List Value) (vs : List SV), SV.underL n vs = true -> SV.underL n (msetV k v ks vs) = true
 | [], vs, h => by simp [msetV, SV.underL, hv]
 | x :: ks, [], h => by simp [msetV, SV.underL, hv]
 | x :: ks, y :: vs, h => by
  simp only [SV.underL, Bool.and_eq_true] at h
  simp only [msetV]
  split
  · simp [SV.underL, hv, h.2]
  · simp [SV.underL, h.1, und_set hv ks vs h.2]
section
variable {H : List AO} {k j a b : Nat} {l : List Int} {tk mf : SV} {ow : Int} {m : MapV}
theorem mapOf_at {G : List AO} {T : TypeId} (hb : G[b]? = some (mpO T m)) : SV.mapOf G (.mp b 0) = some m := by
 simp only [SV.mapOf, hb]; simp [mpO]
theorem loop51 (hll : l.length < 4611686018427387904) (hk : H[k]? = some ⟨ints l, 3, 0, true⟩) (hj : H[j]? = some ⟨[.mp a 0, .mp b 0], 65, 0, true⟩) (hbl : b < H.length) (hkb : k ≠ b) (hjb : j ≠ b) (htk : tk.isCell = true) (hmf : mf.isCell = true) {N : Nat} {K : XE -> Env -> List AO -> Prop} {res : MapV}
 (hexit : ∀ env, K (.exit 0) env (H.set b (mpO 63 res) ++ [⟨[tk, i64 ow, mf], 100, 0, true⟩])) :
 ∀ (n i : Nat) (m : MapV) (env : Env), i + n = l.length -> iK m -> (l.drop i).foldl (setM (.agg [tk, i64 ow, mf])) m = res -> env.get 2 = .ptr (.own j 0 0 0 0) 0 -> env.get 3 = .ptr (.own H.length 0 0 0 0) 0 -> env.get 7 = .own k 0 l.length 1 0 -> env.get 8 = i64 l.length -> env.get 9 = i64 i →
  LI Tryz.prog N drawB l51_0 env (H.set b (mpO 63 m) ++ [⟨[tk, i64 ow, mf], 100, 0, true⟩]) K := by
 intro n
 induction n with
 | zero =>
  intro i m env hi hm hr h2 h3 h7 h8 h9
  refine li_go Go.Proofs.YthmdmnfojbnobaaGreatDoor.hm l51_0.eq_1 ?_
  have e : i = l.length := by omega
  subst e
  rw [List.drop_length] at hr
  have hr : m = res := hr
  subst hr
  simp -implicitDefEqProofs [h2, h3, h7, h8, h9]
  exact hexit _
 | succ n ih =>
  intro i m env hi hm hr h2 h3 h7 h8 h9
  refine li_go Go.Proofs.YthmdmnfojbnobaaGreatDoor.hm l51_0.eq_1 ?_
  have hlt : i < l.length := by omega
  have hlt' : (i : Int) < l.length := by omega
  rw [List.drop_eq_getElem_cons hlt, List.foldl_cons] at hr
  have hkl := getElem?_lt hk
  have hjl := getElem?_lt hj
  have gk : (H.set b (mpO 63 m) ++ [⟨[tk, i64 ow, mf], 100, 0, true⟩])[k]? = some ⟨ints l, 3, 0, true⟩ := by
   rw [List.getElem?_append_left (by simpa using hkl), List.getElem?_set_ne (Ne.symm hkb)]; exact hk
  have gj : (H.set b (mpO 63 m) ++ [⟨[tk, i64 ow, mf], 100, 0, true⟩])[j]? = some ⟨[.mp a 0, .mp b 0], 65, 0, true⟩ := by
   rw [List.getElem?_append_left (by simpa using hjl), List.getElem?_set_ne (Ne.symm hjb)]; exact hj
  have gb : (H.set b (mpO 63 m) ++ [⟨[tk, i64 ow, mf], 100, 0, true⟩])[b]? = some (mpO 63 m) := by
   rw [List.getElem?_append_left (by simpa using hbl), List.getElem?_set_self hbl]
  have ck := objCells_of gk rfl
  have cj := objCells_of gj rfl
  have mo := mapOf_at gb
  have sb : ∀ f : AO -> AO, Ab.setObj (H.set b (mpO 63 m) ++ [⟨[tk, i64 ow, mf], 100, 0, true⟩]) b f = H.set b (f (mpO 63 m)) ++ [⟨[tk, i64 ow, mf], 100, 0, true⟩] := fun f => by
   rw [setObj_some gb, List.set_append_left _ _ (by simpa using hbl), List.set_set]
  simp only at ck cj
  simp -implicitDefEqProofs [h2, h3, h7, h8, h9, hlt, hlt', ck, cj]
  refine ⟨by omega, s_mup_go (x := m) mo rfl rfl hm ?_⟩
  simp -implicitDefEqProofs [sb, h2, h3, h7, h8, h9]
  refine LI.cong ?_ (ih (i + 1) (setM (.agg [tk, i64 ow, mf]) m l[i]) _ (by omega) (iK_set hm) hr ?_ ?_ ?_ ?_ ?_)
  · simp [mpO, setM]
  all_goals simp [h2, h3, h7, h8, wrap_suc (show i < 9223372036854775807 by omega)]
theorem und_fold {n : Nat} {v : SV} (hv : v.under n = true) : ∀ (l : List Int) (m : MapV), SV.underL n m.2 = true -> SV.underL n (l.foldl (setM v) m).2 = true
 | [], m, h => h
 | x :: l, m, h => und_fold hv l _ (und_set hv m.1 m.2 h)
theorem mpO_und {n : Nat} {T : TypeId} {m : MapV} (h : SV.underL n m.2 = true) : SV.underL n (mpO T m).cells = true := by
 simp [mpO, SV.underL, SV.under, h]
theorem ok51 (hll : l.length < 4611686018427387904) (hk : H[k]? = some ⟨ints l, 3, 0, true⟩) (hj : H[j]? = some ⟨[.mp a 0, .mp b 0], 65, 0, true⟩) (hb : H[b]? = some (mpO 63 m)) (hkb : k ≠ b) (hjb : j ≠ b) (htk : tk.isCell = true) (hmf : mf.isCell = true) (hm : iK m)
 (hu : SV.underL H.length m.2 = true ∧ tk.under H.length = true ∧ mf.under H.length = true) :
 Ok Tryz.prog 51 [.agg [tk, i64 ow, mf], .own k 0 l.length 1 0, .ptr (.own j 0 0 0 0) 0] H (.ret (.tup [])) (H.set b (mpO 63 (l.foldl (setM (.agg [tk, i64 ow, mf])) m))) := by
 have hkl := getElem?_lt hk
 have hjl := getElem?_lt hj
 have hbl := getElem?_lt hb
 refine ok_fn Go.Proofs.YthmdmnfojbnobaaGreatDoor.hm Tryz.func51 c51 (by simp) fun hcl => ?_
 simp -implicitDefEqProofs [i51, r51, htk, hmf]
 refine LI.cong (H' := H.set b (mpO 63 m) ++ [⟨[tk, i64 ow, mf], 100, 0, true⟩]) (by rw [set_same hb]) ?_
 refine loop51 hll hk hj hbl hkb hjb htk hmf (fun env => ?_) l.length 0 m _ (by omega) hm rfl ?_ ?_ ?_ ?_ ?_
 · simp -implicitDefEqProofs
   have hu2 : SV.underL H.length (l.foldl (setM (.agg [tk, i64 ow, mf])) m).2 = true := und_fold (by simp [SV.under, SV.underL, hu.2.1, hu.2.2]) l m hu.1
   exact cv_fz 2 (closed_set hcl b (mpO_und hu2)) (by simp) (by simp)
 all_goals simp
end
end Go.Proofs.YthmdmnfojbnobaaGreatDoor
namespace Go.Proofs.YthmdmnfojbnobaaGreatDoor
open Go.Ab
def wds (l : List (List UInt8)) : List SV := l.map fun s => st (B s)
@[simp] theorem wds_len (l : List (List UInt8)) : (wds l).length = l.length := by simp [wds]
structure IsS (H : List AO) (x : SV) (l : List (List UInt8)) : Prop where
 vd : x.vd = true
 ug : x.ug = x
 sl : x.isSl = true
 cell : x.isCell = true
 sz : x.szIs 1 = true
 len : x.slen = l.length
 und : x.under H.length = true
 row : (x.row H).take l.length = wds l
 flat : x.flat = [x]
namespace IsS
variable {H : List AO} {x : SV} {l : List (List UInt8)}
theorem app (h : IsS H x l) (L : List AO) : IsS (H ++ L) x l :=
 ⟨h.vd, h.ug, h.sl, h.cell, h.sz, h.len, SV.under_mono (by simp) x h.und, by rw [row_app L h.und]; exact h.row, h.flat⟩
theorem slc (H : List AO) (l : List (List UInt8)) : IsS H (.slc (wds l) l.length) l :=
 ⟨rfl, rfl, rfl, rfl, rfl, rfl, by simp [SV.under, wds, SV.underL_iff], by simp [SV.row, <- wds_len], rfl⟩
theorem rowlen (h : IsS H x l) : l.length ≤ (x.row H).length := by
 have := congrArg List.length h.row
 simp at this; omega
theorem ld (h : IsS H x l) {k : Nat} (hk : k < l.length) : ((x.row H).drop k).headD .any = st (B (l[k]'hk)) := by
 have h2 : ((x.row H).take l.length)[k]? = (wds l)[k]? := by rw [h.row]
 rw [List.getElem?_take_of_lt hk] at h2
 rw [List.headD_eq_head?_getD, List.head?_drop, h2]
 simp [wds, hk]
theorem okA (h : IsS H x l) (L : List AO) {k : Nat} (hk : k < l.length) : ldok (H ++ L) (.ptr x k) 1 := by
 have := (h.app L).rowlen
 simp only [ldok, at_ptr, List.length_drop]; omega
theorem vA (h : IsS H x l) (L : List AO) {k : Nat} (hk : k < l.length) : ldv (H ++ L) (.ptr x k) = st (B (l[k]'hk)) := by
 have := (h.app L).ld hk
 simp only [ldv, at_ptr, this]
theorem own1 {H L : List AO} {T : TypeId} {l : List (List UInt8)} {k n ver : Nat} (h : L[k]? = some ⟨wds l, T, ver, true⟩) (hn : n = l.length) : IsS (H ++ L) (.own (H.length + k) 0 n 1 ver) l := by
 subst hn
 refine ⟨rfl, rfl, rfl, rfl, rfl, rfl, ?_, ?_, rfl⟩
 · have : k < L.length := getElem?_lt h
   simp; omega
 · simp only [SV.row, objCells_new, List.drop_zero]
   unfold objCells
   rw [h]
   simp [← wds_len]
end IsS
end Go.Proofs.YthmdmnfojbnobaaGreatDoor
namespace Go.Proofs.YthmdmnfojbnobaaGreatDoor
open Go.Ab
def opTab : List (Int × List Int × Int × Bool) := [(3, [1], 1, false), (4, [2], 2, false), (5, [1, 1], 1, false), (6, [1, 1], 1, false), (7, [1, 1], 1, false), (8, [1, 1], 1, false), (9, [1, 1], 1, false), (18, [1, 1], 1, false), (19, [1, 1], 1, false),
 (10, [1, 1], 2, false), (11, [1, 1], 2, false), (12, [1, 1], 2, false), (13, [1, 1], 2, false), (14, [1, 1], 2, false), (15, [1, 1], 2, false), (16, [2, 2], 2, false), (17, [2, 2], 2, false), (20, [0, 0, 0], 0, true)]
def fnM (b : Bool) : SV := if b then .fn (.func 52) [] [] else .val .nilFunc
def opV (x : List Int × Int × Bool) : SV := .agg [.slc (ints x.1) x.1.length, i64 x.2.1, fnM x.2.2]
def opsK : List Value := opTab.map fun x => .int .i64 x.1
def opsW : List SV := opTab.map fun x => opV x.2
def opsM : SV := .mpf opsK opsW
def namesV (vs : List (List UInt8)) : SV := .slc (vs.map fun s => st (B s)) vs.length
def typV (vs : List (List UInt8)) : SV := .agg [varsM vs, opsM]
section
variable {H : List AO}
def t1O : AO := ⟨[.val (.map none), .val (.map none)], 65, 0, true⟩
def vmO (l : List (List UInt8)) : AO := ⟨.mk (sks l) :: trues l.length, 62, 0, false⟩
theorem loop24 {vs : List (List UInt8)} {x : SV} (hx : IsS H x vs) (hl : vs.length < 4611686018427387904) {N : Nat} {K : XE -> Env -> List AO -> Prop}
 (hexit : ∀ env, env.get 2 = .ptr (.own H.length 0 0 0 0) 0 -> env.get 3 = .ptr (.own (H.length + 3) 0 0 0 0) 0 -> K (.exit 0) env (H ++ [t1O, vmO (nubS [] vs), mpO 63 ([], []), ⟨[.mp (H.length + 1) 0, .mp (H.length + 2) 0], 65, 0, true⟩])) :
 ∀ (n i : Nat) (l : List (List UInt8)) (env : Env), i + n = vs.length -> nubS l (vs.drop i) = nubS [] vs -> env.get 2 = .ptr (.own H.length 0 0 0 0) 0 -> env.get 3 = .ptr (.own (H.length + 3) 0 0 0 0) 0 -> env.get 12 = x -> env.get 13 = i64 vs.length -> env.get 14 = i64 i →
  LI Tryz.prog N drawB l24_0 env (H ++ [t1O, vmO l, mpO 63 ([], []), ⟨[.mp (H.length + 1) 0, .mp (H.length + 2) 0], 65, 0, true⟩]) K := by
 intro n
 induction n with
 | zero =>
  intro i l env hi hr h2 h3 h12 h13 h14
  refine li_go hm l24_0.eq_1 ?_
  have e : i = vs.length := by omega
  subst e
  rw [List.drop_length] at hr
  have hr : l = _ := hr
  subst hr
  simp -implicitDefEqProofs [h2, h3, h12, h13, h14]
  exact hexit _ (by simp [h2]) (by simp [h3])
 | succ n ih =>
  intro i l env hi hr h2 h3 h12 h13 h14
  refine li_go hm l24_0.eq_1 ?_
  have hlt : i < vs.length := by omega
  have hlt' : (i : Int) < vs.length := by omega
  rw [List.drop_eq_getElem_cons hlt, nubS] at hr
  have mo : SV.mapOf (H ++ [t1O, vmO l, mpO 63 ([], []), ⟨[.mp (H.length + 1) 0, .mp (H.length + 2) 0], 65, 0, true⟩]) (.mp (H.length + 1) 0) = some (sks l, trues l.length) := by
   have : (H ++ [t1O, vmO l, mpO 63 ([], []), ⟨[.mp (H.length + 1) 0, .mp (H.length + 2) 0], 65, 0, true⟩])[H.length + 1]? = some (vmO l) := by simp
   simp only [SV.mapOf, this]; simp [vmO]
  simp -implicitDefEqProofs [h2, h3, h12, h13, h14, hlt, hlt', hx.vd, hx.ug, hx.sl, hx.cell, hx.len, hx.vA _ hlt, hx.okA _ hlt]
  refine s_mup_go (x := (sks l, trues l.length)) mo rfl rfl (sks_all l) ?_
  have e1 := setK_s vs[i] l
  have e2 := setV_s vs[i] l
  simp -implicitDefEqProofs [h2, h3, h12, h13, h14, vmO, e1, e2]
  refine ih (i + 1) (addS l vs[i]) _ (by omega) hr ?_ ?_ ?_ ?_ ?_
  all_goals simp [h2, h3, h12, h13, h14, wrap_suc (show i < 9223372036854775807 by omega)]
theorem ok24x {vs : List (List UInt8)} {x : SV} (hx : IsS H x vs) (hl : vs.length < 4611686018427387904) : Ok Tryz.prog 24 [x] H (.ret (typV vs)) H := by
 refine ok_fn hm Tryz.func24 c24 (by simp) fun hcl => ?_
 simp -implicitDefEqProofs [i24, r24, hx.vd, hx.ug, hx.sl, hx.cell, hx.len]
 refine LI.cong (H' := H ++ [t1O, vmO [], mpO 63 ([], []), ⟨[.mp (H.length + 1) 0, .mp (H.length + 2) 0], 65, 0, true⟩]) (by simp [t1O, vmO, mpO, sks, trues]) ?_
 refine loop24 hx hl (fun env h2 h3 => ?_) vs.length 0 [] _ (by omega) rfl ?_ ?_ ?_ ?_ ?_
 · generalize hnl : nubS [] vs = l at *
   have kf : ∀ (v : SV) (l : List Int) (m : MapV), iK m -> iK (l.foldl (setM v) m) := by
    intro v l
    induction l with
    | nil => exact fun m h => h
    | cons x r ih => exact fun m h => ih _ (iK_set h)
   simp -implicitDefEqProofs [h2, h3]
   refine call_of (a := []) (b := [.ptr (.own (H.length + 3) 0 0 0 0) 0]) (ok51 (k := H.length + 5) (j := H.length + 3) (a := H.length + 1) (b := H.length + 2) (l := [3]) (tk := .own (H.length + 4) 0 1 1 0) (mf := .val .nilFunc) (ow := 1) (m := ([], [])) (by decide) (by simp [ints]) (by simp) (by simp) (by omega) (by omega) rfl rfl rfl ⟨rfl, by simp [SV.under, SV.underL], by simp [SV.under, SV.underL]⟩) ?_
   generalize hm1 : ([3] : List Int).foldl (setM (.agg [.own (H.length + 4) 0 1 1 0, i64 1, .val .nilFunc])) ([], []) = m1
   have k1 : iK m1 := by rw [← hm1]; exact kf _ _ _ rfl
   have u1 : SV.underL (H.length + 6) m1.2 = true := by rw [← hm1]; exact und_fold (by simp [SV.under, SV.underL]) _ _ rfl
   simp -implicitDefEqProofs [h2, h3]
   refine call_of (a := []) (b := [.ptr (.own (H.length + 3) 0 0 0 0) 0]) (ok51 (k := H.length + 7) (j := H.length + 3) (a := H.length + 1) (b := H.length + 2) (l := [4]) (tk := .own (H.length + 6) 0 1 1 0) (mf := .val .nilFunc) (ow := 2) (m := m1) (by decide) (by simp [ints]) (by simp) (by simp) (by omega) (by omega) rfl rfl k1 ⟨SV.underL_mono (by simp) _ u1, by simp [SV.under, SV.underL], by simp [SV.under, SV.underL]⟩) ?_
   generalize hm2 : ([4] : List Int).foldl (setM (.agg [.own (H.length + 6) 0 1 1 0, i64 2, .val .nilFunc])) m1 = m2
   have k2 : iK m2 := by rw [← hm2]; exact kf _ _ _ k1
   have u2 : SV.underL (H.length + 8) m2.2 = true := by rw [← hm2]; exact und_fold (by simp [SV.under, SV.underL]) _ _ (SV.underL_mono (by omega) _ u1)
   simp -implicitDefEqProofs [h2, h3]
   refine call_of (a := []) (b := [.ptr (.own (H.length + 3) 0 0 0 0) 0]) (ok51 (k := H.length + 10) (j := H.length + 3) (a := H.length + 1) (b := H.length + 2) (l := [5, 6, 7, 8, 9, 18, 19]) (tk := .own (H.length + 8) 0 2 1 0) (mf := .val .nilFunc) (ow := 1) (m := m2) (by decide) (by simp [ints]) (by simp) (by simp) (by omega) (by omega) rfl rfl k2 ⟨SV.underL_mono (by simp) _ u2, by simp [SV.under, SV.underL], by simp [SV.under, SV.underL]⟩) ?_
   generalize hm3 : ([5, 6, 7, 8, 9, 18, 19] : List Int).foldl (setM (.agg [.own (H.length + 8) 0 2 1 0, i64 1, .val .nilFunc])) m2 = m3
   have k3 : iK m3 := by rw [← hm3]; exact kf _ _ _ k2
   have u3 : SV.underL (H.length + 11) m3.2 = true := by rw [← hm3]; exact und_fold (by simp [SV.under, SV.underL]) _ _ (SV.underL_mono (by omega) _ u2)
   simp -implicitDefEqProofs [h2, h3]
   refine call_of (a := []) (b := [.ptr (.own (H.length + 3) 0 0 0 0) 0]) (ok51 (k := H.length + 11) (j := H.length + 3) (a := H.length + 1) (b := H.length + 2) (l := [10, 11, 12, 13, 14, 15]) (tk := .own (H.length + 8) 0 2 1 0) (mf := .val .nilFunc) (ow := 2) (m := m3) (by decide) (by simp [ints]) (by simp) (by simp) (by omega) (by omega) rfl rfl k3 ⟨SV.underL_mono (by simp) _ u3, by simp [SV.under, SV.underL], by simp [SV.under, SV.underL]⟩) ?_
   generalize hm4 : ([10, 11, 12, 13, 14, 15] : List Int).foldl (setM (.agg [.own (H.length + 8) 0 2 1 0, i64 2, .val .nilFunc])) m3 = m4
   have k4 : iK m4 := by rw [← hm4]; exact kf _ _ _ k3
   have u4 : SV.underL (H.length + 12) m4.2 = true := by rw [← hm4]; exact und_fold (by simp [SV.under, SV.underL]) _ _ (SV.underL_mono (by omega) _ u3)
   simp -implicitDefEqProofs [h2, h3]
   refine call_of (a := []) (b := [.ptr (.own (H.length + 3) 0 0 0 0) 0]) (ok51 (k := H.length + 12) (j := H.length + 3) (a := H.length + 1) (b := H.length + 2) (l := [16, 17]) (tk := .own (H.length + 9) 0 2 1 0) (mf := .val .nilFunc) (ow := 2) (m := m4) (by decide) (by simp [ints]) (by simp) (by simp) (by omega) (by omega) rfl rfl k4 ⟨SV.underL_mono (by simp) _ u4, by simp [SV.under, SV.underL], by simp [SV.under, SV.underL]⟩) ?_
   generalize hm5 : ([16, 17] : List Int).foldl (setM (.agg [.own (H.length + 9) 0 2 1 0, i64 2, .val .nilFunc])) m4 = m5
   have k5 : iK m5 := by rw [← hm5]; exact kf _ _ _ k4
   have u5 : SV.underL (H.length + 13) m5.2 = true := by rw [← hm5]; exact und_fold (by simp [SV.under, SV.underL]) _ _ (SV.underL_mono (by omega) _ u4)
   simp -implicitDefEqProofs [h2, h3]
   refine call_of (a := []) (b := [.ptr (.own (H.length + 3) 0 0 0 0) 0]) (ok51 (k := H.length + 14) (j := H.length + 3) (a := H.length + 1) (b := H.length + 2) (l := [20]) (tk := .own (H.length + 13) 0 3 1 0) (mf := .fn (.func 52) [] []) (ow := 0) (m := m5) (by decide) (by simp [ints]) (by simp) (by simp) (by omega) (by omega) rfl rfl k5 ⟨SV.underL_mono (by simp) _ u5, by simp [SV.under, SV.underL], by simp [SV.under, SV.underL]⟩) ?_
   generalize hm6 : ([20] : List Int).foldl (setM (.agg [.own (H.length + 13) 0 3 1 0, i64 0, .fn (.func 52) [] []])) m5 = m6
   have k6 : iK m6 := by rw [← hm6]; exact kf _ _ _ k5
   have u6 : SV.underL (H.length + 15) m6.2 = true := by rw [← hm6]; exact und_fold (by simp [SV.under, SV.underL]) _ _ (SV.underL_mono (by omega) _ u5)
   simp -implicitDefEqProofs [h2, h3, t1O]
   refine cv_fz 6 hcl rfl ?_
   simp [typV, varsM, opsM, opsK, opsW, vmO, mpO, map_fz_under _ _ _ _ (trues_und _ _)]
   refine ⟨⟨by rw [hnl], by rw [hnl]⟩, ?_, ?_⟩
   all_goals
    subst hm6 hm5 hm4 hm3 hm2 hm1
    simp [setM, msetK, msetV, vkeq, opTab, opV, fnM, ints]
 all_goals simp [namesV]
theorem ok24 {vs : List (List UInt8)} (hl : vs.length < 4611686018427387904) : Ok Tryz.prog 24 [namesV vs] H (.ret (typV vs)) H := ok24x (IsS.slc H vs) hl
end
end Go.Proofs.YthmdmnfojbnobaaGreatDoor
namespace Go.Proofs.YthmdmnfojbnobaaGreatDoor
open Go.Ab
def opOf (op : Int) : Option (List Int × Int × Bool) := (opTab.find? fun x => x.1 = op).map (·.2)
def Ex.at : Ex -> Int
 | .mk _ _ _ _ p => p
def Ex.op : Ex -> Int
 | .mk op _ _ _ _ => op
def takesOf (o : List Int × Int × Bool) (ks : List Int) : List Int := if o.2.2 then [2, ks.getD 1 0, ks.getD 1 0] else o.1
def ownOf (o : List Int × Int × Bool) (ks : List Int) : Int := if o.2.2 then ks.getD 1 0 else o.2.1
def chkT (own : Int) : List Int -> List Int -> List Ex -> Int × Int × Int
 | t :: ts, k :: ks, e :: l => if k ≠ t then (0, 10, e.at) else chkT own ts ks l
 | _, _, _ => (own, 0, 0)
mutual
def tyE (vs : List (List UInt8)) : Ex -> Int × Int × Int
 | .mk op _ nm l p =>
  match opOf op with
  | none => if op = 1 ∨ op = 2 then (if l.length ≠ 0 then (0, 3, p) else if op = 2 ∧ nm ∉ vs then (0, 7, p) else (1, 0, 0)) else (0, 3, p)
  | some o => if l.length ≠ o.1.length then (0, 3, p) else
   match tyL vs l with
   | .error f => (0, f)
   | .ok ks => chkT (ownOf o ks) (takesOf o ks) ks l
def tyL (vs : List (List UInt8)) : List Ex -> Except (Int × Int) (List Int)
 | [] => .ok []
 | e :: r => if (tyE vs e).2.1 ≠ 0 then .error (tyE vs e).2 else
  match tyL vs r with
  | .error f => .error f
  | .ok ks => .ok ((tyE vs e).1 :: ks)
end
mutual
def Ex.hgt : Ex -> Nat
 | .mk _ _ _ l _ => Ex.hgtL l + 1
def Ex.hgtL : List Ex -> Nat
 | [] => 0
 | e :: r => max e.hgt (Ex.hgtL r)
end
theorem lkm_i {α : Type} (f : α -> SV) (k : Int) : ∀ tab : List (Int × α), lkm (.int .i64 k) (tab.map fun x => .int .i64 x.1) (tab.map fun x => f x.2) = ((tab.find? fun x => x.1 = k).map (·.2)).map f
 | [] => by simp [lkm]
 | x :: r => by
  simp only [List.map_cons, lkm, vkeq, List.find?_cons]
  by_cases h : k = x.1
  · subst h; simp
  · have h2 : ¬ x.1 = k := fun e => h e.symm
    simp only [h, decide_false, Bool.false_eq_true, if_false, h2]
    exact lkm_i f k r
theorem iK_tab {α : Type} (tab : List (Int × α)) : ∀ v ∈ (tab.map fun x => Value.int .i64 x.1), (KK.i .i64).is v = true := by
 intro v hv; rw [List.mem_map] at hv; obtain ⟨x, _, rfl⟩ := hv; rfl
section
variable {H : List AO}
theorem ok52 {k v : Nat} {a b c : Int} (ho : H[k]? = some ⟨[i64 a, i64 b, i64 c], 3, v, true⟩) : Ok Tryz.prog 52 [.own k 0 3 1 v] H (.ret (.tup [.slc [i64 2, i64 b, i64 b] 3, i64 b])) H := by
 have hk := getElem?_lt ho
 have e1 : objCells H k v = [i64 a, i64 b, i64 c] := objCells_of (o := ⟨[i64 a, i64 b, i64 c], 3, v, true⟩) ho rfl
 refine ok_fn hm Tryz.func52 c52 (by simp) fun hcl => ?_
 have e2 : ∀ L, objCells (H ++ L) k v = [i64 a, i64 b, i64 c] := fun L => by rw [objCells_app L hk, e1]
 simp -implicitDefEqProofs [i52, r52, e1, e2]
 refine cv_fz 3 hcl rfl ?_
 simp
end
theorem opOf_none {op : Int} (h : opOf op = none) : lkm (.int .i64 op) opsK opsW = none := by
 unfold opsK opsW; rw [lkm_i opV op opTab]; unfold opOf at h; rw [h]; rfl
theorem opOf_some {op : Int} {o : List Int × Int × Bool} (h : opOf op = some o) : lkm (.int .i64 op) opsK opsW = some (opV o) := by
 unfold opsK opsW; rw [lkm_i opV op opTab]; unfold opOf at h; rw [h]; rfl
theorem opsK_all : ∀ v ∈ opsK, (KK.i .i64).is v = true := iK_tab opTab
@[simp] theorem slen_nil : (SV.val (.slice none 0 0)).slen = 0 := rfl
@[simp] theorem isSl_nil : (SV.val (.slice none 0 0)).isSl = true := rfl
@[simp] theorem isFn_fn (f : Fn) (a b : List SV) : (SV.fn f a b).isFn = true := rfl
@[simp] theorem fnNil_fn (f : Fn) (a b : List SV) : (SV.fn f a b).fnNil = false := rfl
@[simp] theorem isFn_nil : (SV.val .nilFunc).isFn = true := rfl
@[simp] theorem fnNil_nil : (SV.val .nilFunc).fnNil = true := rfl
theorem opOf_plain {op : Int} {o : List Int × Int × Bool} (h : opOf op = some o) : op ≠ 1 ∧ op ≠ 2 := by
 constructor
 · rintro rfl; have h1 : opOf 1 = none := by decide
   rw [h1] at h; cases h
 · rintro rfl; have h1 : opOf 2 = none := by decide
   rw [h1] at h; cases h
theorem opOf_len {op : Int} {o : List Int × Int × Bool} (h : opOf op = some o) : o.1.length ≤ 3 ∧ (o.2.2 = true -> o.1.length = 3) := by
 unfold opOf at h
 rw [Option.map_eq_some_iff] at h
 obtain ⟨x, h1, rfl⟩ := h
 have h2 : ∀ x ∈ opTab, x.2.1.length ≤ 3 ∧ (x.2.2.2 = true -> x.2.1.length = 3) := by decide
 exact h2 x (List.mem_of_find?_eq_some h1)
theorem errV_und (n : Nat) (e p : Int) : (errV e p).under n = true := by
 unfold errV; split <;> rfl
@[simp] theorem errV_fz (n : Nat) (ks : List Nat) (L : List AO) (d : Nat) (e p : Int) : SV.fz n ks L (d + 1) (errV e p) = errV e p := fz_under (errV_und n e p)
theorem errV_0 (p : Int) : errV 0 p = .val .nilIface := rfl
section
variable {H : List AO} {vs : List (List UInt8)} {rest : List SV} {j : Nat} {T : TypeId}
def exO (e : Ex) : AO := ⟨e.c, 53, 0, true⟩
def oO (o : List Int × Int × Bool) : AO := ⟨[.slc (ints o.1) o.1.length, i64 o.2.1, fnM o.2.2], 100, 0, true⟩
def kO (ks : List Int) : AO := ⟨ints ks, 3, ks.length, true⟩
theorem exL_get {l : List Ex} {i : Nat} (h : i < l.length) : ((Ex.cL l).drop (i * 5)).take 5 = l[i].c := by
 rw [exL_rws, rws_at Ex.c_len h, List.take_left' (by simp)]
theorem loop80_0 {l : List Ex} (hty : H[j]? = some (tyO (varsM vs) opsM rest T)) {depth : Nat} (hd : depth < 100000) (hl : l.length ≤ 3) (hIH : ∀ e ∈ l, ∀ H, H[j]? = some (tyO (varsM vs) opsM rest T) -> Ok Tryz.prog 80 [rp j, e.v, i64 ((depth + 1 : Nat) : Int)] H (.ret (.tup [i64 (tyE vs e).1, errV (tyE vs e).2.1 (tyE vs e).2.2])) H)
 {A : AO} {B : AO} {N : Nat} {K : XE -> Env -> List AO -> Prop} {res : Except (Int × Int) (List Int)}
 (hret : ∀ f, res = .error f -> f.1 ≠ 0 -> ∀ env G, env.get 6 = i64 0 -> env.get 7 = errV f.1 f.2 -> K .ret env (H ++ A :: B :: G))
 (hexit : ∀ ks, res = .ok ks -> ks.length = l.length -> ∀ env G, env.get 4 = .ptr (.own H.length 0 0 0 0) 0 -> env.get 8 = .ptr (.own (H.length + 1) 0 0 0 0) 0 -> env.get 11 = .own (H.length + 2) 0 ks.length 1 ks.length -> K (.exit 0) env (H ++ A :: B :: kO ks :: G)) :
 ∀ (m i : Nat) (ks : List Int) (G : List AO) (env : Env), i + m = l.length -> ks.length = i -> (match tyL vs (l.drop i) with | .error f => .error f | .ok r => .ok (ks ++ r)) = res -> env.get 0 = rp j -> env.get 2 = i64 depth →
  env.get 4 = .ptr (.own H.length 0 0 0 0) 0 -> env.get 8 = .ptr (.own (H.length + 1) 0 0 0 0) 0 -> env.get 11 = .own (H.length + 2) 0 ks.length 1 ks.length -> env.get 82 = .slc (Ex.cL l) l.length -> env.get 83 = i64 l.length -> env.get 84 = i64 i →
  LI Tryz.prog N drawB l80_0 env (H ++ A :: B :: kO ks :: G) K := by
 intro m
 induction m with
 | zero =>
  intro i ks G env hi hk hr h0 h2 h4 h8 h11 h82 h83 h84
  refine li_go hm l80_0.eq_1 ?_
  have e : i = l.length := by omega
  subst e
  rw [List.drop_length] at hr
  simp only [tyL, List.append_nil] at hr
  simp -implicitDefEqProofs [h0, h2, h4, h8, h11, h82, h83, h84]
  refine hexit ks hr.symm hk _ G ?_ ?_ ?_ <;> simp [h4, h8, h11]
 | succ m ih =>
  intro i ks G env hi hk hr h0 h2 h4 h8 h11 h82 h83 h84
  refine li_go hm l80_0.eq_1 ?_
  have hlt : i < l.length := by omega
  have hlt' : (i : Int) < l.length := by omega
  have hg := exL_get hlt
  have hcl := exL_len l
  have w1 : IntKind.i64.wrap ((depth : Int) + 1) = ((depth + 1 : Nat) : Int) := wrap_succ (by omega)
  rw [List.drop_eq_getElem_cons hlt, tyL] at hr
  have hIH' := fun L => hIH l[i] (List.getElem_mem hlt) (H ++ L) (get_app_l hty L)
  simp -implicitDefEqProofs [h0, h2, h4, h8, h11, h82, h83, h84, hlt, hlt', hg, hcl]
  refine ⟨by omega, call_go (by rw [w1]; exact hIH' _) ?_⟩
  by_cases he : (tyE vs l[i]).2.1 = 0
  · rw [if_neg (by simp [he])] at hr
    have hev : errV (tyE vs l[i]).2.1 (tyE vs l[i]).2.2 = .val .nilIface := by rw [he]; rfl
    rw [hev]
    simp -implicitDefEqProofs [h0, h2, h4, h8, h11, h82, h83, h84, kO]
    refine ⟨by omega, by omega, ?_⟩
    have hkl : (ks ++ [(tyE vs l[i]).1]).length = ks.length + 1 := by simp
    refine LI.cong ?_ (ih (i + 1) (ks ++ [(tyE vs l[i]).1]) (G ++ [exO l[i], ⟨[i64 (tyE vs l[i]).1], 3, 0, true⟩]) _ (by omega) (by omega) ?_ ?_ ?_ ?_ ?_ ?_ ?_ ?_ ?_)
    · simp [kO, exO, ints]
    · rw [← hr]
      cases tyL vs (l.drop (i + 1)) <;> simp
    all_goals simp [h0, h2, h4, h8, h82, h83, hkl, wrap_suc (show i < 9223372036854775807 by omega)]
  · rw [if_pos he] at hr
    have hev := errV_of he (tyE vs l[i]).2.2
    rw [hev]
    simp -implicitDefEqProofs [h0, h2, h4, h8, h11, h82, h83, h84]
    refine hret _ hr.symm he _ _ ?_ ?_
    · simp
    · simp [hev]
theorem exL_at {l : List Ex} {i : Nat} (h : i < l.length) : (Ex.cL l)[i * 5 + 4]? = some (i64 l[i].at) := by
 rw [exL_rws, rws_get Ex.c_len h (by omega)]
 cases l[i]; rfl
theorem loop80_1 {l : List Ex} {ks ts : List Int} {own : Int} (hl : l.length ≤ 3) (hkl : ks.length = l.length) (htl : ts.length = l.length) {op k : Int} {nm : List UInt8} {p : Int} {v : Nat} {Z : AO} {N : Nat} {K : XE -> Env -> List AO -> Prop} {res : Int × Int × Int}
 (hret : res.2.1 = 10 -> res.1 = 0 -> ∀ env G, env.get 6 = i64 0 -> env.get 7 = errV res.2.1 res.2.2 -> K .ret env (H ++ G))
 (hexit : res = (own, 0, 0) -> ∀ env G, env.get 17 = i64 own -> K (.exit 2) env (H ++ G)) :
 ∀ (m i : Nat) (G : List AO) (env : Env), i + m = l.length -> chkT own (ts.drop i) (ks.drop i) (l.drop i) = res -> env.get 4 = .ptr (.own H.length 0 0 0 0) 0 -> env.get 16 = .slc (ints ts) ts.length -> env.get 17 = i64 own -> env.get 118 = .own (H.length + 2) 0 ks.length 1 ks.length -> env.get 119 = i64 ks.length -> env.get 120 = i64 i →
  LI Tryz.prog N drawB l80_1 env (H ++ ⟨[i64 op, i64 k, st (B nm), .slc (Ex.cL l) l.length, i64 p], 53, 0, true⟩ :: Z :: kO ks :: G) K := by
 intro m
 induction m with
 | zero =>
  intro i G env hi hr h4 h16 h17 h118 h119 h120
  refine li_go hm l80_1.eq_1 ?_
  have e : i = l.length := by omega
  have hn : ¬ (i : Int) < ks.length := by omega
  have hn' : ¬ i < ks.length := by omega
  rw [List.drop_of_length_le (by omega), List.drop_of_length_le (by omega), List.drop_of_length_le (by omega)] at hr
  simp -implicitDefEqProofs [h4, h16, h17, h118, h119, h120, hn, hn']
  exact hexit hr.symm _ _ (by simp [h17])
 | succ m ih =>
  intro i G env hi hr h4 h16 h17 h118 h119 h120
  refine li_go hm l80_1.eq_1 ?_
  have h1 : i < l.length := by omega
  have h2 : i < ks.length := by omega
  have h3 : i < ts.length := by omega
  have h2' : (i : Int) < ks.length := by omega
  have h3' : (i : Int) < ts.length := by omega
  have h1' : (i : Int) < l.length := by omega
  rw [List.drop_eq_getElem_cons h1, List.drop_eq_getElem_cons h2, List.drop_eq_getElem_cons h3, chkT] at hr
  have hat := exL_at h1
  have hcl := exL_len l
  by_cases hne : ks[i] = ts[i]
  · rw [if_neg (by simp [hne])] at hr
    simp -implicitDefEqProofs [h4, h16, h17, h118, h119, h120, h2, h2', h3, h3', hne, kO]
    refine ⟨by omega, by omega, ?_⟩
    refine LI.cong ?_ (ih (i + 1) G _ (by omega) hr ?_ ?_ ?_ ?_ ?_ ?_)
    · simp [kO]
    all_goals simp [h4, h16, h17, h118, h119, wrap_suc (show i < 9223372036854775807 by omega)]
  · rw [if_pos hne] at hr
    simp -implicitDefEqProofs [h4, h16, h17, h118, h119, h120, h2, h2', h3, h3', hne, kO, h1, h1', hat, hcl]
    refine ⟨by omega, by omega, by omega, call_go (ok53 (e := 10) (by decide) l[i].at) ?_⟩
    simp -implicitDefEqProofs [h4]
    subst hr
    exact hret rfl rfl _ _ (by simp) (by simp)
theorem ok24_none (hcl : closed H) {op k : Int} {nm : List UInt8} {l : List Ex} {p : Int} {depth : Nat} (hd : depth < 100000) (hty : H[j]? = some (tyO (varsM vs) opsM rest T)) (ho : opOf op = none) :
 X Tryz.prog Tryz.f80.ntmps drawB i80 (argsEnv [rp j, (Ex.mk op k nm l p).v, i64 depth]) H (Fin H.length r80 (.ret (.tup [i64 (tyE vs (.mk op k nm l p)).1, errV (tyE vs (.mk op k nm l p)).2.1 (tyE vs (.mk op k nm l p)).2.2])) H) := by
 have hd' : ¬ (depth : Int) = 100000 := by omega
 simp -implicitDefEqProofs [i80, r80, Ex.v, Ex.c, hd']
 have hal := opsK_all
 have hoc := fun L => oc_app hty rfl rfl L
 simp only [tyO] at hoc
 have hlk := opOf_none ho
 by_cases h1 : op = 1
 · subst h1
   by_cases hl0 : l.length = 0
   · have ht : tyE vs (.mk 1 k nm l p) = (1, 0, 0) := by rw [tyE, ho]; simp [hl0]
     have hl0' : (l.length : Int) = 0 := by omega
     rw [ht]
     simp -implicitDefEqProofs [rp, hoc, opsM, hlk, hl0']
     refine ⟨hal, ⟨rfl, rfl⟩, callq_go (r := bl false) (fun h => by cases h) ?_⟩
     simp -implicitDefEqProofs
     refine cv_fz 3 hcl rfl ?_
     simp [errV_0]
   · have ht : tyE vs (.mk 1 k nm l p) = (0, 3, p) := by rw [tyE, ho]; simp [hl0]
     have hl0' : ¬ (l.length : Int) = 0 := by omega
     have hnil : ¬ l = [] := fun h => hl0 (by simp [h])
     rw [ht]
     simp -implicitDefEqProofs [rp, hoc, opsM, hlk, hl0', hnil]
     refine ⟨hal, ⟨rfl, rfl⟩, call_go (ok53 (e := 3) (by decide) p) ?_⟩
     simp -implicitDefEqProofs
     refine cv_fz 3 hcl rfl ?_
     simp
 · by_cases h2 : op = 2
   · subst h2
     by_cases hl0 : l.length = 0
     · have hl0' : (l.length : Int) = 0 := by omega
       simp -implicitDefEqProofs [rp, hoc, opsM, hlk, hl0']
       refine ⟨hal, ⟨rfl, rfl⟩, callq_st (r := bl (decide (nm ∈ vs))) (fun _ => ok82 (get_app_l hty _) nm) ?_⟩
       by_cases hv : nm ∈ vs
       · have ht : tyE vs (.mk 2 k nm l p) = (1, 0, 0) := by rw [tyE, ho]; simp [hl0, hv]
         rw [ht]
         simp -implicitDefEqProofs [hv]
         refine cv_fz 3 hcl rfl ?_
         simp [errV_0]
       · have ht : tyE vs (.mk 2 k nm l p) = (0, 7, p) := by rw [tyE, ho]; simp [hl0, hv]
         rw [ht]
         simp -implicitDefEqProofs [hv]
         refine call_go (ok53 (e := 7) (by decide) p) ?_
         simp -implicitDefEqProofs
         refine cv_fz 3 hcl rfl ?_
         simp
     · have ht : tyE vs (.mk 2 k nm l p) = (0, 3, p) := by rw [tyE, ho]; simp [hl0]
       have hl0' : ¬ (l.length : Int) = 0 := by omega
       have hnil : ¬ l = [] := fun h => hl0 (by simp [h])
       rw [ht]
       simp -implicitDefEqProofs [rp, hoc, opsM, hlk, hl0', hnil]
       refine ⟨hal, ⟨rfl, rfl⟩, call_go (ok53 (e := 3) (by decide) p) ?_⟩
       simp -implicitDefEqProofs
       refine cv_fz 3 hcl rfl ?_
       simp
   · have ht : tyE vs (.mk op k nm l p) = (0, 3, p) := by rw [tyE, ho]; simp [h1, h2]
     rw [ht]
     simp -implicitDefEqProofs [rp, hoc, opsM, hlk, h1, h2]
     refine ⟨hal, ⟨rfl, rfl⟩, call_go (ok53 (e := 3) (by decide) p) ?_⟩
     simp -implicitDefEqProofs
     refine cv_fz 3 hcl rfl ?_
     simp
theorem ok24_some (hcl : closed H) {o : List Int × Int × Bool} {op k : Int} {nm : List UInt8} {l : List Ex} {p : Int} {depth : Nat} (hd : depth < 100000) (hty : H[j]? = some (tyO (varsM vs) opsM rest T)) (ho : opOf op = some o) (hIH : ∀ e ∈ l, ∀ H, H[j]? = some (tyO (varsM vs) opsM rest T) -> Ok Tryz.prog 80 [rp j, e.v, i64 ((depth + 1 : Nat) : Int)] H (.ret (.tup [i64 (tyE vs e).1, errV (tyE vs e).2.1 (tyE vs e).2.2])) H) :
 X Tryz.prog Tryz.f80.ntmps drawB i80 (argsEnv [rp j, (Ex.mk op k nm l p).v, i64 depth]) H (Fin H.length r80 (.ret (.tup [i64 (tyE vs (.mk op k nm l p)).1, errV (tyE vs (.mk op k nm l p)).2.1 (tyE vs (.mk op k nm l p)).2.2])) H) := by
 have hd' : ¬ (depth : Int) = 100000 := by omega
 simp -implicitDefEqProofs [i80, r80, Ex.v, Ex.c, hd']
 have hal := opsK_all
 have hoc := fun L => oc_app hty rfl rfl L
 simp only [tyO] at hoc
 have hlk := opOf_some ho
 obtain ⟨hp1, hp2⟩ := opOf_plain ho
 obtain ⟨ho3, hoM⟩ := opOf_len ho
 have hfm : (fnM o.2.2).isCell = true := by cases o.2.2 <;> rfl
 generalize hx : tyE vs (.mk op k nm l p) = x
 rw [tyE, ho] at hx
 by_cases hll : l.length = o.1.length
 · have hll' : (l.length : Int) = o.1.length := by omega
   simp only [hll, ne_eq, not_true_eq_false, if_false] at hx
   generalize hres : tyL vs l = res at hx
   simp -implicitDefEqProofs [rp, hoc, opsM, hlk, hp1, hp2, opV, hll]
   refine ⟨hal, hfm, by omega, by omega, ?_⟩
   refine LI.cong (H' := H ++ ⟨[i64 op, i64 k, st (B nm), .slc (Ex.cL l) l.length, i64 p], 53, 0, true⟩ :: oO o :: kO [] :: []) (by simp [oO, kO, ints, hll]) ?_
   refine loop80_0 hty hd (by omega) hIH (res := res) (fun f hf hf0 env G h6 h7 => ?_) (fun ks hks hkl env G h4 h8 h11 => ?_) l.length 0 [] [] _ (by omega) rfl ?_ ?_ ?_ ?_ ?_ ?_ ?_ ?_ ?_
   · subst hf
     simp only at hx
     subst hx
     simp -implicitDefEqProofs [h6, h7]
     refine cv_fz 3 hcl rfl ?_
     simp
   · subst hks
     simp only at hx
     by_cases hM : o.2.2 = true
     · have hl3 : l.length = 3 := by rw [hll]; exact hoM hM
       have ht : takesOf o ks = [2, ks.getD 1 0, ks.getD 1 0] := by unfold takesOf; rw [if_pos hM]
       have hw : ownOf o ks = ks.getD 1 0 := by unfold ownOf; rw [if_pos hM]
       rw [ht, hw] at hx
       obtain ⟨a, b, c, rfl⟩ : ∃ a b c, ks = [a, b, c] := by
        match ks, hkl with
        | [a, b, c], _ => exact ⟨a, b, c, rfl⟩
        | [], h => simp at h; omega
        | [a], h => simp at h; omega
        | [a, b], h => simp at h; omega
        | a :: b :: c :: d :: r, h => simp at h; omega
       simp -implicitDefEqProofs [h4, h8, h11, oO, hM, fnM]
       refine call_go (ok52 (H := _) (k := H.length + 2) (v := 3) (a := a) (b := b) (c := c) (by simp [kO, ints])) ?_
       simp -implicitDefEqProofs [h4, h8, h11]
       refine loop80_1 (l := l) (ks := [a, b, c]) (ts := [2, b, b]) (own := b) (op := op) (k := k) (nm := nm) (p := p) (v := 0) (res := x) (by omega) (by simp [hl3]) (by simp [hl3]) (fun h10 h0 env G h6 h7 => ?_) (fun he env G h17 => ?_) l.length 0 _ _ (by omega) hx ?_ ?_ ?_ ?_ ?_ ?_
       · simp -implicitDefEqProofs [h6, h7]
         rw [h0]
         refine cv_fz 3 hcl rfl ?_
         simp
       · simp -implicitDefEqProofs [h17]
         subst he
         refine cv_fz 3 hcl rfl ?_
         simp [errV_0]
       all_goals simp [h4, ints]
     · have ht : takesOf o ks = o.1 := by unfold takesOf; rw [if_neg hM]
       have hw : ownOf o ks = o.2.1 := by unfold ownOf; rw [if_neg hM]
       rw [ht, hw] at hx
       rw [Bool.not_eq_true] at hM
       simp -implicitDefEqProofs [h4, h8, h11, oO, hM, fnM]
       refine loop80_1 (l := l) (ks := ks) (ts := o.1) (own := o.2.1) (op := op) (k := k) (nm := nm) (p := p) (v := 0) (res := x) (by omega) hkl hll.symm (fun h10 h0 env G h6 h7 => ?_) (fun he env G h17 => ?_) l.length 0 _ _ (by omega) hx ?_ ?_ ?_ ?_ ?_ ?_
       · simp -implicitDefEqProofs [h6, h7]
         rw [h0]
         refine cv_fz 3 hcl rfl ?_
         simp
       · simp -implicitDefEqProofs [h17]
         subst he
         refine cv_fz 3 hcl rfl ?_
         simp [errV_0]
       all_goals simp [h4]
   · rw [← hres]; simp; cases tyL vs l <;> rfl
   all_goals simp [hll, rp]
 · have hll' : ¬ (l.length : Int) = o.1.length := by omega
   simp only [hll, ne_eq, not_false_eq_true, if_true] at hx
   subst hx
   simp -implicitDefEqProofs [rp, hoc, opsM, hlk, hp1, hp2, opV, hll', hll]
   refine ⟨hal, hfm, call_go (ok53 (e := 3) (by decide) p) ?_⟩
   simp -implicitDefEqProofs
   refine cv_fz 3 hcl rfl ?_
   simp
end
mutual
theorem ok80 {H : List AO} {vs : List (List UInt8)} {rest : List SV} {j : Nat} {T : TypeId} : ∀ (e : Ex) (depth : Nat), depth + e.hgt ≤ 100000 -> H[j]? = some (tyO (varsM vs) opsM rest T) →
 Ok Tryz.prog 80 [rp j, e.v, i64 depth] H (.ret (.tup [i64 (tyE vs e).1, errV (tyE vs e).2.1 (tyE vs e).2.2])) H
 | .mk op k nm l p, depth, hd, hty => by
  rw [Ex.hgt] at hd
  refine ok_fn hm Tryz.func80 c80 (by simp) fun hcl => ?_
  cases ho : opOf op with
  | none => exact ok24_none hcl (by omega) hty ho
  | some o => exact ok24_some hcl (by omega) hty ho fun e he H' h' => ok24L l (depth + 1) (by omega) e he h'
theorem ok24L {vs : List (List UInt8)} {rest : List SV} {j : Nat} {T : TypeId} : ∀ (l : List Ex) (depth : Nat), depth + Ex.hgtL l ≤ 100000 -> ∀ e ∈ l, ∀ {H : List AO}, H[j]? = some (tyO (varsM vs) opsM rest T) →
 Ok Tryz.prog 80 [rp j, e.v, i64 depth] H (.ret (.tup [i64 (tyE vs e).1, errV (tyE vs e).2.1 (tyE vs e).2.2])) H
 | [], depth, hd, e, he, _, _ => by simp at he
 | x :: r, depth, hd, e, he, H, hty => by
  rw [Ex.hgtL] at hd
  by_cases h : e = x
  · rw [h]; exact ok80 x depth (by omega) hty
  · exact ok24L r depth (by omega) e (by simpa [h] using he) hty
end
end Go.Proofs.YthmdmnfojbnobaaGreatDoor
namespace Go.Proofs.YthmdmnfojbnobaaGreatDoor
open Go.Ab
def wantF (vs : List (List UInt8)) (e : Ex) (k : Int) : Int × Int := if (tyE vs e).2.1 ≠ 0 then (tyE vs e).2 else if (tyE vs e).1 ≠ k then (10, e.at) else (0, 0)
theorem tyE_kind (vs : List (List UInt8)) (e : Ex) (h : (tyE vs e).2.1 ≠ 0) : (tyE vs e).1 = 0 := by
 have hc : ∀ (own : Int) (ts ks : List Int) (l : List Ex), (chkT own ts ks l).2.1 ≠ 0 -> (chkT own ts ks l).1 = 0 := by
  intro own ts
  induction ts with
  | nil => intro ks l h; simp [chkT] at h
  | cons t ts ih =>
   intro ks l h
   cases ks with
   | nil => simp [chkT] at h
   | cons k ks =>
    cases l with
    | nil => simp [chkT] at h
    | cons e l =>
     rw [chkT] at h ⊢
     split
     · rfl
     · rename_i h2; rw [if_neg h2] at h; exact ih ks l h
 cases e with
 | mk op k nm l p =>
  rw [tyE] at h ⊢
  cases ho : opOf op with
  | none =>
   simp only [ho] at h ⊢
   by_cases h1 : op = 1 ∨ op = 2
   · rw [if_pos h1] at h ⊢
     by_cases h2 : l.length ≠ 0
     · rw [if_pos h2]
     · rw [if_neg h2] at h ⊢
       by_cases h3 : op = 2 ∧ nm ∉ vs
       · rw [if_pos h3]
       · rw [if_neg h3] at h; exact absurd rfl h
   · rw [if_neg h1]
  | some o =>
   simp only [ho] at h ⊢
   by_cases hl : l.length ≠ o.1.length
   · rw [if_pos hl]
   · rw [if_neg hl] at h ⊢
     cases hk : tyL vs l with
     | error f => rfl
     | ok ks => rw [hk] at h; exact hc _ _ _ _ h
theorem tyL_err {vs : List (List UInt8)} : ∀ {l : List Ex} {f : Int × Int}, tyL vs l = .error f -> f.1 ≠ 0
 | [], f, h => by simp [tyL] at h
 | e :: r, f, h => by
  rw [tyL] at h
  split at h
  · rename_i he; cases h; exact he
  · split at h
    · rename_i hr; cases h; exact tyL_err hr
    · cases h
theorem tyE_ok (vs : List (List UInt8)) (e : Ex) (h : (tyE vs e).2.1 = 0) : (tyE vs e).2.2 = 0 := by
 have hc : ∀ (own : Int) (ts ks : List Int) (l : List Ex), (chkT own ts ks l).2.1 = 0 -> (chkT own ts ks l).2.2 = 0 := by
  intro own ts
  induction ts with
  | nil => intro ks l h; simp [chkT]
  | cons t ts ih =>
   intro ks l h
   cases ks with
   | nil => simp [chkT]
   | cons k ks =>
    cases l with
    | nil => simp [chkT]
    | cons e l =>
     rw [chkT] at h ⊢
     split
     · rename_i h2; rw [if_pos h2] at h; exact absurd h (show ¬ (10 : Int) = 0 by decide)
     · rename_i h2; rw [if_neg h2] at h; exact ih ks l h
 cases e with
 | mk op k nm l p =>
  rw [tyE] at h ⊢
  cases ho : opOf op with
  | none =>
   simp only [ho] at h ⊢
   by_cases h1 : op = 1 ∨ op = 2
   · rw [if_pos h1] at h ⊢
     by_cases h2 : l.length ≠ 0
     · rw [if_pos h2] at h; exact absurd h (show ¬ (3 : Int) = 0 by decide)
     · rw [if_neg h2] at h ⊢
       by_cases h3 : op = 2 ∧ nm ∉ vs
       · rw [if_pos h3] at h; exact absurd h (show ¬ (7 : Int) = 0 by decide)
       · rw [if_neg h3]
   · rw [if_neg h1] at h; exact absurd h (show ¬ (3 : Int) = 0 by decide)
  | some o =>
   simp only [ho] at h ⊢
   by_cases hl : l.length ≠ o.1.length
   · rw [if_pos hl] at h; exact absurd h (show ¬ (3 : Int) = 0 by decide)
   · rw [if_neg hl] at h ⊢
     cases hk : tyL vs l with
     | error f => rw [hk] at h; exact absurd h (tyL_err hk)
     | ok ks => rw [hk] at h; exact hc _ _ _ _ h
section
variable {H : List AO} {vs : List (List UInt8)} {rest : List SV} {j : Nat} {T : TypeId}
theorem ok83 {e : Ex} (hh : e.hgt ≤ 100000) (hty : H[j]? = some (tyO (varsM vs) opsM rest T)) (k : Int) : Ok Tryz.prog 83 [rp j, e.v, i64 k] H (.ret (errV (wantF vs e k).1 (wantF vs e k).2)) H := by
 refine ok_fn hm Tryz.func83 c83 (by simp) fun hcl => ?_
 have h24 := fun L => ok80 (H := H ++ L) (vs := vs) (rest := rest) (j := j) (T := T) e 0 (by omega) (get_app_l hty L)
 generalize hw : wantF vs e k = w
 unfold wantF at hw
 have hat : ∃ op n nm l p, e = .mk op n nm l p := by cases e; exact ⟨_, _, _, _, _, rfl⟩
 obtain ⟨op, n, nm, l, p, rfl⟩ := hat
 simp -implicitDefEqProofs [i83, r83, Ex.v]
 refine call_go (h24 _) ?_
 generalize tyE vs (.mk op n nm l p) = x at hw ⊢
 by_cases he : x.2.1 = 0
 · have hev : errV x.2.1 x.2.2 = .val .nilIface := by rw [he]; rfl
   rw [hev]
   rw [if_neg (by simp [he])] at hw
   by_cases hk : x.1 = k
   · rw [if_neg (by simp [hk])] at hw
     subst hw
     simp -implicitDefEqProofs [hk]
     refine cv_fz 3 hcl rfl ?_
     simp [errV_0]
   · rw [if_pos hk] at hw
     subst hw
     simp -implicitDefEqProofs [hk, Ex.c]
     refine call_go (ok53 (e := 10) (by decide) _) ?_
     simp -implicitDefEqProofs
     refine cv_fz 3 hcl rfl ?_
     simp [Ex.at]
 · have hev := errV_of he x.2.2
   rw [if_pos he] at hw
   subst hw
   rw [hev]
   simp -implicitDefEqProofs
   refine cv_fz 3 hcl rfl ?_
   rw [← hev]; simp
theorem ok49x {x : SV} (hx : IsS H x vs) {e : Ex} (hh : e.hgt ≤ 100000) (hl : vs.length < 4611686018427387904) : Ok Tryz.prog 49 [x, e.v] H (.ret (.tup [i64 (tyE vs e).1, fltV (tyE vs e).2.1 (tyE vs e).2.2])) H := by
 refine ok_fn hm Tryz.func49 c49 (by simp) fun hcl => ?_
 simp -implicitDefEqProofs [i49, r49, Ex.v]
 refine call_go (ok24x (hx.app _) hl) ?_
 simp -implicitDefEqProofs [typV, varsM, opsM]
 refine call_go (ok80 (vs := vs) (rest := []) (T := 65) e 0 (by omega) (by simp [tyO, varsM, opsM])) ?_
 have hkd := tyE_kind vs e
 have tyE_ok' := tyE_ok vs e
 generalize tyE vs e = x at hkd tyE_ok' ⊢
 by_cases he : x.2.1 = 0
 · have hev : errV x.2.1 x.2.2 = .val .nilIface := by rw [he]; rfl
   rw [hev]
   have hp := tyE_ok' he
   simp -implicitDefEqProofs
   refine cv_fz 4 hcl rfl ?_
   simp [fltV, he, hp]
 · have hev := errV_of he x.2.2
   rw [hkd he]
   simp -implicitDefEqProofs [hev]
   refine call_go (by rw [← hev]; exact ok31 he x.2.2) ?_
   simp -implicitDefEqProofs [fltV]
   refine cv_fz 4 hcl rfl ?_
   simp
end
end Go.Proofs.YthmdmnfojbnobaaGreatDoor
namespace Go.Proofs.YthmdmnfojbnobaaGreatDoor
open Go.Ab
def stgsV (l : List StageP) : SV := .slc (rws StageP.c l) l.length
def varsV (l : List VarP) : SV := .slc (rws VarP.c l) l.length
def namesOf (r : RulesP) : List (List UInt8) := r.vars.map (·.nm)
def cO (r : RulesP) : AO := tyO (varsM (namesOf r)) opsM [st (B r.nm), i64 r.pl, varsV r.vars, stgsV r.stages, .fn (.func 22) [stgsV r.stages] []] 68
def plF (r : RulesP) : Int × Int := if r.pl < 1 ∨ 4 < r.pl then (2, 0) else (0, 0)
def varF : List (List UInt8) -> List VarP -> Int × Int
 | _, [] => (0, 0)
 | l, v :: r => if v.n < -1000000000 ∨ 1000000000 < v.n then (2, v.p) else if v.nm ∈ l then (8, v.p) else varF (addS l v.nm) r
def labF : List (List UInt8) -> List StageP -> Int × Int
 | _, [] => (0, 0)
 | l, x :: r => if x.lb = [] then labF l r else if x.lb ∈ l then (8, x.p) else labF (addS l x.lb) r
def lastF (l : List StageP) : Int × Int := match l.getLast? with
 | none => (3, 0)
 | some x => if x.k ≠ 3 then (3, x.p) else (0, 0)
def findG (s : List UInt8) : Nat -> List StageP -> Int
 | _, [] => -1
 | i, x :: r => if x.lb = s then (i : Int) else findG s (i + 1) r
def findF (l : List StageP) (s : List UInt8) : Int := findG s 0 l
theorem rws_c {α : Type} {f : α -> List SV} {sz : Nat} (hf : ∀ x, (f x).length = sz) {l : List α} {i : Nat} (h : i < l.length) : ((rws f l).drop (i * sz)).take sz = f l[i] := by
 rw [rws_at hf h, List.take_left' (hf _)]
section
variable {H : List AO} {r : RulesP} {j : Nat}
theorem ok26 (ho : H[j]? = some (cO r)) : Ok Tryz.prog 26 [rp j] H (.ret (errV (plF r).1 (plF r).2)) H := by
 have hj := getElem?_lt ho
 have e1 : objCells H j 0 = (cO r).cells := objCells_of ho rfl
 simp only [cO, tyO] at e1
 refine ok_fn hm Tryz.func26 c26 (by simp [rp]) fun hcl => ?_
 simp -implicitDefEqProofs [i26, r26, rp, e1]
 generalize hp : plF r = w
 unfold plF at hp
 by_cases h1 : r.pl < 1
 · rw [if_pos (.inl h1)] at hp
   subst hp
   simp -implicitDefEqProofs [h1]
   refine call_go (ok53 (e := 2) (by decide) 0) ?_
   simp -implicitDefEqProofs
   exact cv_id
 · by_cases h2 : 4 < r.pl
   · rw [if_pos (.inr h2)] at hp
     subst hp
     simp -implicitDefEqProofs [h1, h2]
     refine call_go (ok53 (e := 2) (by decide) 0) ?_
     simp -implicitDefEqProofs
     exact cv_id
   · rw [if_neg (by omega)] at hp
     subst hp
     simp -implicitDefEqProofs [h1, h2]
     exact cv_id
theorem loop27 {vs : List VarP} (hl : vs.length < 4611686018427387904) {N : Nat} {K : XE -> Env -> List AO -> Prop} {res : Int × Int}
 (hret : res.1 ≠ 0 -> ∀ env G, env.get 2 = errV res.1 res.2 -> K .ret env (H ++ G)) (hexit : res = (0, 0) -> ∀ env G, K (.exit 0) env (H ++ G)) :
 ∀ (n i : Nat) (l : List (List UInt8)) (G : List AO) (env : Env), i + n = vs.length -> varF l (vs.drop i) = res -> env.get 3 = .mp H.length 0 -> env.get 11 = varsV vs -> env.get 12 = i64 vs.length -> env.get 13 = i64 i →
  LI Tryz.prog N drawB l27_0 env (H ++ vmO l :: G) K := by
 intro n
 induction n with
 | zero =>
  intro i l G env hi hr h3 h11 h12 h13
  refine li_go hm l27_0.eq_1 ?_
  have e : i = vs.length := by omega
  subst e
  rw [List.drop_length] at hr
  simp -implicitDefEqProofs [h3, h11, h12, h13]
  exact hexit hr.symm _ _
 | succ n ih =>
  intro i l G env hi hr h3 h11 h12 h13
  refine li_go hm l27_0.eq_1 ?_
  have hlt : i < vs.length := by omega
  have hlt' : (i : Int) < vs.length := by omega
  rw [List.drop_eq_getElem_cons hlt, varF] at hr
  have hg := rws_c VarP.c_len hlt
  have hlen := rws_len VarP.c_len vs
  have mo : ∀ G, SV.mapOf (H ++ vmO l :: G) (.mp H.length 0) = some (sks l, trues l.length) := fun G => by
   have : (H ++ vmO l :: G)[H.length]? = some (vmO l) := by simp
   simp only [SV.mapOf, this]; simp [vmO]
  have hal' : ∀ v ∈ sks l, KK.s.is v = true := fun v hv => List.all_eq_true.1 (sks_all l) v hv
  generalize vs[i] = v at hr hg
  have hlk := lkm_s v.nm l
  simp -implicitDefEqProofs [h3, h11, h12, h13, varsV, hlt, hlt', hg, hlen, VarP.c]
  by_cases h1 : v.n < -1000000000
  · rw [if_pos (.inl h1)] at hr
    subst hr
    simp -implicitDefEqProofs [h1]
    refine ⟨by omega, call_go (ok53 (e := 2) (by decide) v.p) ?_⟩
    simp -implicitDefEqProofs
    refine hret (show ¬ (2 : Int) = 0 by decide) _ _ ?_
    simp
  by_cases h2 : 1000000000 < v.n
  · rw [if_pos (.inr h2)] at hr
    subst hr
    simp -implicitDefEqProofs [h1, h2]
    refine ⟨by omega, call_go (ok53 (e := 2) (by decide) v.p) ?_⟩
    simp -implicitDefEqProofs
    refine hret (show ¬ (2 : Int) = 0 by decide) _ _ ?_
    simp
  rw [if_neg (by omega)] at hr
  by_cases hv : v.nm ∈ l
  · rw [if_pos hv] at hr hlk
    subst hr
    simp -implicitDefEqProofs [h1, h2, h3, mo, hlk]
    refine ⟨by omega, hal', call_go (ok53 (e := 8) (by decide) v.p) ?_⟩
    simp -implicitDefEqProofs
    refine hret (show ¬ (8 : Int) = 0 by decide) _ _ ?_
    simp
  · rw [if_neg hv] at hr hlk
    have e1 := setK_s v.nm l
    have e2 := setV_s v.nm l
    simp -implicitDefEqProofs [h1, h2, h3, mo, hlk]
    refine ⟨by omega, hal', s_mup_go (x := (sks l, trues l.length)) (mo _) rfl rfl (sks_all l) ?_⟩
    simp -implicitDefEqProofs [h3, h11, h12, h13, vmO, e1, e2]
    refine LI.cong ?_ (ih (i + 1) (addS l v.nm) (G ++ [⟨v.c, 77, 0, true⟩]) _ (by omega) hr ?_ ?_ ?_ ?_)
    · simp [vmO, VarP.c]
    all_goals simp [h3, h11, h12, varsV, wrap_suc (show i < 9223372036854775807 by omega)]
theorem ok27 (ho : H[j]? = some (cO r)) (hl : r.vars.length < 4611686018427387904) : Ok Tryz.prog 27 [rp j] H (.ret (errV (varF [] r.vars).1 (varF [] r.vars).2)) H := by
 have hj := getElem?_lt ho
 have e1 := fun L => oc_app ho rfl rfl L
 simp only [cO, tyO] at e1
 refine ok_fn hm Tryz.func27 c27 (by simp [rp]) fun hcl => ?_
 simp -implicitDefEqProofs [i27, r27, rp, e1, varsV]
 refine LI.cong (H' := H ++ vmO [] :: []) (by simp [vmO, sks, trues]) ?_
 refine loop27 hl (res := varF [] r.vars) (fun h0 env G h2 => ?_) (fun h0 env G => ?_) r.vars.length 0 [] [] _ (by omega) rfl ?_ ?_ ?_ ?_
 · simp -implicitDefEqProofs [h2]
   refine cv_fz 3 hcl rfl ?_
   simp
 · rw [h0]
   simp -implicitDefEqProofs
   exact cv_fz 3 hcl rfl rfl
 all_goals simp [varsV]
theorem loop28 {vs : List StageP} (hl : vs.length < 4611686018427387904) {N : Nat} {K : XE -> Env -> List AO -> Prop} {res : Int × Int}
 (hret : res.1 ≠ 0 -> ∀ env G, env.get 2 = errV res.1 res.2 -> K .ret env (H ++ G)) (hexit : res = (0, 0) -> ∀ env G, K (.exit 0) env (H ++ G)) :
 ∀ (n i : Nat) (l : List (List UInt8)) (G : List AO) (env : Env), i + n = vs.length -> labF l (vs.drop i) = res -> env.get 3 = .mp H.length 0 -> env.get 11 = stgsV vs -> env.get 12 = i64 vs.length -> env.get 13 = i64 i →
  LI Tryz.prog N drawB l28_0 env (H ++ vmO l :: G) K := by
 intro n
 induction n with
 | zero =>
  intro i l G env hi hr h3 h11 h12 h13
  refine li_go hm l28_0.eq_1 ?_
  have e : i = vs.length := by omega
  subst e
  rw [List.drop_length] at hr
  simp -implicitDefEqProofs [h3, h11, h12, h13]
  exact hexit hr.symm _ _
 | succ n ih =>
  intro i l G env hi hr h3 h11 h12 h13
  refine li_go hm l28_0.eq_1 ?_
  have hlt : i < vs.length := by omega
  have hlt' : (i : Int) < vs.length := by omega
  rw [List.drop_eq_getElem_cons hlt, labF] at hr
  have hg := rws_c StageP.c_len hlt
  have hlen := rws_len StageP.c_len vs
  have mo : ∀ G, SV.mapOf (H ++ vmO l :: G) (.mp H.length 0) = some (sks l, trues l.length) := fun G => by
   have : (H ++ vmO l :: G)[H.length]? = some (vmO l) := by simp
   simp only [SV.mapOf, this]; simp [vmO]
  have hal' : ∀ v ∈ sks l, KK.s.is v = true := fun v hv => List.all_eq_true.1 (sks_all l) v hv
  generalize vs[i] = v at hr hg
  have hlk := lkm_s v.lb l
  simp -implicitDefEqProofs [h3, h11, h12, h13, stgsV, hlt, hlt', hg, hlen, StageP.c, exS]
  by_cases h1 : v.lb = []
  · rw [if_pos h1] at hr
    have h1' : decide (v.lb = []) = true := decide_eq_true h1
    simp -implicitDefEqProofs [h1]
    refine ⟨by omega, ?_⟩
    refine ih (i + 1) l _ _ (by omega) hr ?_ ?_ ?_ ?_
    all_goals simp [h3, h11, h12, stgsV, wrap_suc (show i < 9223372036854775807 by omega)]
  rw [if_neg h1] at hr
  by_cases hv : v.lb ∈ l
  · rw [if_pos hv] at hr hlk
    subst hr
    simp -implicitDefEqProofs [h1, h3, mo, hlk]
    refine ⟨by omega, hal', call_go (ok53 (e := 8) (by decide) v.p) ?_⟩
    simp -implicitDefEqProofs
    refine hret (show ¬ (8 : Int) = 0 by decide) _ _ ?_
    simp
  · rw [if_neg hv] at hr hlk
    have e1 := setK_s v.lb l
    have e2 := setV_s v.lb l
    simp -implicitDefEqProofs [h1, h3, mo, hlk]
    refine ⟨by omega, hal', s_mup_go (x := (sks l, trues l.length)) (mo _) rfl rfl (sks_all l) ?_⟩
    simp -implicitDefEqProofs [h3, h11, h12, h13, vmO, e1, e2]
    refine LI.cong ?_ (ih (i + 1) (addS l v.lb) (G ++ [⟨v.c, 45, 0, true⟩]) _ (by omega) hr ?_ ?_ ?_ ?_)
    · simp [vmO, StageP.c, exS]
    all_goals simp [h3, h11, h12, stgsV, wrap_suc (show i < 9223372036854775807 by omega)]
theorem ok28 (ho : H[j]? = some (cO r)) (hl : r.stages.length < 4611686018427387904) : Ok Tryz.prog 28 [rp j] H (.ret (errV (labF [] r.stages).1 (labF [] r.stages).2)) H := by
 have hj := getElem?_lt ho
 have e1 := fun L => oc_app ho rfl rfl L
 simp only [cO, tyO] at e1
 refine ok_fn hm Tryz.func28 c28 (by simp [rp]) fun hcl => ?_
 simp -implicitDefEqProofs [i28, r28, rp, e1, stgsV]
 refine LI.cong (H' := H ++ vmO [] :: []) (by simp [vmO, sks, trues]) ?_
 refine loop28 hl (res := labF [] r.stages) (fun h0 env G h2 => ?_) (fun h0 env G => ?_) r.stages.length 0 [] [] _ (by omega) rfl ?_ ?_ ?_ ?_
 · simp -implicitDefEqProofs [h2]
   refine cv_fz 3 hcl rfl ?_
   simp
 · rw [h0]
   simp -implicitDefEqProofs
   exact cv_fz 3 hcl rfl rfl
 all_goals simp [stgsV]
end
end Go.Proofs.YthmdmnfojbnobaaGreatDoor
namespace Go.Proofs.YthmdmnfojbnobaaGreatDoor
open Go.Ab
section
variable {H : List AO} {r : RulesP} {j : Nat}
theorem ok29 (ho : H[j]? = some (cO r)) (hl : r.stages.length < 4611686018427387904) : Ok Tryz.prog 29 [rp j] H (.ret (errV (lastF r.stages).1 (lastF r.stages).2)) H := by
 have hj := getElem?_lt ho
 have e1 := fun L => oc_app ho rfl rfl L
 have e0 : objCells H j 0 = (cO r).cells := objCells_of ho rfl
 simp only [cO, tyO, stgsV] at e1 e0
 generalize hw : lastF r.stages = w
 unfold lastF at hw
 refine ok_fn hm Tryz.func29 c29 (by simp [rp]) fun hcl => ?_
 generalize r.stages = l at *
 by_cases h0 : l = []
 · subst h0
   have hw : (3, 0) = w := hw
   subst hw
   simp -implicitDefEqProofs [i29, r29, rp, e0, e1]
   refine call_go (ok53 (e := 3) (by decide) 0) ?_
   simp -implicitDefEqProofs
   exact cv_id
 · have hn0 : l.length ≠ 0 := fun h => h0 (by simpa using h)
   have hlt : l.length - 1 < l.length := by omega
   have hlast : l.getLast? = some l[l.length - 1] := by rw [List.getLast?_eq_getElem?]; exact List.getElem?_eq_getElem hlt
   rw [hlast] at hw
   have hg := rws_c StageP.c_len hlt
   have hlen := rws_len StageP.c_len l
   generalize l[l.length - 1] = x at hw hg
   have hnn : ¬ (l.length : Int) = 0 := by omega
   have w1 : IntKind.i64.wrap ((l.length : Int) - 1) = ((l.length - 1 : Nat) : Int) := by rw [wrap_id (by omega) (by omega)]; omega
   have hlt' : ((l.length - 1 : Nat) : Int) < l.length := by omega
   simp only at hw
   by_cases hk : x.k = 3
   · rw [if_neg (by simp [hk])] at hw
     subst hw
     simp -implicitDefEqProofs [i29, r29, rp, e0, e1, hnn, h0, w1, hlt', hg, hlen, StageP.c, exS, hk]
     refine ⟨by omega, cv_fz 3 hcl rfl ?_⟩
     simp [errV_0]
   · rw [if_pos hk] at hw
     subst hw
     simp -implicitDefEqProofs [i29, r29, rp, e0, e1, hnn, h0, w1, hlt', hg, hlen, StageP.c, exS, hk]
     refine ⟨by omega, call_go (ok53 (e := 3) (by decide) x.p) ?_⟩
     simp -implicitDefEqProofs
     refine cv_fz 3 hcl rfl ?_
     simp
theorem loop22 {l : List StageP} {s : List UInt8} (hl : l.length < 4611686018427387904) {N : Nat} {K : XE -> Env -> List AO -> Prop} {res : Int}
 (hret : ∀ env G, env.get 4 = i64 res -> K .ret env (H ++ G)) (hexit : res = -1 -> ∀ env G, K (.exit 0) env (H ++ G)) :
 ∀ (n i : Nat) (G : List AO) (env : Env), i + n = l.length -> findG s i (l.drop i) = res -> env.get 1 = st (B s) -> env.get 7 = stgsV l -> env.get 8 = i64 l.length -> env.get 9 = i64 i →
  LI Tryz.prog N drawB l22_0 env (H ++ G) K := by
 intro n
 induction n with
 | zero =>
  intro i G env hi hr h1 h7 h8 h9
  refine li_go hm l22_0.eq_1 ?_
  have e : i = l.length := by omega
  subst e
  rw [List.drop_length] at hr
  simp -implicitDefEqProofs [h1, h7, h8, h9]
  exact hexit hr.symm _ _
 | succ n ih =>
  intro i G env hi hr h1 h7 h8 h9
  refine li_go hm l22_0.eq_1 ?_
  have hlt : i < l.length := by omega
  have hlt' : (i : Int) < l.length := by omega
  rw [List.drop_eq_getElem_cons hlt, findG] at hr
  have hg := rws_c StageP.c_len hlt
  have hlen := rws_len StageP.c_len l
  generalize l[i] = v at hr hg
  by_cases hv : v.lb = s
  · rw [if_pos hv] at hr
    subst hr
    simp -implicitDefEqProofs [h1, h7, h8, h9, stgsV, hlt, hlt', hg, hlen, StageP.c, exS, hv]
    refine ⟨by omega, ?_⟩
    refine hret _ _ ?_
    simp
  · rw [if_neg hv] at hr
    simp -implicitDefEqProofs [h1, h7, h8, h9, stgsV, hlt, hlt', hg, hlen, StageP.c, exS, hv]
    refine ⟨by omega, ?_⟩
    refine ih (i + 1) _ _ (by omega) hr ?_ ?_ ?_ ?_
    all_goals simp [h1, h7, h8, stgsV, wrap_suc (show i < 9223372036854775807 by omega)]
theorem ok22 {l : List StageP} (hl : l.length < 4611686018427387904) (s : List UInt8) : Ok Tryz.prog 22 [stgsV l, st (B s)] H (.ret (i64 (findF l s))) H := by
 refine ok_fn hm Tryz.func22 c22 (by simp) fun hcl => ?_
 simp -implicitDefEqProofs [i22, r22, stgsV]
 refine LI.cong (H' := H ++ []) (by simp) ?_
 refine loop22 (s := s) hl (res := findF l s) (fun env G h4 => ?_) (fun h0 env G => ?_) l.length 0 [] _ (by omega) rfl ?_ ?_ ?_ ?_
 · simp -implicitDefEqProofs [h4]
   exact cv_fz 1 hcl rfl rfl
 · rw [h0]
   simp -implicitDefEqProofs
   exact cv_fz 1 hcl rfl rfl
 all_goals simp [stgsV]
def snC (l : List (List UInt8)) : List SV := l.map fun s => st (B s)
theorem loop13 {vs : List VarP} (hl : vs.length < 1099511627776) {N : Nat} {K : XE -> Env -> List AO -> Prop} {A : AO}
 (hexit : ∀ env G, env.get 3 = .own (H.length + 1) 0 vs.length 1 vs.length -> K (.exit 0) env (H ++ A :: ⟨snC (vs.map (·.nm)), 9, vs.length, true⟩ :: G)) :
 ∀ (n i : Nat) (G : List AO) (env : Env), i + n = vs.length -> env.get 3 = .own (H.length + 1) 0 i 1 i -> env.get 11 = varsV vs -> env.get 12 = i64 vs.length -> env.get 13 = i64 i →
  LI Tryz.prog N drawB l13_0 env (H ++ A :: ⟨snC ((vs.take i).map (·.nm)), 9, i, true⟩ :: G) K := by
 intro n
 induction n with
 | zero =>
  intro i G env hi h3 h11 h12 h13
  refine li_go hm l13_0.eq_1 ?_
  have e : i = vs.length := by omega
  subst e
  simp -implicitDefEqProofs [h3, h11, h12, h13]
  exact hexit _ G (by simp [h3])
 | succ n ih =>
  intro i G env hi h3 h11 h12 h13
  refine li_go hm l13_0.eq_1 ?_
  have hlt : i < vs.length := by omega
  have hlt' : (i : Int) < vs.length := by omega
  have hg := rws_c VarP.c_len hlt
  have hlen := rws_len VarP.c_len vs
  have htk : vs.take (i + 1) = vs.take i ++ [vs[i]] := List.take_succ_eq_append_getElem hlt
  generalize vs[i] = v at hg htk
  have hcl : (snC ((vs.take i).map (·.nm))).length = i := by simp [snC]; omega
  simp -implicitDefEqProofs [h3, h11, h12, h13, varsV, hlt, hlt', hg, hlen, VarP.c, hcl]
  refine ⟨by omega, by omega, by omega, by simp [snC]; omega, ?_⟩
  refine LI.cong ?_ (ih (i + 1) (G ++ [⟨[st (B v.nm), i64 v.n, i64 v.p], 77, 0, true⟩, ⟨[st (B v.nm)], 9, 0, true⟩]) _ (by omega) ?_ ?_ ?_ ?_)
  · rw [htk]; simp [snC]
  all_goals simp [h11, h12, varsV, wrap_suc (show i < 9223372036854775807 by omega)]
theorem snC_und (n : Nat) (l : List (List UInt8)) : SV.underL n (snC l) = true := (SV.underL_iff _ _).2 fun s hs => by
 rw [snC, List.mem_map] at hs; obtain ⟨a, _, rfl⟩ := hs; rfl
theorem ok13 (hl : r.vars.length < 1099511627776) : Ok Tryz.prog 13 [rulesV r] H (.ret (namesV (namesOf r))) H := by
 refine ok_fn hm Tryz.func13 c13 (by simp) fun hcl => ?_
 simp -implicitDefEqProofs [i13, r13, rulesV, RulesP.c]
 refine ⟨by omega, by omega, ?_⟩
 refine LI.cong (H' := H ++ ⟨[st (B r.nm), i64 r.pl, varsV r.vars, stgsV r.stages], 25, 0, true⟩ :: ⟨snC ((r.vars.take 0).map (·.nm)), 9, 0, true⟩ :: []) (by simp [snC, varsV, stgsV]) ?_
 refine loop13 hl (fun env G h3 => ?_) r.vars.length 0 [] _ (by omega) ?_ ?_ ?_ ?_
 · simp -implicitDefEqProofs [h3]
   refine cv_fz 2 hcl rfl ?_
   have e : (snC (r.vars.map (·.nm))).length = r.vars.length := by simp [snC]
   have e2 : (snC (r.vars.map (·.nm))).take r.vars.length = snC (r.vars.map (·.nm)) := List.take_of_length_le (by rw [e]; exact Nat.le_refl _)
   simp [namesV, namesOf, e, e2, map_fz_under _ _ _ _ (snC_und _ _)]
   simp [snC]
 all_goals simp [varsV]
end
end Go.Proofs.YthmdmnfojbnobaaGreatDoor
