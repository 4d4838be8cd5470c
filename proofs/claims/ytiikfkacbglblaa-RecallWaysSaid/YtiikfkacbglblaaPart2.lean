/-
  Steps of the proof: contracts of functions and plain facts that the statement rests on.
-/
import Derived.Test.YtiikfkacbglblaaPart1
set_option linter.all false
/- G7 -/
namespace Go.Proofs.Ytiikfkacbglblaa
open Go.Ab
/-- What stays, in its bounds. -/
structure Mc.Good (c : Mc) : Prop where
  l : c.l.length < 4611686018427387904
  p1 : 1 ≤ c.pl
  p2 : c.pl ≤ 1000
  m : c.most ≤ 2000
  lv : c.lv.length ≤ 100
  lvr : ∀ q ∈ c.lv, -1 ≤ q.1 ∧ q.1 < c.pl ∧ 2 ≤ q.2.1 ∧ q.2.1 ≤ 3
/-- What holds of the maker's state at a level. -/
structure MInv (c : Mc) (s : Ms) (level : Nat) : Prop where
  a0 : 0 ≤ s.at'
  vl : s.vs.length = s.is.length
  vi : ∀ j (h : j < s.vs.length), s.vs[j].inf = j ∧ s.vs[j].pl = (s.is[j]'(by omega)).1
  vsn : ∀ v ∈ s.vs, v.sn.length ≤ 100
  used : ∀ j (h : j < s.vs.length), (level : Int) ≤ s.vs[j].lv → ∃ x ∈ s.ns, x.k = 2 ∧ x.i = j
  isr : ∀ q ∈ s.is, 0 ≤ q.1 ∧ q.1 < c.pl ∧ 1 ≤ q.2 ∧ q.2 ≤ 3
  nsr : ∀ x ∈ s.ns, x.k = 2 → 0 ≤ x.i ∧ x.i < s.is.length
  il : s.is.length ≤ s.ns.length
  ml : (s.ns.length : Int) + s.pend ≤ c.most
/-- What a subtree that has been made adds. -/
structure MPost (c : Mc) (s s' : Ms) (level h : Nat) (sub : List Nd) (isN : List (Int × Int)) (vsN : List Vw) : Prop where
  ns : s'.ns = s.ns ++ sub
  is : s'.is = s.is ++ isN
  vs : s'.vs = s.vs ++ vsN
  pend : s'.pend = s.pend - 1
  lv : ∀ v ∈ vsN, (level : Int) ≤ v.lv
  wlk : Wlk s.ns.length h sub
  rg : rg sub s.is.length = some s'.is.length
  good : ∀ x ∈ sub, x.good c.pl s'.is
  inv : MInv c s' level
def buildP (c : Mc) (A B : List AO) (s : Ms) (level : Nat) (o : Out) (G' : List AO) : Prop :=
  o = .ret (i64 s.ns.length) ∧ ∃ s' sub isN vsN, MPost c s s' level (c.lv.length - level) sub isN vsN ∧ G' = c.hp A B s'
/-- That the code of build does so, at a level. -/
def BuildOk (c : Mc) (level : Nat) : Prop :=
  ∀ (A B : List AO) (s : Ms) (seen : List (List Int)), MInv c s level → 1 ≤ s.pend → (seen.length : Int) = c.pl → (∀ l ∈ seen, l.length ≤ level) →
    OkP Try.prog 60 [.ptr (.own (A.length + 1) 0 0 0 0) 0, i64 level, seenV seen] (c.hp A B s) (buildP c A B s level)
/-- What the children made so far add. -/
structure KPost (c : Mc) (s s' : Ms) (level h : Nat) (nx : List Int) (subs : List Nd) (isN : List (Int × Int)) (vsN : List Vw) : Prop where
  ns : s'.ns = s.ns ++ subs
  is : s'.is = s.is ++ isN
  vs : s'.vs = s.vs ++ vsN
  pend : s'.pend = s.pend - nx.length
  lv : ∀ v ∈ vsN, (level : Int) ≤ v.lv
  kds : Kds s.ns.length h nx subs
  rg : rg subs s.is.length = some s'.is.length
  good : ∀ x ∈ subs, x.good c.pl s'.is
  inv : MInv c s' level
theorem KPost.zero {c : Mc} {s : Ms} {level h : Nat} (hi : MInv c s level) : KPost c s s level h [] [] [] [] :=
  ⟨by simp, by simp, by simp, by simp, by simp, Kds.nil _ _, by simp [Proofs.Ytiikfkacbglblaa.rg], by simp, hi⟩
theorem KPost.snoc {c : Mc} {s s1 s2 : Ms} {level h : Nat} {nx : List Int} {subs sub : List Nd} {i1 i2 : List (Int × Int)} {v1 v2 : List Vw} (hk : KPost c s s1 level h nx subs i1 v1) (hp : MPost c s1 s2 level h sub i2 v2) :
    KPost c s s2 level h (nx ++ [(s1.ns.length : Int)]) (subs ++ sub) (i1 ++ i2) (v1 ++ v2) := by
  refine ⟨?_, ?_, ?_, ?_, ?_, ?_, ?_, ?_, hp.inv⟩
  · rw [hp.ns, hk.ns, List.append_assoc]
  · rw [hp.is, hk.is, List.append_assoc]
  · rw [hp.vs, hk.vs, List.append_assoc]
  · rw [hp.pend, hk.pend]; simp; omega
  · intro v hv
    rcases List.mem_append.1 hv with h | h
    · exact hk.lv v h
    · exact hp.lv v h
  · exact hk.kds.snoc hp.wlk (by rw [hk.ns]; simp)
  · rw [rg_app, hk.rg]; exact hp.rg
  · intro x hx
    rcases List.mem_append.1 hx with h | h
    · rw [hp.is]; exact (hk.good x h).app _
    · exact hp.good x h
section
variable {A B : List AO} {c : Mc} {s : Ms}
def nodX (A B : List AO) (ch : Bool) (x0 info : Int) (nx ws : List Int) : AO :=
  ⟨[i64 (if ch = true then 1 else 2), i64 (if ch = true then 0 else x0), i64 (if ch = true then 0 else info), .own (A.length + (B.length + 9)) 0 nx.length 1 nx.length, if ch = true then .own (A.length + (B.length + 10)) 0 ws.length 1 ws.length else .val (.slice none 0 0), .val (.slice none 0 0)], 37, 0, true⟩
def intO (l : List Int) : AO := ⟨ints l, 3, l.length, true⟩
theorem Cl_hp {n : Nat} (hA : Cl n A) (hB : Cl n B) (hn : A.length + 6 ≤ n) : Cl n (c.hp A B s) := by
  unfold Mc.hp
  refine hA.app ?_
  refine Cl.cons (by simp [Mc.D, SV.underL, SV.under]) (Cl.cons (by simp only [Mc.M, SV.underL, SV.under, Bool.and_eq_true, decide_eq_true_eq, Bool.and_true]; refine ⟨?_, ?_, ?_, ?_, ?_, ?_, ?_, ?_, ?_, ?_⟩ <;> first | omega | rfl) (Cl.cons ?_ (Cl.cons ?_ (Cl.cons ?_ (Cl.cons ?_ hB)))))
  · exact rws_under (fun x => by simp [lcN, SV.underL, SV.under]) _
  · exact rws_under (fun x => by simp [Vw.cells, SV.underL, SV.under]) _
  · exact rws_under (cN_under _) _
  · exact rws_under (fun x => by simp [icN, SV.underL, SV.under]) _
def w60 : IC := match l60_0 with
  | .keep _ (.seq _ (.seq (.blk 1 (.seq _ (.seq _ (.seq _ w)))) _)) => w
  | _ => .skip
set_option maxRecDepth 10000 in
theorem call60 {l : List (List Int)} {ch : Bool} {x0 x1 x2 info : Int} {level : Nat} {g : AO} {s' : Ms} {N : Nat} {K : XE → Env → List AO → Prop} (hb : BuildOk c (level + 1)) {nx ws : List Int} {L L2 : List AO} {env : Env} (hl : (l.length : Int) = c.pl) (hll : ∀ x ∈ l, x.length ≤ level + 1) (hi : MInv c s' (level + 1)) (hp : 1 ≤ s'.pend) (hm : level ≤ 1000) (hx : nx.length ≤ 1000) (hns : s'.ns.length ≤ 100000)
    (h0 : env.get 0 = .ptr (.own (A.length + 1) 0 0 0 0) 0) (h1 : env.get 1 = i64 level) (h11 : env.get 11 = .ptr (.own (A.length + (B.length + 8)) 0 0 0 0) 0) (h13 : env.get 13 = .own (A.length + (B.length + (L.length + 11))) 0 l.length 1 l.length)
    (hK : ∀ env' v1 v2 s2 sub isN vsN, MPost c s' s2 (level + 1) (c.lv.length - (level + 1)) sub isN vsN → (∀ t, t < 185 → env'.get t = env.get t) → K .normal env' (c.hp A (B ++ g :: ⟨[i64 x0, i64 x1, i64 x2], 104, 0, true⟩ :: nodX A B ch x0 info (nx ++ [(s'.ns.length : Int)]) ws :: intO (nx ++ [(s'.ns.length : Int)]) :: intO ws :: (L ++ ⟨[], 35, v1, false⟩ :: (L2 ++ [⟨[i64 v2], 3, 0, true⟩]))) s2)) :
    X Try.prog N drawB w60 env (c.hp A (B ++ g :: ⟨[i64 x0, i64 x1, i64 x2], 104, 0, true⟩ :: nodX A B ch x0 info nx ws :: intO nx :: intO ws :: (L ++ nowO l :: L2)) s') K := by
  have w1 : IntKind.i64.wrap ((level : Int) + 1) = ((level + 1 : Nat) : Int) := wrap_succ (by omega)
  simp -implicitDefEqProofs [w60, l60_0, h0, h1, h11, h13, nodX, Mc.hp, w1]
  have hb' := hb A (B ++ g :: ⟨[i64 x0, i64 x1, i64 x2], 104, 0, true⟩ :: nodX A B ch x0 info nx ws :: intO nx :: intO ws :: (L ++ ⟨[], 35, l.length + 1, false⟩ :: L2)) s' l hi hp hl hll
  refine call_goP (OkP.give (A.length + (B.length + (L.length + 11))) 1 (o := nowO l) ?_ rfl (OkP.cast ?_ ?_ hb')) ?_
  · simp only [get_app, get_c2, List.getElem?_cons_succ, get_app0, List.getElem?_cons_zero]
  · simp [nowO, seenV, List.take_of_length_le]
  · simp [set_app, set_app0, set_c2, Mc.hp, nodX, nowO, AO.dead]
  rintro o G' ⟨rfl, s2, sub, isN, vsN, hp2, rfl⟩
  simp -implicitDefEqProofs [w60, l60_0, h0, h1, h11, h13, nodX, Mc.hp, w1]
  refine ⟨by omega, by omega, ⟨rfl, rfl, rfl, by simp [intO]⟩, ?_⟩
  have e : ints (nx ++ [(s'.ns.length : Int)]) = ints nx ++ [i64 s'.ns.length] := by simp [ints]
  have := hK ((194, (SV.own (A.length + (B.length + 8)) 0 0 0 0).ptr 3) :: (193, SV.own (A.length + (B.length + 9)) 0 (nx.length + 1) 1 (nx.length + 1)) :: (192, SV.own (A.length + (B.length + (L.length + (L2.length + 12)))) 0 1 1 0) :: (191, i64 s'.ns.length) :: (190, SV.own (A.length + (B.length + (L.length + 11))) 0 l.length 1 l.length) :: (189, i64 (level + 1)) :: (188, i64 level) ::
    (187, (SV.own (A.length + 1) 0 0 0 0).ptr 0) :: (186, SV.own (A.length + (B.length + 9)) 0 nx.length 1 nx.length) :: (185, (SV.own (A.length + (B.length + 8)) 0 0 0 0).ptr 3) :: env) (l.length + 1) s'.ns.length s2 sub isN vsN hp2 (fun t ht => by
      simp only [Env.get]
      repeat rw [if_neg (by omega)])
  simpa [Mc.hp, nodX, intO, e] using this
set_option maxRecDepth 10000 in
theorem loop60_0 {seen : List (List Int)} {ch : Bool} {x0 x1 x2 info : Int} {level many : Nat} {g : AO} {s1 : Ms} {N : Nat} {K : XE → Env → List AO → Prop} (hc : c.Good) (hb : BuildOk c (level + 1)) (hA : Cl (A.length + (B.length + 6)) A) (hB : Cl (A.length + (B.length + 6)) B) (hg : Cl 0 [g])
    (hs : (seen.length : Int) = c.pl) (hsl : ∀ l ∈ seen, l.length ≤ level) (hlv : level < c.lv.length) (hmy : many ≤ 3) (hx0 : ch = decide (x0 < 0)) (hp1 : (many : Int) ≤ s1.pend) {at' : Nat}
    (hexit : ∀ env L s' nx ws subs isN vsN, nx.length = many → KPost c s1 s' (level + 1) (c.lv.length - (level + 1)) nx subs isN vsN → (ws.length = if ch = true then many else 0) → (∀ w ∈ ws, 1 ≤ w ∧ w ≤ 3) → Cl 0 L →
      env.get 0 = .ptr (.own (A.length + 1) 0 0 0 0) 0 → env.get 7 = i64 at' → env.get 11 = .ptr (.own (A.length + (B.length + 8)) 0 0 0 0) 0 →
      K (.exit 0) env (c.hp A (B ++ g :: ⟨[i64 x0, i64 x1, i64 x2], 104, 0, true⟩ :: nodX A B ch x0 info nx ws :: intO nx :: intO ws :: L) s')) :
    ∀ (n : Nat) (env : Env) (L : List AO) (s' : Ms) (nx ws : List Int) (subs : List Nd) (isN : List (Int × Int)) (vsN : List Vw), nx.length + n = many → KPost c s1 s' (level + 1) (c.lv.length - (level + 1)) nx subs isN vsN →
      (ws.length = if ch = true then nx.length else 0) → (∀ w ∈ ws, 1 ≤ w ∧ w ≤ 3) → Cl 0 L →
      env.get 0 = .ptr (.own (A.length + 1) 0 0 0 0) 0 → env.get 1 = i64 level → env.get 2 = seenV seen → env.get 7 = i64 at' → env.get 8 = .ptr (.own (A.length + (B.length + 7)) 0 0 0 0) 0 → env.get 9 = i64 many → env.get 11 = .ptr (.own (A.length + (B.length + 8)) 0 0 0 0) 0 → env.get 12 = i64 nx.length →
      LI Try.prog N drawB l60_0 env (c.hp A (B ++ g :: ⟨[i64 x0, i64 x1, i64 x2], 104, 0, true⟩ :: nodX A B ch x0 info nx ws :: intO nx :: intO ws :: L) s') K := by
  intro n
  induction n with
  | zero =>
    intro env L s' nx ws subs isN vsN hn hk hws hw hL h0 h1 h2 h7 h8 h9 h11 h12
    refine li_go hm' l60_0.eq_1 ?_
    simp -implicitDefEqProofs [h0, h1, h2, h7, h8, h9, h11, h12, show ¬ nx.length < many by omega]
    refine hexit _ L s' nx ws subs isN vsN (by omega) hk (by rw [hws]; split <;> omega) hw hL ?_ ?_ ?_ <;> simp [h0, h7, h11]
  | succ n ih =>
    intro env L s' nx ws subs isN vsN hn hk hws hw hL h0 h1 h2 h7 h8 h9 h11 h12
    refine li_go hm' l60_0.eq_1 ?_
    have hlt : nx.length < many := by omega
    have w1 : IntKind.i64.wrap ((nx.length : Int) + 1) = ((nx.length + 1 : Nat) : Int) := wrap_succ (by omega)
    have hps := hk.pend
    have hil := hk.inv.ml
    have hcm := hc.m
    have hcl' := hc.lv
    have hcp := hc.p2
    -- what comes behind the inner loop, for both kinds of nodes
    have key : ∀ (ws' : List Int) (s2 : Ms) (L2 : List AO) (env : Env), KPost c s1 s2 (level + 1) (c.lv.length - (level + 1)) nx subs isN vsN → (ws'.length = if ch = true then nx.length + 1 else 0) → (∀ w ∈ ws', 1 ≤ w ∧ w ≤ 3) → Cl 0 L2 →
        env.get 0 = .ptr (.own (A.length + 1) 0 0 0 0) 0 → env.get 1 = i64 level → env.get 2 = seenV seen → env.get 7 = i64 at' → env.get 8 = .ptr (.own (A.length + (B.length + 7)) 0 0 0 0) 0 → env.get 9 = i64 many → env.get 11 = .ptr (.own (A.length + (B.length + 8)) 0 0 0 0) 0 → env.get 12 = i64 nx.length →
        env.get 13 = .own (A.length + (B.length + (L2.length + 11))) 0 0 1 0 → env.get 14 = i64 0 →
        ∀ K' K2 : XE → Env → List AO → Prop, (∀ env H, X Try.prog N drawB w60 env H K2 → K' (.exit 2) env H) → (∀ (e : Env) (H : List AO), e.get 12 = i64 nx.length → LI Try.prog N drawB l60_0 ((12, i64 ((nx.length + 1 : Nat) : Int)) :: (135, i64 ((nx.length + 1 : Nat) : Int)) :: (134, i64 nx.length) :: e) H K → K2 .normal e H) →
        LI Try.prog N drawB l60_1 env (c.hp A (B ++ g :: ⟨[i64 x0, i64 x1, i64 x2], 104, 0, true⟩ :: nodX A B ch x0 info nx ws' :: intO nx :: intO ws' :: (L2 ++ [nowO []])) s2) K' := by
      intro ws' s2 L2 env hk2 hws2 hw2 hL2 g0 g1 g2 g7 g8 g9 g11 g12 g13 g14 K' K2 hK' hK2
      have hps2 := hk2.pend
      have hil2 := hk2.inv.ml
      have hm : A.length + (B.length + 6) ≤ A.length + ((B ++ g :: ⟨[i64 x0, i64 x1, i64 x2], 104, 0, true⟩ :: nodX A B ch x0 info nx ws' :: intO nx :: intO ws' :: L2).length + 6) := by simp
      have hclo : closed (c.hp A (B ++ g :: ⟨[i64 x0, i64 x1, i64 x2], 104, 0, true⟩ :: nodX A B ch x0 info nx ws' :: intO nx :: intO ws' :: L2) s2) := by
        rw [closed_iff, hp_len]
        refine Cl_hp (hA.mono hm) ((hB.mono hm).app ?_) (by omega)
        refine Cl.cons ((SV.underL_iff _ _).2 fun y hy => SV.under_mono (Nat.zero_le _) y (hg g (by simp) y hy)) (Cl.cons (by simp [SV.underL, SV.under]) (Cl.cons ?_ (Cl.cons (underL_ints _ _) (Cl.cons (underL_ints _ _) (hL2.mono (Nat.zero_le _))))))
        cases ch <;> simp [nodX, SV.underL, SV.under] <;> omega
      refine LI.cong (H' := c.hp A ((B ++ g :: ⟨[i64 x0, i64 x1, i64 x2], 104, 0, true⟩ :: nodX A B ch x0 info nx ws' :: intO nx :: intO ws' :: L2) ++ nowO [] :: []) s2) (by simp) ?_
      refine loop60_1 (seen := seen) (m := level) (jp := B.length + 1) (x0 := x0) (x1 := x1) (x2 := x2) (i := nx.length) (y1 := level) (y7 := at') (y9 := many) (y11 := A.length + (B.length + 8)) hclo (by omega) hsl (by omega) (by simp) (fun env L l hL hl hl2 k0 k1 k2 k7 k8 k9 k11 k12 k13 => ?_) seen.length env [] [] (by simp) (Cl.nil _) (by simp) g0 g1 g2 g7 (by rw [g8]) g9 g11 g12 (by rw [g13]; simp; omega) g14
      refine hK' _ _ ?_
      have e : c.hp A ((B ++ g :: ⟨[i64 x0, i64 x1, i64 x2], 104, 0, true⟩ :: nodX A B ch x0 info nx ws' :: intO nx :: intO ws' :: L2) ++ nowO l :: L) s2 = c.hp A (B ++ g :: ⟨[i64 x0, i64 x1, i64 x2], 104, 0, true⟩ :: nodX A B ch x0 info nx ws' :: intO nx :: intO ws' :: (L2 ++ nowO l :: L)) s2 := by simp
      rw [e]
      refine call60 hb (l := l) (L := L2) (L2 := L) (by rw [hl]; exact hs) hl2 hk2.inv (by omega) (by omega) (by omega) (by omega) k0 k1 k11 (by rw [k13, hl]; simp; omega) (fun env' v1 v2 s3 sub isN' vsN' hpo he => ?_)
      refine hK2 _ _ (by rw [he 12 (by omega)]; exact k12) ?_
      refine ih _ _ s3 (nx ++ [(s2.ns.length : Int)]) ws' _ _ _ (by simp; omega) (hk2.snoc hpo) (by simpa using hws2) hw2 (hL2.app (Cl.cons rfl (hL.app (Cl.cons rfl (Cl.nil _))))) ?_ ?_ ?_ ?_ ?_ ?_ ?_ ?_
      all_goals simp [he, k0, k1, k2, k7, k8, k9, k11]
    cases ch with
    | true =>
      have hneg : x0 < 0 := by simpa using hx0.symm
      simp -implicitDefEqProofs [h0, h1, h2, h7, h8, h9, h11, h12, hlt, hneg, nodX, Mc.hp, Mc.M]
      have h59 := ok59m (A := A) (c := c) (B := B ++ g :: ⟨[i64 x0, i64 x1, i64 x2], 104, 0, true⟩ :: nodX A B true x0 info nx ws :: intO nx :: intO ws :: L) (n := 3) (s := s') hc.l hk.inv.a0 (by omega)
      refine call_goP (by simpa [Mc.hp, Mc.M, nodX] using h59) ?_
      rintro o G' ⟨v, a, rfl, hv1, hv2, hv3, rfl⟩
      have w2 : IntKind.i64.wrap (1 + v) = 1 + v := wrap_id (by omega) (by omega)
      simp -implicitDefEqProofs [h0, h1, h2, h7, h8, h9, h11, h12, hlt, hneg, nodX, Mc.hp, Mc.M, w2, intO]
      simp at hws
      refine ⟨by omega, by omega, ?_⟩
      have hk3 : KPost c s1 { s' with at' := a } (level + 1) (c.lv.length - (level + 1)) nx subs isN vsN := ⟨hk.ns, hk.is, hk.vs, hk.pend, hk.lv, hk.kds, hk.rg, hk.good, ⟨hv1, hk.inv.vl, hk.inv.vi, hk.inv.vsn, hk.inv.used, hk.inv.isr, hk.inv.nsr, hk.inv.il, hk.inv.ml⟩⟩
      refine LI.cong (H' := c.hp A (B ++ g :: ⟨[i64 x0, i64 x1, i64 x2], 104, 0, true⟩ :: nodX A B true x0 info nx (ws ++ [1 + v]) :: intO nx :: intO (ws ++ [1 + v]) :: ((L ++ [⟨[i64 (1 + v)], 3, 0, true⟩]) ++ [nowO []])) { s' with at' := a }) (by simp [Mc.hp, Mc.M, nodX, nowO, intO, show ints (ws ++ [1 + v]) = ints ws ++ [i64 (1 + v)] by simp [ints]])
        (key (ws ++ [1 + v]) _ _ _ hk3 (by simp; omega) ?_ (hL.app (Cl.cons rfl (Cl.nil _))) ?_ ?_ ?_ ?_ ?_ ?_ ?_ ?_ ?_ ?_ _ _ (fun env H hX => hX) ?_)
      · intro w hw'
        rcases List.mem_append.1 hw' with h | h
        · exact hw w h
        · simp at h; omega
      all_goals try (simp [h0, h1, h2, h7, h8, h9, h11, h12]; done)
      intro e H g12 hLI
      simp -implicitDefEqProofs [g12, w1]
      exact hLI
    | false =>
      have hneg : ¬ x0 < 0 := by simpa using hx0.symm
      simp -implicitDefEqProofs [h0, h1, h2, h7, h8, h9, h11, h12, hlt, hneg, nodX, Mc.hp, Mc.M]
      refine LI.cong (H' := c.hp A (B ++ g :: ⟨[i64 x0, i64 x1, i64 x2], 104, 0, true⟩ :: nodX A B false x0 info nx ws :: intO nx :: intO ws :: (L ++ [nowO []])) s') (by simp [Mc.hp, Mc.M, nodX, nowO]) (key ws s' L _ hk hws hw hL ?_ ?_ ?_ ?_ ?_ ?_ ?_ ?_ ?_ ?_ _ _ (fun env H hX => hX) ?_)
      all_goals try (simp [h0, h1, h2, h7, h8, h9, h11, h12]; done)
      intro e H g12 hLI
      simp -implicitDefEqProofs [g12, w1]
      exact hLI
end
end Go.Proofs.Ytiikfkacbglblaa

/- G8 -/
namespace Go.Proofs.Ytiikfkacbglblaa
open Go.Ab
def phN : Nd := ⟨0, 0, 0, [], [], []⟩
/-- The state behind the choice of a set. -/
structure MMid (c : Mc) (s s2 : Ms) (level : Nat) (x0 : Int) (info many : Nat) : Prop where
  ns : s2.ns = s.ns ++ [phN]
  pend : s2.pend = s.pend - 1
  a0 : 0 ≤ s2.at'
  m3 : 1 ≤ many ∧ many ≤ 3
  set : (x0 < 0 ∧ info = 0 ∧ s2.is = s.is ∧ s2.vs = s.vs) ∨
    (0 ≤ x0 ∧ s2.is[info]? = some (x0, (many : Int)) ∧ ((s2.is = s.is ∧ s2.vs = s.vs ∧ ∃ h : info < s.vs.length, s.vs[info].lv = level) ∨
      (x0 < c.pl ∧ info = s.is.length ∧ s2.is = s.is ++ [(x0, (many : Int))] ∧ ∃ sn : List Int, sn.length ≤ 100 ∧ s2.vs = s.vs ++ [⟨x0, level, sn, info⟩])))
section
variable {c : Mc} {s s2 s3 : Ms} {level info many : Nat} {x0 : Int}
theorem set_last {α : Type} (l : List α) (p x : α) (r : List α) : (l ++ p :: r).set l.length x = l ++ x :: r := by
  rw [List.set_append_right _ _ (Nat.le_refl _)]; simp
/-- An end that has been made. -/
theorem post_end {ps : List Int} {a : Int} {h : Nat} (hc : c.Good) (hi : MInv c s level) (hp1 : 1 ≤ s.pend) (hns : s3.ns = s.ns ++ [phN]) (hpe : s3.pend = s.pend - 1) (his : s3.is = s.is) (hvs : s3.vs = s.vs) (hps : (ps.length : Int) = c.pl) (hw : ∀ w ∈ ps, -3 ≤ w ∧ w ≤ 3) (ha : 0 ≤ a) :
    MPost c s (s3.endN s.ns.length ps a) level h [⟨3, 0, 0, [], [], ps⟩] [] [] := by
  have e : (s3.endN s.ns.length ps a).ns = s.ns ++ [⟨3, 0, 0, [], [], ps⟩] := by simp only [Ms.endN, hns]; exact set_last _ _ _ _
  have ei : (s3.endN s.ns.length ps a).is = s.is := his
  have ev : (s3.endN s.ns.length ps a).vs = s.vs := hvs
  refine ⟨e, by rw [ei]; simp, by rw [ev]; simp, hpe, by simp, Wlk.leaf _ _ rfl, by simp [rg, ei], ?_, ⟨ha, ?_, ?_, ?_, ?_, ?_, ?_, ?_, ?_⟩⟩
  · intro x hx
    simp at hx; subst hx
    exact .inr (.inr ⟨rfl, rfl, rfl, rfl, rfl, hps, fun w h => by have := hw w h; omega⟩)
  · rw [ei, ev]; exact hi.vl
  · intro j hj
    have hj' : j < s.vs.length := by rw [← ev]; exact hj
    have := hi.vi j hj'
    simp only [ei, ev]; exact this
  · rw [ev]; exact hi.vsn
  · intro j hj hl
    have hj' : j < s.vs.length := by rw [← ev]; exact hj
    simp only [ev] at hl
    obtain ⟨x, h1, h2⟩ := hi.used j hj' hl
    exact ⟨x, by rw [e]; exact List.mem_append_left _ h1, h2⟩
  · rw [ei]; exact hi.isr
  · intro x hx hk
    rw [e] at hx
    rcases List.mem_append.1 hx with h | h
    · rw [ei]; exact hi.nsr x h hk
    · simp at h; subst h; simp at hk
  · rw [ei, e]; have := hi.il; simp; omega
  · rw [e]; have := hi.ml; have : (s3.endN s.ns.length ps a).pend = s.pend - 1 := hpe; simp; omega
theorem MMid.set' (hm : MMid c s s2 level x0 info many) (hi : MInv c s level) : ∃ i1 v1, s2.is = s.is ++ i1 ∧ s2.vs = s.vs ++ v1 ∧ (∀ v ∈ v1, v.lv = level ∧ v.sn.length ≤ 100 ∧ i1 = [(v.pl, (many : Int))] ∧ v.inf = s.is.length ∧ 0 ≤ v.pl ∧ v.pl < c.pl) ∧ i1.length = v1.length ∧ i1.length ≤ 1 := by
  rcases hm.set with ⟨_, _, h1, h2⟩ | ⟨h0, _, ⟨h1, h2, _⟩ | ⟨h3, h4, h1, sn, h5, h2⟩⟩
  · exact ⟨[], [], by simp [h1], by simp [h2], by simp, rfl, by simp⟩
  · exact ⟨[], [], by simp [h1], by simp [h2], by simp, rfl, by simp⟩
  · exact ⟨_, _, h1, h2, by simp [h5, h0, h3, h4], rfl, by simp⟩
/-- What holds while the children are made. -/
theorem MMid.inv (hm : MMid c s s2 level x0 info many) (hc : c.Good) (hi : MInv c s level) (hp1 : 1 ≤ s.pend) (hle : (s.ns.length : Int) + 1 + s2.pend + many ≤ c.most) : MInv c { s2 with pend := s2.pend + many } (level + 1) := by
  obtain ⟨i1, v1, e1, e2, h1, h2, h3⟩ := hm.set' hi
  have hvl := hi.vl
  refine ⟨hm.a0, ?_, ?_, ?_, ?_, ?_, ?_, ?_, ?_⟩
  · simp only [e1, e2, List.length_append]; omega
  · intro j hj
    simp only [e2, List.length_append] at hj
    simp only [e1, e2]
    by_cases hj' : j < s.vs.length
    · rw [List.getElem_append_left hj', List.getElem_append_left (by omega)]
      exact hi.vi j hj'
    · have hj2 : j - s.vs.length < v1.length := by omega
      rw [List.getElem_append_right (by omega), List.getElem_append_right (by omega)]
      obtain ⟨k1, k2, k3, k4, k5, k6⟩ := h1 _ (List.getElem_mem hj2)
      have : j = s.vs.length := by omega
      refine ⟨by rw [k4]; omega, ?_⟩
      simp only [k3]; simp
  · intro v hv
    simp only [e2] at hv
    rcases List.mem_append.1 hv with h | h
    · exact hi.vsn v h
    · exact (h1 v h).2.1
  · intro j hj hl
    simp only [e2, List.length_append] at hj hl
    by_cases hj' : j < s.vs.length
    · rw [List.getElem_append_left hj'] at hl
      obtain ⟨x, k1, k2⟩ := hi.used j hj' (by omega)
      exact ⟨x, by simp only [hm.ns]; exact List.mem_append_left _ k1, k2⟩
    · rw [List.getElem_append_right (by omega)] at hl
      have := (h1 _ (List.getElem_mem (show j - s.vs.length < v1.length by omega))).1
      omega
  · intro q hq
    simp only [e1] at hq
    rcases List.mem_append.1 hq with h | h
    · exact hi.isr q h
    · cases hv : v1 with
      | nil => rw [hv] at h2; simp at h2; rw [h2] at h; simp at h
      | cons v r =>
        obtain ⟨k1, k2, k3, k4, k5, k6⟩ := h1 v (by rw [hv]; simp)
        rw [k3] at h; simp at h; subst h
        have := hm.m3
        exact ⟨k5, k6, by omega, by omega⟩
  · intro x hx hk
    simp only [hm.ns] at hx
    rcases List.mem_append.1 hx with h | h
    · have := hi.nsr x h hk
      simp only [e1, List.length_append]; omega
    · simp [phN] at h; subst h; simp at hk
  · have := hi.il
    simp only [e1, hm.ns, List.length_append, List.length_singleton]; omega
  · simp only [hm.ns, List.length_append, List.length_singleton]; have := hm.pend; omega
/-- The node itself, behind its children. -/
def nodeN (ch : Bool) (x0 : Int) (info : Nat) (nx ws : List Int) : Nd := if ch = true then ⟨1, 0, 0, nx, ws, []⟩ else ⟨2, x0, info, nx, [], []⟩
theorem post_node {s4 : Ms} {ch : Bool} {nx ws : List Int} {subs : List Nd} {isN : List (Int × Int)} {vsN : List Vw} {h' : Nat} (hc : c.Good) (hi : MInv c s level) (hp1 : 1 ≤ s.pend) (hm : MMid c s s2 level x0 info many) (hch : ch = decide (x0 < 0))
    (hk : KPost c { s2 with pend := s2.pend + many } s4 (level + 1) h' nx subs isN vsN) (hnx : nx.length = many) (hws : ws.length = if ch = true then many else 0) (hw : ∀ w ∈ ws, 1 ≤ w ∧ w ≤ 3) :
    ∃ isM vsM, MPost c s { s4 with ns := s4.ns.set s.ns.length (nodeN ch x0 info nx ws) } level (h' + 1) (nodeN ch x0 info nx ws :: subs) isM vsM := by
  obtain ⟨i1, v1, e1, e2, h1, h2, h3⟩ := hm.set' hi
  have hvl := hi.vl
  have m3 := hm.m3
  have hns4 : s4.ns = s.ns ++ phN :: subs := by rw [hk.ns]; simp [hm.ns]
  have his4 : s4.is = s.is ++ (i1 ++ isN) := by rw [hk.is]; simp [e1]
  have hvs4 : s4.vs = s.vs ++ (v1 ++ vsN) := by rw [hk.vs]; simp [e2]
  have e : s4.ns.set s.ns.length (nodeN ch x0 info nx ws) = s.ns ++ nodeN ch x0 info nx ws :: subs := by rw [hns4]; exact set_last _ _ _ _
  have hkn : (nodeN ch x0 info nx ws).nx = nx := by unfold nodeN; split <;> rfl
  have hkd : Kds (s.ns.length + 1) h' nx subs := by have := hk.kds; simp only [hm.ns, List.length_append, List.length_singleton] at this; exact this
  have hinfo : ch = false → s4.is[info]? = some (x0, (many : Int)) ∧ 0 ≤ x0 ∧ x0 < c.pl := by
    intro hf
    have hx : ¬ x0 < 0 := by rw [hf] at hch; simpa using hch.symm
    have key : s2.is[info]? = some (x0, (many : Int)) := by
      rcases hm.set with ⟨h, _⟩ | ⟨_, h, _⟩
      · exact absurd h hx
      · exact h
    refine ⟨by rw [hk.is, List.getElem?_append_left (getElem?_lt key)]; exact key, by omega, ?_⟩
    have := hk.inv.isr (x0, (many : Int)) (by rw [hk.is]; exact List.mem_append_left _ (List.mem_of_getElem? key))
    exact this.2.1
  refine ⟨i1 ++ isN, v1 ++ vsN, e, his4, hvs4, ?_, ?_, Wlk.node (by rw [hkn]; exact hkd), ?_, ?_, ?_⟩
  · show s4.pend = _
    rw [hk.pend]; simp only [hm.pend, hnx]; omega
  · intro v hv
    rcases List.mem_append.1 hv with h | h
    · rw [(h1 v h).1]; exact Int.le_refl _
    · have := hk.lv v h; omega
  · have hr := hk.rg
    simp only [e1] at hr
    cases ch with
    | true =>
      have hx : x0 < 0 := by simpa using hch.symm
      have hi1 : i1 = [] := by
        rcases hm.set with ⟨_, _, h, _⟩ | ⟨h, _⟩
        · rw [e1] at h; simpa using h
        · omega
      rw [hi1] at hr; simp at hr
      simp [rg, nodeN]; exact hr
    | false =>
      have hx : ¬ x0 < 0 := by simpa using hch.symm
      rcases hm.set with ⟨h, _⟩ | ⟨_, _, ⟨h4, _, hlt, _⟩ | ⟨_, h4, h5, _⟩⟩
      · omega
      · have hi1 : i1 = [] := by rw [e1] at h4; simpa using h4
        rw [hi1] at hr; simp at hr
        rw [show nodeN false x0 info nx ws = ⟨2, x0, info, nx, [], []⟩ from rfl]
        simp only [rg]
        rw [if_pos trivial, if_neg (by omega), if_pos (by omega)]; exact hr
      · have hi1 : i1 = [(x0, (many : Int))] := by rw [e1] at h5; simpa using h5
        rw [hi1] at hr; simp at hr
        rw [show nodeN false x0 info nx ws = ⟨2, x0, info, nx, [], []⟩ from rfl]
        simp only [rg]
        rw [if_pos trivial, if_pos (by omega)]; exact hr
  · intro x hx
    rcases List.mem_cons.1 hx with rfl | hx
    · cases ch with
      | true => exact .inl ⟨rfl, rfl, rfl, rfl, by simp [nodeN]; omega, by simp [nodeN]; omega, by simp at hws; simp [nodeN]; omega, fun w h => by have := hw w h; omega⟩
      | false =>
        obtain ⟨k1, k2, k3⟩ := hinfo rfl
        exact .inr (.inl ⟨rfl, rfl, rfl, by simp [nodeN]; omega, by simp [nodeN]; omega, k2, k3, by simp [nodeN], by simp [nodeN, hnx]; exact k1⟩)
    · exact hk.good x hx
  · have hin : ∀ y ∈ s4.ns, y.k = 2 → y ∈ s4.ns.set s.ns.length (nodeN ch x0 info nx ws) := by
      intro y hy hy2
      rw [hns4] at hy; rw [e]
      rcases List.mem_append.1 hy with h | h
      · exact List.mem_append_left _ h
      · rcases List.mem_cons.1 h with rfl | h
        · simp [phN] at hy2
        · exact List.mem_append_right _ (List.mem_cons_of_mem _ h)
    refine ⟨hk.inv.a0, hk.inv.vl, hk.inv.vi, hk.inv.vsn, ?_, hk.inv.isr, ?_, ?_, ?_⟩
    · intro j hj hl
      by_cases hj2 : ((level + 1 : Nat) : Int) ≤ s4.vs[j].lv
      · obtain ⟨x, k1, k2, k3⟩ := hk.inv.used j hj hj2
        exact ⟨x, hin x k1 k2, k2, k3⟩
      · have hlv : s4.vs[j].lv = level := by show s4.vs[j].lv = _; have : (level : Int) ≤ s4.vs[j].lv := hl; omega
        by_cases hj3 : j < s.vs.length
        · have ej : s4.vs[j] = s.vs[j] := by simp only [hvs4]; rw [List.getElem_append_left hj3]
          obtain ⟨x, k1, k2, k3⟩ := hi.used j hj3 (by rw [← ej, hlv]; exact Int.le_refl _)
          exact ⟨x, by show x ∈ s4.ns.set _ _; rw [e]; exact List.mem_append_left _ k1, k2, k3⟩
        · by_cases hj4 : j - s.vs.length < v1.length
          · have hv1 : v1.length = 1 := by omega
            rcases hm.set with ⟨_, _, _, h⟩ | ⟨hx0, _, ⟨_, h, _⟩ | ⟨_, h4, _, sn, _, h⟩⟩
            · rw [e2] at h; simp at h; rw [h] at hv1; simp at hv1
            · rw [e2] at h; simp at h; rw [h] at hv1; simp at hv1
            · have hcf : ch = false := by rw [hch]; simpa using hx0
              refine ⟨nodeN ch x0 info nx ws, by show _ ∈ s4.ns.set _ _; rw [e]; simp, by rw [hcf]; rfl, ?_⟩
              rw [hcf]; show (info : Int) = j; omega
          · exfalso
            have hj5 : j - s.vs.length - v1.length < vsN.length := by
              have : j < s4.vs.length := hj
              rw [hvs4] at this; simp at this; omega
            have ej : s4.vs[j] = vsN[j - s.vs.length - v1.length] := by
              simp only [hvs4]; rw [List.getElem_append_right (by omega), List.getElem_append_right (by omega)]
            have := hk.lv _ (List.getElem_mem hj5)
            rw [← ej] at this; omega
    · intro x hx hx2
      have hx' : x ∈ s.ns ++ nodeN ch x0 info nx ws :: subs := by rw [← e]; exact hx
      rcases List.mem_append.1 hx' with h | h
      · exact hk.inv.nsr x (by rw [hns4]; exact List.mem_append_left _ h) hx2
      · rcases List.mem_cons.1 h with rfl | h
        · cases hcc : ch with
          | true => rw [hcc] at hx2; simp [nodeN] at hx2
          | false =>
            have := getElem?_lt (hinfo hcc).1
            show 0 ≤ (info : Int) ∧ (info : Int) < s4.is.length
            omega
        · exact hk.inv.nsr x (by rw [hns4]; exact List.mem_append_right _ (List.mem_cons_of_mem _ h)) hx2
    · show s4.is.length ≤ (s4.ns.set _ _).length
      rw [List.length_set]; exact hk.inv.il
    · show ((s4.ns.set _ _).length : Int) + s4.pend ≤ _
      rw [List.length_set]; exact hk.inv.ml
end
end Go.Proofs.Ytiikfkacbglblaa

/- G9 -/
namespace Go.Proofs.Ytiikfkacbglblaa
open Go.Ab
def IC.nth : Nat → IC → IC
  | 0, .seq a _ => a
  | n + 1, .seq _ b => IC.nth n b
  | _, i => i
def IC.tl : Nat → IC → IC
  | n + 1, .seq _ b => IC.tl n b
  | _, i => i
def t60 : IC := IC.tl 8 i60
section
variable {A B : List AO} {c : Mc} {s s2 : Ms} {level info many : Nat} {x0 x1 x2 : Int} {seen : List (List Int)}
set_option maxRecDepth 10000 in
theorem tail60 {env : Env} {g : AO} {N : Nat} (hc : c.Good) (hi : MInv c s level) (hp1 : 1 ≤ s.pend) (hm : MMid c s s2 level x0 info many) (hb : BuildOk c (level + 1)) (hcl : closed (c.hp A B s)) (hg : Cl 0 [g]) (hlv : level < c.lv.length)
    (hs : (seen.length : Int) = c.pl) (hsl : ∀ l ∈ seen, l.length ≤ level) (h0 : env.get 0 = .ptr (.own (A.length + 1) 0 0 0 0) 0) (h1 : env.get 1 = i64 level) (h2 : env.get 2 = seenV seen) (h7 : env.get 7 = i64 s.ns.length) (h8 : env.get 8 = .ptr (.own (A.length + (B.length + 7)) 0 0 0 0) 0)
    (h9 : env.get 9 = i64 many) (h10 : env.get 10 = i64 info) :
    X Try.prog N drawB t60 env (c.hp A (B ++ [g, ⟨[i64 x0, i64 x1, i64 x2], 104, 0, true⟩]) s2) (FinP (A.length + (B.length + 6)) r60 (buildP c A B s level)) := by
  have hcm := hc.m
  have hml := hi.ml
  have m3 := hm.m3
  have hpe := hm.pend
  have hcp := hc.p2
  have w1 : IntKind.i64.wrap ((s.ns.length : Int) + 1) = s.ns.length + 1 := wrap_id (by omega) (by omega)
  have w2 : IntKind.i64.wrap ((s.ns.length : Int) + 1 + s2.pend) = s.ns.length + 1 + s2.pend := wrap_id (by omega) (by omega)
  have w3 : IntKind.i64.wrap ((s.ns.length : Int) + 1 + s2.pend + many) = s.ns.length + 1 + s2.pend + many := wrap_id (by omega) (by omega)
  have w4 : IntKind.i64.wrap (s2.pend + many) = s2.pend + many := wrap_id (by omega) (by omega)
  by_cases hgt : c.most < (s.ns.length : Int) + 1 + s2.pend + many
  · simp -implicitDefEqProofs [t60, IC.tl, i60, r60, h0, h1, h2, h7, h8, h9, h10, Mc.hp, Mc.M, w1, w2, w3, w4, hgt]
    obtain ⟨i1, v1, e1, e2, hv1, hv2, hv3⟩ := hm.set' hi
    have hvl := hi.vl
    have hil := hi.il
    have hn2 : s2.ns.length = s.ns.length + 1 := by simp [hm.ns]
    have hd := ok75 (A := A) (B := B ++ [g, ⟨[i64 x0, i64 x1, i64 x2], 104, 0, true⟩]) (c := c) (s := s2) (info := info) (pl := x0) (by omega) (by rw [e1]; simp; omega) (fun h => by
      rcases hm.set with ⟨h', _⟩ | ⟨_, h', _⟩
      · omega
      · have := getElem?_lt h'; omega) (by rw [e1, e2]; simp; omega)
    refine call_goP hd ?_
    rintro o G' ⟨rfl, hcase⟩
    obtain ⟨s3, rfl, k1, k2, k3, k4, k5⟩ : ∃ s3, G' = c.hp A (B ++ [g, ⟨[i64 x0, i64 x1, i64 x2], 104, 0, true⟩]) s3 ∧ s3.ns = s.ns ++ [phN] ∧ s3.pend = s.pend - 1 ∧ s3.is = s.is ∧ s3.vs = s.vs ∧ 0 ≤ s3.at' := by
      rcases hcase with ⟨hcond, rfl⟩ | ⟨hx, hcond, hno, rfl⟩
      · refine ⟨s2, rfl, hm.ns, hm.pend, ?_, ?_, hm.a0⟩ <;> rcases hm.set with ⟨_, _, h, h'⟩ | ⟨hx, _, ⟨h, h', _⟩ | ⟨_, h4, h, sn, _, h'⟩⟩
        all_goals first
          | exact h
          | exact h'
          | skip
        all_goals
          exfalso
          rcases hcond with hh | hh | ⟨x, hx1, hx2, hx3⟩
          · omega
          · rw [h] at hh; simp at hh; omega
          · rw [hm.ns] at hx1
            rcases List.mem_append.1 hx1 with hx1 | hx1
            · have := hi.nsr x hx1 hx2; omega
            · simp [phN] at hx1; subst hx1; simp at hx2
      · refine ⟨s2.cut, rfl, hm.ns, hm.pend, ?_, ?_, hm.a0⟩ <;> rcases hm.set with ⟨hx', _⟩ | ⟨_, h6, ⟨h, h', hlt, hlv'⟩ | ⟨_, h4, h, sn, _, h'⟩⟩
        · omega
        · exfalso
          obtain ⟨x, hx1, hx2, hx3⟩ := hi.used info hlt (by rw [hlv']; exact Int.le_refl _)
          exact hno x (by rw [hm.ns]; exact List.mem_append_left _ hx1) ⟨hx2, hx3⟩
        · simp [Ms.cut, h]
        · omega
        · exfalso
          obtain ⟨x, hx1, hx2, hx3⟩ := hi.used info hlt (by rw [hlv']; exact Int.le_refl _)
          exact hno x (by rw [hm.ns]; exact List.mem_append_left _ hx1) ⟨hx2, hx3⟩
        · simp [Ms.cut, h']
    simp -implicitDefEqProofs [h0, h1, h2, h7, h8, h9, h10]
    refine call_goP (ok73 (k := s.ns.length) hc.l k5 hc.p1 hc.p2 (by rw [k1]; simp) (by rw [k1]; simp; omega)) ?_
    rintro o G' ⟨rfl, ps, a, p1, p2, p3, rfl⟩
    simp -implicitDefEqProofs [h0, h1, h2, h7, h8, h9, h10]
    exact ⟨_, _, ⟨rfl, _, _, _, _, post_end hc hi hp1 k1 k2 k3 k4 p1 p2 p3, rfl⟩, by rw [← hp_len]; exact hp_fin hcl rfl (fz_i64 _ _ _ _ _)⟩
  · simp -implicitDefEqProofs [t60, IC.tl, i60, r60, h0, h1, h2, h7, h8, h9, h10, Mc.hp, Mc.M, w1, w2, w3, w4, hgt]
    have hfin : ∀ (ch : Bool), ch = decide (x0 < 0) → ∀ (env : Env) (L : List AO) (s' : Ms) (nx ws : List Int) (subs : List Nd) (isN : List (Int × Int)) (vsN : List Vw), nx.length = many → KPost c { s2 with pend := s2.pend + many } s' (level + 1) (c.lv.length - (level + 1)) nx subs isN vsN → (ws.length = if ch = true then many else 0) → (∀ w ∈ ws, 1 ≤ w ∧ w ≤ 3) → Cl 0 L →
      env.get 0 = .ptr (.own (A.length + 1) 0 0 0 0) 0 → env.get 7 = i64 s.ns.length → env.get 11 = .ptr (.own (A.length + (B.length + 8)) 0 0 0 0) 0 →
      X Try.prog N drawB (IC.tl 5 t60) env (c.hp A (B ++ g :: ⟨[i64 x0, i64 x1, i64 x2], 104, 0, true⟩ :: nodX A B ch x0 info nx ws :: intO nx :: intO ws :: L) s') (FinP (A.length + (B.length + 6)) r60 (buildP c A B s level)) := by
      intro ch hch env L s' nx ws subs isN vsN hnx hk hws hw hL g0 g7 g11
      obtain ⟨isM, vsM, hpo⟩ := post_node hc hi hp1 hm hch hk hnx hws hw
      have hlt : s.ns.length < s'.ns.length := by rw [hk.ns]; simp [hm.ns]
      have hle := rws_le Nd.lenN hlt
      simp -implicitDefEqProofs [t60, IC.tl, i60, r60, g0, g7, g11, Mc.hp, Mc.M, nodX]
      refine ⟨hlt, ⟨by cases ch <;> rfl, rfl⟩, by simpa [Mc.N] using hle, _, _, ⟨rfl, _, _, _, _, (by rw [show c.lv.length - level = c.lv.length - (level + 1) + 1 by omega]; exact hpo), rfl⟩, ?_⟩
      have f1 := fz_own (n := A.length + (B.length + 6)) (ks := []) (L := g :: ⟨[i64 x0, i64 x1, i64 x2], 104, 0, true⟩ :: nodX A B ch x0 info nx ws :: intO nx :: intO ws :: L) (d := 1) 3 0 nx.length 1 nx.length
      have f2 := fz_own (n := A.length + (B.length + 6)) (ks := []) (L := g :: ⟨[i64 x0, i64 x1, i64 x2], 104, 0, true⟩ :: nodX A B ch x0 info nx ws :: intO nx :: intO ws :: L) (d := 1) 4 0 ws.length 1 ws.length
      have z1 : (ints nx).length = nx.length := by simp [ints]
      have z2 : (ints ws).length = ws.length := by simp [ints]
      have hne : nx ≠ [] := by intro e; subst e; simp at hnx; omega
      have hcl2 : closed (c.hp A B s') := closed_hp hcl
      have := fin_node (A := A) (B := B) (c := c) (s := s') (n0 := A.length + (B.length + 6)) (k := s.ns.length) (L := g :: ⟨[i64 x0, i64 x1, i64 x2], 104, 0, true⟩ :: nodX A B ch x0 info nx ws :: intO nx :: intO ws :: L) (r := i64 s.ns.length) (x := nodeN ch x0 info nx ws)
        (cx := [i64 (if ch = true then 1 else 2), i64 (if ch = true then 0 else x0), i64 (if ch = true then 0 else info), .own (A.length + (B.length + 9)) 0 nx.length 1 nx.length, if ch = true then .own (A.length + (B.length + 10)) 0 ws.length 1 ws.length else .val (.slice none 0 0), .val (.slice none 0 0)]) hcl2 (Nat.le_refl _) hlt (by
          rw [show A.length + (B.length + 9) = A.length + (B.length + 6) + 3 by omega, show A.length + (B.length + 10) = A.length + (B.length + 6) + 4 by omega]
          simp [placeOf, intO, z1, z2, List.take_of_length_le] at f1 f2
          cases ch with
          | true =>
            have hne2 : ws ≠ [] := by intro e; subst e; simp at hws; omega
            simp [nodeN, Nd.cN, slN, hne, hne2, sl, f1, f2, intO, placeOf, z1, z2, List.take_of_length_le]
          | false => simp [nodeN, Nd.cN, slN, hne, sl, f1, f2, intO, placeOf, z1, z2, List.take_of_length_le])
      simp [Mc.hp, Mc.D, Mc.L, Mc.M, Mc.V, Mc.N, Mc.I, nodX] at this ⊢
      exact this
    have hinv := hm.inv hc hi hp1 (by omega)
    have hA : Cl (A.length + (B.length + 6)) A := by have := closed_iff.1 hcl; rw [hp_len] at this; exact this.left
    have hB : Cl (A.length + (B.length + 6)) B := by have := closed_iff.1 hcl; rw [hp_len] at this; exact this.right.tail.tail.tail.tail.tail.tail
    have hloop : ∀ (ch : Bool), ch = decide (x0 < 0) → ∀ (env : Env) (K' : XE → Env → List AO → Prop), (∀ env H, X Try.prog N drawB (IC.tl 5 t60) env H (FinP (A.length + (B.length + 6)) r60 (buildP c A B s level)) → K' (.exit 0) env H) →
      env.get 0 = .ptr (.own (A.length + 1) 0 0 0 0) 0 → env.get 1 = i64 level → env.get 2 = seenV seen → env.get 7 = i64 s.ns.length → env.get 8 = .ptr (.own (A.length + (B.length + 7)) 0 0 0 0) 0 → env.get 9 = i64 many → env.get 11 = .ptr (.own (A.length + (B.length + 8)) 0 0 0 0) 0 → env.get 12 = i64 0 →
      LI Try.prog N drawB l60_0 env (c.hp A (B ++ g :: ⟨[i64 x0, i64 x1, i64 x2], 104, 0, true⟩ :: nodX A B ch x0 info [] [] :: intO [] :: intO [] :: []) { s2 with pend := s2.pend + many }) K' := by
      intro ch hch env K' hK' g0 g1 g2 g7 g8 g9 g11 g12
      refine loop60_0 (s1 := { s2 with pend := s2.pend + many }) (level := level) (many := many) (seen := seen) hc hb hA hB hg hs hsl hlv m3.2 hch (by show (many : Int) ≤ s2.pend + many; omega) (at' := s.ns.length) (fun env L s' nx ws subs isN vsN hnx hk hws hw hL k0 k7 k11 => hK' _ _ (hfin ch hch env L s' nx ws subs isN vsN hnx hk hws hw hL k0 k7 k11)) many env [] _ [] [] [] [] [] (by simp) (KPost.zero hinv) (by cases ch <;> rfl) (by simp) (Cl.nil _) g0 g1 g2 g7 g8 g9 g11 g12
    refine ⟨rfl, ?_⟩
    by_cases hx : 0 ≤ x0
    · rw [if_pos hx]
      refine ⟨rfl, LI.tell (Tell.own0 (j := A.length + (B.length + 8)) (p := 3) (o := ⟨[i64 2, i64 x0, i64 info, .val (.slice none 0 0), .val (.slice none 0 0), .val (.slice none 0 0)], 37, 0, true⟩) ?_ rfl rfl 3 1) (LI.tell (Tell.nil 3) (LI.cong (H' := c.hp A (B ++ g :: ⟨[i64 x0, i64 x1, i64 x2], 104, 0, true⟩ :: nodX A B false x0 info [] [] :: intO [] :: intO [] :: []) { s2 with pend := s2.pend + many }) ?_ (hloop false (by simpa using hx) _ _ (fun env H h => h) ?_ ?_ ?_ ?_ ?_ ?_ ?_ ?_)))⟩
      · simp only [get_app, get_c2, List.getElem?_cons_succ, get_app0, List.getElem?_cons_zero]
      · simp [Mc.hp, Mc.M, nodX, intO, set_app, set_c2]
        exact ⟨rfl, rfl, rfl, rfl, rfl⟩
      all_goals simp [h0, h1, h2, h7, h8, h9]
    · rw [if_neg hx]
      refine LI.tell (Tell.own0 (j := A.length + (B.length + 8)) (p := 3) (o := ⟨[i64 1, i64 0, i64 0, .val (.slice none 0 0), .val (.slice none 0 0), .val (.slice none 0 0)], 37, 0, true⟩) ?_ rfl rfl 3 1) (LI.tell (Tell.own0 (j := A.length + (B.length + 8)) (p := 4) (o := ⟨[i64 1, i64 0, i64 0, .own (A.length + (B.length + 9)) 0 0 1 0, .val (.slice none 0 0), .val (.slice none 0 0)], 37, 0, true⟩) ?_ rfl rfl 3 1)
        (LI.cong (H' := c.hp A (B ++ g :: ⟨[i64 x0, i64 x1, i64 x2], 104, 0, true⟩ :: nodX A B true x0 info [] [] :: intO [] :: intO [] :: []) { s2 with pend := s2.pend + many }) ?_ (hloop true (by simpa using hx) _ _ (fun env H h => h) ?_ ?_ ?_ ?_ ?_ ?_ ?_ ?_)))
      · simp only [get_app, get_c2, List.getElem?_cons_succ, get_app0, List.getElem?_cons_zero]
      · simp only [get_app, set_app, set_c2, get_c2, List.set_cons_succ, List.getElem?_cons_succ, set_app0, List.set_cons_zero, List.append_assoc, List.cons_append, get_app0, List.getElem?_cons_zero]
        simp
      · simp [Mc.hp, Mc.M, nodX, intO, set_app, set_c2]
        exact ⟨rfl, rfl, rfl, rfl, rfl⟩
      all_goals simp [h0, h1, h2, h7, h8, h9]
end
end Go.Proofs.Ytiikfkacbglblaa

/- G10 -/
namespace Go.Proofs.Ytiikfkacbglblaa
open Go.Ab
section
variable {A B : List AO} {c : Mc} {s : Ms} {level : Nat} {seen : List (List Int)}
def gb : AO := ⟨[i64 0, i64 0, i64 0, .val (.slice none 0 0), .val (.slice none 0 0), .val (.slice none 0 0)], 37, 0, true⟩
def Ms.push (s : Ms) : Ms := { s with ns := s.ns ++ [phN], vn := s.vn + 1, pend := s.pend - 1 }
def m60 : IC := .seq (IC.nth 4 i60) (.seq (IC.nth 5 i60) (.seq (IC.nth 6 i60) (.seq (IC.nth 7 i60) t60)))
theorem h60' : i60 = .seq (IC.nth 0 i60) (.seq (IC.nth 1 i60) (.seq (IC.nth 2 i60) (.seq (IC.nth 3 i60) m60))) := rfl
set_option maxRecDepth 10000 in
theorem mid60 {env : Env} {N : Nat} (hc : c.Good) (hle : level ≤ c.lv.length) (hb : level < c.lv.length → BuildOk c (level + 1)) (hi : MInv c s level) (hp1 : 1 ≤ s.pend) (hcl : closed (c.hp A B s)) (hs : (seen.length : Int) = c.pl) (hsl : ∀ l ∈ seen, l.length ≤ level)
    (h0 : env.get 0 = .ptr (.own (A.length + 1) 0 0 0 0) 0) (h1 : env.get 1 = i64 level) (h2 : env.get 2 = seenV seen) (h7 : env.get 7 = i64 s.ns.length) :
    X Try.prog N drawB m60 env (c.hp A (B ++ [gb]) s.push) (FinP (A.length + (B.length + 6)) r60 (buildP c A B s level)) := by
  have hcm := hc.m
  have hml := hi.ml
  have hcp := hc.p2
  have hil := hi.il
  have hvl := hi.vl
  have hlv := hc.lv
  have hend : ∀ a : Int, 0 ≤ a → OkP Try.prog 73 [.ptr (.own (A.length + 1) 0 0 0 0) 0, i64 s.ns.length] (c.hp A (B ++ [gb]) { s.push with at' := a }) (endQ c A (B ++ [gb]) { s.push with at' := a } s.ns.length) := fun a ha =>
    ok73 (A := A) (B := B ++ [gb]) (c := c) (s := { s.push with at' := a }) (k := s.ns.length) hc.l ha hc.p1 hc.p2 (by simp [Ms.push]) (by simp [Ms.push]; omega)
  have hfin : ∀ (a : Int), 0 ≤ a → ∀ o G', endQ c A (B ++ [gb]) { s.push with at' := a } s.ns.length o G' → o = .ret (.tup []) ∧ FinQ (c.hp A B s).length (buildP c A B s level) (i64 s.ns.length) G' := by
    rintro a ha o G' ⟨rfl, ps, a', p1, p2, p3, rfl⟩
    exact ⟨rfl, _, _, ⟨rfl, _, _, _, _, post_end (s3 := { s.push with at' := a }) hc hi hp1 rfl rfl rfl rfl p1 p2 p3, rfl⟩, hp_fin hcl rfl (fz_i64 _ _ _ _ _)⟩
  rw [hp_len] at hfin
  by_cases hlev : level = c.lv.length
  · simp -implicitDefEqProofs [m60, IC.nth, i60, r60, Mc.hp, Mc.M, h0, h1, h2, h7, hlev]
    refine call_goP (hend s.at' hi.a0) ?_
    intro o G' hq
    obtain ⟨rfl, hf⟩ := hfin _ hi.a0 _ _ hq
    simp -implicitDefEqProofs [h0, h1, h2, h7]
    rw [hlev] at hf
    exact hf
  · have hlt : level < c.lv.length := by omega
    have hd := rws_at lcN_len hlt
    have hd1 := rws_ge lcN_len hlt
    have hd2 := rws_min lcN_len hlt
    rw [lcN, List.cons_append, List.cons_append, List.cons_append, List.nil_append] at hd
    have hlr := hc.lvr _ (List.getElem_mem hlt)
    simp -implicitDefEqProofs [m60, IC.nth, i60, r60, Mc.hp, Mc.M, h0, h1, h2, h7, show ¬ ((level : Int) = c.lv.length) by omega]
    refine call_goP (OkP.strip (by show OkP Try.prog 59 [.ptr (.own A.length 0 0 0 0) 0, i64 8] _ _; exact ok59m (A := A) (B := B ++ [gb]) (c := c) (s := s.push) (n := 8) hc.l hi.a0 (by omega))) ?_
    rintro o G' ⟨v, a, rfl, ha, hv1, hv2, rfl⟩
    by_cases hv : v = 1
    · simp -implicitDefEqProofs [h0, h1, h2, h7, Mc.hp, Mc.M, hv, show ¬ ((level : Int) = c.lv.length) by omega]
      refine call_goP (hend a ha) ?_
      intro o G' hq
      obtain ⟨rfl, hf⟩ := hfin _ ha _ _ hq
      simp -implicitDefEqProofs [h0, h1, h2, h7]
      exact hf
    · generalize hx : c.lv[level] = x at hd hlr
      obtain ⟨x0, x1, x2⟩ := x
      simp only at hd hlr
      have htail := fun (s2 : Ms) (info many : Nat) (env : Env) (hm : MMid c s s2 level x0 info many) (k0 : env.get 0 = _) (k1 : env.get 1 = _) (k2 : env.get 2 = _) (k7 : env.get 7 = _) (k8 : env.get 8 = _) (k9 : env.get 9 = _) (k10 : env.get 10 = _) =>
        tail60 (A := A) (B := B) (c := c) (s := s) (s2 := s2) (seen := seen) (env := env) (g := gb) (N := N) (x1 := x1) (x2 := x2) hc hi hp1 hm (hb hlt) hcl (Cl.cons rfl (Cl.nil _)) hlt hs hsl k0 k1 k2 k7 k8 k9 k10
      by_cases hx0 : 0 ≤ x0
      · have hxl : x0.toNat < seen.length := by omega
        simp -implicitDefEqProofs [h0, h1, h2, h7, Mc.hp, Mc.M, Mc.L, hv, hd, hd1, hd2, hx0, hxl, seenV, sl, show x0 < (seen.length : Int) by omega, show ¬ ((level : Int) = c.lv.length) by omega, Nat.add_assoc, show 1 ≤ seen.length - x0.toNat by omega]
        refine ⟨hlt, ?_⟩
        have h74 := ok74 (A := A) (B := B ++ [gb, ⟨[i64 x0, i64 x1, i64 x2], 104, 0, true⟩]) (c := c) (s := { s.push with at' := a }) (pl := x0) (lv := level) (sn := seen[x0.toNat]) hc.l ha (by simp [Ms.push]; omega) (by simp [Ms.push]; omega) (fun v h => hi.vsn v h)
        refine call_goP (by simpa [Mc.hp, Mc.M, Mc.L, sl] using h74) ?_
        rintro o G' (⟨i, hil', e1, e2, rfl, rfl⟩ | ⟨k, a', hk1, hk2, ha', rfl, rfl⟩)
        · have hil2 : i < s.vs.length := hil'
          have hii : i < s.is.length := by omega
          obtain ⟨v1, v2⟩ := hi.vi i hil2
          have q1 := rws_get icN_len (t := 1) hii (by omega)
          simp only [icN, List.getElem?_cons_zero, List.getElem?_cons_succ] at q1
          have q2 := rws_ge icN_len hii
          have hr := hi.isr _ (List.getElem_mem hii)
          obtain ⟨many, hmany⟩ : ∃ m : Nat, s.is[i].2 = m := ⟨s.is[i].2.toNat, by omega⟩
          rw [hmany] at q1
          simp -implicitDefEqProofs [h0, h1, h2, h7, Mc.hp, Mc.M, Mc.I, Ms.push, v1, hii, q1, q2]
          refine ⟨by omega, ?_⟩
          have hq : s.is[i]? = some (x0, (many : Int)) := by
            rw [List.getElem?_eq_getElem hii, ← hmany]
            have : s.is[i].1 = x0 := by rw [← v2]; exact e1
            rw [← this]
          have := fun env k0 k1 k2 k7 k8 k9 k10 => htail { s.push with at' := a } i many env ⟨rfl, rfl, ha, by omega, .inr ⟨hx0, hq, .inl ⟨rfl, rfl, hil2, e2⟩⟩⟩ k0 k1 k2 k7 k8 k9 k10
          simp only [Mc.hp, Mc.M, Mc.I, Ms.push, List.length_append, List.length_singleton] at this ⊢
          refine this _ ?_ ?_ ?_ ?_ ?_ ?_ ?_ <;> simp [h0, h1, h2, h7]
        · obtain ⟨many, hmany⟩ : ∃ m : Nat, k = m := ⟨k.toNat, by omega⟩
          subst hmany
          have hii : s.is.length < (s.is ++ [(x0, (many : Int))]).length := by simp
          have q1 := rws_get icN_len (l := s.is ++ [(x0, (many : Int))]) (t := 1) hii (by omega)
          rw [List.getElem_append_right (by omega)] at q1
          simp only [icN, List.getElem?_cons_zero, List.getElem?_cons_succ, Nat.sub_self, List.getElem_cons_zero] at q1
          have q2 := rws_ge icN_len hii
          simp -implicitDefEqProofs [h0, h1, h2, h7, Mc.hp, Mc.M, Mc.I, Ms.push, Ms.addV, q1, q2]
          refine ⟨by omega, by omega, ?_⟩
          have := fun env k0 k1 k2 k7 k8 k9 k10 => htail ({ s.push with at' := a }.addV x0 level seen[x0.toNat] many a') s.is.length many env ⟨rfl, rfl, ha', by omega, .inr ⟨hx0, by simp [Ms.addV, Ms.push], .inr ⟨by omega, rfl, rfl, _, (by have := hsl _ (List.getElem_mem hxl); omega), rfl⟩⟩⟩ k0 k1 k2 k7 k8 k9 k10
          simp only [Mc.hp, Mc.M, Mc.I, Ms.push, Ms.addV, List.length_append, List.length_singleton] at this ⊢
          refine this _ ?_ ?_ ?_ ?_ ?_ ?_ ?_ <;> simp [h0, h1, h2, h7]
      · simp -implicitDefEqProofs [h0, h1, h2, h7, Mc.hp, Mc.M, Mc.L, hv, hd, hd1, hd2, hx0, show ¬ ((level : Int) = c.lv.length) by omega]
        refine ⟨hlt, ?_⟩
        obtain ⟨many, hmany⟩ : ∃ m : Nat, x1 = m := ⟨x1.toNat, by omega⟩
        refine htail { s.push with at' := a } 0 many _ ⟨rfl, rfl, ha, by omega, .inl ⟨by omega, rfl, rfl, rfl⟩⟩ ?_ ?_ ?_ ?_ ?_ ?_ ?_ <;> simp [h0, h1, h2, h7, hmany]
set_option maxRecDepth 10000 in
theorem build_step (hc : c.Good) (hle : level ≤ c.lv.length) (hb : level < c.lv.length → BuildOk c (level + 1)) : BuildOk c level := by
  intro A B s seen hi hp1 hs hsl
  refine okP_fn hm' Try.func60 c60 (by simp) fun hcl => ?_
  have hcm := hc.m
  have hml := hi.ml
  have z0 := rws_len Nd.lenN s.ns
  have w1 : IntKind.i64.wrap (s.pend - 1) = s.pend - 1 := wrap_id (by omega) (by omega)
  have ePh : rws Nd.cN (s.ns ++ [phN]) = rws Nd.cN s.ns ++ [i64 0, i64 0, i64 0, .val (.slice none 0 0), .val (.slice none 0 0), .val (.slice none 0 0)] := by rw [rws_app]; rfl
  rw [h60']
  simp -implicitDefEqProofs [IC.nth, i60, Mc.hp, Mc.M, Mc.N, w1, z0]
  refine ⟨rfl, by omega, by omega, ?_⟩
  have := fun env h0 h1 h2 h7 => mid60 (env := env) (N := Try.f60.ntmps) hc hle hb hi hp1 hcl hs hsl h0 h1 h2 h7
  simp only [Mc.hp, Mc.D, Mc.M, Mc.N, Mc.V, Mc.I, Ms.push, gb, ePh, List.append_assoc, List.length_append, List.length_singleton] at this ⊢
  refine this _ ?_ ?_ ?_ ?_ <;> simp
end
end Go.Proofs.Ytiikfkacbglblaa

/- G11 -/
namespace Go.Proofs.Ytiikfkacbglblaa
open Go.Ab
theorem build_ok {c : Mc} (hc : c.Good) : ∀ (f level : Nat), level + f = c.lv.length → BuildOk c level
  | 0, level, h => build_step hc (by omega) fun h' => absurd h' (by omega)
  | f + 1, level, h => build_step hc (by omega) fun _ => build_ok hc f (level + 1) (by omega)
theorem nds_rws : ∀ l : List Nd, nds l = rws Nd.cells l
  | [] => rfl
  | x :: r => by simp only [nds, rws, nds_rws r]
theorem infs_rws : ∀ l : List (Int × Int), infs l = rws icN l
  | [] => rfl
  | x :: r => by simp only [infs, rws, infs_rws r]; rfl
theorem Wlk.pos {b h : Nat} {sub : List Nd} (hw : Wlk b h sub) : 1 ≤ sub.length := by
  rcases sub with _ | ⟨x, r⟩
  · obtain ⟨m, h1, _⟩ := hw (List.replicate b phN) [] 0 0 0 (by simp) (by simp)
    simp [walkR] at h1
  · simp
structure Made (pl0 most : Int) (g : Gm) : Prop where
  pl : g.pl = pl0
  n1 : 1 ≤ g.ns.length
  ml : (g.ns.length : Int) ≤ most
  il : g.is.length ≤ g.ns.length
  wlk : Wlk 0 10 g.ns
  good : ∀ x ∈ g.ns, x.good pl0 g.is
  rg : rg g.ns 0 = some g.is.length
  isr : ∀ q ∈ g.is, 0 ≤ q.1 ∧ q.1 < pl0 ∧ 1 ≤ q.2 ∧ q.2 ≤ 3
theorem Made.form {pl most : Int} {g : Gm} (h : Made pl most g) (p1 : 1 ≤ pl) (p4 : pl ≤ 4) (hm : most ≤ 200) : g.formE = 0 := by
  have := h.ml; have := h.il; have := h.pl; have := h.n1
  exact made_ok (by omega) (by omega) h.n1 (by omega) (by omega) h.wlk (by omega) (by rw [h.pl]; exact h.good) h.rg
def gv36 (n : Nat) (pl : Int) (s : Ms) : SV := .agg [i64 pl, .own (n + 5) 0 s.ns.length 6 s.vn, .own (n + 6) 0 s.is.length 2 s.vi]
section
variable {H : List AO}
set_option maxRecDepth 10000 in
theorem loop36 {l : List Int} {pl most : Int} {zero : Bool} {m0 : Nat} {A : List AO} {N : Nat} {K : XE → Env → List AO → Prop} (hl : l.length < 4611686018427387904) (p1 : 1 ≤ pl) (p2 : pl ≤ 1000) (hm0 : m0 ≤ 50)
    (hexit : ∀ env B lv a, lv.length ≤ m0 → (∀ q ∈ lv, -1 ≤ q.1 ∧ q.1 < pl ∧ 2 ≤ q.2.1 ∧ q.2.1 ≤ 3) → 0 ≤ a → env.get 1 = i64 pl → env.get 8 = .ptr (.own (A.length - 1) 0 0 0 0) 0 → env.get 9 = .ptr (.own (A.length + 1) 0 0 0 0) 0 →
      K (.exit 0) env ((⟨l, lv, lv.length, most, zero, pl⟩ : Mc).hp A B ⟨a, 1, 0, 0, 0, [], [], []⟩)) :
    ∀ (n : Nat) (env : Env) (B : List AO) (lv : List (Int × Int × Int)) (a : Int), lv.length + n = m0 → (∀ q ∈ lv, -1 ≤ q.1 ∧ q.1 < pl ∧ 2 ≤ q.2.1 ∧ q.2.1 ≤ 3) → 0 ≤ a → env.get 1 = i64 pl → env.get 8 = .ptr (.own (A.length - 1) 0 0 0 0) 0 → env.get 9 = .ptr (.own (A.length + 1) 0 0 0 0) 0 → env.get 10 = i64 n →
      LI Try.prog N drawB l36_0 env ((⟨l, lv, lv.length, most, zero, pl⟩ : Mc).hp A B ⟨a, 1, 0, 0, 0, [], [], []⟩) K := by
  intro n
  induction n with
  | zero =>
    intro env B lv a hn hlv ha h1 h8 h9 h10
    refine li_go hm' l36_0.eq_1 ?_
    simp -implicitDefEqProofs [h1, h8, h9, h10]
    refine hexit _ B lv a (by omega) hlv ha ?_ ?_ ?_ <;> simp [h1, h8, h9]
  | succ n ih =>
    intro env B lv a hn hlv ha h1 h8 h9 h10
    refine li_go hm' l36_0.eq_1 ?_
    have w0 : IntKind.i64.wrap (pl + 1) = pl + 1 := wrap_id (by omega) (by omega)
    have w1 : IntKind.i64.wrap (n : Int) = n := wrap_nat (by omega)
    have z0 := rws_len lcN_len lv
    simp -implicitDefEqProofs [h1, h8, h9, h10, Mc.hp, Mc.M, w0, show (0 : Int) < n + 1 by omega]
    refine call_goP (ok59m (A := A) (B := B) (c := ⟨l, lv, lv.length, most, zero, pl⟩) (n := pl + 1) (s := ⟨a, 1, 0, 0, 0, [], [], []⟩) hl ha (by omega)) ?_
    rintro o G' ⟨v, a1, rfl, ha1, hv1, hv2, rfl⟩
    have w2 : IntKind.i64.wrap (v - 1) = v - 1 := wrap_id (by omega) (by omega)
    simp -implicitDefEqProofs [h1, h8, h9, h10, Mc.hp, Mc.M, w0, w2]
    refine call_goP (ok59m (A := A) (B := B) (c := ⟨l, lv, lv.length, most, zero, pl⟩) (n := 2) (s := ⟨a1, 1, 0, 0, 0, [], [], []⟩) hl ha1 (by omega)) ?_
    rintro o G' ⟨u, a2, rfl, ha2, hu1, hu2, rfl⟩
    have w3 : IntKind.i64.wrap (2 + u) = 2 + u := wrap_id (by omega) (by omega)
    simp -implicitDefEqProofs [h1, h8, h9, h10, Mc.hp, Mc.M, w0, w2, w3]
    refine call_goP (ok59m (A := A) (B := B) (c := ⟨l, lv, lv.length, most, zero, pl⟩) (n := 16) (s := ⟨a2, 1, 0, 0, 0, [], [], []⟩) hl ha2 (by omega)) ?_
    rintro o G' ⟨t, a3, rfl, ha3, ht1, ht2, rfl⟩
    simp -implicitDefEqProofs [h1, h8, h9, h10, Mc.hp, Mc.M, Mc.L, w0, w1, w2, w3, z0]
    refine ⟨by omega, by omega, ?_⟩
    refine LI.cong (H' := (⟨l, lv ++ [(v - 1, 2 + u, t)], (lv ++ [(v - 1, 2 + u, t)]).length, most, zero, pl⟩ : Mc).hp A (B ++ [⟨[i64 (v - 1), i64 (2 + u), i64 t], 104, 0, true⟩]) ⟨a3, 1, 0, 0, 0, [], [], []⟩) (by simp [Mc.hp, Mc.D, Mc.L, Mc.M, Mc.V, Mc.N, Mc.I, rws_app, rws, lcN]) ?_
    refine ih _ _ _ _ (by simp; omega) ?_ ha3 ?_ ?_ ?_ ?_
    · intro q hq
      rcases List.mem_append.1 hq with h | h
      · exact hlv q h
      · simp at h; subst h; simp only; omega
    all_goals simp [h1, h8, h9, w1]
set_option maxRecDepth 10000 in
theorem gen36 {l : List Int} {pl most : Int} {zero : Bool} {Pt : Out → List AO → Prop} (hl : l.length < 4611686018427387904) (p1 : 1 ≤ pl) (p2 : pl ≤ 1000) (m1 : 1 ≤ most) (m2 : most ≤ 2000)
    (hfin : closed H → ∀ (c : Mc) (s : Ms) (B : List AO) (o : AO), Made pl most ⟨pl, s.ns, s.is⟩ → FinQ H.length Pt (gv36 H.length pl s) (c.hp (H ++ [o]) B s)) :
    OkP Try.prog 36 [.slc (ints l) l.length, i64 pl, i64 most, bl zero] H Pt := by
  refine okP_fn hm' Try.func36 c36 (by simp) fun hcl => ?_
  simp -implicitDefEqProofs [i36, r36]
  have h59 := ok59 (G := H ++ [⟨[i64 0, .val (.slice none 0 0), .val (.slice none 0 0)], 25, 0, true⟩, ⟨[.slc (ints l) l.length, i64 0], 96, 0, true⟩, ⟨[.ptr (.own (H.length + 1) 0 0 0 0) 0, .val (.slice none 0 0), .val (.slice none 0 0), i64 most, i64 1, bl zero, bl false, i64 pl, .val (.slice none 0 0), .val (.slice none 0 0)], 102, 0, true⟩]) (l := l) (at' := 0) (n := 5) (jd := H.length + 1) (by simp [get_app]) hl (by omega) (by omega)
  refine ⟨rfl, ?_⟩
  refine call_goP h59 ?_
  rintro o G' ⟨v, a, rfl, ha, hv1, hv2, rfl⟩
  have w1 : IntKind.i64.wrap (1 + v) = 1 + v := wrap_id (by omega) (by omega)
  simp -implicitDefEqProofs [w1]
  obtain ⟨m0, hm0⟩ : ∃ m : Nat, 1 + v = m := ⟨(1 + v).toNat, by omega⟩
  rw [hm0]
  have z1 : H.length + 1 - 1 = H.length := by omega
  refine LI.tell (Tell.own0 (j := H.length + 2) (p := 1) (o := ⟨[.ptr (.own (H.length + 1) 0 0 0 0) 0, .val (.slice none 0 0), .val (.slice none 0 0), i64 most, i64 1, bl zero, bl false, i64 pl, .val (.slice none 0 0), .val (.slice none 0 0)], 102, 0, true⟩) ?_ rfl rfl 104 3)
    (LI.tell (Tell.own0 (j := H.length + 2) (p := 2) (o := ⟨[.ptr (.own (H.length + 1) 0 0 0 0) 0, .own (H.length + 3) 0 0 3 0, .val (.slice none 0 0), i64 most, i64 1, bl zero, bl false, i64 pl, .val (.slice none 0 0), .val (.slice none 0 0)], 102, 0, true⟩) ?_ rfl rfl 125 4)
    (LI.tell (Tell.own0 (j := H.length + 2) (p := 8) (o := ⟨[.ptr (.own (H.length + 1) 0 0 0 0) 0, .own (H.length + 3) 0 0 3 0, .own (H.length + 4) 0 0 4 0, i64 most, i64 1, bl zero, bl false, i64 pl, .val (.slice none 0 0), .val (.slice none 0 0)], 102, 0, true⟩) ?_ rfl rfl 37 6)
    (LI.tell (Tell.own0 (j := H.length + 2) (p := 9) (o := ⟨[.ptr (.own (H.length + 1) 0 0 0 0) 0, .own (H.length + 3) 0 0 3 0, .own (H.length + 4) 0 0 4 0, i64 most, i64 1, bl zero, bl false, i64 pl, .own (H.length + 5) 0 0 6 0, .val (.slice none 0 0)], 102, 0, true⟩) ?_ rfl rfl 34 2)
    (LI.cong (H' := (⟨l, [], 0, most, zero, pl⟩ : Mc).hp (H ++ [⟨[i64 0, .val (.slice none 0 0), .val (.slice none 0 0)], 25, 0, true⟩]) [] ⟨a, 1, 0, 0, 0, [], [], []⟩) ?_
      (loop36 (A := H ++ [⟨[i64 0, .val (.slice none 0 0), .val (.slice none 0 0)], 25, 0, true⟩]) (m0 := m0) hl p1 p2 (by omega) (fun env B lv a hlv hq ha k1 k8 k9 => ?_) m0 _ [] [] a (by simp) (by simp) ha ?_ ?_ ?_ ?_)))))
  · simp only [get_app, set_app, List.set_cons_succ, List.set_cons_zero]; rfl
  · simp only [get_app, set_app, List.set_cons_succ, List.set_cons_zero]; simp [get_app]
  · simp [get_app, set_app]
  · simp [get_app, set_app]
  · simp [Mc.hp, Mc.D, Mc.L, Mc.M, Mc.V, Mc.N, Mc.I, rws, set_app]
  · simp at k8 k9
    have hc : (⟨l, lv, lv.length, most, zero, pl⟩ : Mc).Good := ⟨hl, p1, p2, m2, by simp only; omega, hq⟩
    have hi : MInv ⟨l, lv, lv.length, most, zero, pl⟩ ⟨a, 1, 0, 0, 0, [], [], []⟩ 0 := ⟨ha, rfl, fun j h => by simp at h, by simp, fun j h => by simp at h, by simp, by simp, by simp, by simp only [List.length_nil]; omega⟩
    obtain ⟨np, hnp⟩ : ∃ np : Nat, pl = np := ⟨pl.toNat, by omega⟩
    have hb := build_ok hc lv.length 0 (by simp) (H ++ [⟨[i64 0, .val (.slice none 0 0), .val (.slice none 0 0)], 25, 0, true⟩]) (B ++ [⟨[], 35, 1, false⟩]) ⟨a, 1, 0, 0, 0, [], [], []⟩ (List.replicate np []) hi (by simp) (by simp [hnp]) (by intro x hx; simp [List.mem_replicate] at hx; simp [hx.2])
    simp -implicitDefEqProofs [k1, k8, k9, Mc.hp, Mc.M]
    refine ⟨by omega, by omega, by omega, ?_⟩
    refine call_goP (OkP.give (H.length + (B.length + 7)) 1 (o := ⟨List.replicate np nl, 35, 0, true⟩) ?_ rfl (OkP.le ?_ (OkP.cast rfl ?_ hb))) ?_
    · rw [get_app]
      simp [get_app0, get_app, hnp]
    · simp [hnp, seenV, Nat.add_assoc]
      refine leL.cons (SV.le.refl _) (leL.cons (SV.le.refl _) (leL.cons (le_slc ⟨by simp, fun j x y h1 h2 => ?_⟩ _) leL.nil))
      simp [List.getElem?_replicate] at h1 h2
      obtain ⟨_, rfl⟩ := h1
      obtain ⟨_, rfl⟩ := h2
      exact le_nil
    · simp [Mc.hp, Mc.M, set_app, set_app0, AO.dead, hnp]
    rintro o G' ⟨rfl, s', sub, isN, vsN, hp, rfl⟩
    simp -implicitDefEqProofs [k1, k8, k9, Mc.hp, Mc.M]
    have e1 : s'.ns = sub := hp.ns
    have hml := hp.inv.ml
    have hpe := hp.pend
    simp only at hml hpe
    have := hfin hcl ⟨l, lv, lv.length, most, zero, pl⟩ s' (B ++ [⟨[], 35, 1, false⟩]) ⟨[i64 pl, .own (H.length + 1 + 4) 0 s'.ns.length 6 s'.vn, .own (H.length + 1 + 5) 0 s'.is.length 2 s'.vi], 25, 0, true⟩
      ⟨rfl, by show 1 ≤ s'.ns.length; rw [e1]; exact hp.wlk.pos, by show (s'.ns.length : Int) ≤ most; omega, hp.inv.il, by show Wlk 0 10 s'.ns; rw [e1]; exact hp.wlk.mono (by simp only; omega), by show ∀ x ∈ s'.ns, x.good pl s'.is; rw [e1]; exact hp.good, by show rg s'.ns 0 = some s'.is.length; rw [e1]; exact hp.rg, hp.inv.isr⟩
    simpa [gv36, Mc.hp, Mc.M] using this
  all_goals simp
theorem slN_le (l : List Int) : SV.le (slN l) (sl l) := by
  unfold slN
  split
  · rename_i h; subst h; exact le_nil
  · exact SV.le.refl _
theorem cN_le (x : Nd) : leL x.cN x.cells := leL.cons (SV.le.refl _) (leL.cons (SV.le.refl _) (leL.cons (SV.le.refl _) (leL.cons (slN_le _) (leL.cons (slN_le _) (leL.cons (slN_le _) leL.nil)))))
theorem gN_le (g : Gm) : SV.le (.agg [i64 g.pl, .slc (rws Nd.cN g.ns) g.ns.length, .slc (rws icN g.is) g.is.length]) (.agg g.cells) := by
  unfold Gm.cells
  rw [nds_rws, infs_rws]
  exact le_agg (leL.cons (SV.le.refl _) (leL.cons (le_slc (leL.rws cN_le _) _) (leL.cons (SV.le.refl _) leL.nil)))
theorem icN_under (n : Nat) (x : Int × Int) : SV.underL n (icN x) = true := by simp [icN, SV.underL, SV.under]
/-- The same, where the nodes and sets stay rows of one's own. -/
theorem ok36k {l : List Int} {pl most : Int} {zero : Bool} (hl : l.length < 4611686018427387904) (p1 : 1 ≤ pl) (p2 : pl ≤ 1000) (m1 : 1 ≤ most) (m2 : most ≤ 2000) :
    OkP Try.prog 36 [.slc (ints l) l.length, i64 pl, i64 most, bl zero] H fun o H' => ∃ g, Made pl most g ∧ o = .ret (.agg [i64 pl, .own H.length 0 g.ns.length 6 0, .own (H.length + 1) 0 g.is.length 2 0]) ∧ H' = H ++ [⟨rws Nd.cN g.ns, 37, 0, true⟩, ⟨rws icN g.is, 34, 0, true⟩] := by
  refine gen36 hl p1 p2 m1 m2 fun hcl c s B o hm => ⟨_, _, ⟨_, hm, rfl, rfl⟩, ?_⟩
  have z1 := rws_len Nd.lenN s.ns
  have z2 := rws_len icN_len s.is
  have e : c.hp (H ++ [o]) B s = H ++ (o :: c.D s :: c.M (H ++ [o]).length s :: c.L :: Mc.V s :: Mc.N s :: Mc.I s :: B) := by simp [Mc.hp]
  rw [e]
  refine cv_kp 4 [5, 6] hcl rfl ?_ ?_ ?_
  · simp [gv36, Mc.N, Mc.I, placeOf]
  · simp [keptOk, Mc.N, Mc.I, map_fz_under, rws_under (cN_under _), rws_under (icN_under _)]
    exact ⟨rws_cells cN_cells _, rws_cells (fun x => by intro y hy; simp [icN] at hy; rcases hy with rfl | rfl <;> rfl) _⟩
  · simp [keptO, Mc.N, Mc.I, map_fz_under, rws_under (cN_under _), rws_under (icN_under _)]
end
end Go.Proofs.Ytiikfkacbglblaa

/- S3 -/
namespace Go.Proofs.Ytiikfkacbglblaa
open Go.Ab
/-! Sets joined. -/
def rgL : List Int → Nat → Option Nat
  | [], c => some c
  | x :: r, c => if x = c then rgL r (c + 1) else if 0 ≤ x ∧ x < c then rgL r c else none
theorem rgL_app : ∀ (a b : List Int) (c : Nat), rgL (a ++ b) c = (rgL a c).bind (rgL b)
  | [], b, c => by simp [rgL]
  | x :: a, b, c => by
    simp only [List.cons_append, rgL]
    split
    · exact rgL_app a b _
    · split
      · exact rgL_app a b _
      · rfl
theorem rgL_le : ∀ {l : List Int} {c c' : Nat}, rgL l c = some c' → c ≤ c' ∧ c' ≤ c + l.length
  | [], c, c', h => by simp [rgL] at h; simp; omega
  | x :: r, c, c', h => by
    simp only [rgL] at h
    split at h
    · have := rgL_le h; simp; omega
    · split at h
      · have := rgL_le h; simp; omega
      · cases h
theorem rgL_take {to : List Int} {f : Nat} (h : rgL to 0 = some f) (c : Nat) : ∃ k, rgL (to.take c) 0 = some k := by
  have e : to = to.take c ++ to.drop c := (List.take_append_drop c to).symm
  rw [e, rgL_app] at h
  cases hh : rgL (to.take c) 0 with
  | none => rw [hh] at h; cases h
  | some k => exact ⟨k, rfl⟩
theorem rgL_step {to : List Int} {f c k : Nat} (h : rgL to 0 = some f) (hc : c < to.length) (hk : rgL (to.take c) 0 = some k) :
    (to[c] = k ∧ rgL (to.take (c + 1)) 0 = some (k + 1)) ∨ (0 ≤ to[c] ∧ to[c] < k ∧ rgL (to.take (c + 1)) 0 = some k) := by
  obtain ⟨k', hk'⟩ := rgL_take h (c + 1)
  have e : to.take (c + 1) = to.take c ++ [to[c]] := by rw [List.take_succ_eq_append_getElem hc]
  rw [e, rgL_app, hk] at hk' ⊢
  simp only [Option.bind_some, rgL] at hk' ⊢
  by_cases h1 : to[c] = k
  · rw [if_pos h1]; exact .inl ⟨h1, rfl⟩
  · rw [if_neg h1] at hk' ⊢
    by_cases h2 : 0 ≤ to[c] ∧ to[c] < k
    · rw [if_pos h2]; exact .inr ⟨h2.1, h2.2, rfl⟩
    · rw [if_neg h2] at hk'; cases hk'
theorem rgL_lt {to : List Int} {f : Nat} (h : rgL to 0 = some f) : ∀ (c k t : Nat), rgL (to.take c) 0 = some k → t < c → (ht : t < to.length) → 0 ≤ to[t] ∧ to[t] < k
  | 0, k, t, hk, htc, _ => by omega
  | c + 1, k, t, hk, htc, ht => by
    by_cases hc : c < to.length
    · obtain ⟨k0, h0⟩ := rgL_take h c
      rcases rgL_step h hc h0 with ⟨h1, h2⟩ | ⟨h1, h3, h2⟩
      · rw [h2] at hk; cases hk
        by_cases e : t = c
        · subst e; omega
        · have := rgL_lt h c _ t h0 (by omega) ht; omega
      · rw [h2] at hk; cases hk
        by_cases e : t = c
        · subst e; omega
        · exact rgL_lt h c _ t h0 (by omega) ht
    · rw [List.take_of_length_le (by omega)] at hk
      refine rgL_lt h c k t ?_ (by omega) ht
      rw [List.take_of_length_le (by omega)]; exact hk
def Nd.join (to : List Int) (x : Nd) : Nd := if x.k = 2 ∧ x.i < to.length then { x with i := to.getD x.i.toNat 0 } else x
theorem join_nx (to : List Int) (x : Nd) : (x.join to).nx = x.nx := by unfold Nd.join; split <;> rfl
theorem join_k (to : List Int) (x : Nd) : (x.join to).k = x.k := by unfold Nd.join; split <;> rfl
theorem rg_join {to : List Int} {f : Nat} (h : rgL to 0 = some f) : ∀ {ns : List Nd} {c c' k k' : Nat}, rg ns c = some c' → c' ≤ to.length → rgL (to.take c) 0 = some k → rgL (to.take c') 0 = some k' → rg (ns.map (Nd.join to)) k = some k'
  | [], c, c', k, k', hr, hc, hk, hk' => by simp [rg] at hr; subst hr; rw [hk] at hk'; simpa [rg] using hk'
  | x :: r, c, c', k, k', hr, hc, hk, hk' => by
    simp only [rg] at hr
    simp only [List.map_cons, rg, join_k]
    by_cases h2 : x.k = 2
    · rw [if_pos h2] at hr ⊢
      by_cases hi : x.i = c
      · rw [if_pos hi] at hr
        have hle := rg_le hr
        have hj : (x.join to).i = to[c] := by
          unfold Nd.join; rw [if_pos ⟨h2, by omega⟩]
          show to.getD x.i.toNat 0 = _
          rw [hi, Int.toNat_natCast, List.getD_eq_getElem?_getD, List.getElem?_eq_getElem (by omega), Option.getD_some]
        rw [hj]
        rcases rgL_step h (show c < to.length by omega) hk with ⟨h3, h4⟩ | ⟨h3, h5, h4⟩
        · rw [if_pos h3]; exact rg_join h hr hc h4 hk'
        · rw [if_neg (by omega), if_pos ⟨h3, h5⟩]; exact rg_join h hr hc h4 hk'
      · rw [if_neg hi] at hr
        by_cases hlt : 0 ≤ x.i ∧ x.i < c
        · rw [if_pos hlt] at hr
          have hle := rg_le hr
          have hxl : x.i.toNat < to.length := by omega
          have hj : (x.join to).i = to[x.i.toNat] := by
            unfold Nd.join; rw [if_pos ⟨h2, by omega⟩]
            show to.getD x.i.toNat 0 = _
            rw [List.getD_eq_getElem?_getD, List.getElem?_eq_getElem hxl, Option.getD_some]
          have := rgL_lt h c k x.i.toNat hk (by omega) hxl
          rw [hj, if_neg (by omega), if_pos this]
          exact rg_join h hr hc hk hk'
        · rw [if_neg hlt] at hr; cases hr
    · rw [if_neg h2] at hr ⊢
      exact rg_join h hr hc hk hk'
theorem walkR_nx : ∀ (f : Nat) {ns ns' : List Nd} (_ : ns.map Nd.nx = ns'.map Nd.nx) (dep : Int) (k : Nat) (m : Int), walkR ns f dep k m = walkR ns' f dep k m
  | 0, ns, ns', _, dep, k, m => rfl
  | f + 1, ns, ns', h, dep, k, m => by
    have h1 : (ns[k]?).map Nd.nx = (ns'[k]?).map Nd.nx := by rw [← List.getElem?_map, ← List.getElem?_map, h]
    have h2 : walkR ns f (dep + 1) = walkR ns' f (dep + 1) := funext fun k => funext fun m => walkR_nx f h (dep + 1) k m
    unfold walkR
    cases hk : ns[k]? with
    | none => rw [hk] at h1; cases hk' : ns'[k]? with
      | none => rfl
      | some y => rw [hk'] at h1; cases h1
    | some x => rw [hk] at h1; cases hk' : ns'[k]? with
      | none => rw [hk'] at h1; cases h1
      | some y =>
        rw [hk'] at h1
        simp only [Option.map_some, Option.some.injEq] at h1
        simp only [h1, h2]
theorem Wlk.nx {b h : Nat} {sub sub' : List Nd} (hw : Wlk b h sub) (e : sub.map Nd.nx = sub'.map Nd.nx) : Wlk b h sub' := by
  intro pre post f dep m hb hf
  have hl : sub.length = sub'.length := by have := congrArg List.length e; simpa using this
  obtain ⟨m', h1, h2⟩ := hw pre post f dep m hb (by omega)
  refine ⟨m', ?_, h2⟩
  rw [← hl, ← h1]
  exact (walkR_nx f (by simp [e]) dep b m).symm
/-- How far the sets are joined. -/
structure JI (is : List (Int × Int)) (to : List Int) (fs : List (Int × Int)) : Prop where
  le : to.length ≤ is.length
  rg : rgL to 0 = some fs.length
  at' : ∀ t (h : t < to.length) (h' : t < is.length), fs[to[t].toNat]? = some is[t]
  sub : ∀ q ∈ fs, q ∈ is
theorem JI.zero (is : List (Int × Int)) : JI is [] [] := ⟨by simp, rfl, fun t h => by simp at h, by simp⟩
theorem JI.old {is fs : List (Int × Int)} {to : List Int} (h : JI is to fs) (hi : to.length < is.length) {k : Nat} (hk : fs[k]? = some is[to.length]) : JI is (to ++ [(k : Int)]) fs := by
  have hlt := getElem?_lt hk
  refine ⟨by simp; omega, ?_, fun t ht ht' => ?_, h.sub⟩
  · rw [rgL_app, h.rg]
    simp only [Option.bind_some, rgL]
    rw [if_neg (by omega), if_pos (by omega)]
  · by_cases e : t < to.length
    · rw [List.getElem_append_left e]; exact h.at' t e ht'
    · have : t = to.length := by simp at ht; omega
      subst this
      rw [List.getElem_append_right (Nat.le_refl _)]
      simpa using hk
theorem JI.new {is fs : List (Int × Int)} {to : List Int} (h : JI is to fs) (hi : to.length < is.length) : JI is (to ++ [(fs.length : Int)]) (fs ++ [is[to.length]]) := by
  refine ⟨by simp; omega, ?_, fun t ht ht' => ?_, ?_⟩
  · rw [rgL_app, h.rg]
    simp [rgL]
  · by_cases e : t < to.length
    · rw [List.getElem_append_left e]
      have := h.at' t e ht'
      rw [List.getElem?_append_left (getElem?_lt this)]; exact this
    · have : t = to.length := by simp at ht; omega
      subst this
      rw [List.getElem_append_right (Nat.le_refl _)]
      simp
  · intro q hq
    rcases List.mem_append.1 hq with hq | hq
    · exact h.sub q hq
    · simp at hq; subst hq; exact List.getElem_mem hi
theorem Made.join {pl most : Int} {g : Gm} {to : List Int} {fs : List (Int × Int)} (h : Made pl most g) (hj : JI g.is to fs) (hl : to.length = g.is.length) : Made pl most ⟨pl, g.ns.map (Nd.join to), fs⟩ := by
  have hr := rgL_le hj.rg
  refine ⟨rfl, by simpa using h.n1, by simpa using h.ml, by have := h.il; simp only [List.length_map]; omega, h.wlk.nx (by simp [Function.comp_def, join_nx]), ?_, ?_, fun q hq => h.isr q (hj.sub q hq)⟩
  · intro x hx
    obtain ⟨y, hy, rfl⟩ := List.mem_map.1 hx
    rcases h.good y hy with hg | ⟨a1, a2, a3, a4, a5, a6, a7, a8, a9⟩ | hg
    · left; unfold Nd.join; rw [if_neg (by omega)]; exact hg
    · have hi := getElem?_lt a9
      have hi2 : y.i.toNat < to.length := by omega
      have e : y.join to = { y with i := to[y.i.toNat] } := by
        unfold Nd.join; rw [if_pos ⟨a1, by omega⟩, List.getD_eq_getElem?_getD, List.getElem?_eq_getElem hi2, Option.getD_some]
      have h1 := hj.at' _ hi2 hi
      have h2 := rgL_lt hj.rg to.length fs.length y.i.toNat (by rw [List.take_length]; exact hj.rg) hi2 hi2
      rw [List.getElem?_eq_getElem hi] at a9
      rw [e]
      exact .inr (.inl ⟨a1, a2, a3, a4, a5, a6, a7, h2.1, by rw [h1]; exact a9⟩)
    · right; right; unfold Nd.join; rw [if_neg (by omega)]; exact hg
  · exact rg_join hj.rg h.rg (by omega) (by simp [rgL]) (by rw [← hl, List.take_length]; exact hj.rg)
end Go.Proofs.Ytiikfkacbglblaa

/- S4 -/
namespace Go.Proofs.Ytiikfkacbglblaa
open Go.Ab
theorem K_cong {K : XE → Env → List AO → Prop} {x : XE} {env : Env} {H H' : List AO} (e : H' = H) (h : K x env H') : K x env H := e ▸ h
theorem rws_set1 {α : Type} {f : α → List SV} {sz : Nat} (hf : ∀ x, (f x).length = sz) {l : List α} {k t : Nat} (hk : k < l.length) (ht : t < sz) {c : SV} {x : α} (hx : f x = (f l[k]).set t c) :
    (rws f l).take (k * sz + t) ++ c :: (rws f l).drop (k * sz + t + 1) = rws f (l.set k x) := by
  have hle := rws_le hf hk
  have e1 : (rws f l).take (k * sz + t) ++ c :: (rws f l).drop (k * sz + t + 1) = (rws f l).set (k * sz + t) c := by
    rw [List.set_eq_take_append_cons_drop, if_pos (by omega)]
  have e2 : l = l.take k ++ l[k] :: l.drop (k + 1) := by rw [← List.drop_eq_getElem_cons hk, List.take_append_drop]
  have e3 : l.set k x = l.take k ++ x :: l.drop (k + 1) := by rw [List.set_eq_take_append_cons_drop, if_pos hk]
  have e4 : (rws f (l.take k)).length = k * sz := by rw [rws_len hf, List.length_take, Nat.min_eq_left (Nat.le_of_lt hk)]
  rw [e1, e3, rws_app]
  conv => lhs; rw [e2, rws_app]
  rw [List.set_append_right _ _ (by omega), e4, Nat.add_sub_cancel_left]
  congr 1
  show (f l[k] ++ _).set t c = f x ++ _
  rw [List.set_append_left _ _ (by rw [hf]; exact ht), hx]
section
variable {H : List AO}
/-- The heap of joined. -/
def jhp (H : List AO) (R : AO) (g : Gm) (ns : List Nd) (more : List Int) (a : Int) (to : List Int) (fs : List (Int × Int)) (L : List AO) : List AO :=
  H ++ R :: ⟨rws Nd.cN ns, 37, 0, true⟩ :: ⟨rws icN g.is, 34, 0, true⟩ :: ⟨[i64 g.pl, .own (H.length + 1) 0 ns.length 6 0, .own (H.length + 2) 0 g.is.length 2 0], 25, 0, true⟩ ::
    ⟨[.slc (ints more) more.length, i64 a], 96, 0, true⟩ :: ⟨ints to, 3, to.length, true⟩ :: ⟨rws icN fs, 34, fs.length, true⟩ :: L
set_option maxRecDepth 10000 in
theorem loop35_1 {R : AO} {g : Gm} {ns : List Nd} {more : List Int} {a : Int} {to : List Int} {fs : List (Int × Int)} {L : List AO} {i : Nat} (hi : i < g.is.length) (hfs : fs.length ≤ 1000) {N : Nat} {K : XE → Env → List AO → Prop}
    (hexit : ∀ env k, (k = fs.length ∨ fs[k]? = some g.is[i]) → env.get 6 = .ptr (.own H.length 0 0 0 0) 0 → env.get 7 = .ptr (.own (H.length + 3) 0 0 0 0) 0 → env.get 8 = .ptr (.own (H.length + 4) 0 0 0 0) 0 → env.get 9 = .own (H.length + 5) 0 to.length 1 to.length → env.get 10 = .own (H.length + 6) 0 fs.length 2 fs.length → env.get 11 = i64 i → env.get 12 = i64 k →
      K (.exit 2) env (jhp H R g ns more a to fs L)) :
    ∀ (n j k : Nat) (env : Env), j + n = fs.length → (k = fs.length ∨ fs[k]? = some g.is[i]) → env.get 6 = .ptr (.own H.length 0 0 0 0) 0 → env.get 7 = .ptr (.own (H.length + 3) 0 0 0 0) 0 → env.get 8 = .ptr (.own (H.length + 4) 0 0 0 0) 0 → env.get 9 = .own (H.length + 5) 0 to.length 1 to.length → env.get 10 = .own (H.length + 6) 0 fs.length 2 fs.length → env.get 11 = i64 i → env.get 12 = i64 k → env.get 13 = i64 j →
      LI Try.prog N drawB l35_1 env (jhp H R g ns more a to fs L) K := by
  intro n
  induction n with
  | zero =>
    intro j k env hj hk h6 h7 h8 h9 h10 h11 h12 h13
    refine li_go hm' l35_1.eq_1 ?_
    simp -implicitDefEqProofs [h6, h7, h8, h9, h10, h11, h12, h13, show ¬ j < fs.length by omega]
    refine hexit _ k hk ?_ ?_ ?_ ?_ ?_ ?_ ?_ <;> simp [h6, h7, h8, h9, h10, h11, h12]
  | succ n ih =>
    intro j k env hj hk h6 h7 h8 h9 h10 h11 h12 h13
    refine li_go hm' l35_1.eq_1 ?_
    have hlt : j < fs.length := by omega
    have d1 := rws_at icN_len hlt
    have d2 := rws_ge icN_len hlt
    have d3 := rws_min icN_len hlt
    have e1 := rws_at icN_len hi
    have e2 := rws_ge icN_len hi
    have e3 := rws_min icN_len hi
    rw [icN, List.cons_append, List.cons_append, List.nil_append] at d1 e1
    have w1 : IntKind.i64.wrap ((j : Int) + 1) = ((j + 1 : Nat) : Int) := wrap_succ (by omega)
    by_cases hc : fs[j] = g.is[i]
    · simp -implicitDefEqProofs [h6, h7, h8, h9, h10, h11, h12, h13, hlt, hi, jhp, d1, d2, d3, e1, e2, e3, hc]
      rw [w1]
      refine ih (j + 1) j _ (by omega) (.inr (by rw [List.getElem?_eq_getElem hlt, hc])) ?_ ?_ ?_ ?_ ?_ ?_ ?_ ?_ <;> simp [h6, h7, h8, h9, h10, h11]
    · have hc' : ¬ (fs[j].1 = g.is[i].1 ∧ fs[j].2 = g.is[i].2) := fun h => hc (Prod.ext h.1 h.2)
      simp -implicitDefEqProofs [h6, h7, h8, h9, h10, h11, h12, h13, hlt, hi, jhp, d1, d2, d3, e1, e2, e3]
      rw [if_neg hc', w1]
      refine ih (j + 1) k _ (by omega) hk ?_ ?_ ?_ ?_ ?_ ?_ ?_ ?_ <;> simp [h6, h7, h8, h9, h10, h11, h12]
set_option maxRecDepth 10000 in
theorem loop35_0 {R : AO} {g : Gm} {ns : List Nd} {more : List Int} (hmo : more.length < 4611686018427387904) (hgi : g.is.length ≤ 1000) {N : Nat} {K : XE → Env → List AO → Prop}
    (hexit : ∀ env a to fs L, to.length = g.is.length → JI g.is to fs → env.get 6 = .ptr (.own H.length 0 0 0 0) 0 → env.get 7 = .ptr (.own (H.length + 3) 0 0 0 0) 0 → env.get 9 = .own (H.length + 5) 0 to.length 1 to.length → env.get 10 = .own (H.length + 6) 0 fs.length 2 fs.length →
      K (.exit 0) env (jhp H R g ns more a to fs L)) :
    ∀ (n : Nat) (env : Env) (a : Int) (to : List Int) (fs : List (Int × Int)) (L : List AO), to.length + n = g.is.length → JI g.is to fs → 0 ≤ a → env.get 6 = .ptr (.own H.length 0 0 0 0) 0 → env.get 7 = .ptr (.own (H.length + 3) 0 0 0 0) 0 → env.get 8 = .ptr (.own (H.length + 4) 0 0 0 0) 0 → env.get 9 = .own (H.length + 5) 0 to.length 1 to.length → env.get 10 = .own (H.length + 6) 0 fs.length 2 fs.length → env.get 11 = i64 to.length →
      LI Try.prog N drawB l35_0 env (jhp H R g ns more a to fs L) K := by
  intro n
  induction n with
  | zero =>
    intro env a to fs L hn hJ ha h6 h7 h8 h9 h10 h11
    refine li_go hm' l35_0.eq_1 ?_
    simp -implicitDefEqProofs [h6, h7, h8, h9, h10, h11, jhp, show ¬ to.length < g.is.length by omega]
    refine hexit _ a to fs L (by omega) hJ ?_ ?_ ?_ ?_ <;> simp [h6, h7, h9, h10]
  | succ n ih =>
    intro env a to fs L hn hJ ha h6 h7 h8 h9 h10 h11
    refine li_go hm' l35_0.eq_1 ?_
    have hlt : to.length < g.is.length := by omega
    have hfl := (rgL_le hJ.rg).2
    have w1 : IntKind.i64.wrap ((to.length : Int) + 1) = ((to.length + 1 : Nat) : Int) := wrap_succ (by omega)
    have e1 := rws_at icN_len hlt
    have e2 := rws_ge icN_len hlt
    have e3 := rws_min icN_len hlt
    rw [icN, List.cons_append, List.cons_append, List.nil_append] at e1
    have z0 := rws_len icN_len fs
    -- what is done with the set that is found, or with a new one
    have key : ∀ (k : Nat) (env : Env) (a : Int), 0 ≤ a → (k = fs.length ∨ fs[k]? = some g.is[to.length]) → env.get 6 = .ptr (.own H.length 0 0 0 0) 0 → env.get 7 = .ptr (.own (H.length + 3) 0 0 0 0) 0 → env.get 8 = .ptr (.own (H.length + 4) 0 0 0 0) 0 → env.get 9 = .own (H.length + 5) 0 to.length 1 to.length → env.get 10 = .own (H.length + 6) 0 fs.length 2 fs.length → env.get 11 = i64 to.length → env.get 12 = i64 k →
        ∀ K2 : XE → Env → List AO → Prop, (∀ (e : Env) (G : List AO), e.get 11 = i64 to.length → LI Try.prog N drawB l35_0 ((11, i64 ((to.length + 1 : Nat) : Int)) :: (28, i64 ((to.length + 1 : Nat) : Int)) :: (27, i64 to.length) :: e) G K → K2 .normal e G) →
        X Try.prog N drawB (match l35_0 with | .keep _ (.seq _ (.seq (.blk _ (.seq _ (.seq _ w))) _)) => w | _ => .skip) env (jhp H R g ns more a to fs L) K2 := by
      intro k env a ha hk g6 g7 g8 g9 g10 g11 g12 K2 hK2
      have ek : ∀ v : Int, ints (to ++ [v]) = ints to ++ [i64 v] := fun v => by simp [ints]
      by_cases hkf : k = fs.length
      · subst hkf
        simp -implicitDefEqProofs [l35_0, g6, g7, g8, g9, g10, g11, g12, jhp, hlt, e1, e2, e3, z0, Nat.add_assoc]
        refine ⟨by omega, by omega, by omega, by omega, ?_⟩
        refine hK2 _ _ (by simp [g11]) (LI.cong (H' := jhp H R g ns more a (to ++ [(fs.length : Int)]) (fs ++ [g.is[to.length]]) (L ++ [⟨[i64 g.is[to.length].1, i64 g.is[to.length].2], 34, 0, true⟩, ⟨[i64 fs.length], 3, 0, true⟩])) (by simp [jhp, ek, rws_app, rws, icN]) (ih _ _ _ _ _ (by simp; omega) (hJ.new hlt) ha ?_ ?_ ?_ ?_ ?_ ?_))
        all_goals simp [g6, g7, g8]
      · have hk' := hk.resolve_left hkf
        have hkl := getElem?_lt hk'
        simp -implicitDefEqProofs [l35_0, g6, g7, g8, g9, g10, g11, g12, jhp, hlt, e1, e2, e3, z0, show ¬ ((k : Int) = fs.length) by omega]
        refine ⟨by omega, by omega, ?_⟩
        refine hK2 _ _ (by simp [g11]) (LI.cong (H' := jhp H R g ns more a (to ++ [(k : Int)]) fs (L ++ [⟨[i64 k], 3, 0, true⟩])) (by simp [jhp, ek]) (ih _ _ _ _ _ (by simp; omega) (hJ.old hlt hk') ha ?_ ?_ ?_ ?_ ?_ ?_))
        all_goals simp [g6, g7, g8, g10]
    simp -implicitDefEqProofs [h6, h7, h8, h9, h10, h11, jhp, hlt]
    have h59 := ok59 (G := jhp H R g ns more a to fs L) (l := more) (at' := a) (n := 3) (jd := H.length + 4) (by simp [jhp, get_app]) hmo ha (by omega)
    refine call_goP h59 ?_
    rintro o G' ⟨v, a', rfl, ha', hv1, hv2, rfl⟩
    have eG : (jhp H R g ns more a to fs L).set (H.length + 4) ⟨[.slc (ints more) more.length, i64 a'], 96, 0, true⟩ = jhp H R g ns more a' to fs L := by simp [jhp, set_app]
    rw [eG]
    by_cases hv : v = 1
    · simp -implicitDefEqProofs [h6, h7, h8, h9, h10, h11, hlt, hv]
      refine loop35_1 (i := to.length) hlt (by omega) (fun env k hk k6 k7 k8 k9 k10 k11 k12 => ?_) fs.length 0 fs.length _ (by omega) (.inl rfl) ?_ ?_ ?_ ?_ ?_ ?_ ?_ ?_
      · refine key k env a' ha' hk k6 k7 k8 k9 k10 k11 k12 _ ?_
        intro e G g11 hL
        simp -implicitDefEqProofs [g11, w1]
        exact hL
      all_goals simp [h6, h7, h8, h9, h10, h11]
    · have ek : ∀ v : Int, ints (to ++ [v]) = ints to ++ [i64 v] := fun v => by simp [ints]
      simp -implicitDefEqProofs [h6, h7, h8, h9, h10, h11, hlt, hv, jhp, e1, e2, e3, z0, Nat.add_assoc, w1]
      refine ⟨by omega, by omega, by omega, by omega, ?_⟩
      refine LI.cong (H' := jhp H R g ns more a' (to ++ [(fs.length : Int)]) (fs ++ [g.is[to.length]]) (L ++ [⟨[i64 g.is[to.length].1, i64 g.is[to.length].2], 34, 0, true⟩, ⟨[i64 fs.length], 3, 0, true⟩])) (by simp [jhp, ek, rws_app, rws, icN]) (ih _ _ _ _ _ (by simp; omega) (hJ.new hlt) ha' ?_ ?_ ?_ ?_ ?_ ?_)
      all_goals simp [h6, h7, h8, w1]
set_option maxRecDepth 10000 in
theorem loop35_2 {R : AO} {g : Gm} {more to : List Int} {a : Int} {fs : List (Int × Int)} (hgn : g.ns.length ≤ 10000) (hl : to.length = g.is.length) (hgd : ∀ x ∈ g.ns, x.k = 2 → 0 ≤ x.i ∧ x.i < g.is.length) {N : Nat} {K : XE → Env → List AO → Prop}
    (hexit : ∀ env L, env.get 6 = .ptr (.own H.length 0 0 0 0) 0 → env.get 7 = .ptr (.own (H.length + 3) 0 0 0 0) 0 → env.get 10 = .own (H.length + 6) 0 fs.length 2 fs.length →
      K (.exit 4) env (jhp H R g (g.ns.map (Nd.join to)) more a to fs L)) :
    ∀ (n i : Nat) (env : Env) (L : List AO), i + n = g.ns.length → env.get 6 = .ptr (.own H.length 0 0 0 0) 0 → env.get 7 = .ptr (.own (H.length + 3) 0 0 0 0) 0 → env.get 9 = .own (H.length + 5) 0 to.length 1 to.length → env.get 10 = .own (H.length + 6) 0 fs.length 2 fs.length → env.get 14 = i64 i →
      LI Try.prog N drawB l35_2 env (jhp H R g ((g.ns.take i).map (Nd.join to) ++ g.ns.drop i) more a to fs L) K := by
  intro n
  induction n with
  | zero =>
    intro i env L hi h6 h7 h9 h10 h14
    refine li_go hm' l35_2.eq_1 ?_
    have e : i = g.ns.length := by omega
    subst e
    simp -implicitDefEqProofs [h6, h7, h9, h10, h14, jhp]
    refine K_cong (H' := jhp H R g (g.ns.map (Nd.join to)) more a to fs L) (by simp [jhp]) (hexit _ L ?_ ?_ ?_) <;> simp [h6, h7, h10]
  | succ n ih =>
    intro i env L hi h6 h7 h9 h10 h14
    refine li_go hm' l35_2.eq_1 ?_
    have hlt : i < g.ns.length := by omega
    generalize hns : (g.ns.take i).map (Nd.join to) ++ g.ns.drop i = ns
    have hnl : ns.length = g.ns.length := by rw [← hns]; simp; omega
    have hlt' : i < ns.length := by omega
    have hni : ns[i] = g.ns[i] := by simp only [← hns]; rw [List.getElem_append_right (by simp; omega)]; simp [Nat.min_eq_left (Nat.le_of_lt hlt)]
    have d := rws_at Nd.lenN hlt'
    have d1 := rws_ge Nd.lenN hlt'
    have d2 := rws_min Nd.lenN hlt'
    have d3 := rws_get Nd.lenN (t := 2) hlt' (by omega)
    rw [Nd.cN, List.cons_append, List.cons_append, List.cons_append, List.cons_append, List.cons_append, List.cons_append, List.nil_append] at d
    have w1 : IntKind.i64.wrap ((i : Int) + 1) = ((i + 1 : Nat) : Int) := wrap_succ (by omega)
    have hc1 : ∀ l : List Int, (slN l).isCell = true := fun l => by unfold slN; split <;> rfl
    have hnext : (g.ns.take (i + 1)).map (Nd.join to) ++ g.ns.drop (i + 1) = ns.set i (g.ns[i].join to) := by
      rw [← hns, List.set_append_right _ _ (by simp; omega)]
      have e0 : i - ((g.ns.take i).map (Nd.join to)).length = 0 := by simp; omega
      rw [e0, List.drop_eq_getElem_cons hlt, List.set_cons_zero, List.take_succ_eq_append_getElem hlt, List.map_append]
      simp only [List.map_cons, List.map_nil, List.append_assoc, List.cons_append, List.nil_append]
    have hstep : ∀ (env : Env) (L : List AO), env.get 6 = .ptr (.own H.length 0 0 0 0) 0 → env.get 7 = .ptr (.own (H.length + 3) 0 0 0 0) 0 → env.get 9 = .own (H.length + 5) 0 to.length 1 to.length → env.get 10 = .own (H.length + 6) 0 fs.length 2 fs.length → env.get 14 = i64 ((i + 1 : Nat) : Int) →
        LI Try.prog N drawB l35_2 env (jhp H R g (ns.set i (g.ns[i].join to)) more a to fs L) K := fun env L k6 k7 k9 k10 k14 => by
      rw [← hnext]; exact ih (i + 1) env L (by omega) k6 k7 k9 k10 k14
    by_cases hc : g.ns[i].k = 2
    · have hr := hgd _ (List.getElem_mem hlt) hc
      have hj : g.ns[i].i < (to.length : Int) := by omega
      have hxl : g.ns[i].i.toNat < to.length := by omega
      have q := ints_get hxl
      have ej : g.ns[i].join to = { g.ns[i] with i := to.getD g.ns[i].i.toNat 0 } := by unfold Nd.join; rw [if_pos ⟨hc, hj⟩]
      have es := rws_set1 Nd.lenN (t := 2) hlt' (by omega) (c := i64 (to.getD g.ns[i].i.toNat 0)) (x := g.ns[i].join to) (by rw [hni, ej]; rfl)
      simp -implicitDefEqProofs [h6, h7, h9, h10, h14, jhp, hlt', d, d1, d2, hnl, hlt, hni, hc, hj, q, hc1]
      refine ⟨by omega, by omega, by omega, ?_⟩
      refine LI.cong (H' := jhp H R g (ns.set i (g.ns[i].join to)) more a to fs (L ++ [⟨[i64 2, i64 g.ns[i].p, i64 g.ns[i].i, slN g.ns[i].nx, slN g.ns[i].ws, slN g.ns[i].ps], 37, 0, true⟩])) ?_ (hstep _ _ ?_ ?_ ?_ ?_ ?_)
      · simp only [jhp, ← es, List.length_set, hnl]
        simp [hxl]
      all_goals simp [h6, h7, h9, h10, w1]
    · have ej : g.ns[i].join to = g.ns[i] := by unfold Nd.join; rw [if_neg (by omega)]
      have es : ns.set i (g.ns[i].join to) = ns := by rw [ej, ← hni]; exact List.set_getElem_self hlt'
      simp -implicitDefEqProofs [h6, h7, h9, h10, h14, jhp, hlt', d, d1, d2, hnl, hlt, hni, hc, hc1]
      refine LI.cong (H' := jhp H R g (ns.set i (g.ns[i].join to)) more a to fs (L ++ [⟨[i64 g.ns[i].k, i64 g.ns[i].p, i64 g.ns[i].i, slN g.ns[i].nx, slN g.ns[i].ws, slN g.ns[i].ps], 37, 0, true⟩])) ?_ (hstep _ _ ?_ ?_ ?_ ?_ ?_)
      · rw [es]; simp [jhp, hnl]
      all_goals simp [h6, h7, h9, h10, w1]
/-- A GAME OF WHICH SOME SETS ARE JOINED. -/
theorem ok35 {l more : List Int} {pl : Int} (hl : l.length < 4611686018427387904) (hmo : more.length < 4611686018427387904) (p1 : 1 ≤ pl) (p2 : pl ≤ 1000) :
    OkP Try.prog 35 [.slc (ints l) l.length, i64 pl, .slc (ints more) more.length] H fun o H' => ∃ g, Made pl 40 g ∧ o = .ret (.agg g.cells) ∧ H' = H := by
  refine okP_fn hm' Try.func35 c35 (by simp) fun hcl => ?_
  simp -implicitDefEqProofs [i35, r35]
  refine call_goP (ok36k hl p1 p2 (by omega) (by omega)) ?_
  rintro o G' ⟨g, hm, rfl, rfl⟩
  have hgl := hm.ml
  have hil := hm.il
  have hpl := hm.pl
  simp -implicitDefEqProofs
  refine LI.cong (H' := jhp H ⟨[i64 0, .val (.slice none 0 0), .val (.slice none 0 0)], 25, 0, true⟩ g g.ns more 0 [] [] []) (by simp [jhp, hpl, rws]; rfl) ?_
  refine loop35_0 hmo (by omega) (fun env a to fs L hto hJ k6 k7 k9 k10 => ?_) g.is.length _ 0 [] [] [] (by simp) (JI.zero _) (by omega) ?_ ?_ ?_ ?_ ?_ ?_
  · simp -implicitDefEqProofs [k6, k7, k9, k10]
    refine LI.cong (H' := jhp H ⟨[i64 0, .val (.slice none 0 0), .val (.slice none 0 0)], 25, 0, true⟩ g ((g.ns.take 0).map (Nd.join to) ++ g.ns.drop 0) more a to fs L) (by simp) ?_
    refine loop35_2 (by omega) hto (fun x hx hk => by
      rcases hm.good x hx with h | h | h
      · omega
      · have := getElem?_lt h.2.2.2.2.2.2.2.2; omega
      · omega) (fun env L k6 k7 k10 => ?_) g.ns.length 0 _ L (by omega) ?_ ?_ ?_ ?_ ?_
    · simp -implicitDefEqProofs [k6, k7, k10, jhp]
      refine ⟨_, _, ⟨_, hm.join hJ hto, rfl, rfl⟩, ?_⟩
      refine Cv.le ?_ (gN_le ⟨pl, g.ns.map (Nd.join to), fs⟩)
      have z1 := rws_len Nd.lenN (g.ns.map (Nd.join to))
      have z2 := rws_len icN_len fs
      refine cv_fz 4 hcl rfl ?_
      simp at z1
      simp [placeOf, z1, z2, hpl, List.take_of_length_le, map_fz_under, rws_under (cN_under _), rws_under (icN_under _)]
    all_goals simp [k6, k7, k9, k10]
  all_goals simp
end
end Go.Proofs.Ytiikfkacbglblaa

/- D17 -/
namespace Go.Proofs.Ytiikfkacbglblaa
open Go.Ab
def gi (l : List Int) (i : Nat) : Int := l.getD i 0
/-- What is told of a node's children. -/
structure Nf (ns : List Nd) (s : W3) (i : Nat) (x : Nd) : Prop where
  ch : ∀ j ∈ x.nx, (i : Int) < j ∧ j < ns.length ∧ gi s.P j.toNat = i ∧ gi s.D j.toNat = gi s.D i + 1
  inc : x.nx.Pairwise (· < ·)
  la : gi s.L i = match x.nx.getLast? with | none => (i : Int) | some j => gi s.L j.toNat
def Fr (s t : W3) (a b : Nat) : Prop := ∀ i, (i < a ∨ b ≤ i) → gi t.P i = gi s.P i ∧ gi t.D i = gi s.D i ∧ gi t.L i = gi s.L i
structure Kf (ns : List Nd) (at' : Nat) (dep : Int) (l : List Int) (r0 r : Nat) (s t : W3) : Prop where
  nf : ∀ i x, r0 ≤ i → i < r → ns[i]? = some x → Nf ns t i x
  pf : ∀ i, r0 ≤ i → i < r → ((i : Int) ∈ l ∧ gi t.P i = at') ∨ (∃ (p : Nat) (x : Nd), gi t.P i = p ∧ r0 ≤ p ∧ p < i ∧ ns[p]? = some x ∧ (i : Int) ∈ x.nx)
  ch : ∀ j ∈ l, (r0 : Int) ≤ j ∧ j < r ∧ gi t.P j.toNat = at' ∧ gi t.D j.toNat = dep + 1
  inc : l.Pairwise (· < ·)
  nil : l = [] → r = r0
  la : ∀ j, l.getLast? = some j → gi t.L j.toNat = (r : Int) - 1
  fr : Fr s t r0 r
structure Wf (ns : List Nd) (par dep : Int) (k r : Nat) (s t : W3) : Prop where
  nf : ∀ i x, k ≤ i → i < r → ns[i]? = some x → Nf ns t i x
  pf : ∀ i, k < i → i < r → ∃ (p : Nat) (x : Nd), gi t.P i = p ∧ k ≤ p ∧ p < i ∧ ns[p]? = some x ∧ (i : Int) ∈ x.nx
  p : gi t.P k = par
  d : gi t.D k = dep
  l : gi t.L k = (r : Int) - 1
  fr : Fr s t k r
theorem Fr.trans {s t u : W3} {a b c d : Nat} (h : Fr s t a b) (h' : Fr t u c d) (h1 : a ≤ c) (h2 : b ≤ d) : Fr s u a d := by
  intro i hi
  have e1 := h i (by omega)
  have e2 := h' i (by omega)
  exact ⟨e2.1.trans e1.1, e2.2.1.trans e1.2.1, e2.2.2.trans e1.2.2⟩
/-- Facts of nodes below stay. -/
theorem Nf.keep {ns : List Nd} {s t : W3} {i a b : Nat} {x : Nd} (h : Nf ns s i x) (hf : Fr s t a b) (hi : i < a) (hx : ∀ j ∈ x.nx, j < a) : Nf ns t i x := by
  have hn : ∀ j ∈ x.nx, j.toNat < a := fun j hj => by have := hx j hj; have := (h.ch j hj).1; omega
  refine ⟨fun j hj => ?_, h.inc, ?_⟩
  · have h1 := h.ch j hj
    have h2 := hf j.toNat (.inl (hn j hj))
    have h3 := hf i (.inl hi)
    exact ⟨h1.1, h1.2.1, h2.1.trans h1.2.2.1, by rw [h2.2.1, h3.2.1]; exact h1.2.2.2⟩
  · rw [(hf i (.inl hi)).2.2, h.la]
    cases hl : x.nx.getLast? with
    | none => rfl
    | some j => exact (hf j.toNat (.inl (hn j (List.mem_of_getLast? hl)))).2.2.symm
theorem kids_facts {ns : List Nd} {at' : Nat} {dep : Int} {w : Nat → W3 → Option Nat × W3} (hok : ∀ r s, s.ok ns.length → (w r s).2.ok ns.length ∧ ∀ r', (w r s).1 = some r' → r < r' ∧ r' ≤ ns.length)
    (hw : ∀ r s r', s.ok ns.length → (w r s).1 = some r' → Wf ns at' (dep + 1) r r' s (w r s).2 ∧ (∀ i x, r ≤ i → i < r' → ns[i]? = some x → ∀ j ∈ x.nx, j < r')) :
    ∀ (l : List Int) (r0 : Nat) (s : W3) (r : Nat), s.ok ns.length → (kids w l r0 s).1 = some r → Kf ns at' dep l r0 r s (kids w l r0 s).2 ∧ r0 ≤ r ∧ (∀ i x, r0 ≤ i → i < r → ns[i]? = some x → ∀ j ∈ x.nx, j < r)
  | [], r0, s, r, hs, h => by
    simp only [kids, Option.some.injEq] at h
    subst h
    exact ⟨⟨fun i x h1 h2 => by omega, fun i h1 h2 => by omega, fun j hj => by simp at hj, .nil, fun _ => rfl, fun j hj => by simp at hj, fun i _ => ⟨rfl, rfl, rfl⟩⟩, Nat.le_refl _, fun i x h1 h2 => by omega⟩
  | c :: cs, r0, s, r, hs, h => by
    unfold kids at h ⊢
    by_cases hc : c = r0
    · rw [if_pos hc] at h ⊢
      have hk := hok r0 s hs
      have hf := hw r0 s
      cases hh : w r0 s with
      | mk o s1 =>
        rw [hh] at h hk hf
        cases o with
        | none => simp at h
        | some r1 =>
          simp only at h ⊢
          obtain ⟨f1, f1b⟩ := hf r1 hs rfl
          have b1 := hk.2 r1 rfl
          obtain ⟨f2, f2l, f2b⟩ := kids_facts hok hw cs r1 s1 r hk.1 h
          generalize (kids w cs r1 s1).2 = t at f2
          refine ⟨⟨fun i x h1 h2 hx => ?_, fun i h1 h2 => ?_, fun j hj => ?_, ?_, (fun e => by cases e), fun j hj => ?_, ?_⟩, by omega, fun i x h1 h2 hx j hj => ?_⟩
          · by_cases hi : i < r1
            · exact (f1.nf i x h1 hi hx).keep f2.fr hi (f1b i x h1 hi hx)
            · exact f2.nf i x (by omega) h2 hx
          · by_cases hi : i < r1
            · by_cases he : i = r0
              · subst he
                exact .inl ⟨by rw [hc]; exact List.mem_cons_self, by rw [(f2.fr i (.inl hi)).1]; exact f1.p⟩
              · obtain ⟨p, x, k1, k2, k3, k4, k5⟩ := f1.pf i (by omega) hi
                exact .inr ⟨p, x, by rw [(f2.fr i (.inl hi)).1]; exact k1, k2, k3, k4, k5⟩
            · rcases f2.pf i (by omega) h2 with ⟨k1, k2⟩ | ⟨p, x, k1, k2, k3, k4, k5⟩
              · exact .inl ⟨List.mem_cons_of_mem _ k1, k2⟩
              · exact .inr ⟨p, x, k1, by omega, k3, k4, k5⟩
          · rcases List.mem_cons.1 hj with rfl | hj
            · have e : j.toNat = r0 := by omega
              refine ⟨by omega, by omega, ?_, ?_⟩
              · rw [e, (f2.fr r0 (.inl b1.1)).1]; exact f1.p
              · rw [e, (f2.fr r0 (.inl b1.1)).2.1]; exact f1.d
            · have := f2.ch j hj
              exact ⟨by omega, this.2.1, this.2.2⟩
          · refine .cons (fun j hj => ?_) f2.inc
            have := (f2.ch j hj).1
            omega
          · cases cs with
            | nil =>
              simp only [List.getLast?_singleton, Option.some.injEq] at hj
              subst hj
              have hr := f2.nil rfl
              have e : c.toNat = r0 := by omega
              rw [e, (f2.fr r0 (.inl b1.1)).2.2, f1.l, hr]
            | cons c' cs' =>
              rw [List.getLast?_cons_cons] at hj
              exact f2.la j hj
          · exact f1.fr.trans f2.fr (by omega) (by omega)
          · by_cases hi : i < r1
            · have := f1b i x h1 hi hx j hj; omega
            · exact f2b i x (by omega) h2 hx j hj
    · rw [if_neg hc] at h
      simp at h
theorem gi_set_ne {l : List Int} {i k : Nat} {v : Int} (h : i ≠ k) : gi (l.set k v) i = gi l i := getD_set_ne h
theorem gi_set_eq {l : List Int} {k : Nat} {v : Int} (h : k < l.length) : gi (l.set k v) k = v := getD_set_eq h
theorem walk_facts {ns : List Nd} : ∀ (f : Nat) (par dep : Int) (k : Nat) (s : W3) (r : Nat), s.ok ns.length → (walkS ns f par dep k s).1 = some r →
    Wf ns par dep k r s (walkS ns f par dep k s).2 ∧ (∀ i x, k ≤ i → i < r → ns[i]? = some x → ∀ j ∈ x.nx, j < r)
  | 0, par, dep, k, s, r, hs, h => by simp [walkS] at h
  | f + 1, par, dep, k, s, r, hs, h => by
    unfold walkS at h ⊢
    cases hk : ns[k]? with
    | none => rw [hk] at h; simp at h
    | some x =>
      rw [hk] at h
      have hlt := getElem?_lt hk
      have hs' : W3.ok ⟨s.P.set k par, s.D.set k dep, s.L⟩ ns.length := ⟨by simpa using hs.1, by simpa using hs.2.1, hs.2.2⟩
      have hkf := kids_facts (ns := ns) (at' := k) (dep := dep) (w := walkS ns f k (dep + 1)) (fun r s hs => walkS_ok f k (dep + 1) r s hs) (fun r s r' hs h => walk_facts f k (dep + 1) r s r' hs h) x.nx (k + 1) ⟨s.P.set k par, s.D.set k dep, s.L⟩
      have hko := kids_ok (n := ns.length) (w := walkS ns f k (dep + 1)) (m := 0) (fun r s _ hs => walkS_ok f k (dep + 1) r s hs) x.nx (k + 1) ⟨s.P.set k par, s.D.set k dep, s.L⟩ (by omega) (by omega) hs'
      simp only at h ⊢
      cases hh : kids (walkS ns f k (dep + 1)) x.nx (k + 1) ⟨s.P.set k par, s.D.set k dep, s.L⟩ with
      | mk o s1 =>
        rw [hh] at h hkf hko
        cases o with
        | none => simp at h
        | some r1 =>
          simp only [Option.some.injEq] at h
          subst h
          obtain ⟨kf, kle, kb⟩ := hkf r1 hs' rfl
          have hL : s1.L.length = ns.length := hko.1.2.2
          have hPk : gi s1.P k = par := by rw [(kf.fr k (.inl (by omega))).1]; exact gi_set_eq (by have := hs.1; omega)
          have hDk : gi s1.D k = dep := by rw [(kf.fr k (.inl (by omega))).2.1]; exact gi_set_eq (by have := hs.2.1; omega)
          have hLk : gi (s1.L.set k ((r1 : Int) - 1)) k = (r1 : Int) - 1 := gi_set_eq (by omega)
          have hLo : ∀ i, i ≠ k → gi (s1.L.set k ((r1 : Int) - 1)) i = gi s1.L i := fun i hi => gi_set_ne hi
          have hb : ∀ i y, k ≤ i → i < r1 → ns[i]? = some y → ∀ j ∈ y.nx, j < (r1 : Int) := fun i y h1 h2 hy j hj => by
            by_cases he : i = k
            · subst he
              rw [hk] at hy; cases hy
              exact (kf.ch j hj).2.1
            · exact kb i y (by omega) h2 hy j hj
          refine ⟨⟨fun i y h1 h2 hy => ?_, fun i h1 h2 => ?_, hPk, hDk, hLk, ?_⟩, hb⟩
          · by_cases he : i = k
            · subst he
              rw [hk] at hy; cases hy
              refine ⟨fun j hj => ?_, kf.inc, ?_⟩
              · have := kf.ch j hj
                exact ⟨by omega, by have := this.2.1; have := (hko.2 r1 rfl).2; omega, this.2.2.1, by rw [this.2.2.2]; show _ = gi s1.D i + 1; rw [hDk]⟩
              · show gi (s1.L.set i ((r1 : Int) - 1)) i = _
                rw [hLk]
                cases hl : x.nx.getLast? with
                | none =>
                  have : x.nx = [] := List.getLast?_eq_none_iff.1 hl
                  have := kf.nil this
                  simp only; omega
                | some j =>
                  have h3 := kf.ch j (List.mem_of_getLast? hl)
                  show _ = gi (s1.L.set i ((r1 : Int) - 1)) j.toNat
                  rw [hLo j.toNat (by omega), kf.la j hl]
            · have hn := kf.nf i y (by omega) h2 hy
              refine ⟨hn.ch, hn.inc, ?_⟩
              show gi (s1.L.set k ((r1 : Int) - 1)) i = _
              rw [hLo i he, hn.la]
              cases hl : y.nx.getLast? with
              | none => rfl
              | some j =>
                have h3 := hn.ch j (List.mem_of_getLast? hl)
                show _ = gi (s1.L.set k ((r1 : Int) - 1)) j.toNat
                rw [hLo j.toNat (by omega)]
          · rcases kf.pf i (by omega) h2 with ⟨k1, k2⟩ | ⟨p, y, k1, k2, k3, k4, k5⟩
            · exact ⟨k, x, k2, Nat.le_refl _, h1, hk, k1⟩
            · exact ⟨p, y, k1, by omega, k3, k4, k5⟩
          · intro i hi
            have h3 := kf.fr i (by omega)
            refine ⟨?_, ?_, ?_⟩
            · show gi s1.P i = _; rw [h3.1]; exact gi_set_ne (by omega)
            · show gi s1.D i = _; rw [h3.2.1]; exact gi_set_ne (by omega)
            · show gi (s1.L.set k ((r1 : Int) - 1)) i = _; rw [hLo i (by omega)]; exact h3.2.2
end Go.Proofs.Ytiikfkacbglblaa

/- D18 -/
namespace Go.Proofs.Ytiikfkacbglblaa
open Go.Ab
section
variable {H : List AO} {g : Gm}
/-- What a walk gives: an error, or what is found. -/
def Gm.out (g : Gm) (z v : SV) : SV := if g.formE = 0 then .tup [v, i64 0] else .tup [z, i64 g.formE]
theorem walked_err (h : g.formE ≠ 0) : ∃ p, g.walked = .tup [p, i64 g.formE] ∧ p.under 0 = true := by
  unfold Gm.walked Gm.formE at *
  by_cases h0 : g.err0 = 0
  · have h1 : ¬ g.err0 ≠ 0 := by simpa using h0
    rw [if_neg h1] at h ⊢
    rw [if_neg h1]
    exact ⟨_, rfl, by simp [Gm.wp, sl, SV.underL, nds_under, infs_under]⟩
  · have h1 : g.err0 ≠ 0 := h0
    rw [if_pos h1, if_pos h1]
    exact ⟨_, rfl, rfl⟩
theorem walked_ok (h : g.formE = 0) : g.walked = .tup [g.wp, i64 0] := by
  unfold Gm.walked Gm.formE at *
  by_cases h0 : g.err0 = 0
  · have h1 : ¬ g.err0 ≠ 0 := by simpa using h0
    rw [if_neg h1] at h ⊢
    rw [h]
  · have h1 : g.err0 ≠ 0 := h0
    rw [if_pos h1] at h
    exact (h0 h).elim
end
end Go.Proofs.Ytiikfkacbglblaa

/- D19 -/
namespace Go.Proofs.Ytiikfkacbglblaa
open Go.Ab
/-- What is known of a game that is well formed. -/
structure Wg (g : Gm) : Prop where
  gd : Gd g
  wk : g.wk.1 = some g.ns.length
  mx : maxL g.wk.2.D ≤ 40
  se : g.setsE = 0
theorem nodesE_zero {g : Gm} : ∀ {l : List Nd}, nodesE g l = 0 → ∀ x ∈ l, x.err g = 0
  | [], _, x, hx => by simp at hx
  | y :: r, h, x, hx => by
    unfold nodesE at h
    by_cases hy : y.err g = 0
    · rw [if_pos hy] at h
      rcases List.mem_cons.1 hx with rfl | hx
      · exact hy
      · exact nodesE_zero h x hx
    · rw [if_neg hy] at h
      exact (hy h).elim
theorem wg_of {g : Gm} (h : g.formE = 0) : Wg g := by
  unfold Gm.formE at h
  by_cases h0 : g.err0 = 0
  · have h1 : ¬ g.err0 ≠ 0 := by simpa using h0
    rw [if_neg h1] at h
    unfold Gm.err0 at h0
    by_cases hr : g.rng
    · rw [if_pos hr] at h0; cases h0
    · rw [if_neg hr] at h0
      by_cases hn : nodesE g g.ns = 0
      · have hn' : ¬ nodesE g g.ns ≠ 0 := by simpa using hn
        rw [if_neg hn'] at h0
        by_cases hw : g.wk.1 = some g.ns.length
        · have hw' : ¬ g.wk.1 ≠ some g.ns.length := by simpa using hw
          rw [if_neg hw'] at h0
          by_cases hm : 40 < maxL g.wk.2.D
          · rw [if_pos hm] at h0; cases h0
          · unfold Gm.rng at hr
            exact ⟨⟨by omega, by omega, by omega, by omega, by omega, nodesE_zero hn⟩, hw, by omega, h⟩
        · have hw' : g.wk.1 ≠ some g.ns.length := hw
          rw [if_pos hw'] at h0; cases h0
      · have hn' : nodesE g g.ns ≠ 0 := hn
        rw [if_pos hn'] at h0; exact (hn h0).elim
  · have h1 : g.err0 ≠ 0 := h0
    rw [if_pos h1] at h
    exact (h0 h).elim
section
variable {H : List AO} {g : Gm}
set_option maxRecDepth 10000 in
theorem loop47 (hg : Gd g) {N : Nat} {K : XE → Env → List AO → Prop}
    (hexit : ∀ env M cs, Fam (H.length + 1) M g.sets cs → env.get 3 = .own H.length 0 g.is.length 1 0 → K (.exit 0) env (H ++ ⟨cs, 35, 0, true⟩ :: M)) :
    ∀ (n i : Nat) (env : Env) (M : List AO) (A : List (List Int)) (cs : List SV), i + n = g.ns.length → A.length = g.is.length → (∀ s (h : s < A.length), A[s].length ≤ i) → Fam (H.length + 1) M A cs → setsA (g.ns.drop i) i A = g.sets →
      env.get 3 = .own H.length 0 g.is.length 1 0 → env.get 17 = .slc (nds g.ns) g.ns.length → env.get 18 = i64 g.ns.length → env.get 19 = i64 i →
      LI Try.prog N drawB l47_0 env (H ++ ⟨cs, 35, 0, true⟩ :: M) K := by
  have hgn := hg.n
  intro n
  induction n with
  | zero =>
    intro i env M A cs hi hA hAl hF hS h3 h17 h18 h19
    refine li_go hm l47_0.eq_1 ?_
    have e : i = g.ns.length := by omega
    subst e
    rw [List.drop_length] at hS
    subst hS
    simp -implicitDefEqProofs [h18, h19]
    exact hexit _ _ _ hF (by simp [h3])
  | succ n ih =>
    intro i env M A cs hi hA hAl hF hS h3 h17 h18 h19
    refine li_go hm l47_0.eq_1 ?_
    have hlt : i < g.ns.length := by omega
    have hx : g.ns[i] ∈ g.ns := List.getElem_mem hlt
    have w1 : IntKind.i64.wrap ((i : Int) + 1) = ((i + 1 : Nat) : Int) := wrap_succ (by omega)
    rw [List.drop_eq_getElem_cons hlt, setsA] at hS
    by_cases hk : g.ns[i].k = 2
    · have hb := hg.inf hx hk
      have hs : g.ns[i].i.toNat < A.length := by omega
      have hcl := hF.len
      rw [if_pos hk, List.getD_eq_getElem?_getD, List.getElem?_eq_getElem hs, Option.getD_some] at hS
      have eset : ∀ v : SV, List.take g.ns[i].i.toNat cs ++ v :: List.drop (g.ns[i].i.toNat + 1) cs = cs.set g.ns[i].i.toNat v := fun v => by
        rw [List.set_eq_take_append_cons_drop, if_pos (by omega)]
      have hAl' : ∀ v : List Int, v.length ≤ i + 1 → ∀ s (h : s < (A.set g.ns[i].i.toNat v).length), (A.set g.ns[i].i.toNat v)[s].length ≤ i + 1 := fun v hv s h => by
        by_cases e : g.ns[i].i.toNat = s
        · subst e; simpa using hv
        · rw [List.getElem_set_ne e]
          have := hAl s (by simpa using h); omega
      rcases hF.at' _ hs with ⟨k1, k2⟩ | ⟨k1, p, k2, k3⟩
      · simp -implicitDefEqProofs [h3, h17, h18, h19, hlt, nds_at hlt, nds_min hlt, nds_ge hlt, hk, sl, k2]
        refine ⟨by omega, by omega, by omega, by omega, ?_⟩
        have hF' : ∀ x y : AO, Fam (H.length + 1) (M ++ [x, y, ⟨[i64 i], 3, 1, true⟩]) (A.set g.ns[i].i.toNat [(i : Int)]) (cs.set g.ns[i].i.toNat (.own (H.length + (M.length + 3)) 0 1 1 1)) := fun x y => by
          have := (hF.mono [x, y]).new (i := (i : Int)) hs k1
          rw [show H.length + 1 + (M ++ [x, y]).length = H.length + (M.length + 3) by simp; omega] at this
          simpa [ints] using this
        rw [k1, List.nil_append] at hS
        rw [eset, w1]
        refine ih (i + 1) _ _ _ _ (by omega) (by simp [hA]) (hAl' _ (by simp)) (hF' _ _) hS ?_ ?_ ?_ ?_
        · simp
        · simp
        · simp
        · simp
      · rw [show H.length + 1 + p = H.length + (p + 1) by omega] at k2
        have hp := getElem?_lt k3
        have hle := hAl _ hs
        simp -implicitDefEqProofs [h3, h17, h18, h19, hlt, nds_at hlt, nds_min hlt, nds_ge hlt, hk, sl, k2, setObj_old k3, objCells_set0, objCells_setk, objIs_old k3]
        refine ⟨by omega, by omega, by omega, by omega, by omega, by omega, ?_⟩
        have hF' : ∀ x y : AO, Fam (H.length + 1) (M.set p ⟨ints A[g.ns[i].i.toNat] ++ [i64 i], 3, A[g.ns[i].i.toNat].length + 1, true⟩ ++ [x, y]) (A.set g.ns[i].i.toNat (A[g.ns[i].i.toNat] ++ [(i : Int)]))
            (cs.set g.ns[i].i.toNat (.own (H.length + (p + 1)) 0 (A[g.ns[i].i.toNat].length + 1) 1 (A[g.ns[i].i.toNat].length + 1))) := fun x y => by
          rw [show H.length + (p + 1) = H.length + 1 + p by omega] at k2 ⊢
          have := (hF.grow (i := (i : Int)) hs k2 k3).mono [x, y]
          simpa [ints] using this
        rw [eset, w1]
        refine ih (i + 1) _ _ _ _ (by omega) (by simp [hA]) (hAl' _ (by simp; omega)) (hF' _ _) hS ?_ ?_ ?_ ?_
        · simp
        · simp
        · simp
        · simp
    · simp -implicitDefEqProofs [h3, h17, h18, h19, hlt, nds_at hlt, nds_min hlt, nds_ge hlt, hk, sl]
      rw [if_neg hk] at hS
      rw [w1]
      refine ih (i + 1) _ _ A cs (by omega) hA (fun s h => by have := hAl s h; omega) (hF.mono _) hS ?_ ?_ ?_ ?_
      · simp
      · simp
      · simp
      · simp
def Gm.setsV (g : Gm) : SV := .slc (g.sets.map slN) g.is.length
set_option maxRecDepth 10000 in
theorem ok47 (hg : Gd g) : Ok Try.prog 47 [g.wp] H (.ret g.setsV) H := by
  have hn := hg.n
  have hi := hg.i
  refine ok_fn hm Try.func47 c47 (by simp) fun hcl => ?_
  simp -implicitDefEqProofs [i47, r47, Gm.wp, sl]
  refine ⟨by omega, by omega, ?_⟩
  refine loop47 (g := g) hg (fun env M cs hF h3 => ?_) g.ns.length 0 _ [] (List.replicate g.is.length []) (List.replicate g.is.length nl) (by omega) (by simp) (by simp) (Fam.zero _ _ _) (by simp [Gm.sets]) (by simp) (by simp) (by simp) (by simp)
  simp -implicitDefEqProofs [h3]
  refine cv_fz 4 hcl rfl ?_
  have hl := hF.len
  rw [sets_len] at hl
  have := hF.fz (n := H.length) (k := 1) (d := 1) (F := (⟨cs, 35, 0, true⟩ : AO) :: M) rfl (fun p => by rw [show 1 + p = p + 1 by omega]; simp)
  simp [hl, this, Gm.setsV]
  exact List.take_of_length_le (by simp [sets_len])
end
end Go.Proofs.Ytiikfkacbglblaa

/- D20 -/
namespace Go.Proofs.Ytiikfkacbglblaa
open Go.Ab
structure WF (g : Gm) : Prop where
  len : g.wk.2.ok g.ns.length
  nf : ∀ i (h : i < g.ns.length), Nf g.ns g.wk.2 i g.ns[i]
  pf : ∀ i, 0 < i → i < g.ns.length → ∃ p, ∃ h : p < g.ns.length, gi g.wk.2.P i = p ∧ p < i ∧ (i : Int) ∈ g.ns[p].nx
  p0 : gi g.wk.2.P 0 = -1
  d0 : gi g.wk.2.D 0 = 0
theorem Wg.wf {g : Gm} (h : Wg g) : WF g := by
  have hok := walkS_ok (ns := g.ns) (g.ns.length + 1) (-1) 0 0 g.w0 w0_ok
  obtain ⟨hf, _⟩ := walk_facts (ns := g.ns) (g.ns.length + 1) (-1) 0 0 g.w0 g.ns.length w0_ok h.wk
  refine ⟨hok.1, fun i hi => hf.nf i _ (by omega) hi (List.getElem?_eq_getElem hi), fun i h0 hi => ?_, hf.p, hf.d⟩
  obtain ⟨p, x, k1, k2, k3, k4, k5⟩ := hf.pf i h0 hi
  have hp : p < g.ns.length := by omega
  rw [List.getElem?_eq_getElem hp] at k4
  cases k4
  exact ⟨p, hp, k1, k3, k5⟩
theorem gi_get {l : List Int} {i : Nat} (h : i < l.length) : l[i] = gi l i := by simp [gi, h]
theorem wk_len {g : Gm} : g.wk.2.ok g.ns.length := (walkS_ok (ns := g.ns) (g.ns.length + 1) (-1) 0 0 g.w0 w0_ok).1
section
variable {H : List AO} {g : Gm}
def Gm.last (g : Gm) (node : Int) : Int × Int := if g.formE ≠ 0 then (0, g.formE) else if node < 0 ∨ g.ns.length ≤ node then (0, 2) else (gi g.wk.2.L node.toNat, 0)
end
end Go.Proofs.Ytiikfkacbglblaa

/- D21 -/
namespace Go.Proofs.Ytiikfkacbglblaa
open Go.Ab
section
variable {H : List AO} {g : Gm}
end
end Go.Proofs.Ytiikfkacbglblaa

/- D22 -/
namespace Go.Proofs.Ytiikfkacbglblaa
open Go.Ab
section
variable {σ : Type}
/-- What going up from a node does: nb tells whether to go on, ns what is left. -/
def abv (g : Gm) (pl : Int) (nb : σ → Nat → Int → Bool) (nx : σ → Nat → Int → σ) : Nat → Nat → σ → σ
  | 0, _, s => s
  | f + 1, node, s =>
    if gi g.wk.2.P node < 0 then s else
      match g.ns[(gi g.wk.2.P node).toNat]? with
      | none => s
      | some x =>
        if x.k = 2 ∧ x.p = pl then
          (if nb s (gi g.wk.2.P node).toNat (fstAt node x.nx) = true then abv g pl nb nx f (gi g.wk.2.P node).toNat (nx s (gi g.wk.2.P node).toNat (fstAt node x.nx)) else nx s (gi g.wk.2.P node).toNat (fstAt node x.nx))
        else abv g pl nb nx f (gi g.wk.2.P node).toNat s
variable {g : Gm} {Inv : Nat → List AO → σ → Prop} {vf : SV} {nb : σ → Nat → Int → Bool} {nx : σ → Nat → Int → σ} {pl : Int}
set_option maxRecDepth 10000 in
theorem loop67 (hW : Wg g) (hv : vf.vd = true ∧ vf.ug = vf) (hclo : ∀ m G s (k : Nat) (a : Int), k < m → m < g.ns.length → Inv m G s → OkCP Try.prog vf [i64 k, i64 a] G fun out G' => out = .ret (bl (nb s k a)) ∧ Inv k G' (nx s k a))
    (hbox : ∀ m G s o, Inv m G s → Inv m (G ++ [o]) s) (hdec : ∀ m k G s, k < m → Inv m G s → Inv k G s) {N : Nat} {K : XE → Env → List AO → Prop} {s0 : σ}
    (hret : ∀ env m G, Inv m G s0 → K .ret env G) (hexit : ∀ env m G, Inv m G s0 → K (.exit 0) env G) :
    ∀ (f node : Nat) (env : Env) (G : List AO) (s : σ), node < f → node < g.ns.length → Inv node G s → abv g pl nb nx f node s = s0 →
      env.get 0 = g.wp → env.get 1 = i64 node → env.get 2 = i64 pl → env.get 3 = vf → env.get 8 = i64 (gi g.wk.2.P node) → LI Try.prog N drawB l67_0 env G K := by
  have hf := hW.wf
  have hgn := hW.gd.n
  have hlen : g.wk.2.P.length = g.ns.length := wk_len.1
  intro f
  induction f with
  | zero => intro node env G s h; omega
  | succ f ih =>
    intro node env G s hnf hn hI hs e0 e1 e2 e3 e8
    refine li_go hm l67_0.eq_1 ?_
    unfold abv at hs
    by_cases hneg : gi g.wk.2.P node < 0
    · rw [if_pos hneg] at hs
      subst hs
      simp -implicitDefEqProofs [e8, show ¬ 0 ≤ gi g.wk.2.P node by omega]
      exact hexit _ _ _ hI
    · rw [if_neg hneg] at hs
      have hn0 : 0 < node := by
        rcases Nat.eq_zero_or_pos node with h | h
        · subst h; rw [hf.p0] at hneg; omega
        · exact h
      obtain ⟨p, hp, k1, k2, k3⟩ := hf.pf node hn0 hn
      have k1' : (gi g.wk.2.P node).toNat = p := by omega
      rw [k1', List.getElem?_eq_getElem hp] at hs
      simp only at hs
      rw [k1] at e8
      have hnx : g.ns[p].nx.length ≤ 60 := nx_of (hW.gd.e _ (List.getElem_mem hp))
      by_cases hm' : g.ns[p].k = 2 ∧ g.ns[p].p = pl
      · rw [if_pos hm'] at hs
        simp -implicitDefEqProofs [e0, e1, e2, e3, e8, Gm.wp, hp, nds_at hp, nds_min hp, nds_ge hp, sl, hm'.1, hm'.2, hv.1, hv.2]
        refine callq_st (fun _ => ok82 (IsI.slc _ _) (by omega) (node : Int)) ?_
        simp -implicitDefEqProofs
        refine call_gd (hclo node _ s p (fstAt node g.ns[p].nx) k2 hn (hbox _ _ _ _ hI)) (fun out G' hP => ?_)
        obtain ⟨rfl, hI'⟩ := hP
        cases hb : nb s p (fstAt node g.ns[p].nx) with
        | true =>
          rw [hb, if_pos rfl] at hs
          simp -implicitDefEqProofs [e0, e8, Gm.wp, hp, hlen, sl]
          refine ⟨by omega, ?_⟩
          rw [gi_get (show p < g.wk.2.P.length by omega)]
          refine ih p _ _ _ (by omega) hp hI' hs ?_ ?_ ?_ ?_ ?_
          · simp [Gm.wp, sl, hlen]
          · simp
          · simp [e2]
          · simp [e3]
          · simp
        | false =>
          rw [hb, if_neg (by simp)] at hs
          subst hs
          simp -implicitDefEqProofs
          exact hret _ _ _ hI'
      · rw [if_neg hm'] at hs
        by_cases hk2 : g.ns[p].k = 2
        · have hpl : ¬ g.ns[p].p = pl := fun h => hm' ⟨hk2, h⟩
          simp -implicitDefEqProofs [e0, e1, e2, e3, e8, Gm.wp, hp, nds_at hp, nds_min hp, nds_ge hp, sl, hk2, hpl, hv.1, hv.2]
          refine callq_off _ _ _ _ ?_
          simp -implicitDefEqProofs [e0, e8, Gm.wp, hp, hlen, sl]
          refine ⟨by omega, ?_⟩
          rw [gi_get (show p < g.wk.2.P.length by omega)]
          refine ih p _ _ _ (by omega) hp (hdec _ _ _ _ k2 (hbox _ _ _ _ hI)) hs ?_ ?_ ?_ ?_ ?_
          · simp [Gm.wp, sl, hlen]
          · simp
          · simp [e2]
          · simp [e3]
          · simp
        · simp -implicitDefEqProofs [e0, e1, e2, e3, e8, Gm.wp, hp, nds_at hp, nds_min hp, nds_ge hp, sl, hk2, hv.1, hv.2]
          refine callq_off _ _ _ _ ?_
          simp -implicitDefEqProofs [e0, e8, Gm.wp, hp, hlen, sl]
          refine ⟨by omega, ?_⟩
          rw [gi_get (show p < g.wk.2.P.length by omega)]
          refine ih p _ _ _ (by omega) hp (hdec _ _ _ _ k2 (hbox _ _ _ _ hI)) hs ?_ ?_ ?_ ?_ ?_
          · simp [Gm.wp, sl, hlen]
          · simp
          · simp [e2]
          · simp [e3]
          · simp
theorem ok67 (hW : Wg g) (hv : vf.vd = true ∧ vf.ug = vf) (hclo : ∀ m G s (k : Nat) (a : Int), k < m → m < g.ns.length → Inv m G s → OkCP Try.prog vf [i64 k, i64 a] G fun out G' => out = .ret (bl (nb s k a)) ∧ Inv k G' (nx s k a))
    (hbox : ∀ m G s o, Inv m G s → Inv m (G ++ [o]) s) (hdec : ∀ m k G s, k < m → Inv m G s → Inv k G s) {G : List AO} {s : σ} {node : Nat} (hn : node < g.ns.length) (hI : Inv node G s) :
    OkP Try.prog 67 [g.wp, i64 node, i64 pl, vf] G fun out G' => out = .ret (.tup []) ∧ ∃ m, Inv m G' (abv g pl nb nx g.ns.length node s) := by
  have hlen : g.wk.2.P.length = g.ns.length := wk_len.1
  refine okP_fn hm Try.func67 c67 (by simp) fun hcl => ?_
  simp -implicitDefEqProofs [i67, r67, Gm.wp, sl, hn, hlen]
  refine ⟨by omega, ?_⟩
  rw [gi_get (show node < g.wk.2.P.length by omega)]
  refine loop67 (g := g) hW hv hclo hbox hdec (s0 := abv g pl nb nx g.ns.length node s) (pl := pl) (fun env m G' hI' => ?_) (fun env m G' hI' => ?_) g.ns.length node _ _ s hn hn hI rfl (by simp [Gm.wp, sl, hlen]) (by simp) (by simp) (by simp) (by simp)
  · simp -implicitDefEqProofs
    exact ⟨_, _, ⟨rfl, m, hI'⟩, cv_id⟩
  · simp -implicitDefEqProofs
    exact ⟨_, _, ⟨rfl, m, hI'⟩, cv_id⟩
end
end Go.Proofs.Ytiikfkacbglblaa

/- D23 -/
namespace Go.Proofs.Ytiikfkacbglblaa
open Go.Ab
/-- The way so far: the walker's box, the slice's box, the slice's row. -/
def WayI (g : Gm) (H : List AO) (m : Nat) (G : List AO) (l : List (Int × Int)) : Prop :=
  l.length + m ≤ 2000 ∧ ∃ L c, G = H ++ ⟨[g.wp], 67, 0, true⟩ :: ⟨[c], 43, 0, true⟩ :: L ∧
    ((l = [] ∧ c = nl) ∨ (l ≠ [] ∧ ∃ p, c = .own (H.length + (p + 1 + 1)) 0 l.length 2 l.length ∧ L[p]? = some ⟨infs l, 47, l.length, true⟩))
theorem infs_snoc : ∀ (l : List (Int × Int)) (x : Int × Int), infs (l ++ [x]) = infs l ++ [i64 x.1, i64 x.2]
  | [], x => rfl
  | y :: r, x => by simp [infs, infs_snoc r x]
def infoAt (g : Gm) (k : Nat) : Int := match g.ns[k]? with | some x => x.i | none => 0
section
variable {H : List AO} {g : Gm}
theorem nds_g2 {l : List Nd} {k : Nat} (h : k < l.length) : (nds l)[k * 6 + 2]? = some (i64 l[k].i) := by rw [nds_get h (by omega)]; rfl
set_option maxRecDepth 10000 in
theorem ok70 {m : Nat} {G : List AO} {l : List (Int × Int)} (hI : WayI g H m G l) {k : Nat} (hk : k < g.ns.length) (hkm : k < m) (hn : g.ns.length ≤ 2000) (a : Int) :
    OkP Try.prog 70 [i64 k, i64 a, .ptr (.own (H.length + 1) 0 0 0 0) 0, .ptr (.own H.length 0 0 0 0) 0] G fun out G' => out = .ret (bl true) ∧ WayI g H k G' (l ++ [(infoAt g k, a)]) := by
  have hinf : infoAt g k = g.ns[k].i := by unfold infoAt; rw [List.getElem?_eq_getElem hk]
  rw [hinf]
  obtain ⟨hb, L, c, rfl, hc⟩ := hI
  refine okP_fn hm Try.func70 c70 (by simp) fun hcl => ?_
  rcases hc with ⟨rfl, rfl⟩ | ⟨hne, p, rfl, hp⟩
  · simp -implicitDefEqProofs [i70, r70, Gm.wp, sl, hk, nds_g2 hk, nds_len]
    refine ⟨by omega, _, _, ⟨rfl, by simp at hb ⊢; omega, L ++ [_, _], _, rfl, .inr ⟨by simp, L.length + 1, rfl, ?_⟩⟩, cv_id⟩
    rw [List.getElem?_append_right (by omega)]; simp [infs]
  · simp -implicitDefEqProofs [i70, r70, Gm.wp, sl, hk, nds_g2 hk, nds_len, setObj_old hp, objIs_old hp, objCells_set0, objCells_setk, len_addn]
    refine ⟨by omega, by omega, by omega, by rw [infs_len]; omega, by omega, _, _, ⟨rfl, by simp; omega, L.set p _ ++ [_], _, rfl, .inr ⟨by simp, p, by simp, ?_⟩⟩, cv_id⟩
    rw [List.getElem?_append_left (by simpa using getElem?_lt hp), List.getElem?_set_self (getElem?_lt hp)]
    simp [infs_snoc]
def prow (l : List (Int × Int)) (v : Nat) : AO := ⟨infs l, 47, v, true⟩
theorem infs_set : ∀ (l : List (Int × Int)) (i : Nat) (a b : Int), i < l.length → (infs l).take (i * 2) ++ i64 a :: i64 b :: (infs l).drop (i * 2 + 2) = infs (l.set i (a, b))
  | [], i, a, b, h => by simp at h
  | x :: r, 0, a, b, h => by simp [infs]
  | x :: r, i + 1, a, b, h => by
    rw [show (i + 1) * 2 = i * 2 + 2 by omega]
    simp only [infs, List.take_succ_cons, List.drop_succ_cons, List.set_cons_succ, List.cons_append]
    rw [infs_set r i a b (by simpa using h)]
/-- The first i are those of the reversed list, and the last i. -/
def Rv (l m : List (Int × Int)) (i : Nat) : Prop := m.length = l.length ∧ ∀ t, t < l.length → m[t]? = if t < i ∨ l.length - 1 - i < t then l[l.length - 1 - t]? else l[t]?
theorem Rv.step {l m : List (Int × Int)} {i : Nat} (h : Rv l m i) (hi : i < l.length - 1 - i) {x y : Int × Int} (hx : m[l.length - 1 - i]? = some x) (hy : m[i]? = some y) : Rv l ((m.set i x).set (l.length - 1 - i) y) (i + 1) := by
  have hlm := h.1
  refine ⟨by simpa using h.1, fun t ht => ?_⟩
  have hx' := h.2 (l.length - 1 - i) (by omega)
  have hy' := h.2 i (by omega)
  rw [if_neg (by omega)] at hx' hy'
  rw [hx] at hx'
  rw [hy] at hy'
  by_cases e1 : t = l.length - 1 - i
  · subst e1
    rw [List.getElem?_set_self (by simp; omega), if_pos (by omega), hy']
    congr 1; omega
  · rw [List.getElem?_set_ne (fun h => e1 h.symm)]
    by_cases e2 : t = i
    · subst e2
      rw [List.getElem?_set_self (by omega), if_pos (by omega), hx']
    · rw [List.getElem?_set_ne (fun h => e2 h.symm), h.2 t ht]
      by_cases hc : t < i ∨ l.length - 1 - i < t
      · rw [if_pos hc, if_pos (by omega)]
      · rw [if_neg hc, if_neg (by omega)]
theorem Rv.done {l m : List (Int × Int)} {i : Nat} (h : Rv l m i) (hi : ¬ (i : Int) < (l.length : Int) - 1 - i) : m = l.reverse := by
  have hlm := h.1
  apply List.ext_getElem?
  intro t
  by_cases ht : t < l.length
  · rw [h.2 t ht, List.getElem?_reverse ht]
    by_cases hc : t < i ∨ l.length - 1 - i < t
    · rw [if_pos hc]
    · rw [if_neg hc]
      congr 1; omega
  · rw [List.getElem?_eq_none (by omega), List.getElem?_eq_none (by simp; omega)]
theorem setObj_set {G : List AO} {q : Nat} (hq : q < G.length) (o : AO) (f : AO → AO) : Ab.setObj (G.set q o) q f = G.set q (f o) := by
  rw [setObj_some (o := o) (List.getElem?_set_self hq), List.set_set]
theorem objCells_set {G : List AO} {q : Nat} (hq : q < G.length) (l : List (Int × Int)) (v : Nat) : objCells (G.set q (prow l v)) q v = infs l :=
  objCells_of (o := prow l v) (List.getElem?_set_self hq) rfl
set_option maxRecDepth 10000 in
theorem loop71 {G : List AO} {q v : Nat} (hq : q < G.length) {l : List (Int × Int)} (hl : l.length ≤ 2000) {N : Nat} {K : XE → Env → List AO → Prop} (hexit : ∀ env, K (.exit 0) env (G.set q (prow l.reverse v))) :
    ∀ (n i : Nat) (m : List (Int × Int)) (env : Env), l.length ≤ i + n → i ≤ l.length → Rv l m i → env.get 0 = .own q 0 l.length 2 v → env.get 2 = i64 i → env.get 3 = i64 ((l.length : Int) - 1 - i) →
      LI Try.prog N drawB l71_0 env (G.set q (prow m v)) K := by
  intro n
  induction n with
  | zero =>
    intro i m env hn hi hR e0 e2 e3
    refine li_go hm l71_0.eq_1 ?_
    have hno : ¬ (i : Int) < (l.length : Int) - 1 - i := by omega
    simp -implicitDefEqProofs [e0, e2, e3, hno]
    rw [hR.done hno]
    exact hexit _
  | succ n ih =>
    intro i m env hn hi hR e0 e2 e3
    refine li_go hm l71_0.eq_1 ?_
    by_cases hlt : (i : Int) < (l.length : Int) - 1 - i
    · have hlm := hR.1
      have ej : (l.length : Int) - 1 - i = ((l.length - 1 - i : Nat) : Int) := by omega
      have hj : l.length - 1 - i < m.length := by omega
      have hi' : i < m.length := by omega
      have w1 : IntKind.i64.wrap ((i : Int) + 1) = ((i + 1 : Nat) : Int) := wrap_succ (by omega)
      have w2 : IntKind.i64.wrap (((l.length - 1 - i : Nat) : Int) - 1) = (l.length : Int) - 1 - ((i + 1 : Nat) : Int) := by rw [wrap_id (by omega) (by omega)]; omega
      rw [ej] at e3 hlt
      have hlt' : i < l.length - 1 - i := by omega
      simp -implicitDefEqProofs [e0, e2, e3, hlt, hlt', objCells_set hq, infs_at hj, infs_at hi', infs_len, show i < l.length by omega, show l.length - 1 - i < l.length by omega, setObj_set hq]
      have c1 : List.take (i * 2) (prow m v).cells ++ i64 m[l.length - 1 - i].1 :: i64 m[l.length - 1 - i].2 :: List.drop (i * 2 + 2) (prow m v).cells = infs (m.set i m[l.length - 1 - i]) := infs_set m i _ _ hi'
      rw [c1]
      have c2 : List.take ((l.length - 1 - i) * 2) (infs (m.set i m[l.length - 1 - i])) ++ i64 m[i].1 :: i64 m[i].2 :: List.drop ((l.length - 1 - i) * 2 + 2) (infs (m.set i m[l.length - 1 - i])) = infs ((m.set i m[l.length - 1 - i]).set (l.length - 1 - i) m[i]) :=
        infs_set _ _ _ _ (by simpa using hj)
      rw [c2, w1, w2]
      have c3 : objCells (G.set q (prow (m.set i m[l.length - 1 - i]) v)) q v = infs (m.set i m[l.length - 1 - i]) := objCells_set hq _ v
      refine ⟨by omega, ?_, ?_⟩
      · show _ ≤ (objCells (G.set q (prow (m.set i m[l.length - 1 - i]) v)) q v).length
        rw [c3, infs_len, List.length_set]; omega
      · refine ih (i + 1) ((m.set i m[l.length - 1 - i]).set (l.length - 1 - i) m[i]) _ (by omega) (by omega) (hR.step hlt' (List.getElem?_eq_getElem hj) (List.getElem?_eq_getElem hi')) ?_ ?_ ?_
        · simp
        · simp
        · simp
    · simp -implicitDefEqProofs [e0, e2, e3, hlt]
      rw [hR.done hlt]
      exact hexit _
theorem ok71 {G : List AO} {q v : Nat} (hq : q < G.length) {l : List (Int × Int)} (hl : l.length ≤ 2000) : Ok Try.prog 71 [.own q 0 l.length 2 v] (G.set q (prow l v)) (.ret (.tup [])) (G.set q (prow l.reverse v)) := by
  refine ok_fn hm Try.func71 c71 (by simp) fun hcl => ?_
  have w1 : IntKind.i64.wrap ((l.length : Int) - 1) = (l.length : Int) - 1 - ((0 : Nat) : Int) := by rw [wrap_id (by omega) (by omega)]; omega
  simp -implicitDefEqProofs [i71, r71]
  rw [w1]
  refine loop71 hq hl (fun env => ?_) l.length 0 l _ (by omega) (by omega) ⟨rfl, fun t ht => by rw [if_neg (by omega)]⟩ (by simp) (by simp) (by simp)
  simp -implicitDefEqProofs
  exact cv_id
theorem ok71n {G : List AO} : Ok Try.prog 71 [nl] G (.ret (.tup [])) G := by
  refine ok_fn hm Try.func71 c71 (by simp) fun hcl => ?_
  simp -implicitDefEqProofs [i71, r71, show (SV.val (Value.slice none 0 0)).isSl = true by rfl, show (SV.val (Value.slice none 0 0)).slen = 0 by rfl, show IntKind.i64.wrap (-1) = -1 by rfl]
  refine li_go hm l71_0.eq_1 ?_
  simp -implicitDefEqProofs
  exact cv_id
end
end Go.Proofs.Ytiikfkacbglblaa

/- D24 -/
namespace Go.Proofs.Ytiikfkacbglblaa
open Go.Ab
def wv (l : List (Int × Int)) : SV := if l = [] then nl else .slc (infs l) l.length
def Gm.up (g : Gm) (node : Nat) (pl : Int) : List (Int × Int) := abv g pl (fun _ _ _ => true) (fun l k a => l ++ [(infoAt g k, a)]) g.ns.length node []
def Gm.way (g : Gm) (node : Nat) (pl : Int) : List (Int × Int) := (g.up node pl).reverse
@[simp] theorem fz_infsT (n : Nat) (ks : List Nat) (L : List AO) (d : Nat) (l : List (Int × Int)) : (infs l).map (SV.fz n ks L (d + 1)) = infs l := fz_mapU (infs_under n l)
section
variable {H : List AO} {g : Gm}
set_option maxRecDepth 10000 in
theorem ok50 (hW : Wg g) {node : Nat} (hn : node < g.ns.length) (pl : Int) : Ok Try.prog 50 [g.wp, i64 node, i64 pl] H (.ret (wv (g.way node pl))) H := by
  have hgn := hW.gd.n
  refine ok_fn hm Try.func50 c50 (by simp) fun hcl => ?_
  have hwp : g.wp.vd = true ∧ g.wp.ug = g.wp ∧ g.wp.flat = [g.wp] ∧ g.wp.isCell = true := ⟨rfl, rfl, rfl, rfl⟩
  simp -implicitDefEqProofs [i50, r50, hwp.1, hwp.2.1, hwp.2.2.1, hwp.2.2.2]
  have h67 := ok67 (g := g) (σ := List (Int × Int)) (Inv := WayI g H) (vf := .fn (.func 70) [] [.ptr (.own (H.length + 1) 0 0 0 0) 0, .ptr (.own H.length 0 0 0 0) 0]) (nb := fun _ _ _ => true) (nx := fun l k a => l ++ [(infoAt g k, a)]) (pl := pl) hW ⟨rfl, rfl⟩
    (fun m G s k a hkm hm' hI => okCP_of (by simpa using ok70 hI (by omega) hkm hgn a))
    (fun m G s o hI => by
      obtain ⟨hb, L, c, rfl, hc⟩ := hI
      refine ⟨hb, L ++ [o], c, by simp, ?_⟩
      rcases hc with h | ⟨h1, p, h2, h3⟩
      · exact .inl h
      · exact .inr ⟨h1, p, h2, by rw [List.getElem?_append_left (getElem?_lt h3)]; exact h3⟩)
    (fun m k G s hkm hI => ⟨by have := hI.1; omega, hI.2⟩) (G := H ++ [⟨[g.wp], 67, 0, true⟩, ⟨[nl], 43, 0, true⟩]) (s := []) (node := node) hn ⟨by simp; omega, [], nl, rfl, .inl ⟨rfl, rfl⟩⟩
  refine call_goP h67 (fun out G' hP => ?_)
  obtain ⟨rfl, m, hb, L, c, rfl, hc⟩ := hP
  have hup : abv g pl (fun _ _ _ => true) (fun l k a => l ++ [(infoAt g k, a)]) g.ns.length node [] = g.up node pl := rfl
  rw [hup] at hb hc
  rcases hc with ⟨h0, rfl⟩ | ⟨hne, p, rfl, hp⟩
  · have hw : wv (g.way node pl) = nl := by unfold wv Gm.way; rw [h0]; rfl
    rw [hw]
    simp -implicitDefEqProofs
    refine call_go ok71n ?_
    simp -implicitDefEqProofs
    exact cv_fz 2 hcl rfl (by simp)
  · have hw : wv (g.way node pl) = .slc (infs (g.up node pl).reverse) (g.up node pl).length := by
      unfold wv Gm.way; rw [if_neg (by simpa using hne)]; simp
    rw [hw]
    simp -implicitDefEqProofs
    have hL : L.set p (prow (g.up node pl) (g.up node pl).length) = L := by
      apply List.ext_getElem?
      intro i
      by_cases h : p = i
      · subst h; rw [List.getElem?_set_self (getElem?_lt hp), hp]; rfl
      · rw [List.getElem?_set_ne h]
    have hset : ∀ (A B o : AO), (H ++ A :: B :: L).set (H.length + (p + 1 + 1)) o = H ++ A :: B :: L.set p o := fun A B o => by simp
    have h71 := ok71 (G := H ++ (⟨[g.wp], 67, 0, true⟩ : AO) :: ⟨[.own (H.length + (p + 1 + 1)) 0 (g.up node pl).length 2 (g.up node pl).length], 43, 0, true⟩ :: L) (q := H.length + (p + 1 + 1)) (v := (g.up node pl).length) (by have := getElem?_lt hp; simp; omega) (l := g.up node pl) (by omega)
    rw [hset, hset, hL] at h71
    refine call_go h71 ?_
    simp -implicitDefEqProofs
    refine cv_fz 3 hcl rfl ?_
    have hpl := getElem?_lt hp
    simp [hpl, prow, infs_len, Nat.mul_comm]
    exact List.take_of_length_le (by rw [infs_len, List.length_reverse]; omega)
def Gm.wayE (g : Gm) (node pl : Int) : Int := if g.formE ≠ 0 then g.formE else if node < 0 ∨ g.ns.length ≤ node ∨ pl < 0 ∨ g.pl ≤ pl then 2 else 0
def Gm.wayV (g : Gm) (node pl : Int) : SV := if g.wayE node pl = 0 then .tup [wv (g.way node.toNat pl), i64 0] else .tup [nl, i64 (g.wayE node pl)]
theorem wv_under {n : Nat} {l : List (Int × Int)} : (wv l).under n = true := by
  unfold wv; split
  · rfl
  · exact infs_under n l
set_option maxRecDepth 10000 in
theorem ok18 (node pl : Int) : Ok Try.prog 18 [.agg g.cells, i64 node, i64 pl] H (.ret (g.wayV node pl)) H := by
  refine ok_fn hm Try.func18 c18 (by simp) fun hcl => ?_
  simp -implicitDefEqProofs [i18, r18, Gm.cells]
  have hh := fun H => ok38 (H := H) (g := g)
  simp only [Gm.cells] at hh
  refine call_go (hh _) ?_
  by_cases h : g.formE = 0
  · rw [walked_ok h]
    have hW := wg_of h
    have hgn := hW.gd.n
    have hp1 := hW.gd.p1
    have hp4 := hW.gd.p4
    have w1 : IntKind.i64.wrap ((g.ns.length : Int) - 1) = (g.ns.length : Int) - 1 := wrap_id (by omega) (by omega)
    have w2 : IntKind.i64.wrap (g.pl - 1) = g.pl - 1 := wrap_id (by omega) (by omega)
    simp -implicitDefEqProofs [w1, w2]
    refine call_go (ok45 (IsI.own0 H _ 1 0 [node] [] 3 rfl) (by simp) 0 (g.ns.length - 1)) ?_
    by_cases hn : node < 0 ∨ (g.ns.length : Int) - 1 < node
    · have e : within 0 ((g.ns.length : Int) - 1) [node] = 2 := by rw [within1, if_pos hn]
      have hl : g.wayV node pl = .tup [nl, i64 2] := by
        have : g.wayE node pl = 2 := by unfold Gm.wayE; rw [if_neg (by simpa using h), if_pos (by omega)]
        unfold Gm.wayV; rw [this]; rfl
      rw [e, hl]
      simp -implicitDefEqProofs [w2]
      refine callq_off _ _ _ _ ?_
      simp -implicitDefEqProofs
      exact cv_fz 2 hcl rfl (by simp)
    · have e : within 0 ((g.ns.length : Int) - 1) [node] = 0 := by rw [within1, if_neg hn]
      rw [e]
      simp -implicitDefEqProofs [w2]
      refine callq_st (fun _ => ok45 (x := .own (H.length + 2) 0 1 1 0) (IsI.own0 H _ 2 0 [pl] [] 3 rfl) (by simp) 0 (g.pl - 1)) ?_
      by_cases hp : pl < 0 ∨ g.pl - 1 < pl
      · have e : within 0 (g.pl - 1) [pl] = 2 := by rw [within1, if_pos hp]
        have hl : g.wayV node pl = .tup [nl, i64 2] := by
          have : g.wayE node pl = 2 := by unfold Gm.wayE; rw [if_neg (by simpa using h), if_pos (by omega)]
          unfold Gm.wayV; rw [this]; rfl
        rw [e, hl]
        simp -implicitDefEqProofs
        exact cv_fz 2 hcl rfl (by simp)
      · have e : within 0 (g.pl - 1) [pl] = 0 := by rw [within1, if_neg hp]
        have hl : g.wayV node pl = .tup [wv (g.way node.toNat pl), i64 0] := by
          have : g.wayE node pl = 0 := by unfold Gm.wayE; rw [if_neg (by simpa using h), if_neg (by omega)]
          unfold Gm.wayV; rw [this]; rfl
        rw [e, hl]
        simp -implicitDefEqProofs
        have hno : node = ((node.toNat : Nat) : Int) := by omega
        have h50 := fun H => ok50 (H := H) hW (node := node.toNat) (by omega) pl
        rw [← hno] at h50
        refine call_go (h50 _) ?_
        simp -implicitDefEqProofs
        have hf : ∀ L d, SV.fz H.length [] L (d + 1) (wv (g.way node.toNat pl)) = wv (g.way node.toNat pl) := fun L d => fz_under wv_under
        exact cv_fz 2 hcl rfl (by simp [hf])
  · obtain ⟨p, e, _⟩ := walked_err h
    rw [e]
    simp -implicitDefEqProofs [h]
    refine cv_fz 2 hcl rfl ?_
    have : g.wayE node pl = g.formE := by unfold Gm.wayE; rw [if_pos h]
    simp [Gm.wayV, this, h]
end
end Go.Proofs.Ytiikfkacbglblaa

/- D25 -/
namespace Go.Proofs.Ytiikfkacbglblaa
open Go.Ab
theorem wv_facts (l : List (Int × Int)) : (wv l).vd = true ∧ (wv l).ug = wv l ∧ (wv l).isSl = true ∧ (wv l).slen = l.length ∧ (wv l).isCell = true ∧ (wv l).flat = [wv l] := by
  unfold wv
  split
  · rename_i h; subst h; exact ⟨rfl, rfl, rfl, rfl, rfl, rfl⟩
  · exact ⟨rfl, rfl, rfl, rfl, rfl, rfl⟩
theorem wv_ne {l : List (Int × Int)} (h : l ≠ []) : wv l = .slc (infs l) l.length := if_neg h
section
variable {H : List AO} {g : Gm} {a b : List (Int × Int)}
set_option maxRecDepth 10000 in
theorem loop83 (hl : a.length ≤ 100000) (hab : a.length = b.length) {N : Nat} {K : XE → Env → List AO → Prop}
    (hret : a ≠ b → ∀ env, env.get 4 = bl false → K .ret env H) (hexit : a = b → ∀ env, K (.exit 0) env H) :
    ∀ (n i : Nat) (env : Env), i + n = a.length → (∀ k (h : k < a.length), k < i → a[k] = b[k]'(by omega)) → env.get 0 = wv a → env.get 1 = wv b → env.get 12 = i64 a.length → env.get 13 = i64 i →
      LI Try.prog N drawB l83_0 env H K := by
  intro n
  induction n with
  | zero =>
    intro i env hi hp h0 h1 h12 h13
    refine li_go hm l83_0.eq_1 ?_
    have e : i = a.length := by omega
    subst e
    simp -implicitDefEqProofs [h12, h13]
    exact hexit (List.ext_getElem hab fun k h1 h2 => hp k h1 h1) _
  | succ n ih =>
    intro i env hi hp h0 h1 h12 h13
    refine li_go hm l83_0.eq_1 ?_
    have hlt : i < a.length := by omega
    have hlt' : i < b.length := by omega
    have ha : a ≠ [] := fun e => by subst e; simp at hlt
    have hb : b ≠ [] := fun e => by subst e; simp at hlt'
    have w1 : IntKind.i64.wrap ((i : Int) + 1) = ((i + 1 : Nat) : Int) := wrap_succ (by omega)
    have f1 := wv_ne ha; have f2 := wv_ne hb
    simp -implicitDefEqProofs [h0, h1, h12, h13, f1, f2, hlt, hlt', infs_at hlt, infs_at hlt', infs_min hlt, infs_ge hlt, infs_min hlt', infs_ge hlt']
    by_cases hc : a[i] = b[i]
    · rw [if_neg (by rw [hc]; simp)]
      rw [w1]
      refine ih (i + 1) _ (by omega) ?_ ?_ ?_ ?_ ?_
      rotate_left
      · simp [f1]
      · simp [f2]
      · simp
      · simp
      intro k hk hki
      by_cases e : k = i
      · subst e; exact hc
      · exact hp k hk (by omega)
    · rw [if_pos (by
        by_cases h1 : a[i].1 = b[i].1
        · exact .inr fun h2 => hc (Prod.ext h1 h2)
        · exact .inl h1)]
      exact hret (fun e => hc (by subst e; rfl)) _ (by simp)
theorem ok83 (hl : a.length ≤ 100000) : Ok Try.prog 83 [wv a, wv b] H (.ret (bl (decide (a = b)))) H := by
  obtain ⟨v1, v2, v3, v4, v5, v6⟩ := wv_facts a
  obtain ⟨u1, u2, u3, u4, u5, u6⟩ := wv_facts b
  refine ok_fn hm Try.func83 c83 (by simp) fun hcl => ?_
  by_cases hab : a.length = b.length
  · simp -implicitDefEqProofs [i83, r83, v1, v2, v3, v4, u1, u2, u3, u4, hab]
    refine loop83 (a := a) (b := b) hl hab (fun hne env h4 => ?_) (fun he env => ?_) a.length 0 _ (by omega) (by omega) (by simp) (by simp) (by simp [hab]) (by simp)
    · simp -implicitDefEqProofs [h4, hne]
      exact cv_id
    · simp -implicitDefEqProofs [he]
      exact cv_id
  · simp -implicitDefEqProofs [i83, r83, v1, v2, v3, v4, u1, u2, u3, u4, show ¬ ((a.length : Int) = b.length) by omega, hab]
    have : a ≠ b := fun e => hab (by rw [e])
    simp [this]
    exact cv_id
theorem ok69 (hl : a.length ≤ 100000) : Ok Try.prog 69 [wv a, wv b] H (.ret (bl (decide (a = b)))) H := by
  obtain ⟨v1, v2, v3, v4, v5, v6⟩ := wv_facts a
  obtain ⟨u1, u2, u3, u4, u5, u6⟩ := wv_facts b
  refine ok_fn hm Try.func69 c69 (by simp) fun hcl => ?_
  simp -implicitDefEqProofs [i69, r69, v1, v2, v3, v4, u1, u2, u3, u4]
  refine call_go (ok83 hl) ?_
  simp -implicitDefEqProofs
  exact cv_id
end
end Go.Proofs.Ytiikfkacbglblaa

/- D26 -/
namespace Go.Proofs.Ytiikfkacbglblaa
open Go.Ab
/-- A flaw: kind, node, set, other node. -/
structure Fl where
  k : Int
  n : Int
  i : Int
  o : Int
deriving DecidableEq
def Fl.cells (f : Fl) : List SV := [i64 f.k, i64 f.n, i64 f.i, i64 f.o]
def Keep (G G' : List AO) : Prop := ∀ (j : Nat) (o : AO), G[j]? = some o → o.ty = 3 ∨ o.ty = 80 → G'[j]? = some o
theorem Keep.refl (G : List AO) : Keep G G := fun _ _ h _ => h
theorem Keep.trans {G G' G'' : List AO} (h : Keep G G') (h' : Keep G' G'') : Keep G G'' := fun j o ho ht => h' j o (h j o ho ht) ht
theorem Keep.app (G : List AO) (L : List AO) : Keep G (G ++ L) := fun j o ho _ => by rw [List.getElem?_append_left (getElem?_lt ho)]; exact ho
/-- What is called for each flaw. -/
structure Rep {τ : Type} (rp : SV) (b0 : Nat) (R : Nat → List AO → τ → Prop) (rb : τ → Fl → Bool) (rn : τ → Fl → τ) : Prop where
  vd : rp.vd = true
  ug : rp.ug = rp
  cell : rp.isCell = true
  flat : rp.flat = [rp]
  call : ∀ c G s f, R (c + 1) G s → OkCP Try.prog rp [.agg f.cells] G fun out G' => out = .ret (bl (rb s f)) ∧ R c G' (rn s f) ∧ Keep G G'
  app : ∀ c G s o, R c G s → R c (G ++ [o]) s
  put : ∀ c G s j o o', R c G s → G[j]? = some o → b0 ≤ j → o.ty = 3 → R c (G.set j o') s
  len : ∀ c G s, R c G s → b0 ≤ G.length
  dec : ∀ c G s, R (c + 1) G s → R c G s
theorem Rep.decn {τ : Type} {rp : SV} {b0 : Nat} {R : Nat → List AO → τ → Prop} {rb : τ → Fl → Bool} {rn : τ → Fl → τ} (h : Rep rp b0 R rb rn) : ∀ {k c : Nat} {G : List AO} {s : τ}, R (k + c) G s → R c G s
  | 0, c, G, s, hr => by simpa using hr
  | k + 1, c, G, s, hr => h.decn (k := k) (h.dec _ _ _ (by rw [show k + c + 1 = k + 1 + c by omega]; exact hr))
section
variable {τ : Type} {rp : SV} {b0 : Nat} {R : Nat → List AO → τ → Prop} {rb : τ → Fl → Bool} {rn : τ → Fl → τ} {g : Gm}
/-- What seek's own boxes hold. -/
structure SkI (g : Gm) (rp : SV) (info : Int) (bs bi : Nat) (G : List AO) : Prop where
  s : G[bs]? = some ⟨[g.wp, rp], 80, 0, true⟩
  i : G[bi]? = some ⟨[i64 info], 3, 0, true⟩
theorem SkI.keep {info : Int} {bs bi : Nat} {G G' : List AO} (h : SkI g rp info bs bi G) (hk : Keep G G') : SkI g rp info bs bi G' := ⟨hk _ _ h.s (.inr rfl), hk _ _ h.i (.inl rfl)⟩
theorem SkI.cs {info : Int} {bs bi : Nat} {G : List AO} (h : SkI g rp info bs bi G) : objCells G bs 0 = [g.wp, rp] := objCells_of h.s rfl
theorem SkI.ci {info : Int} {bs bi : Nat} {G : List AO} (h : SkI g rp info bs bi G) : objCells G bi 0 = [i64 info] := objCells_of h.i rfl
def dpn (g : Gm) (info : Int) (d : Int) (k : Nat) : Int := if infoAt g k = info then k else d
def DpI (g : Gm) (R : Nat → List AO → τ → Prop) (rp : SV) (info : Int) (bs bi bd c : Nat) (s : τ) (_ : Nat) (G : List AO) (d : Int) : Prop :=
  R c G s ∧ SkI g rp info bs bi G ∧ G[bd]? = some ⟨[i64 d], 3, 0, true⟩ ∧ bd ≠ bs ∧ bd ≠ bi
set_option maxRecDepth 10000 in
theorem ok68 (hR : Rep rp b0 R rb rn) (hn : g.ns.length ≤ 2000) {info : Int} {bs bi bd c : Nat} (hbd : b0 ≤ bd) {s : τ} {m : Nat} {G : List AO} {d : Int} (hI : DpI g R rp info bs bi bd c s m G d) {k : Nat} (hk : k < g.ns.length) (a : Int) (m' : Nat) :
    OkP Try.prog 68 [i64 k, i64 a, .ptr (.own bs 0 0 0 0) 0, .ptr (.own bi 0 0 0 0) 0, .ptr (.own bd 0 0 0 0) 0] G fun out G' => out = .ret (bl (decide (dpn g info d k < 0))) ∧ DpI g R rp info bs bi bd c s m' G' (dpn g info d k) := by
  obtain ⟨h1, h2, h3, h4, h5⟩ := hI
  have hinf : infoAt g k = g.ns[k].i := by unfold infoAt; rw [List.getElem?_eq_getElem hk]
  have hd : objCells G bd 0 = [i64 d] := objCells_of h3 rfl
  refine okP_fn hm Try.func68 c68 (by simp) fun hcl => ?_
  by_cases hi : g.ns[k].i = info
  · have e : dpn g info d k = k := by unfold dpn; rw [if_pos (by rw [hinf]; exact hi)]
    rw [e]
    have hst : ∀ f : AO → AO, Ab.setObj G bd f = G.set bd (f ⟨[i64 d], 3, 0, true⟩) := fun f => setObj_some h3 f
    have hlt := getElem?_lt h3
    have hc2 : objCells (G.set bd (⟨[i64 k], 3, 0, true⟩ : AO)) bd 0 = [i64 k] := objCells_of (o := ⟨[i64 k], 3, 0, true⟩) (List.getElem?_set_self hlt) rfl
    simp -implicitDefEqProofs [i68, r68, Gm.wp, sl, hk, h2.cs, h2.ci, hd, nds_g2 hk, nds_len, hi, hst, hc2]
    refine ⟨by omega, _, _, ⟨rfl, hR.put _ _ _ _ _ _ h1 h3 hbd rfl, ⟨?_, ?_⟩, List.getElem?_set_self hlt, h4, h5⟩, cv_id⟩
    · rw [List.getElem?_set_ne h4]; exact h2.s
    · rw [List.getElem?_set_ne h5]; exact h2.i
  · have e : dpn g info d k = d := by unfold dpn; rw [if_neg (by rw [hinf]; exact hi)]
    rw [e]
    simp -implicitDefEqProofs [i68, r68, Gm.wp, sl, hk, h2.cs, h2.ci, hd, nds_g2 hk, nds_len, hi]
    exact ⟨by omega, _, _, ⟨rfl, h1, h2, h3, h4, h5⟩, cv_id⟩
theorem abv_len {pl : Int} : ∀ (f node : Nat) (l : List (Int × Int)), (abv g pl (fun _ _ _ => true) (fun l k a => l ++ [(infoAt g k, a)]) f node l).length ≤ l.length + f
  | 0, node, l => by simp [abv]
  | f + 1, node, l => by
    unfold abv
    split
    · omega
    · split
      · omega
      · split
        · rw [if_pos rfl]
          refine Nat.le_trans (abv_len (pl := pl) f _ _) ?_
          simp only [List.length_append, List.length_singleton]
          omega
        · have := abv_len (pl := pl) f (gi g.wk.2.P node).toNat l
          omega
theorem way_len {node : Nat} {pl : Int} : (g.way node pl).length ≤ g.ns.length := by
  unfold Gm.way Gm.up
  have := abv_len (g := g) (pl := pl) g.ns.length node []
  simpa using this
def Gm.deep (g : Gm) (node : Nat) (pl info : Int) : Int := abv g pl (fun d k _ => decide (dpn g info d k < 0)) (fun d k _ => dpn g info d k) g.ns.length node (-1)
/-- The flaws of a set. -/
def seekS (g : Gm) (rb : τ → Fl → Bool) (rn : τ → Fl → τ) (info pl n0 : Int) (first : List (Int × Int)) : List Int → τ → Bool × τ
  | [], s => (true, s)
  | v :: r, s =>
    let d := g.deep v.toNat pl info
    if 0 ≤ d ∧ rb s ⟨1, v, info, d⟩ = false then (false, rn s ⟨1, v, info, d⟩) else
    let s1 := if 0 ≤ d then rn s ⟨1, v, info, d⟩ else s
    if g.way v.toNat pl = first then seekS g rb rn info pl n0 first r s1 else
    if rb s1 ⟨2, v, info, n0⟩ = true then seekS g rb rn info pl n0 first r (rn s1 ⟨2, v, info, n0⟩) else (false, rn s1 ⟨2, v, info, n0⟩)
set_option maxRecDepth 10000 in
theorem loop48 (hW : Wg g) (hR : Rep rp b0 R rb rn) {info pl n0 : Int} {bs bi : Nat} {nodes : List Int} {first : List (Int × Int)} (hn0 : nodes.head? = some n0) (hns : ∀ v ∈ nodes, 0 ≤ v ∧ v < g.ns.length) (hnl : nodes.length ≤ 2000) (hfl : first.length ≤ 2000)
    {N : Nat} {K : XE → Env → List AO → Prop} {Q : Bool × τ}
    {c : Nat} (hret : Q.1 = false → ∀ env G, R c G Q.2 → env.get 6 = bl false → K .ret env G) (hexit : Q.1 = true → ∀ env G, R c G Q.2 → K (.exit 0) env G) :
    ∀ (n i : Nat) (env : Env) (G : List AO) (s : τ), i + n = nodes.length → R (2 * n + c) G s → SkI g rp info bs bi G → seekS g rb rn info pl n0 first (nodes.drop i) s = Q →
      env.get 2 = .slc (ints nodes) nodes.length → env.get 3 = .ptr (.own bs 0 0 0 0) 0 → env.get 4 = .ptr (.own bi 0 0 0 0) 0 → env.get 7 = i64 pl → env.get 8 = wv first → env.get 29 = .slc (ints nodes) nodes.length → env.get 30 = i64 nodes.length → env.get 31 = i64 i →
      LI Try.prog N drawB l48_0 env G K := by
  have hgn := hW.gd.n
  have hwp : g.wp.vd = true ∧ g.wp.ug = g.wp ∧ g.wp.flat = [g.wp] ∧ g.wp.isCell = true := ⟨rfl, rfl, rfl, rfl⟩
  intro n
  induction n with
  | zero =>
    intro i env G s hi hRG hS hQ h2 h3 h4 h7 h8 h29 h30 h31
    refine li_go hm l48_0.eq_1 ?_
    have e : i = nodes.length := by omega
    subst e
    rw [List.drop_length] at hQ
    subst hQ
    simp -implicitDefEqProofs [h30, h31]
    exact hexit rfl _ _ (by simpa [seekS] using hRG)
  | succ n ih =>
    intro i env G s hi hRG hS hQ h2 h3 h4 h7 h8 h29 h30 h31
    refine li_go hm l48_0.eq_1 ?_
    have hlt : i < nodes.length := by omega
    have w1 : IntKind.i64.wrap ((i : Int) + 1) = ((i + 1 : Nat) : Int) := wrap_succ (by omega)
    have hv := hns _ (List.getElem_mem hlt)
    have hvn : nodes[i] = ((nodes[i].toNat : Nat) : Int) := by omega
    rw [List.drop_eq_getElem_cons hlt] at hQ
    unfold seekS at hQ
    have hpos : 0 < nodes.length := by omega
    have hhead : (ints nodes).head? = some (i64 n0) := by
      cases hc : nodes with
      | nil => rw [hc] at hpos; simp at hpos
      | cons y r => rw [hc] at hn0; simp at hn0; subst hn0; rfl
    have hbs := getElem?_lt hS.s
    have hbi := getElem?_lt hS.i
    simp -implicitDefEqProofs [h2, h3, h4, h7, h8, h29, h30, h31, hlt, objCells_app _ hbs, objCells_app _ hbi, hS.cs, hS.ci, hwp.1, hwp.2.1]
    refine ⟨by omega, ?_⟩
    have h67 := ok67 (g := g) (σ := Int) (Inv := DpI g R rp info bs bi G.length (2 * n + c + 1 + 1) s) (vf := .fn (.func 68) [] [.ptr (.own bs 0 0 0 0) 0, .ptr (.own bi 0 0 0 0) 0, .ptr (.own G.length 0 0 0 0) 0]) (nb := fun d k _ => decide (dpn g info d k < 0)) (nx := fun d k _ => dpn g info d k) (pl := pl) hW ⟨rfl, rfl⟩
      (fun m G s k a hkm hm' hI => okCP_of (by simpa using ok68 hR hgn (hR.len _ _ _ hRG) hI (by omega) a k))
      (fun m G s o hI => ⟨hR.app _ _ _ _ hI.1, hI.2.1.keep (Keep.app _ _), by rw [List.getElem?_append_left (getElem?_lt hI.2.2.1)]; exact hI.2.2.1, hI.2.2.2⟩)
      (fun m k G s hkm hI => hI) (G := G ++ [⟨[i64 (-1)], 3, 0, true⟩]) (s := -1) (node := nodes[i].toNat) (by omega)
      ⟨hR.app _ _ _ _ (by rw [show 2 * n + c + 1 + 1 = 2 * (n + 1) + c by omega]; exact hRG), hS.keep (Keep.app _ _), by simp, by omega, by omega⟩
    rw [← hvn] at h67
    refine call_goP h67 (fun out G2 hP => ?_)
    obtain ⟨rfl, m', hR2, hS2, hd2, hb1, hb2⟩ := hP
    have hdeep : abv g pl (fun d k _ => decide (dpn g info d k < 0)) (fun d k _ => dpn g info d k) g.ns.length nodes[i].toNat (-1) = g.deep nodes[i].toNat pl info := rfl
    rw [hdeep] at hd2
    simp only at hQ
    generalize hgd : g.deep nodes[i].toNat pl info = d at hd2 hQ
    have hcd : objCells G2 G.length 0 = [i64 d] := objCells_of hd2 rfl
    by_cases h0 : 0 ≤ d
    · simp -implicitDefEqProofs [h2, h3, h4, h7, h8, h29, h30, h31, hcd, h0, hS2.cs, hS2.ci, hR.vd, hR.ug]
      refine call_gd (hR.call _ _ _ ⟨1, nodes[i], info, d⟩ hR2) (fun out G3 hP => ?_)
      obtain ⟨rfl, hR3, hK3⟩ := hP
      have hS3 := hS2.keep hK3
      cases hb : rb s ⟨1, nodes[i], info, d⟩ with
      | false =>
        rw [if_pos ⟨h0, hb⟩] at hQ
        subst hQ
        simp -implicitDefEqProofs
        exact hret rfl _ _ (hR.decn (k := 2 * n + 1) (by rw [show 2 * n + 1 + c = 2 * n + c + 1 by omega]; exact hR3)) (by simp)
      | true =>
        rw [if_neg (by rw [hb]; simp), if_pos h0] at hQ
        simp -implicitDefEqProofs [h2, h3, h4, h7, h8, h29, h30, h31, hS3.cs, hS3.ci, hR.vd, hR.ug, hwp.1, hwp.2.1]
        have h50 := ok50 (H := G3) hW (node := nodes[i].toNat) (by omega) pl
        rw [← hvn] at h50
        refine call_go h50 ?_
        simp -implicitDefEqProofs [h8]
        refine call_go (ok69 (a := g.way nodes[i].toNat pl) (b := first) (by have := way_len (g := g) (node := nodes[i].toNat) (pl := pl); omega)) ?_
        by_cases hw : g.way nodes[i].toNat pl = first
        · rw [if_pos hw] at hQ
          simp -implicitDefEqProofs [hw, h31]
          rw [w1]
          refine ih (i + 1) _ _ _ (by omega) (hR.dec _ _ _ (by rw [show 2 * n + c + 1 = (2 * n + c) + 1 by omega] at hR3; exact hR3)) hS3 hQ ?_ ?_ ?_ ?_ ?_ ?_ ?_ ?_
          · simp [h2]
          · simp [h3]
          · simp [h4]
          · simp [h7]
          · simp [h8]
          · simp [h29]
          · simp [h30]
          · simp
        · rw [if_neg hw] at hQ
          simp -implicitDefEqProofs [hw, h2, h3, h4, hS3.cs, hS3.ci, hR.vd, hR.ug, hhead]
          refine ⟨hpos, hpos, ?_⟩
          refine call_cP (hR.call _ _ _ ⟨2, nodes[i], info, n0⟩ hR3) (fun out G4 hP => ?_)
          obtain ⟨rfl, hR4, hK4⟩ := hP
          have hS4 := hS3.keep hK4
          cases hb2 : rb (rn s ⟨1, nodes[i], info, d⟩) ⟨2, nodes[i], info, n0⟩ with
          | true =>
            rw [hb2, if_pos rfl] at hQ
            simp -implicitDefEqProofs [h2, h3, h4, hS4.cs, hS4.ci, hR.vd, hR.ug, hhead, h31, hpos]
            rw [w1]
            refine ih (i + 1) _ _ _ (by omega) hR4 hS4 hQ ?_ ?_ ?_ ?_ ?_ ?_ ?_ ?_
            · simp [h2]
            · simp [h3]
            · simp [h4]
            · simp [h7]
            · simp [h8]
            · simp [h29]
            · simp [h30]
            · simp
          | false =>
            rw [hb2, if_neg (by simp)] at hQ
            subst hQ
            simp -implicitDefEqProofs [h2, h3, h4, hS4.cs, hS4.ci, hR.vd, hR.ug, hhead, hpos]
            exact hret rfl _ _ (hR.decn (k := 2 * n) hR4) (by simp)
    · rw [if_neg (fun h => h0 h.1), if_neg h0] at hQ
      simp -implicitDefEqProofs [h2, h3, h4, h7, h8, h29, h30, h31, hcd, h0, hS2.cs, hS2.ci, hR.vd, hR.ug, hwp.1, hwp.2.1]
      have h50 := ok50 (H := G2) hW (node := nodes[i].toNat) (by omega) pl
      rw [← hvn] at h50
      refine call_go h50 ?_
      simp -implicitDefEqProofs [h8]
      refine call_go (ok69 (a := g.way nodes[i].toNat pl) (b := first) (by have := way_len (g := g) (node := nodes[i].toNat) (pl := pl); omega)) ?_
      by_cases hw : g.way nodes[i].toNat pl = first
      · rw [if_pos hw] at hQ
        simp -implicitDefEqProofs [hw, h31]
        rw [w1]
        refine ih (i + 1) _ _ _ (by omega) (hR.dec _ _ _ (hR.dec _ _ _ hR2)) hS2 hQ ?_ ?_ ?_ ?_ ?_ ?_ ?_ ?_
        · simp [h2]
        · simp [h3]
        · simp [h4]
        · simp [h7]
        · simp [h8]
        · simp [h29]
        · simp [h30]
        · simp
      · rw [if_neg hw] at hQ
        simp -implicitDefEqProofs [hw, h2, h3, h4, hS2.cs, hS2.ci, hR.vd, hR.ug, hhead]
        refine ⟨hpos, hpos, ?_⟩
        refine call_cP (hR.call _ _ _ ⟨2, nodes[i], info, n0⟩ (hR.dec _ _ _ hR2)) (fun out G4 hP => ?_)
        obtain ⟨rfl, hR4, hK4⟩ := hP
        have hS4 := hS2.keep hK4
        cases hb2 : rb s ⟨2, nodes[i], info, n0⟩ with
        | true =>
          rw [hb2, if_pos rfl] at hQ
          simp -implicitDefEqProofs [h2, h3, h4, hS4.cs, hS4.ci, hR.vd, hR.ug, hhead, h31, hpos]
          rw [w1]
          refine ih (i + 1) _ _ _ (by omega) hR4 hS4 hQ ?_ ?_ ?_ ?_ ?_ ?_ ?_ ?_
          · simp [h2]
          · simp [h3]
          · simp [h4]
          · simp [h7]
          · simp [h8]
          · simp [h29]
          · simp [h30]
          · simp
        | false =>
          rw [hb2, if_neg (by simp)] at hQ
          subst hQ
          simp -implicitDefEqProofs [h2, h3, h4, hS4.cs, hS4.ci, hR.vd, hR.ug, hhead, hpos]
          exact hret rfl _ _ (hR.decn (k := 2 * n) hR4) (by simp)
set_option maxRecDepth 10000 in
theorem ok48 (hW : Wg g) (hR : Rep rp b0 R rb rn) {info : Nat} (hinfo : info < g.is.length) {nodes : List Int} {n0 : Int} (hn0 : nodes.head? = some n0) (hns : ∀ v ∈ nodes, 0 ≤ v ∧ v < g.ns.length) (hnl : nodes.length ≤ 2000) {G : List AO} {s : τ} {c : Nat} (hRG : R (2 * nodes.length + c) G s) :
    OkP Try.prog 48 [.agg [g.wp, rp], i64 info, .slc (ints nodes) nodes.length] G fun out G' => out = .ret (bl (seekS g rb rn info g.is[info].1 n0 (g.way n0.toNat g.is[info].1) nodes s).1) ∧ R c G' (seekS g rb rn info g.is[info].1 n0 (g.way n0.toNat g.is[info].1) nodes s).2 := by
  have hgn := hW.gd.n
  have hwp : g.wp.vd = true ∧ g.wp.ug = g.wp ∧ g.wp.flat = [g.wp] ∧ g.wp.isCell = true := ⟨rfl, rfl, rfl, rfl⟩
  have hpos : 0 < nodes.length := by cases nodes with | nil => simp at hn0 | cons y r => simp
  have hhead : (ints nodes).head? = some (i64 n0) := by
    cases hc : nodes with
    | nil => rw [hc] at hpos; simp at hpos
    | cons y r => rw [hc] at hn0; simp at hn0; subst hn0; rfl
  have hv := hns n0 (List.mem_of_head? hn0)
  have hvn : n0 = ((n0.toNat : Nat) : Int) := by omega
  refine okP_fn hm Try.func48 c48 (by simp) fun hcl => ?_
  simp -implicitDefEqProofs [i48, r48, Gm.wp, sl, hR.vd, hR.ug, hR.flat, hR.cell, hhead, hpos, hinfo, infs_g0 hinfo, infs_at hinfo, infs_len]
  refine ⟨by omega, ?_⟩
  have h50 := fun H => ok50 (H := H) hW (node := n0.toNat) (by omega) g.is[info].1
  rw [← hvn] at h50
  refine callq_go (fun _ => h50 _) ?_
  simp -implicitDefEqProofs
  refine loop48 (g := g) (R := R) (rb := rb) (rn := rn) hW hR (info := info) (pl := g.is[info].1) (n0 := n0) (bs := G.length) (bi := G.length + 1) (nodes := nodes) (first := g.way n0.toNat g.is[info].1) hn0 hns hnl (by have := way_len (g := g) (node := n0.toNat) (pl := g.is[info].1); omega)
    (c := c) (fun hQ env G' hR' h6 => ?_) (fun hQ env G' hR' => ?_) nodes.length 0 _ _ s (by omega) (by have := hR.app _ _ _ ⟨[g.wp, rp], 80, 0, true⟩ hRG; have := hR.app _ _ _ ⟨[i64 info], 3, 0, true⟩ this; rw [List.append_assoc] at this; exact this) ⟨by simp [Gm.wp, sl], by simp⟩ rfl
    (by simp) (by simp) (by simp) (by simp) (by simp) (by simp) (by simp) (by simp)
  · simp -implicitDefEqProofs [h6]
    exact ⟨_, _, ⟨by rw [show seekS g rb rn info g.is[info].1 n0 (g.way n0.toNat g.is[info].1) nodes s = seekS g rb rn info g.is[info].1 n0 (g.way n0.toNat g.is[info].1) (nodes.drop 0) s from rfl, hQ], hR'⟩, cv_id⟩
  · simp -implicitDefEqProofs
    exact ⟨_, _, ⟨by rw [show seekS g rb rn info g.is[info].1 n0 (g.way n0.toNat g.is[info].1) nodes s = seekS g rb rn info g.is[info].1 n0 (g.way n0.toNat g.is[info].1) (nodes.drop 0) s from rfl, hQ], hR'⟩, cv_id⟩
end
end Go.Proofs.Ytiikfkacbglblaa

/- D27 -/
namespace Go.Proofs.Ytiikfkacbglblaa
open Go.Ab
def nxP (_ : Bool) (f : Fl) : Bool := decide (f.k ≠ 2)
section
variable {H : List AO} {g : Gm}
theorem set_app {G : List AO} {j : Nat} (hj : H.length ≤ j) {L : List AO} (hG : G = H ++ L) (o : AO) : G.set j o = H ++ L.set (j - H.length) o := by
  subst hG
  rw [List.set_append_right _ _ hj]
/-- Through the sets. -/
def setsL {τ : Type} (g : Gm) (rb : τ → Fl → Bool) (rn : τ → Fl → τ) (sel : Int → Bool) (stop : Bool) : Nat → Nat → τ → τ
  | 0, _, s => s
  | f + 1, i, s =>
    match g.sets[i]?, g.is[i]? with
    | some nodes, some inf =>
      if sel inf.1 = true then
        (let r := seekS g rb rn i inf.1 (nodes.headD 0) (g.way (nodes.headD 0).toNat inf.1) nodes s
         if stop = true ∧ r.1 = false then r.2 else setsL g rb rn sel stop f (i + 1) r.2)
      else setsL g rb rn sel stop f (i + 1) s
    | _, _ => s
theorem Wg.ne (h : Wg g) : ∀ k (hk : k < g.sets.length), g.sets[k] ≠ [] := by
  intro k hk e
  have hse := h.se
  rw [setsE_eq] at hse
  unfold Gm.setsR at hse
  split at hse
  · cases hse
  · split at hse
    · cases hse
    · rename_i h1
      exact h1 (by rw [← e]; exact List.getElem_mem hk)
theorem occ_lt {s : Nat} : ∀ {l : List Nd} {o : Nat} {a : Int}, a ∈ occ s l o → a < o + l.length
  | [], o, a, h => by simp [occ] at h
  | x :: r, o, a, h => by
    unfold occ at h
    split at h
    · rcases List.mem_cons.1 h with rfl | h
      · simp; omega
      · have := occ_lt h; simp; omega
    · have := occ_lt h; simp; omega
theorem occ_len {s : Nat} : ∀ {l : List Nd} {o : Nat}, (occ s l o).length ≤ l.length
  | [], o => by simp [occ]
  | x :: r, o => by
    unfold occ
    have := occ_len (s := s) (l := r) (o := o + 1)
    split <;> simp <;> omega
theorem sets_occ {k : Nat} (hk : k < g.sets.length) : g.sets[k] = occ k g.ns 0 := by
  have := sets_at (g := g) (s := k) (by rw [← sets_len]; exact hk)
  rwa [List.getD_eq_getElem?_getD, List.getElem?_eq_getElem hk, Option.getD_some] at this
theorem sets_mem {k : Nat} (hk : k < g.sets.length) {v : Int} (hv : v ∈ g.sets[k]) : 0 ≤ v ∧ v < g.ns.length := by
  rw [sets_occ hk] at hv
  exact ⟨occ_ge hv, by have := occ_lt hv; simpa using this⟩
theorem sets_lenk {k : Nat} (hk : k < g.sets.length) : g.sets[k].length ≤ g.ns.length := by rw [sets_occ hk]; exact occ_len
end
end Go.Proofs.Ytiikfkacbglblaa

/- D28 -/
namespace Go.Proofs.Ytiikfkacbglblaa
open Go.Ab
def fls : List Fl → List SV
  | [] => []
  | x :: r => i64 x.k :: i64 x.n :: i64 x.i :: i64 x.o :: fls r
theorem fls_snoc : ∀ (l : List Fl) (x : Fl), fls (l ++ [x]) = fls l ++ [i64 x.k, i64 x.n, i64 x.i, i64 x.o]
  | [], x => rfl
  | y :: r, x => by simp [fls, fls_snoc r x]
theorem fls_len : ∀ l : List Fl, (fls l).length = 4 * l.length
  | [] => rfl
  | x :: r => by simp [fls, fls_len r]; omega
theorem fls_under (n : Nat) : ∀ l : List Fl, SV.underL n (fls l) = true
  | [] => rfl
  | x :: r => by simp [fls, fls_under n r]
@[simp] theorem fz_fls (n : Nat) (ks : List Nat) (L : List AO) (d : Nat) (l : List Fl) : (fls l).map (SV.fz n ks L (d + 1)) = fls l := fz_mapU (fls_under n l)
def fv (l : List Fl) : SV := if l = [] then nl else .slc (fls l) l.length
def rpF (n : Nat) : SV := .fn (.func 49) [] [.ptr (.own (n + 1) 0 0 0 0) 0]
def RF (g : Gm) (H : List AO) (c : Nat) (G : List AO) (l : List Fl) : Prop := l.length + c ≤ 1000000 ∧ ∃ A cell L, G = H ++ A :: ⟨[cell], 40, 0, true⟩ :: ⟨[g.wp, rpF H.length], 80, 0, true⟩ :: L ∧
  ((l = [] ∧ cell = nl) ∨ (l ≠ [] ∧ ∃ p, cell = .own (H.length + (p + 1 + 1 + 1)) 0 l.length 4 l.length ∧ L[p]? = some ⟨fls l, 59, l.length, true⟩))
def nxF (l : List Fl) (f : Fl) : List Fl := l ++ [f]
section
variable {H : List AO} {g : Gm}
set_option maxRecDepth 10000 in
theorem ok49 {c : Nat} {G : List AO} {l : List Fl} (f : Fl) (hI : RF g H (c + 1) G l) :
    OkP Try.prog 49 [.agg f.cells, .ptr (.own (H.length + 1) 0 0 0 0) 0] G fun out G' => out = .ret (bl true) ∧ RF g H c G' (nxF l f) ∧ Keep G G' := by
  obtain ⟨hb, A, cell, L, rfl, hc⟩ := hI
  have hkeep : ∀ (c1 c2 : SV) (L' : List AO), (∀ (p : Nat) (o : AO), L[p]? = some o → o.ty = 3 ∨ o.ty = 80 → L'[p]? = some o) → Keep (H ++ A :: ⟨[c1], 40, 0, true⟩ :: ⟨[g.wp, rpF H.length], 80, 0, true⟩ :: L) (H ++ A :: ⟨[c2], 40, 0, true⟩ :: ⟨[g.wp, rpF H.length], 80, 0, true⟩ :: L') := by
    intro c1 c2 L' hL j o ho ht
    by_cases hj : j < H.length
    · rw [List.getElem?_append_left hj] at ho ⊢; exact ho
    · rw [List.getElem?_append_right (by omega)] at ho ⊢
      match hjj : j - H.length with
      | 0 => rw [hjj] at ho; simpa using ho
      | 1 => rw [hjj] at ho; simp at ho; subst ho; simp at ht
      | 2 => rw [hjj] at ho; simpa using ho
      | q + 3 => rw [hjj] at ho; simp at ho ⊢; exact hL q o ho ht
  refine okP_fn hm Try.func49 c49 (by simp) fun hcl => ?_
  rcases hc with ⟨rfl, rfl⟩ | ⟨hne, p, rfl, hp⟩
  · simp -implicitDefEqProofs [i49, r49, Fl.cells]
    refine ⟨_, _, ⟨rfl, ⟨by simp [nxF] at hb ⊢; omega, _, _, L ++ [_, _, _], rfl, .inr ⟨by simp [nxF], L.length + 2, rfl, ?_⟩⟩, hkeep _ _ _ fun p o ho _ => by rw [List.getElem?_append_left (getElem?_lt ho)]; exact ho⟩, cv_id⟩
    rw [List.getElem?_append_right (by omega)]; simp [nxF, fls]
  · simp -implicitDefEqProofs [i49, r49, Fl.cells, setObj_old hp, objIs_old hp, objCells_set0, objCells_setk, len_addn]
    have hpl := getElem?_lt hp
    refine ⟨by omega, by omega, by rw [fls_len]; omega, _, _, ⟨rfl, ⟨by simp [nxF] at hb ⊢; omega, _, _, L.set p _ ++ [_, _], rfl, .inr ⟨by simp [nxF], p, by simp [nxF], ?_⟩⟩, hkeep _ _ _ fun q o ho ht => ?_⟩, cv_id⟩
    · rw [List.getElem?_append_left (by simpa using hpl), List.getElem?_set_self hpl]
      simp [nxF, fls_snoc]
    · rw [List.getElem?_append_left (by simpa using getElem?_lt ho), List.getElem?_set_ne (fun e => by rw [← e, hp] at ho; cases ho; simp at ht)]; exact ho
theorem repF : Rep (rpF H.length) H.length (RF g H) (fun _ _ => true) nxF where
  vd := rfl
  ug := rfl
  cell := rfl
  flat := rfl
  call := fun c G s f hI => okCP_of (by simpa using ok49 f hI)
  app := fun c G s o ⟨hb, A, cell, L, hG, hc⟩ => by
    refine ⟨hb, A, cell, L ++ [o], by rw [hG]; simp, ?_⟩
    rcases hc with h | ⟨h1, p, h2, h3⟩
    · exact .inl h
    · exact .inr ⟨h1, p, h2, by rw [List.getElem?_append_left (getElem?_lt h3)]; exact h3⟩
  put := fun c G s j o o' ⟨hb, A, cell, L, hG, hc⟩ ho hj ht => by
    subst hG
    rw [List.getElem?_append_right hj] at ho
    match hjj : j - H.length with
    | 0 =>
      refine ⟨hb, o', cell, L, by rw [List.set_append_right _ _ hj, hjj]; simp, hc⟩
    | 1 => rw [hjj] at ho; simp at ho; subst ho; cases ht
    | 2 => rw [hjj] at ho; simp at ho; subst ho; cases ht
    | q + 3 =>
      rw [hjj] at ho
      simp at ho
      refine ⟨hb, A, cell, L.set q o', by rw [List.set_append_right _ _ hj, hjj]; simp, ?_⟩
      rcases hc with h | ⟨h1, p, h2, h3⟩
      · exact .inl h
      · exact .inr ⟨h1, p, h2, by rw [List.getElem?_set_ne (fun e => by rw [e, h3] at ho; cases ho; cases ht)]; exact h3⟩
  len := fun c G s ⟨hb, A, cell, L, hG, _⟩ => by subst hG; simp
  dec := fun c G s ⟨hb, h⟩ => ⟨by omega, h⟩
def Gm.flaws (g : Gm) : List Fl := setsL g (fun _ _ => true) nxF (fun _ => true) false g.is.length 0 []
set_option maxRecDepth 10000 in
theorem loop17 (hW : Wg g) {N : Nat} {K : XE → Env → List AO → Prop} {Q : List Fl}
    (hexit : ∀ env G, RF g H 0 G Q → env.get 6 = .ptr (.own (H.length + 1) 0 0 0 0) 0 → K (.exit 0) env G) :
    ∀ (n i : Nat) (env : Env) (G : List AO) (s : List Fl), i + n = g.is.length → RF g H (4000 * n) G s → setsL g (fun _ _ => true) nxF (fun _ => true) false n i s = Q →
      env.get 6 = .ptr (.own (H.length + 1) 0 0 0 0) 0 → env.get 7 = .ptr (.own (H.length + 2) 0 0 0 0) 0 → env.get 22 = g.setsV → env.get 23 = i64 g.is.length → env.get 24 = i64 i →
      LI Try.prog N drawB l17_0 env G K := by
  have hgi := hW.gd.i
  have hgn := hW.gd.n
  have hsl : g.sets.length = g.is.length := sets_len
  intro n
  induction n with
  | zero =>
    intro i env G s hi hR hQ h6 h7 h22 h23 h24
    refine li_go hm l17_0.eq_1 ?_
    have e : i = g.is.length := by omega
    subst e
    simp -implicitDefEqProofs [h23, h24]
    simp only [setsL] at hQ
    subst hQ
    exact hexit _ G (by simpa using hR) (by simp [h6])
  | succ n ih =>
    intro i env G s hi hR hQ h6 h7 h22 h23 h24
    refine li_go hm l17_0.eq_1 ?_
    have hlt : i < g.is.length := by omega
    have hls : i < g.sets.length := by omega
    have w1 : IntKind.i64.wrap ((i : Int) + 1) = ((i + 1 : Nat) : Int) := wrap_succ (by omega)
    have hne := hW.ne i hls
    unfold setsL at hQ
    rw [List.getElem?_eq_getElem hlt, List.getElem?_eq_getElem hls] at hQ
    simp only [if_true] at hQ
    rw [if_neg (by simp)] at hQ
    obtain ⟨n0, hn0⟩ : ∃ n0, g.sets[i].head? = some n0 := by
      cases h : g.sets[i] with
      | nil => exact (hne h).elim
      | cons y r => exact ⟨y, rfl⟩
    have hd0 : g.sets[i].headD 0 = n0 := by rw [List.headD_eq_head?_getD, hn0]; rfl
    have hlk := sets_lenk (g := g) hls
    obtain ⟨hb, A, cell, L, rfl, hc⟩ := id hR
    have h48 := ok48 (rp := rpF H.length) (R := RF g H) hW repF hlt hn0 (fun v hv => sets_mem hls hv) (by omega) (c := 4000 * n) (s := s) (G := H ++ A :: ⟨[cell], 40, 0, true⟩ :: ⟨[g.wp, rpF H.length], 80, 0, true⟩ :: L)
      (repF.decn (k := 4000 - 2 * g.sets[i].length) (by rw [show 4000 - 2 * g.sets[i].length + (2 * g.sets[i].length + 4000 * n) = 4000 * (n + 1) by omega]; exact hR))
    rw [hd0] at hQ
    simp -implicitDefEqProofs [h6, h7, h22, h23, h24, Gm.setsV, hlt, hls, slN_at hls, slN_ne hne]
    refine call_goP h48 ?_
    rintro out G' ⟨rfl, hR'⟩
    simp -implicitDefEqProofs [h24]
    rw [w1]
    refine ih (i + 1) _ _ _ (by omega) hR' hQ ?_ ?_ ?_ ?_ ?_
    · simp [h6]
    · simp [h7]
    · simp [h22, Gm.setsV]
    · simp [h23]
    · simp
def Gm.flawsV (g : Gm) : SV := g.out nl (fv g.flaws)
set_option maxRecDepth 10000 in
theorem ok17 : Ok Try.prog 17 [.agg g.cells] H (.ret g.flawsV) H := by
  refine ok_fn hm Try.func17 c17 (by simp) fun hcl => ?_
  simp -implicitDefEqProofs [i17, r17, Gm.cells]
  have hh := fun H => ok38 (H := H) (g := g)
  simp only [Gm.cells] at hh
  refine call_go (hh _) ?_
  by_cases h : g.formE = 0
  · rw [walked_ok h]
    have hW := wg_of h
    have hgi := hW.gd.i
    have hwp : g.wp.vd = true ∧ g.wp.ug = g.wp ∧ g.wp.flat = [g.wp] ∧ g.wp.isCell = true := ⟨rfl, rfl, rfl, rfl⟩
    simp -implicitDefEqProofs [hwp.1, hwp.2.1, hwp.2.2.1, hwp.2.2.2]
    refine ⟨by simp [partOk, Gm.wp], call_go (ok47 hW.gd) ?_⟩
    simp -implicitDefEqProofs [Gm.setsV]
    refine loop17 (g := g) (H := H) hW (Q := g.flaws) (fun env G hR h6 => ?_) g.is.length 0 _ _ [] (by omega) ⟨by simp; omega, _, nl, [], rfl, .inl ⟨rfl, rfl⟩⟩ rfl (by simp) (by simp) (by simp [Gm.setsV]) (by simp) (by simp)
    obtain ⟨hb, A, cell, L, rfl, hc⟩ := hR
    have hfl : g.flawsV = .tup [fv g.flaws, i64 0] := by unfold Gm.flawsV Gm.out; rw [if_pos h]
    rw [hfl]
    simp -implicitDefEqProofs [h6]
    rcases hc with ⟨h0, rfl⟩ | ⟨hne, p, rfl, hp⟩
    · refine cv_fz 4 hcl rfl ?_
      simp [fv, h0]
    · refine cv_fz 4 hcl rfl ?_
      have hpl := getElem?_lt hp
      simp [fv, hne, hp, fls_len, Nat.mul_comm]
      exact List.take_of_length_le (by rw [fls_len]; omega)
  · obtain ⟨p, e, _⟩ := walked_err h
    rw [e]
    simp -implicitDefEqProofs [h]
    refine cv_fz 2 hcl rfl ?_
    simp [Gm.flawsV, Gm.out, h]
end
end Go.Proofs.Ytiikfkacbglblaa

/- D29 -/
namespace Go.Proofs.Ytiikfkacbglblaa
open Go.Ab
def ws (l : List (Int × Int)) : SV := .slc (infs l) l.length
/-- The place of a child. -/
theorem fstAt_of {l : List Int} {v : Int} (hinc : l.Pairwise (· < ·)) (hv : v ∈ l) : ∃ k, ∃ h : k < l.length, l[k] = v ∧ fstAt v l = k ∧ ∀ t (h : t < l.length), l[t] = v → t = k := by
  obtain ⟨k, hk, e⟩ := List.getElem_of_mem hv
  have huniq : ∀ t (h : t < l.length), l[t] = v → t = k := fun t ht h => by
    rw [List.pairwise_iff_getElem] at hinc
    rcases Nat.lt_trichotomy t k with h1 | h1 | h1
    · have := hinc t k ht hk h1; omega
    · exact h1
    · have := hinc k t hk ht h1; omega
  refine ⟨k, hk, e, ?_, huniq⟩
  have : l.findIdx? (· == v) = some k := by
    rw [List.findIdx?_eq_some_iff_getElem]
    refine ⟨hk, by simpa using e, fun j hj => ?_⟩
    intro h
    have := huniq j (by omega) (by simpa using h)
    omega
  unfold fstAt; rw [this]
section
variable {H : List AO} {g : Gm}
/-- One step up. -/
theorem up_step {pl : Int} (hW : Wg g) {f node p : Nat} (hp : p < g.ns.length) (hP : gi g.wk.2.P node = p) {l : List (Int × Int)} :
    abv g pl (fun _ _ _ => true) (fun l k a => l ++ [(infoAt g k, a)]) (f + 1) node l = abv g pl (fun _ _ _ => true) (fun l k a => l ++ [(infoAt g k, a)]) f p (if g.ns[p].k = 2 ∧ g.ns[p].p = pl then l ++ [(g.ns[p].i, fstAt node g.ns[p].nx)] else l) := by
  have hinf : infoAt g p = g.ns[p].i := by unfold infoAt; rw [List.getElem?_eq_getElem hp]
  conv => lhs; unfold abv
  rw [if_neg (by omega), hP, show ((p : Nat) : Int).toNat = p by omega, List.getElem?_eq_getElem hp]
  simp only
  by_cases h : g.ns[p].k = 2 ∧ g.ns[p].p = pl
  · rw [if_pos h, if_pos h, if_pos trivial, hinf]
  · rw [if_neg h, if_neg h]
end
end Go.Proofs.Ytiikfkacbglblaa

/- D30 -/
namespace Go.Proofs.Ytiikfkacbglblaa
open Go.Ab
section
variable {H : List AO} {g : Gm} {a b : List (Int × Int)}
/-! Flaws, by the reference -/
theorem Wg.ty (h : Wg g) {x : Nd} (hx : x ∈ g.ns) (hk : x.k = 2) : g.is[x.i.toNat]? = some (x.p, (x.nx.length : Int)) := by
  have hse := h.se
  unfold Gm.setsE at hse
  by_cases hb : ∃ x ∈ g.ns, x.tyBad g
  · rw [if_pos hb] at hse; cases hse
  · by_cases h1 : g.is[x.i.toNat]? = some (x.p, (x.nx.length : Int))
    · exact h1
    · exact (hb ⟨x, hx, hk, h1⟩).elim
def dq (g : Gm) (pl info : Int) (f node : Nat) : Int := abv g pl (fun d k _ => decide (dpn g info d k < 0)) (fun d k _ => dpn g info d k) f node (-1)
theorem dq_step (hW : Wg g) {info : Nat} (hinfo : info < g.is.length) {f node p : Nat} (hp : p < g.ns.length) (hP : gi g.wk.2.P node = p) :
    dq g g.is[info].1 info (f + 1) node = if g.ns[p].k = 2 ∧ g.ns[p].i = info then (p : Int) else dq g g.is[info].1 info f p := by
  have hinf : infoAt g p = g.ns[p].i := by unfold infoAt; rw [List.getElem?_eq_getElem hp]
  have hmem : g.ns[p] ∈ g.ns := List.getElem_mem hp
  unfold dq
  conv => lhs; unfold abv
  rw [if_neg (by omega), hP, show ((p : Nat) : Int).toNat = p by omega, List.getElem?_eq_getElem hp]
  simp only
  by_cases h1 : g.ns[p].k = 2 ∧ g.ns[p].i = info
  · have hty := hW.ty hmem h1.1
    rw [h1.2, show ((info : Nat) : Int).toNat = info by omega, List.getElem?_eq_getElem hinfo] at hty
    simp only [Option.some.injEq] at hty
    have e : dpn g info (-1) p = p := by unfold dpn; rw [if_pos (by rw [hinf]; exact h1.2)]
    rw [if_pos h1, if_pos ⟨h1.1, by rw [hty]⟩, e, if_neg (by simp)]
  · rw [if_neg h1]
    by_cases h2 : g.ns[p].k = 2 ∧ g.ns[p].p = g.is[info].1
    · have e : dpn g info (-1) p = -1 := by unfold dpn; rw [if_neg (by rw [hinf]; exact fun h => h1 ⟨h2.1, h⟩)]
      rw [if_pos h2, e, if_pos (by simp)]
    · rw [if_neg h2]
theorem dq_neg {pl info : Int} {f node : Nat} (h : gi g.wk.2.P node < 0) : dq g pl info (f + 1) node = -1 := by
  unfold dq abv; rw [if_pos h]
def fr (l : List Fl) : AO := ⟨fls l, 59, l.length, true⟩
def stepF (g : Gm) (pl info n0 : Int) (first : List (Int × Int)) (v : Int) (l : List Fl) : List Fl :=
  if g.way v.toNat pl = first then (if 0 ≤ g.deep v.toNat pl info then l ++ [⟨1, v, info, g.deep v.toNat pl info⟩] else l)
  else (if 0 ≤ g.deep v.toNat pl info then l ++ [⟨1, v, info, g.deep v.toNat pl info⟩] else l) ++ [⟨2, v, info, n0⟩]
theorem seek_true {pl info n0 : Int} {first : List (Int × Int)} {v : Int} {r : List Int} {l : List Fl} :
    seekS g (fun _ _ => true) nxF info pl n0 first (v :: r) l = seekS g (fun _ _ => true) nxF info pl n0 first r (stepF g pl info n0 first v l) := by
  conv => lhs; unfold seekS
  simp only
  rw [if_neg (by simp)]
  unfold stepF
  by_cases hw : g.way v.toNat pl = first
  · rw [if_pos hw, if_pos hw]; rfl
  · rw [if_neg hw, if_neg hw, if_pos trivial]; rfl
def fs (l : List Fl) : SV := .slc (fls l) l.length
end
end Go.Proofs.Ytiikfkacbglblaa

/- D31 -/
namespace Go.Proofs.Ytiikfkacbglblaa
open Go.Ab
section
variable {H : List AO} {g : Gm}
/-- The set of a flaw. -/
theorem flaws_info {f : Fl} (hf : f ∈ g.flaws) : 0 ≤ f.i ∧ f.i < g.is.length := by
  have hsk : ∀ (r : List Int) (i : Nat) (pl n0 : Int) (first : List (Int × Int)) (l : List Fl), i < g.is.length → (∀ f ∈ l, 0 ≤ f.i ∧ f.i < g.is.length) → ∀ f ∈ (seekS g (fun _ _ => true) nxF i pl n0 first r l).2, 0 ≤ f.i ∧ f.i < g.is.length := by
    intro r
    induction r with
    | nil => intro i pl n0 first l hi hl; simpa [seekS] using hl
    | cons v r ih =>
      intro i pl n0 first l hi hl
      rw [seek_true]
      refine ih i pl n0 first _ hi (fun f hf => ?_)
      unfold stepF at hf
      have key : ∀ f ∈ (if 0 ≤ g.deep v.toNat pl i then l ++ [⟨1, v, i, g.deep v.toNat pl i⟩] else l), 0 ≤ f.i ∧ f.i < g.is.length := by
        intro f hf
        split at hf
        · rcases List.mem_append.1 hf with h | h
          · exact hl f h
          · simp only [List.mem_singleton] at h; subst h; simp only; omega
        · exact hl f hf
      split at hf
      · exact key f hf
      · rcases List.mem_append.1 hf with h | h
        · exact key f h
        · simp only [List.mem_singleton] at h; subst h; simp only; omega
  have : ∀ (n i : Nat) (l : List Fl), (∀ f ∈ l, 0 ≤ f.i ∧ f.i < g.is.length) → ∀ f ∈ setsL g (fun _ _ => true) nxF (fun _ => true) false n i l, 0 ≤ f.i ∧ f.i < g.is.length := by
    intro n
    induction n with
    | zero => intro i l hl; simpa [setsL] using hl
    | succ n ih =>
      intro i l hl
      unfold setsL
      by_cases hls : i < g.sets.length
      · have hlt : i < g.is.length := by rw [← sets_len]; exact hls
        rw [List.getElem?_eq_getElem hls, List.getElem?_eq_getElem hlt]
        simp only [if_true]
        rw [if_neg (by simp)]
        exact ih _ _ (hsk _ _ _ _ _ _ hlt hl)
      · rw [List.getElem?_eq_none (by omega)]
        exact hl
  exact this _ _ _ (by simp) f hf
end
end Go.Proofs.Ytiikfkacbglblaa

/- D32 -/
namespace Go.Proofs.Ytiikfkacbglblaa
open Go.Ab
section
variable {g : Gm}
def upf (g : Gm) (pl : Int) (f node : Nat) (l : List (Int × Int)) : List (Int × Int) := abv g pl (fun _ _ _ => true) (fun l k a => l ++ [(infoAt g k, a)]) f node l
theorem upf_root (hW : Wg g) {pl : Int} {f : Nat} {l : List (Int × Int)} : upf g pl (f + 1) 0 l = l := by
  unfold upf abv; rw [if_pos (by rw [hW.wf.p0]; omega)]
theorem upf_app (hW : Wg g) {pl : Int} : ∀ (f node : Nat) (l : List (Int × Int)), node < f → node < g.ns.length → upf g pl f node l = l ++ upf g pl f node []
  | 0, node, l, h, _ => by omega
  | f + 1, node, l, h, hn => by
    rcases Nat.eq_zero_or_pos node with hz | hz
    · subst hz; rw [upf_root hW, upf_root hW]; simp
    · obtain ⟨p, hp, k1, k2, k3⟩ := hW.wf.pf node hz hn
      unfold upf
      rw [up_step hW hp k1, up_step hW hp k1]
      have h1 := upf_app hW (pl := pl) f p
      unfold upf at h1
      by_cases hc : g.ns[p].k = 2 ∧ g.ns[p].p = pl
      · rw [if_pos hc, if_pos hc, h1 _ (by omega) hp, h1 ([] ++ _) (by omega) hp]
        simp
      · rw [if_neg hc, if_neg hc, h1 _ (by omega) hp]
theorem upf_fuel (hW : Wg g) {pl : Int} : ∀ (f f' node : Nat) (l : List (Int × Int)), node < f → node < f' → node < g.ns.length → upf g pl f node l = upf g pl f' node l
  | 0, f', node, l, h, _, _ => by omega
  | f + 1, 0, node, l, _, h, _ => by omega
  | f + 1, f' + 1, node, l, h, h', hn => by
    rcases Nat.eq_zero_or_pos node with hz | hz
    · subst hz; rw [upf_root hW, upf_root hW]
    · obtain ⟨p, hp, k1, k2, k3⟩ := hW.wf.pf node hz hn
      unfold upf
      rw [up_step hW hp k1, up_step hW hp k1]
      exact upf_fuel hW f f' p _ (by omega) (by omega) hp
theorem up_len (hW : Wg g) {pl : Int} {node : Nat} (hn : node < g.ns.length) (f : Nat) (hf : node < f) : (g.way node pl).length = (upf g pl f node []).length := by
  unfold Gm.way Gm.up
  rw [List.length_reverse]
  show (upf g pl g.ns.length node []).length = _
  rw [upf_fuel hW g.ns.length f node [] hn hf hn]
/-- Where the set is met again above. -/
theorem dq_up (hW : Wg g) {info : Nat} (hinfo : info < g.is.length) : ∀ (f node : Nat), node < f → node < g.ns.length → 0 ≤ dq g g.is[info].1 info f node →
    ∃ p, ∃ h : p < g.ns.length, p < node ∧ g.ns[p].k = 2 ∧ g.ns[p].i = info ∧ (g.way p g.is[info].1).length < (g.way node g.is[info].1).length
  | 0, node, h, _, _ => by omega
  | f + 1, node, h, hn, hd => by
    rcases Nat.eq_zero_or_pos node with hz | hz
    · subst hz; rw [dq_neg (by rw [hW.wf.p0]; omega)] at hd; omega
    · obtain ⟨p, hp, k1, k2, k3⟩ := hW.wf.pf node hz hn
      rw [dq_step hW hinfo hp k1] at hd
      have hlen : (g.way node g.is[info].1).length = (if g.ns[p].k = 2 ∧ g.ns[p].p = g.is[info].1 then 1 else 0) + (g.way p g.is[info].1).length := by
        rw [up_len hW hn (node + 1 + 1) (by omega), up_len hW hp (node + 1) (by omega)]
        have : upf g g.is[info].1 (node + 1 + 1) node [] = upf g g.is[info].1 (node + 1) p (if g.ns[p].k = 2 ∧ g.ns[p].p = g.is[info].1 then [] ++ [(g.ns[p].i, fstAt node g.ns[p].nx)] else []) := up_step hW hp k1
        rw [this, upf_app hW _ _ _ (by omega) hp]
        split <;> simp <;> omega
      by_cases hc : g.ns[p].k = 2 ∧ g.ns[p].i = info
      · have hty := hW.ty (List.getElem_mem hp) hc.1
        rw [hc.2, show ((info : Nat) : Int).toNat = info by omega, List.getElem?_eq_getElem hinfo] at hty
        simp only [Option.some.injEq] at hty
        refine ⟨p, hp, k2, hc.1, hc.2, ?_⟩
        rw [hlen, if_pos ⟨hc.1, by rw [hty]⟩]; omega
      · rw [if_neg hc] at hd
        obtain ⟨q, hq, m1, m2, m3, m4⟩ := dq_up hW hinfo f p (by omega) hp hd
        refine ⟨q, hq, by omega, m2, m3, ?_⟩
        omega
theorem mem_occ {s : Nat} : ∀ {l : List Nd} {o t : Nat} (ht : t < l.length), l[t].k = 2 → l[t].i.toNat = s → ((o + t : Nat) : Int) ∈ occ s l o
  | [], o, t, ht, _, _ => by simp at ht
  | x :: r, o, 0, ht, h1, h2 => by
    unfold occ
    rw [if_pos ⟨h1, h2⟩]
    simp
  | x :: r, o, t + 1, ht, h1, h2 => by
    have := mem_occ (s := s) (l := r) (o := o + 1) (t := t) (by simpa using ht) h1 h2
    rw [show o + 1 + t = o + (t + 1) by omega] at this
    unfold occ
    split
    · exact List.mem_cons_of_mem _ this
    · exact this
/-- Not all ways to the nodes of a set are equal. -/
def Bad (g : Gm) (i : Nat) : Prop := ∃ h : i < g.sets.length, ∃ h' : i < g.is.length, ∃ v ∈ g.sets[i], g.way v.toNat g.is[i].1 ≠ g.way (g.sets[i].headD 0).toNat g.is[i].1
theorem bad_of_again (hW : Wg g) {i : Nat} (hs : i < g.sets.length) (hi : i < g.is.length) {v : Int} (hv : v ∈ g.sets[i]) (hd : 0 ≤ g.deep v.toNat g.is[i].1 i) : Bad g i := by
  have hr := sets_mem hs hv
  obtain ⟨p, hp, k1, k2, k3, k4⟩ := dq_up hW hi g.ns.length v.toNat (by omega) (by omega) hd
  have hpm : ((p : Nat) : Int) ∈ g.sets[i] := by
    rw [sets_occ hs]
    have := mem_occ (s := i) (l := g.ns) (o := 0) (t := p) hp k2 (by omega)
    simpa using this
  by_cases h1 : g.way v.toNat g.is[i].1 = g.way (g.sets[i].headD 0).toNat g.is[i].1
  · refine ⟨hs, hi, p, hpm, fun h2 => ?_⟩
    rw [show ((p : Nat) : Int).toNat = p by omega] at h2
    rw [h1, h2] at k4; omega
  · exact ⟨hs, hi, v, hv, h1⟩
/-- A set, as Perfect goes through it. -/
theorem seekP {i : Nat} {pl n0 : Int} {first : List (Int × Int)} : ∀ (l : List Int), seekS g nxP nxP i pl n0 first l true = if ∃ v ∈ l, g.way v.toNat pl ≠ first then (false, false) else (true, true)
  | [] => by simp [seekS]
  | v :: r => by
    have e1 : nxP true ⟨1, v, i, g.deep v.toNat pl i⟩ = true := by simp [nxP]
    have e2 : ∀ b, nxP b ⟨2, v, i, n0⟩ = false := fun b => by simp [nxP]
    unfold seekS
    simp only
    rw [if_neg (by rw [e1]; simp), e1]
    have e3 : (if 0 ≤ g.deep v.toNat pl i then true else true) = true := by split <;> rfl
    rw [e3]
    by_cases hw : g.way v.toNat pl = first
    · rw [if_pos hw, seekP r]
      by_cases hx : ∃ u ∈ r, g.way u.toNat pl ≠ first
      · obtain ⟨u, hu, hh⟩ := hx
        rw [if_pos ⟨u, hu, hh⟩, if_pos ⟨u, List.mem_cons_of_mem _ hu, hh⟩]
      · rw [if_neg hx, if_neg]
        rintro ⟨u, hu, hh⟩
        rcases List.mem_cons.1 hu with rfl | hu
        · exact hh hw
        · exact hx ⟨u, hu, hh⟩
    · rw [if_neg hw, e2, if_neg (by simp), if_pos ⟨v, List.mem_cons_self, hw⟩]
theorem setsP (hW : Wg g) {pl : Int} : ∀ (n i : Nat), i + n = g.is.length → (setsL g nxP nxP (fun p => decide (p = pl)) true n i true = true ↔ ∀ t, i ≤ t → (h : t < g.is.length) → g.is[t].1 = pl → ¬ Bad g t)
  | 0, i, hi => by
    simp only [setsL, true_iff]
    intro t h1 h2; omega
  | n + 1, i, hi => by
    have hlt : i < g.is.length := by omega
    have hls : i < g.sets.length := by rw [sets_len]; exact hlt
    unfold setsL
    rw [List.getElem?_eq_getElem hlt, List.getElem?_eq_getElem hls]
    simp only
    have ih := setsP hW (pl := pl) n (i + 1) (by omega)
    by_cases hp : g.is[i].1 = pl
    · rw [if_pos (by simpa using hp), seekP]
      by_cases hb : ∃ v ∈ g.sets[i], g.way v.toNat g.is[i].1 ≠ g.way (g.sets[i].headD 0).toNat g.is[i].1
      · rw [if_pos hb]
        simp only [and_self, if_true]
        constructor
        · intro h; cases h
        · intro h; exact (h i (Nat.le_refl _) hlt hp ⟨hls, hlt, hb⟩).elim
      · rw [if_neg hb]
        rw [if_neg (by simp), ih]
        constructor
        · intro h t h1 h2 h3
          by_cases e : t = i
          · subst e; rintro ⟨_, _, h4⟩; exact hb h4
          · exact h t (by omega) h2 h3
        · intro h t h1 h2 h3; exact h t (by omega) h2 h3
    · rw [if_neg (by simpa using hp), ih]
      constructor
      · intro h t h1 h2 h3
        by_cases e : t = i
        · subst e; exact (hp h3).elim
        · exact h t (by omega) h2 h3
      · intro h t h1 h2 h3; exact h t (by omega) h2 h3
/-- A set, as Flaws goes through it. -/
theorem seekF_mem {i : Nat} {pl n0 : Int} {first : List (Int × Int)} : ∀ (r : List Int) (l : List Fl) (f : Fl), f ∈ (seekS g (fun _ _ => true) nxF i pl n0 first r l).2 ↔ f ∈ l ∨ ∃ v ∈ r, (0 ≤ g.deep v.toNat pl i ∧ f = ⟨1, v, i, g.deep v.toNat pl i⟩) ∨ (g.way v.toNat pl ≠ first ∧ f = ⟨2, v, i, n0⟩)
  | [], l, f => by simp [seekS]
  | v :: r, l, f => by
    rw [seek_true, seekF_mem r]
    have : f ∈ stepF g pl i n0 first v l ↔ f ∈ l ∨ (0 ≤ g.deep v.toNat pl i ∧ f = ⟨1, v, i, g.deep v.toNat pl i⟩) ∨ (g.way v.toNat pl ≠ first ∧ f = ⟨2, v, i, n0⟩) := by
      unfold stepF
      by_cases hw : g.way v.toNat pl = first
      · rw [if_pos hw]
        by_cases hd : 0 ≤ g.deep v.toNat pl i
        · rw [if_pos hd]; simp [hw, hd]
        · rw [if_neg hd]; simp [hw, hd]
      · rw [if_neg hw]
        by_cases hd : 0 ≤ g.deep v.toNat pl i
        · rw [if_pos hd]; simp [hw, hd]
        · rw [if_neg hd]; simp [hw, hd]
    rw [this]
    simp only [List.mem_cons, exists_eq_or_imp, or_assoc]
theorem setsF_mem (hW : Wg g) : ∀ (n i : Nat) (l : List Fl), i + n = g.is.length → ∀ f, f ∈ setsL g (fun _ _ => true) nxF (fun _ => true) false n i l ↔ f ∈ l ∨ ∃ t, i ≤ t ∧ ∃ h : t < g.is.length, ∃ h' : t < g.sets.length, ∃ v ∈ g.sets[t],
      (0 ≤ g.deep v.toNat g.is[t].1 t ∧ f = ⟨1, v, t, g.deep v.toNat g.is[t].1 t⟩) ∨ (g.way v.toNat g.is[t].1 ≠ g.way (g.sets[t].headD 0).toNat g.is[t].1 ∧ f = ⟨2, v, t, g.sets[t].headD 0⟩)
  | 0, i, l, hi, f => by
    simp only [setsL]
    constructor
    · exact .inl
    · rintro (h | ⟨t, h1, h2, _⟩)
      · exact h
      · omega
  | n + 1, i, l, hi, f => by
    have hlt : i < g.is.length := by omega
    have hls : i < g.sets.length := by rw [sets_len]; exact hlt
    unfold setsL
    rw [List.getElem?_eq_getElem hlt, List.getElem?_eq_getElem hls]
    simp only [if_true]
    rw [if_neg (by simp), setsF_mem hW n (i + 1) _ (by omega), seekF_mem]
    constructor
    · rintro ((h | h) | ⟨t, h1, h2⟩)
      · exact .inl h
      · exact .inr ⟨i, Nat.le_refl _, hlt, hls, h⟩
      · exact .inr ⟨t, by omega, h2⟩
    · rintro (h | ⟨t, h1, h2, h3, h4⟩)
      · exact .inl (.inl h)
      · by_cases e : t = i
        · subst e; exact .inl (.inr h4)
        · exact .inr ⟨t, by omega, h2, h3, h4⟩
theorem flaws_bad (hW : Wg g) {t : Nat} (ht : t < g.is.length) : (∃ f ∈ g.flaws, f.i = (t : Int)) ↔ Bad g t := by
  have hs : t < g.sets.length := by rw [sets_len]; exact ht
  constructor
  · rintro ⟨f, hf, hi⟩
    unfold Gm.flaws at hf
    rw [setsF_mem hW _ _ _ (by omega)] at hf
    rcases hf with hf | ⟨u, _, h2, h3, v, hv, ⟨h4, h5⟩ | ⟨h4, h5⟩⟩
    · simp at hf
    · have : u = t := by rw [h5] at hi; simp only at hi; omega
      subst this
      exact bad_of_again hW h3 h2 hv h4
    · have : u = t := by rw [h5] at hi; simp only at hi; omega
      subst this
      exact ⟨h3, h2, v, hv, h4⟩
  · rintro ⟨h3, h2, v, hv, h4⟩
    refine ⟨⟨2, v, t, g.sets[t].headD 0⟩, ?_, rfl⟩
    unfold Gm.flaws
    rw [setsF_mem hW _ _ _ (by omega)]
    exact .inr ⟨t, by omega, h2, h3, v, hv, .inr ⟨h4, rfl⟩⟩
end
end Go.Proofs.Ytiikfkacbglblaa

/- D33 -/
namespace Go.Proofs.Ytiikfkacbglblaa
open Go.Ab
section
variable {H : List AO} {g : Gm}
end
end Go.Proofs.Ytiikfkacbglblaa

/- D34 -/
namespace Go.Proofs.Ytiikfkacbglblaa
open Go.Ab
/-- A plain value. -/
structure Pl (x : SV) : Prop where
  vd : x.vd = true
  ug : x.ug = x
  st : x.strip = x
theorem Pl.nl : Pl nl := ⟨rfl, rfl, rfl⟩
theorem Pl.slc (c : List SV) (n : Nat) : Pl (.slc c n) := ⟨rfl, rfl, rfl⟩
theorem Pl.wv (l : List (Int × Int)) : Pl (wv l) := by unfold Proofs.Ytiikfkacbglblaa.wv; split; exact Pl.nl; exact Pl.slc _ _
theorem Pl.fv (l : List Fl) : Pl (fv l) := by unfold Proofs.Ytiikfkacbglblaa.fv; split; exact Pl.nl; exact Pl.slc _ _
section
variable {H : List AO} {g : Gm}
end
end Go.Proofs.Ytiikfkacbglblaa

