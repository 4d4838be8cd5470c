/-
  Steps of the proof: contracts of functions and plain facts that the statement rests on.
-/
import Derived.Test.YtbfeaikiiamhaaaUG6
set_option linter.all false
namespace Go.Proofs.Ytbfeaikiiamhaaa.Rc
open Go.Ab
/-- What stays, in its bounds. -/
structure Mc.Good (c : Mc) : Prop where
  l : c.l.length < 4611686018427387904
  p1 : 1 ≤ c.pl
  p2 : c.pl ≤ 1000
  m : c.most ≤ 2000
  lv : c.lv.length ≤ 100
  lvr : ∀ q ∈ c.lv, -1 ≤ q.1 ∧ q.1 < c.pl ∧ 2 ≤ q.2.1 ∧ q.2.1 ≤ 3
/-- What holds of the maker's state at a level. -/
structure MInv (c : Mc) (s : Ms) (level : Nat) : Prop where
  a0 : 0 ≤ s.at'
  vl : s.vs.length = s.is.length
  vi : ∀ j (h : j < s.vs.length), s.vs[j].inf = j ∧ s.vs[j].pl = (s.is[j]'(by omega)).1
  vsn : ∀ v ∈ s.vs, v.sn.length ≤ 100
  used : ∀ j (h : j < s.vs.length), (level : Int) ≤ s.vs[j].lv → ∃ x ∈ s.ns, x.k = 2 ∧ x.i = j
  isr : ∀ q ∈ s.is, 0 ≤ q.1 ∧ q.1 < c.pl ∧ 1 ≤ q.2 ∧ q.2 ≤ 3
  nsr : ∀ x ∈ s.ns, x.k = 2 → 0 ≤ x.i ∧ x.i < s.is.length
  il : s.is.length ≤ s.ns.length
  ml : (s.ns.length : Int) + s.pend ≤ c.most
/-- What a subtree that has been made adds. -/
structure MPost (c : Mc) (s s' : Ms) (level h : Nat) (sub : List Nd) (isN : List (Int × Int)) (vsN : List Vw) : Prop where
  ns : s'.ns = s.ns ++ sub
  is : s'.is = s.is ++ isN
  vs : s'.vs = s.vs ++ vsN
  pend : s'.pend = s.pend - 1
  lv : ∀ v ∈ vsN, (level : Int) ≤ v.lv
  wlk : Wlk s.ns.length h sub
  rg : rg sub s.is.length = some s'.is.length
  good : ∀ x ∈ sub, x.good c.pl s'.is
  inv : MInv c s' level
def buildP (c : Mc) (A B : List AO) (s : Ms) (level : Nat) (o : Out) (G' : List AO) : Prop :=
  o = .ret (i64 s.ns.length) ∧ ∃ s' sub isN vsN, MPost c s s' level (c.lv.length - level) sub isN vsN ∧ G' = c.hp A B s'
/-- That the code of build does so, at a level. -/
def BuildOk (c : Mc) (level : Nat) : Prop :=
  ∀ (A B : List AO) (s : Ms) (seen : List (List Int)), MInv c s level → 1 ≤ s.pend → (seen.length : Int) = c.pl → (∀ l ∈ seen, l.length ≤ level) →
    OkP Try.prog 42 [.ptr (.own (A.length + 1) 0 0 0 0) 0, i64 level, seenV seen] (c.hp A B s) (buildP c A B s level)
/-- What the children made so far add. -/
structure KPost (c : Mc) (s s' : Ms) (level h : Nat) (nx : List Int) (subs : List Nd) (isN : List (Int × Int)) (vsN : List Vw) : Prop where
  ns : s'.ns = s.ns ++ subs
  is : s'.is = s.is ++ isN
  vs : s'.vs = s.vs ++ vsN
  pend : s'.pend = s.pend - nx.length
  lv : ∀ v ∈ vsN, (level : Int) ≤ v.lv
  kds : Kds s.ns.length h nx subs
  rg : rg subs s.is.length = some s'.is.length
  good : ∀ x ∈ subs, x.good c.pl s'.is
  inv : MInv c s' level
theorem KPost.zero {c : Mc} {s : Ms} {level h : Nat} (hi : MInv c s level) : KPost c s s level h [] [] [] [] :=
  ⟨by simp, by simp, by simp, by simp, by simp, Kds.nil _ _, by simp [Proofs.Ytbfeaikiiamhaaa.Rc.rg], by simp, hi⟩
theorem KPost.snoc {c : Mc} {s s1 s2 : Ms} {level h : Nat} {nx : List Int} {subs sub : List Nd} {i1 i2 : List (Int × Int)} {v1 v2 : List Vw} (hk : KPost c s s1 level h nx subs i1 v1) (hp : MPost c s1 s2 level h sub i2 v2) :
    KPost c s s2 level h (nx ++ [(s1.ns.length : Int)]) (subs ++ sub) (i1 ++ i2) (v1 ++ v2) := by
  refine ⟨?_, ?_, ?_, ?_, ?_, ?_, ?_, ?_, hp.inv⟩
  · rw [hp.ns, hk.ns, List.append_assoc]
  · rw [hp.is, hk.is, List.append_assoc]
  · rw [hp.vs, hk.vs, List.append_assoc]
  · rw [hp.pend, hk.pend]; simp; omega
  · intro v hv
    rcases List.mem_append.1 hv with h | h
    · exact hk.lv v h
    · exact hp.lv v h
  · exact hk.kds.snoc hp.wlk (by rw [hk.ns]; simp)
  · rw [rg_app, hk.rg]; exact hp.rg
  · intro x hx
    rcases List.mem_append.1 hx with h | h
    · rw [hp.is]; exact (hk.good x h).app _
    · exact hp.good x h
section
variable {A B : List AO} {c : Mc} {s : Ms}
def nodX (A B : List AO) (ch : Bool) (x0 info : Int) (nx ws : List Int) : AO :=
  ⟨[i64 (if ch = true then 1 else 2), i64 (if ch = true then 0 else x0), i64 (if ch = true then 0 else info), .own (A.length + (B.length + 9)) 0 nx.length 1 nx.length, if ch = true then .own (A.length + (B.length + 10)) 0 ws.length 1 ws.length else .val (.slice none 0 0), .val (.slice none 0 0)], 39, 0, true⟩
def intO (l : List Int) : AO := ⟨ints l, 3, l.length, true⟩
theorem Cl_hp {n : Nat} (hA : Cl n A) (hB : Cl n B) (hn : A.length + 6 ≤ n) : Cl n (c.hp A B s) := by
  unfold Mc.hp
  refine hA.app ?_
  refine Cl.cons (by simp [Mc.D, SV.underL, SV.under]) (Cl.cons (by simp only [Mc.M, SV.underL, SV.under, Bool.and_eq_true, decide_eq_true_eq, Bool.and_true]; refine ⟨?_, ?_, ?_, ?_, ?_, ?_, ?_, ?_, ?_, ?_⟩ <;> first | omega | rfl) (Cl.cons ?_ (Cl.cons ?_ (Cl.cons ?_ (Cl.cons ?_ hB)))))
  · exact rws_under (fun x => by simp [lcN, SV.underL, SV.under]) _
  · exact rws_under (fun x => by simp [Vw.cells, SV.underL, SV.under]) _
  · exact rws_under (cN_under _) _
  · exact rws_under (fun x => by simp [icN, SV.underL, SV.under]) _
def w60 : IC := match l42_0 with
  | .keep _ (.seq _ (.seq (.blk 1 (.seq _ (.seq _ (.seq _ w)))) _)) => w
  | _ => .skip
set_option maxRecDepth 10000 in
theorem call60 {l : List (List Int)} {ch : Bool} {x0 x1 x2 info : Int} {level : Nat} {g : AO} {s' : Ms} {N : Nat} {K : XE → Env → List AO → Prop} (hb : BuildOk c (level + 1)) {nx ws : List Int} {L L2 : List AO} {env : Env} (hl : (l.length : Int) = c.pl) (hll : ∀ x ∈ l, x.length ≤ level + 1) (hi : MInv c s' (level + 1)) (hp : 1 ≤ s'.pend) (hm : level ≤ 1000) (hx : nx.length ≤ 1000) (hns : s'.ns.length ≤ 100000)
    (h0 : env.get 0 = .ptr (.own (A.length + 1) 0 0 0 0) 0) (h1 : env.get 1 = i64 level) (h11 : env.get 11 = .ptr (.own (A.length + (B.length + 8)) 0 0 0 0) 0) (h13 : env.get 13 = .own (A.length + (B.length + (L.length + 11))) 0 l.length 1 l.length)
    (hK : ∀ env' v1 v2 s2 sub isN vsN, MPost c s' s2 (level + 1) (c.lv.length - (level + 1)) sub isN vsN → (∀ t, t < 185 → env'.get t = env.get t) → K .normal env' (c.hp A (B ++ g :: ⟨[i64 x0, i64 x1, i64 x2], 78, 0, true⟩ :: nodX A B ch x0 info (nx ++ [(s'.ns.length : Int)]) ws :: intO (nx ++ [(s'.ns.length : Int)]) :: intO ws :: (L ++ ⟨[], 35, v1, false⟩ :: (L2 ++ [⟨[i64 v2], 3, 0, true⟩]))) s2)) :
    X Try.prog N drawB w60 env (c.hp A (B ++ g :: ⟨[i64 x0, i64 x1, i64 x2], 78, 0, true⟩ :: nodX A B ch x0 info nx ws :: intO nx :: intO ws :: (L ++ nowO l :: L2)) s') K := by
  have w1 : IntKind.i64.wrap ((level : Int) + 1) = ((level + 1 : Nat) : Int) := wrap_succ (by omega)
  simp -implicitDefEqProofs [w60, l42_0, h0, h1, h11, h13, nodX, Mc.hp, w1]
  have hb' := hb A (B ++ g :: ⟨[i64 x0, i64 x1, i64 x2], 78, 0, true⟩ :: nodX A B ch x0 info nx ws :: intO nx :: intO ws :: (L ++ ⟨[], 35, l.length + 1, false⟩ :: L2)) s' l hi hp hl hll
  refine call_goP (OkP.give (A.length + (B.length + (L.length + 11))) 1 (o := nowO l) ?_ rfl (OkP.cast ?_ ?_ hb')) ?_
  · simp only [get_app, get_c2, List.getElem?_cons_succ, get_app0, List.getElem?_cons_zero]
  · simp [nowO, seenV, List.take_of_length_le]
  · simp [set_app, set_app0, set_c2, Mc.hp, nodX, nowO, AO.dead]
  rintro o G' ⟨rfl, s2, sub, isN, vsN, hp2, rfl⟩
  simp -implicitDefEqProofs [w60, l42_0, h0, h1, h11, h13, nodX, Mc.hp, w1]
  refine ⟨by omega, by omega, ⟨rfl, rfl, rfl, by simp [intO]⟩, ?_⟩
  have e : ints (nx ++ [(s'.ns.length : Int)]) = ints nx ++ [i64 s'.ns.length] := by simp [ints]
  have := hK ((194, (SV.own (A.length + (B.length + 8)) 0 0 0 0).ptr 3) :: (193, SV.own (A.length + (B.length + 9)) 0 (nx.length + 1) 1 (nx.length + 1)) :: (192, SV.own (A.length + (B.length + (L.length + (L2.length + 12)))) 0 1 1 0) :: (191, i64 s'.ns.length) :: (190, SV.own (A.length + (B.length + (L.length + 11))) 0 l.length 1 l.length) :: (189, i64 (level + 1)) :: (188, i64 level) ::
    (187, (SV.own (A.length + 1) 0 0 0 0).ptr 0) :: (186, SV.own (A.length + (B.length + 9)) 0 nx.length 1 nx.length) :: (185, (SV.own (A.length + (B.length + 8)) 0 0 0 0).ptr 3) :: env) (l.length + 1) s'.ns.length s2 sub isN vsN hp2 (fun t ht => by
      simp only [Env.get]
      repeat rw [if_neg (by omega)])
  simpa [Mc.hp, nodX, intO, e] using this
set_option maxRecDepth 10000 in
theorem loop60_0 {seen : List (List Int)} {ch : Bool} {x0 x1 x2 info : Int} {level many : Nat} {g : AO} {s1 : Ms} {N : Nat} {K : XE → Env → List AO → Prop} (hc : c.Good) (hb : BuildOk c (level + 1)) (hA : Cl (A.length + (B.length + 6)) A) (hB : Cl (A.length + (B.length + 6)) B) (hg : Cl 0 [g])
    (hs : (seen.length : Int) = c.pl) (hsl : ∀ l ∈ seen, l.length ≤ level) (hlv : level < c.lv.length) (hmy : many ≤ 3) (hx0 : ch = decide (x0 < 0)) (hp1 : (many : Int) ≤ s1.pend) {at' : Nat}
    (hexit : ∀ env L s' nx ws subs isN vsN, nx.length = many → KPost c s1 s' (level + 1) (c.lv.length - (level + 1)) nx subs isN vsN → (ws.length = if ch = true then many else 0) → (∀ w ∈ ws, 1 ≤ w ∧ w ≤ 3) → Cl 0 L →
      env.get 0 = .ptr (.own (A.length + 1) 0 0 0 0) 0 → env.get 7 = i64 at' → env.get 11 = .ptr (.own (A.length + (B.length + 8)) 0 0 0 0) 0 →
      K (.exit 0) env (c.hp A (B ++ g :: ⟨[i64 x0, i64 x1, i64 x2], 78, 0, true⟩ :: nodX A B ch x0 info nx ws :: intO nx :: intO ws :: L) s')) :
    ∀ (n : Nat) (env : Env) (L : List AO) (s' : Ms) (nx ws : List Int) (subs : List Nd) (isN : List (Int × Int)) (vsN : List Vw), nx.length + n = many → KPost c s1 s' (level + 1) (c.lv.length - (level + 1)) nx subs isN vsN →
      (ws.length = if ch = true then nx.length else 0) → (∀ w ∈ ws, 1 ≤ w ∧ w ≤ 3) → Cl 0 L →
      env.get 0 = .ptr (.own (A.length + 1) 0 0 0 0) 0 → env.get 1 = i64 level → env.get 2 = seenV seen → env.get 7 = i64 at' → env.get 8 = .ptr (.own (A.length + (B.length + 7)) 0 0 0 0) 0 → env.get 9 = i64 many → env.get 11 = .ptr (.own (A.length + (B.length + 8)) 0 0 0 0) 0 → env.get 12 = i64 nx.length →
      LI Try.prog N drawB l42_0 env (c.hp A (B ++ g :: ⟨[i64 x0, i64 x1, i64 x2], 78, 0, true⟩ :: nodX A B ch x0 info nx ws :: intO nx :: intO ws :: L) s') K := by
  intro n
  induction n with
  | zero =>
    intro env L s' nx ws subs isN vsN hn hk hws hw hL h0 h1 h2 h7 h8 h9 h11 h12
    refine li_go hm' l42_0.eq_1 ?_
    simp -implicitDefEqProofs [h0, h1, h2, h7, h8, h9, h11, h12, show ¬ nx.length < many by omega]
    refine hexit _ L s' nx ws subs isN vsN (by omega) hk (by rw [hws]; split <;> omega) hw hL ?_ ?_ ?_ <;> simp [h0, h7, h11]
  | succ n ih =>
    intro env L s' nx ws subs isN vsN hn hk hws hw hL h0 h1 h2 h7 h8 h9 h11 h12
    refine li_go hm' l42_0.eq_1 ?_
    have hlt : nx.length < many := by omega
    have w1 : IntKind.i64.wrap ((nx.length : Int) + 1) = ((nx.length + 1 : Nat) : Int) := wrap_succ (by omega)
    have hps := hk.pend
    have hil := hk.inv.ml
    have hcm := hc.m
    have hcl' := hc.lv
    have hcp := hc.p2
    -- what comes behind the inner loop, for both kinds of nodes
    have key : ∀ (ws' : List Int) (s2 : Ms) (L2 : List AO) (env : Env), KPost c s1 s2 (level + 1) (c.lv.length - (level + 1)) nx subs isN vsN → (ws'.length = if ch = true then nx.length + 1 else 0) → (∀ w ∈ ws', 1 ≤ w ∧ w ≤ 3) → Cl 0 L2 →
        env.get 0 = .ptr (.own (A.length + 1) 0 0 0 0) 0 → env.get 1 = i64 level → env.get 2 = seenV seen → env.get 7 = i64 at' → env.get 8 = .ptr (.own (A.length + (B.length + 7)) 0 0 0 0) 0 → env.get 9 = i64 many → env.get 11 = .ptr (.own (A.length + (B.length + 8)) 0 0 0 0) 0 → env.get 12 = i64 nx.length →
        env.get 13 = .own (A.length + (B.length + (L2.length + 11))) 0 0 1 0 → env.get 14 = i64 0 →
        ∀ K' K2 : XE → Env → List AO → Prop, (∀ env H, X Try.prog N drawB w60 env H K2 → K' (.exit 2) env H) → (∀ (e : Env) (H : List AO), e.get 12 = i64 nx.length → LI Try.prog N drawB l42_0 ((12, i64 ((nx.length + 1 : Nat) : Int)) :: (135, i64 ((nx.length + 1 : Nat) : Int)) :: (134, i64 nx.length) :: e) H K → K2 .normal e H) →
        LI Try.prog N drawB l42_1 env (c.hp A (B ++ g :: ⟨[i64 x0, i64 x1, i64 x2], 78, 0, true⟩ :: nodX A B ch x0 info nx ws' :: intO nx :: intO ws' :: (L2 ++ [nowO []])) s2) K' := by
      intro ws' s2 L2 env hk2 hws2 hw2 hL2 g0 g1 g2 g7 g8 g9 g11 g12 g13 g14 K' K2 hK' hK2
      have hps2 := hk2.pend
      have hil2 := hk2.inv.ml
      have hm : A.length + (B.length + 6) ≤ A.length + ((B ++ g :: ⟨[i64 x0, i64 x1, i64 x2], 78, 0, true⟩ :: nodX A B ch x0 info nx ws' :: intO nx :: intO ws' :: L2).length + 6) := by simp
      have hclo : closed (c.hp A (B ++ g :: ⟨[i64 x0, i64 x1, i64 x2], 78, 0, true⟩ :: nodX A B ch x0 info nx ws' :: intO nx :: intO ws' :: L2) s2) := by
        rw [closed_iff, hp_len]
        refine Cl_hp (hA.mono hm) ((hB.mono hm).app ?_) (by omega)
        refine Cl.cons ((SV.underL_iff _ _).2 fun y hy => SV.under_mono (Nat.zero_le _) y (hg g (by simp) y hy)) (Cl.cons (by simp [SV.underL, SV.under]) (Cl.cons ?_ (Cl.cons (underL_ints _ _) (Cl.cons (underL_ints _ _) (hL2.mono (Nat.zero_le _))))))
        cases ch <;> simp [nodX, SV.underL, SV.under] <;> omega
      refine LI.cong (H' := c.hp A ((B ++ g :: ⟨[i64 x0, i64 x1, i64 x2], 78, 0, true⟩ :: nodX A B ch x0 info nx ws' :: intO nx :: intO ws' :: L2) ++ nowO [] :: []) s2) (by simp) ?_
      refine loop60_1 (seen := seen) (m := level) (jp := B.length + 1) (x0 := x0) (x1 := x1) (x2 := x2) (i := nx.length) (y1 := level) (y7 := at') (y9 := many) (y11 := A.length + (B.length + 8)) hclo (by omega) hsl (by omega) (by simp) (fun env L l hL hl hl2 k0 k1 k2 k7 k8 k9 k11 k12 k13 => ?_) seen.length env [] [] (by simp) (Cl.nil _) (by simp) g0 g1 g2 g7 (by rw [g8]) g9 g11 g12 (by rw [g13]; simp; omega) g14
      refine hK' _ _ ?_
      have e : c.hp A ((B ++ g :: ⟨[i64 x0, i64 x1, i64 x2], 78, 0, true⟩ :: nodX A B ch x0 info nx ws' :: intO nx :: intO ws' :: L2) ++ nowO l :: L) s2 = c.hp A (B ++ g :: ⟨[i64 x0, i64 x1, i64 x2], 78, 0, true⟩ :: nodX A B ch x0 info nx ws' :: intO nx :: intO ws' :: (L2 ++ nowO l :: L)) s2 := by simp
      rw [e]
      refine call60 hb (l := l) (L := L2) (L2 := L) (by rw [hl]; exact hs) hl2 hk2.inv (by omega) (by omega) (by omega) (by omega) k0 k1 k11 (by rw [k13, hl]; simp; omega) (fun env' v1 v2 s3 sub isN' vsN' hpo he => ?_)
      refine hK2 _ _ (by rw [he 12 (by omega)]; exact k12) ?_
      refine ih _ _ s3 (nx ++ [(s2.ns.length : Int)]) ws' _ _ _ (by simp; omega) (hk2.snoc hpo) (by simpa using hws2) hw2 (hL2.app (Cl.cons rfl (hL.app (Cl.cons rfl (Cl.nil _))))) ?_ ?_ ?_ ?_ ?_ ?_ ?_ ?_
      all_goals simp [he, k0, k1, k2, k7, k8, k9, k11]
    cases ch with
    | true =>
      have hneg : x0 < 0 := by simpa using hx0.symm
      simp -implicitDefEqProofs [h0, h1, h2, h7, h8, h9, h11, h12, hlt, hneg, nodX, Mc.hp, Mc.M]
      have h59 := ok30m (A := A) (c := c) (B := B ++ g :: ⟨[i64 x0, i64 x1, i64 x2], 78, 0, true⟩ :: nodX A B true x0 info nx ws :: intO nx :: intO ws :: L) (n := 3) (s := s') hc.l hk.inv.a0 (by omega)
      refine call_goP (by simpa [Mc.hp, Mc.M, nodX] using h59) ?_
      rintro o G' ⟨v, a, rfl, hv1, hv2, hv3, rfl⟩
      have w2 : IntKind.i64.wrap (1 + v) = 1 + v := wrap_id (by omega) (by omega)
      simp -implicitDefEqProofs [h0, h1, h2, h7, h8, h9, h11, h12, hlt, hneg, nodX, Mc.hp, Mc.M, w2, intO]
      simp at hws
      refine ⟨by omega, by omega, ?_⟩
      have hk3 : KPost c s1 { s' with at' := a } (level + 1) (c.lv.length - (level + 1)) nx subs isN vsN := ⟨hk.ns, hk.is, hk.vs, hk.pend, hk.lv, hk.kds, hk.rg, hk.good, ⟨hv1, hk.inv.vl, hk.inv.vi, hk.inv.vsn, hk.inv.used, hk.inv.isr, hk.inv.nsr, hk.inv.il, hk.inv.ml⟩⟩
      refine LI.cong (H' := c.hp A (B ++ g :: ⟨[i64 x0, i64 x1, i64 x2], 78, 0, true⟩ :: nodX A B true x0 info nx (ws ++ [1 + v]) :: intO nx :: intO (ws ++ [1 + v]) :: ((L ++ [⟨[i64 (1 + v)], 3, 0, true⟩]) ++ [nowO []])) { s' with at' := a }) (by simp [Mc.hp, Mc.M, nodX, nowO, intO, show ints (ws ++ [1 + v]) = ints ws ++ [i64 (1 + v)] by simp [ints]])
        (key (ws ++ [1 + v]) _ _ _ hk3 (by simp; omega) ?_ (hL.app (Cl.cons rfl (Cl.nil _))) ?_ ?_ ?_ ?_ ?_ ?_ ?_ ?_ ?_ ?_ _ _ (fun env H hX => by simp only [if_true]; exact hX) ?_)
      · intro w hw'
        rcases List.mem_append.1 hw' with h | h
        · exact hw w h
        · simp at h; omega
      all_goals try (simp [h0, h1, h2, h7, h8, h9, h11, h12]; done)
      intro e H g12 hLI
      simp -implicitDefEqProofs [g12, w1]
      exact hLI
    | false =>
      have hneg : ¬ x0 < 0 := by simpa using hx0.symm
      simp -implicitDefEqProofs [h0, h1, h2, h7, h8, h9, h11, h12, hlt, hneg, nodX, Mc.hp, Mc.M]
      refine LI.cong (H' := c.hp A (B ++ g :: ⟨[i64 x0, i64 x1, i64 x2], 78, 0, true⟩ :: nodX A B false x0 info nx ws :: intO nx :: intO ws :: (L ++ [nowO []])) s') (by simp [Mc.hp, Mc.M, nodX, nowO]) (key ws s' L _ hk hws hw hL ?_ ?_ ?_ ?_ ?_ ?_ ?_ ?_ ?_ ?_ _ _ (fun env H hX => by simp only [if_true]; exact hX) ?_)
      all_goals try (simp [h0, h1, h2, h7, h8, h9, h11, h12]; done)
      intro e H g12 hLI
      simp -implicitDefEqProofs [g12, w1]
      exact hLI
end
end Go.Proofs.Ytbfeaikiiamhaaa.Rc

