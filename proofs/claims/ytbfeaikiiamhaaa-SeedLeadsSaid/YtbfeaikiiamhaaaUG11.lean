/-
  Steps of the proof: contracts of functions and plain facts that the statement rests on.
-/
import Derived.Test.YtbfeaikiiamhaaaUG10
set_option linter.all false
namespace Go.Proofs.Ytbfeaikiiamhaaa.Rc
open Go.Ab
theorem build_ok {c : Mc} (hc : c.Good) : ∀ (f level : Nat), level + f = c.lv.length → BuildOk c level
  | 0, level, h => build_step hc (by omega) fun h' => absurd h' (by omega)
  | f + 1, level, h => build_step hc (by omega) fun _ => build_ok hc f (level + 1) (by omega)
theorem nds_rws : ∀ l : List Nd, nds l = rws Nd.cells l
  | [] => rfl
  | x :: r => by simp only [nds, rws, nds_rws r]
theorem infs_rws : ∀ l : List (Int × Int), infs l = rws icN l
  | [] => rfl
  | x :: r => by simp only [infs, rws, infs_rws r]; rfl
theorem Wlk.pos {b h : Nat} {sub : List Nd} (hw : Wlk b h sub) : 1 ≤ sub.length := by
  rcases sub with _ | ⟨x, r⟩
  · obtain ⟨m, h1, _⟩ := hw (List.replicate b phN) [] 0 0 0 (by simp) (by simp)
    simp [walkR] at h1
  · simp
structure Made (pl0 most : Int) (g : Gm) : Prop where
  pl : g.pl = pl0
  n1 : 1 ≤ g.ns.length
  ml : (g.ns.length : Int) ≤ most
  il : g.is.length ≤ g.ns.length
  wlk : Wlk 0 10 g.ns
  good : ∀ x ∈ g.ns, x.good pl0 g.is
  rg : rg g.ns 0 = some g.is.length
  isr : ∀ q ∈ g.is, 0 ≤ q.1 ∧ q.1 < pl0 ∧ 1 ≤ q.2 ∧ q.2 ≤ 3
theorem Made.form {pl most : Int} {g : Gm} (h : Made pl most g) (p1 : 1 ≤ pl) (p4 : pl ≤ 4) (hm : most ≤ 200) : g.formE = 0 := by
  have := h.ml; have := h.il; have := h.pl; have := h.n1
  exact made_ok (by omega) (by omega) h.n1 (by omega) (by omega) h.wlk (by omega) (by rw [h.pl]; exact h.good) h.rg
def gv36 (n : Nat) (pl : Int) (s : Ms) : SV := .agg [i64 pl, .own (n + 5) 0 s.ns.length 6 s.vn, .own (n + 6) 0 s.is.length 2 s.vi]
section
variable {H : List AO}
set_option maxRecDepth 10000 in
theorem loop36U {l : List Int} {pl most : Int} {zero : Bool} {m0 : Nat} {A : List AO} {N : Nat} {K : XE → Env → List AO → Prop} (hl : l.length < 4611686018427387904) (p1 : 1 ≤ pl) (p2 : pl ≤ 1000) (hm0 : m0 ≤ 50)
    (hexit : ∀ env B lv a, lv.length ≤ m0 → (∀ q ∈ lv, -1 ≤ q.1 ∧ q.1 < pl ∧ 2 ≤ q.2.1 ∧ q.2.1 ≤ 3) → 0 ≤ a → env.get 1 = i64 pl → env.get 8 = .ptr (.own (A.length - 1) 0 0 0 0) 0 → env.get 9 = .ptr (.own (A.length + 1) 0 0 0 0) 0 →
      K (.exit 0) env ((⟨l, lv, lv.length, most, zero, pl⟩ : Mc).hp A B ⟨a, 1, 0, 0, 0, [], [], []⟩)) :
    ∀ (n : Nat) (env : Env) (B : List AO) (lv : List (Int × Int × Int)) (a : Int), lv.length + n = m0 → (∀ q ∈ lv, -1 ≤ q.1 ∧ q.1 < pl ∧ 2 ≤ q.2.1 ∧ q.2.1 ≤ 3) → 0 ≤ a → env.get 1 = i64 pl → env.get 8 = .ptr (.own (A.length - 1) 0 0 0 0) 0 → env.get 9 = .ptr (.own (A.length + 1) 0 0 0 0) 0 → env.get 10 = i64 n →
      LI Try.prog N drawB l18_0 env ((⟨l, lv, lv.length, most, zero, pl⟩ : Mc).hp A B ⟨a, 1, 0, 0, 0, [], [], []⟩) K := by
  intro n
  induction n with
  | zero =>
    intro env B lv a hn hlv ha h1 h8 h9 h10
    refine li_go hm' l18_0.eq_1 ?_
    simp -implicitDefEqProofs [h1, h8, h9, h10]
    refine hexit _ B lv a (by omega) hlv ha ?_ ?_ ?_ <;> simp [h1, h8, h9]
  | succ n ih =>
    intro env B lv a hn hlv ha h1 h8 h9 h10
    refine li_go hm' l18_0.eq_1 ?_
    have w0 : IntKind.i64.wrap (pl + 1) = pl + 1 := wrap_id (by omega) (by omega)
    have w1 : IntKind.i64.wrap (n : Int) = n := wrap_nat (by omega)
    have z0 := rws_len lcN_len lv
    simp -implicitDefEqProofs [h1, h8, h9, h10, Mc.hp, Mc.M, w0, show (0 : Int) < n + 1 by omega]
    refine call_goP (ok30m (A := A) (B := B) (c := ⟨l, lv, lv.length, most, zero, pl⟩) (n := pl + 1) (s := ⟨a, 1, 0, 0, 0, [], [], []⟩) hl ha (by omega)) ?_
    rintro o G' ⟨v, a1, rfl, ha1, hv1, hv2, rfl⟩
    have w2 : IntKind.i64.wrap (v - 1) = v - 1 := wrap_id (by omega) (by omega)
    simp -implicitDefEqProofs [h1, h8, h9, h10, Mc.hp, Mc.M, w0, w2]
    refine call_goP (ok30m (A := A) (B := B) (c := ⟨l, lv, lv.length, most, zero, pl⟩) (n := 2) (s := ⟨a1, 1, 0, 0, 0, [], [], []⟩) hl ha1 (by omega)) ?_
    rintro o G' ⟨u, a2, rfl, ha2, hu1, hu2, rfl⟩
    have w3 : IntKind.i64.wrap (2 + u) = 2 + u := wrap_id (by omega) (by omega)
    simp -implicitDefEqProofs [h1, h8, h9, h10, Mc.hp, Mc.M, w0, w2, w3]
    refine call_goP (ok30m (A := A) (B := B) (c := ⟨l, lv, lv.length, most, zero, pl⟩) (n := 16) (s := ⟨a2, 1, 0, 0, 0, [], [], []⟩) hl ha2 (by omega)) ?_
    rintro o G' ⟨t, a3, rfl, ha3, ht1, ht2, rfl⟩
    simp -implicitDefEqProofs [h1, h8, h9, h10, Mc.hp, Mc.M, Mc.L, w0, w1, w2, w3, z0]
    refine ⟨by omega, by omega, ?_⟩
    refine LI.cong (H' := (⟨l, lv ++ [(v - 1, 2 + u, t)], (lv ++ [(v - 1, 2 + u, t)]).length, most, zero, pl⟩ : Mc).hp A (B ++ [⟨[i64 (v - 1), i64 (2 + u), i64 t], 78, 0, true⟩]) ⟨a3, 1, 0, 0, 0, [], [], []⟩) (by simp [Mc.hp, Mc.D, Mc.L, Mc.M, Mc.V, Mc.N, Mc.I, rws_app, rws, lcN]) ?_
    refine ih _ _ _ _ (by simp; omega) ?_ ha3 ?_ ?_ ?_ ?_
    · intro q hq
      rcases List.mem_append.1 hq with h | h
      · exact hlv q h
      · simp at h; subst h; simp only; omega
    all_goals simp [h1, h8, h9, w1]
set_option maxRecDepth 10000 in
theorem gen36 {l : List Int} {pl most : Int} {zero : Bool} {Pt : Out → List AO → Prop} (hl : l.length < 4611686018427387904) (p1 : 1 ≤ pl) (p2 : pl ≤ 1000) (m1 : 1 ≤ most) (m2 : most ≤ 2000)
    (hfin : closed H → ∀ (c : Mc) (s : Ms) (B : List AO) (o : AO), Made pl most ⟨pl, s.ns, s.is⟩ → FinQ H.length Pt (gv36 H.length pl s) (c.hp (H ++ [o]) B s)) :
    OkP Try.prog 18 [.slc (ints l) l.length, i64 pl, i64 most, bl zero] H Pt := by
  refine okP_fn hm' Try.func18 c18 (by simp) fun hcl => ?_
  simp -implicitDefEqProofs [i18, r18]
  have h59 := ok30U (G := H ++ [⟨[i64 0, .val (.slice none 0 0), .val (.slice none 0 0)], 25, 0, true⟩, ⟨[.slc (ints l) l.length, i64 0], 54, 0, true⟩, ⟨[.ptr (.own (H.length + 1) 0 0 0 0) 0, .val (.slice none 0 0), .val (.slice none 0 0), i64 most, i64 1, bl zero, bl false, i64 pl, .val (.slice none 0 0), .val (.slice none 0 0)], 76, 0, true⟩]) (l := l) (at' := 0) (n := 5) (jd := H.length + 1) (by simp [get_app]) hl (by omega) (by omega)
  refine ⟨rfl, ?_⟩
  refine call_goP h59 ?_
  rintro o G' ⟨v, a, rfl, ha, hv1, hv2, rfl⟩
  have w1 : IntKind.i64.wrap (1 + v) = 1 + v := wrap_id (by omega) (by omega)
  simp -implicitDefEqProofs [w1]
  obtain ⟨m0, hm0⟩ : ∃ m : Nat, 1 + v = m := ⟨(1 + v).toNat, by omega⟩
  rw [hm0]
  have z1 : H.length + 1 - 1 = H.length := by omega
  refine LI.tell (Tell.own0 (j := H.length + 2) (p := 1) (o := ⟨[.ptr (.own (H.length + 1) 0 0 0 0) 0, .val (.slice none 0 0), .val (.slice none 0 0), i64 most, i64 1, bl zero, bl false, i64 pl, .val (.slice none 0 0), .val (.slice none 0 0)], 76, 0, true⟩) ?_ rfl rfl 78 3)
    (LI.tell (Tell.own0 (j := H.length + 2) (p := 2) (o := ⟨[.ptr (.own (H.length + 1) 0 0 0 0) 0, .own (H.length + 3) 0 0 3 0, .val (.slice none 0 0), i64 most, i64 1, bl zero, bl false, i64 pl, .val (.slice none 0 0), .val (.slice none 0 0)], 76, 0, true⟩) ?_ rfl rfl 107 4)
    (LI.tell (Tell.own0 (j := H.length + 2) (p := 8) (o := ⟨[.ptr (.own (H.length + 1) 0 0 0 0) 0, .own (H.length + 3) 0 0 3 0, .own (H.length + 4) 0 0 4 0, i64 most, i64 1, bl zero, bl false, i64 pl, .val (.slice none 0 0), .val (.slice none 0 0)], 76, 0, true⟩) ?_ rfl rfl 39 6)
    (LI.tell (Tell.own0 (j := H.length + 2) (p := 9) (o := ⟨[.ptr (.own (H.length + 1) 0 0 0 0) 0, .own (H.length + 3) 0 0 3 0, .own (H.length + 4) 0 0 4 0, i64 most, i64 1, bl zero, bl false, i64 pl, .own (H.length + 5) 0 0 6 0, .val (.slice none 0 0)], 76, 0, true⟩) ?_ rfl rfl 70 2)
    (LI.cong (H' := (⟨l, [], 0, most, zero, pl⟩ : Mc).hp (H ++ [⟨[i64 0, .val (.slice none 0 0), .val (.slice none 0 0)], 25, 0, true⟩]) [] ⟨a, 1, 0, 0, 0, [], [], []⟩) ?_
      (loop36U (A := H ++ [⟨[i64 0, .val (.slice none 0 0), .val (.slice none 0 0)], 25, 0, true⟩]) (m0 := m0) hl p1 p2 (by omega) (fun env B lv a hlv hq ha k1 k8 k9 => ?_) m0 _ [] [] a (by simp) (by simp) ha ?_ ?_ ?_ ?_)))))
  · simp only [get_app, set_app, List.set_cons_succ, List.set_cons_zero]; rfl
  · simp only [get_app, set_app, List.set_cons_succ, List.set_cons_zero]; simp [get_app]
  · simp [get_app, set_app]
  · simp [get_app, set_app]
  · simp [Mc.hp, Mc.D, Mc.L, Mc.M, Mc.V, Mc.N, Mc.I, rws, set_app]
  · simp at k8 k9
    have hc : (⟨l, lv, lv.length, most, zero, pl⟩ : Mc).Good := ⟨hl, p1, p2, m2, by simp only; omega, hq⟩
    have hi : MInv ⟨l, lv, lv.length, most, zero, pl⟩ ⟨a, 1, 0, 0, 0, [], [], []⟩ 0 := ⟨ha, rfl, fun j h => by simp at h, by simp, fun j h => by simp at h, by simp, by simp, by simp, by simp only [List.length_nil]; omega⟩
    obtain ⟨np, hnp⟩ : ∃ np : Nat, pl = np := ⟨pl.toNat, by omega⟩
    have hb := build_ok hc lv.length 0 (by simp) (H ++ [⟨[i64 0, .val (.slice none 0 0), .val (.slice none 0 0)], 25, 0, true⟩]) (B ++ [⟨[], 35, 1, false⟩]) ⟨a, 1, 0, 0, 0, [], [], []⟩ (List.replicate np []) hi (by simp) (by simp [hnp]) (by intro x hx; simp [List.mem_replicate] at hx; simp [hx.2])
    simp -implicitDefEqProofs [k1, k8, k9, Mc.hp, Mc.M]
    refine ⟨by omega, by omega, by omega, ?_⟩
    refine call_goP (OkP.give (H.length + (B.length + 7)) 1 (o := ⟨List.replicate np nl, 35, 0, true⟩) ?_ rfl (OkP.le ?_ (OkP.cast rfl ?_ hb))) ?_
    · rw [get_app]
      simp [get_app0, get_app, hnp]
    · simp [hnp, seenV, Nat.add_assoc]
      refine leL.cons (SV.le.refl _) (leL.cons (SV.le.refl _) (leL.cons (le_slc ⟨by simp, fun j x y h1 h2 => ?_⟩ _) leL.nil))
      simp [List.getElem?_replicate] at h1 h2
      obtain ⟨_, rfl⟩ := h1
      obtain ⟨_, rfl⟩ := h2
      exact le_nil
    · simp [Mc.hp, Mc.M, set_app, set_app0, AO.dead, hnp]
    rintro o G' ⟨rfl, s', sub, isN, vsN, hp, rfl⟩
    simp -implicitDefEqProofs [k1, k8, k9, Mc.hp, Mc.M]
    have e1 : s'.ns = sub := hp.ns
    have hml := hp.inv.ml
    have hpe := hp.pend
    simp only at hml hpe
    have := hfin hcl ⟨l, lv, lv.length, most, zero, pl⟩ s' (B ++ [⟨[], 35, 1, false⟩]) ⟨[i64 pl, .own (H.length + 1 + 4) 0 s'.ns.length 6 s'.vn, .own (H.length + 1 + 5) 0 s'.is.length 2 s'.vi], 25, 0, true⟩
      ⟨rfl, by show 1 ≤ s'.ns.length; rw [e1]; exact hp.wlk.pos, by show (s'.ns.length : Int) ≤ most; omega, hp.inv.il, by show Wlk 0 10 s'.ns; rw [e1]; exact hp.wlk.mono (by simp only; omega), by show ∀ x ∈ s'.ns, x.good pl s'.is; rw [e1]; exact hp.good, by show rg s'.ns 0 = some s'.is.length; rw [e1]; exact hp.rg, hp.inv.isr⟩
    simpa [gv36, Mc.hp, Mc.M] using this
  all_goals simp
theorem slN_le (l : List Int) : SV.le (slN l) (sl l) := by
  unfold slN
  split
  · rename_i h; subst h; exact le_nil
  · exact SV.le.refl _
theorem cN_le (x : Nd) : leL x.cN x.cells := leL.cons (SV.le.refl _) (leL.cons (SV.le.refl _) (leL.cons (SV.le.refl _) (leL.cons (slN_le _) (leL.cons (slN_le _) (leL.cons (slN_le _) leL.nil)))))
theorem gN_le (g : Gm) : SV.le (.agg [i64 g.pl, .slc (rws Nd.cN g.ns) g.ns.length, .slc (rws icN g.is) g.is.length]) (.agg g.cells) := by
  unfold Gm.cells
  rw [nds_rws, infs_rws]
  exact le_agg (leL.cons (SV.le.refl _) (leL.cons (le_slc (leL.rws cN_le _) _) (leL.cons (SV.le.refl _) leL.nil)))
theorem icN_under (n : Nat) (x : Int × Int) : SV.underL n (icN x) = true := by simp [icN, SV.underL, SV.under]
/-- A GAME MADE OF NUMBERS. -/
theorem ok18 {l : List Int} {pl most : Int} {zero : Bool} (hl : l.length < 4611686018427387904) (p1 : 1 ≤ pl) (p2 : pl ≤ 1000) (m1 : 1 ≤ most) (m2 : most ≤ 2000) :
    OkP Try.prog 18 [.slc (ints l) l.length, i64 pl, i64 most, bl zero] H fun o H' => ∃ g, Made pl most g ∧ o = .ret (.agg g.cells) ∧ H' = H := by
  refine gen36 hl p1 p2 m1 m2 fun hcl c s B o hm => ⟨_, H, ⟨_, hm, rfl, rfl⟩, ?_⟩
  refine Cv.le ?_ (gN_le ⟨pl, s.ns, s.is⟩)
  have z1 := rws_len Nd.lenN s.ns
  have z2 := rws_len icN_len s.is
  have e : c.hp (H ++ [o]) B s = H ++ (o :: c.D s :: c.M (H ++ [o]).length s :: c.L :: Mc.V s :: Mc.N s :: Mc.I s :: B) := by simp [Mc.hp]
  rw [e]
  refine cv_fz 4 hcl rfl ?_
  simp [gv36, Mc.N, Mc.I, placeOf, z1, z2, List.take_of_length_le, map_fz_under, rws_under (cN_under _), rws_under (icN_under _)]
end
end Go.Proofs.Ytbfeaikiiamhaaa.Rc

