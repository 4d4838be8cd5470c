/-
  Steps of the proof: contracts of functions and plain facts that the statement rests on.
-/
import Derived.Test.YtbfeaikiiamhaaaPart1
import Derived.Test.YtbfeaikiiamhaaaCore5
import Derived.Test.YtbfeaikiiamhaaaCore4
set_option linter.all false
/- H26 -/
namespace Go.Proofs.Ytbfeaikiiamhaaa.Rc
open Go.Ab
section
variable {ns : List Nd}
theorem walk_par : ∀ (f : Nat) (dep : Int) (k : Nat) (mx : Int) (r : Nat), (walkR ns f dep k mx).1 = some r → ∀ t : Nat, k < t → t < r → ∃ (k' : Nat) (x : Nd), k ≤ k' ∧ k' < t ∧ ns[k']? = some x ∧ (t : Int) ∈ x.nx
  | 0, dep, k, mx, r, h => by simp [walkR] at h
  | f + 1, dep, k, mx, r, h => by
    have hkr := walkR_ok (f + 1) dep k mx r h
    unfold walkR at h
    cases hx : ns[k]? with
    | none => rw [hx] at h; simp at h
    | some x =>
      rw [hx] at h
      simp only at h
      have hww := fun r m r' => walkR_ok (ns := ns) f (dep + 1) r m r'
      have key : ∀ (cs : List Int) (r0 : Nat) (m : Int), r0 ≤ ns.length → k < r0 → (∀ c ∈ cs, c ∈ x.nx) → (kidsR (walkR ns f (dep + 1)) cs r0 m).1 = some r → ∀ t : Nat, r0 ≤ t → t < r → ∃ (k' : Nat) (x : Nd), k ≤ k' ∧ k' < t ∧ ns[k']? = some x ∧ (t : Int) ∈ x.nx := by
        intro cs
        induction cs with
        | nil => intro r0 m _ _ _ h t h1 h2; simp only [kidsR, Option.some.injEq] at h; omega
        | cons c cs ih =>
          intro r0 m hn hk hsub h t h1 h2
          unfold kidsR at h
          by_cases hd : c = r0
          · rw [if_pos hd] at h
            cases hh : walkR ns f (dep + 1) r0 m with
            | mk o m1 =>
              rw [hh] at h
              cases o with
              | none => simp at h
              | some r1 =>
                simp only at h
                have h3 := hww r0 m r1 (by rw [hh])
                by_cases ht : t < r1
                · by_cases ht0 : t = r0
                  · subst ht0
                    exact ⟨k, x, Nat.le_refl _, by omega, hx, by rw [← hd]; exact hsub c (by simp)⟩
                  · obtain ⟨k', y, g1, g2, g3, g4⟩ := walk_par f (dep + 1) r0 m r1 (by rw [hh]) t (by omega) ht
                    exact ⟨k', y, by omega, g2, g3, g4⟩
                · exact ih r1 m1 h3.2 (by omega) (fun c hc => hsub c (by simp [hc])) h t (by omega) h2
          · rw [if_neg hd] at h; simp at h
      intro t h1 h2
      exact key x.nx (k + 1) _ (by omega) (by omega) (fun c hc => hc) h t (by omega) h2
/-- The products that stand there before node i is looked at. -/
structure PI (ns : List Nd) (i : Nat) (s : List Nat × Nat) : Prop where
  len : s.1.length = ns.length
  le : ∀ t, s.1.getD t 0 ≤ 1000000000000000
  one : ∀ t, t < ns.length → (t = 0 ∨ ∃ (k : Nat) (x : Nd), k < i ∧ ns[k]? = some x ∧ (t : Int) ∈ x.nx) → 1 ≤ s.1.getD t 0
  m1 : 1 ≤ s.2
  m2 : s.2 ≤ 1000000000000000
theorem PI.set {i : Nat} {s : List Nat × Nat} (h : PI ns i s) {x : Nd} (hx : ns[i]? = some x) (hf : Fwd ns) {b m : Nat} (b1 : 1 ≤ b) (b2 : b ≤ 1000000000000000) (m1 : 1 ≤ m) (m2 : m ≤ 1000000000000000) : PI ns (i + 1) (setC s.1 x.nx b, m) := by
  have hfx := hf i x hx
  refine ⟨by simp [setC_len, h.len], fun t => ?_, fun t ht hp => ?_, m1, m2⟩
  · by_cases hc : ∃ c ∈ x.nx, c.toNat = t
    · by_cases htl : t < s.1.length
      · show (setC s.1 x.nx b).getD t 0 ≤ _
        rw [setC_in _ _ _ _ htl hc]; exact b2
      · show (setC s.1 x.nx b).getD t 0 ≤ _
        rw [List.getD_eq_getElem?_getD, List.getElem?_eq_none (by rw [setC_len]; omega)]; simp
    · show (setC s.1 x.nx b).getD t 0 ≤ _
      rw [setC_out _ _ _ _ fun c hc2 e => hc ⟨c, hc2, e⟩]; exact h.le t
  · show 1 ≤ (setC s.1 x.nx b).getD t 0
    by_cases hc : ∃ c ∈ x.nx, c.toNat = t
    · rw [setC_in _ _ _ _ (by rw [h.len]; exact ht) hc]; exact b1
    · rw [setC_out _ _ _ _ fun c hc2 e => hc ⟨c, hc2, e⟩]
      refine h.one t ht ?_
      rcases hp with hp | ⟨k, y, hk, hy, hty⟩
      · exact .inl hp
      · by_cases hki : k = i
        · subst hki
          rw [hx] at hy; cases hy
          exact absurd ⟨(t : Int), hty, by simp⟩ hc
        · exact .inr ⟨k, y, by omega, hy, hty⟩
end
theorem setC_snoc : ∀ (l : List Int) (pr : List Nat) (c : Int) (b : Nat), setC pr (l ++ [c]) b = (setC pr l b).set c.toNat b
  | [], pr, c, b => rfl
  | x :: l, pr, c, b => by simp only [List.cons_append, setC]; rw [setC_snoc l]
def prI (l : List Nat) : List Int := l.map fun n : Nat => (n : Int)
theorem prI_len (l : List Nat) : (prI l).length = l.length := by simp [prI]
theorem prI_at {l : List Nat} {k : Nat} (h : k < l.length) (h' : k < (prI l).length) : (prI l)[k] = (l.getD k 0 : Nat) := by simp [prI, h]
theorem prI_set (l : List Nat) (k b : Nat) : (prI l).set k (b : Int) = prI (l.set k b) := by simp [prI, List.map_set]
section
variable {H : List AO} {g : Gm}
def pob (pr : List Nat) : AO := ⟨ints (prI pr), 3, 0, true⟩
theorem loop14_1 {B : AO} {M : List AO} {q b : Nat} {x : Nd} (hx : x.nx.length ≤ 60) (hq : ∀ P : AO, objCells (H ++ B :: P :: M) q 0 = x.cells) {pr : List Nat} (hc : ∀ c ∈ x.nx, 0 ≤ c ∧ c < pr.length)
    {e1 e6 e7 : SV} {N : Nat} {K : XE → Env → List AO → Prop}
    (hexit : ∀ env, env.get 1 = e1 → env.get 5 = .own (H.length + 1) 0 pr.length 1 0 → env.get 6 = e6 → env.get 7 = e7 → env.get 8 = .ptr (.own q 0 0 0 0) 0 → env.get 9 = i64 b → K (.exit 2) env (H ++ B :: pob (setC pr x.nx b) :: M)) :
    ∀ (n j : Nat) (env : Env), j + n = x.nx.length → env.get 1 = e1 → env.get 5 = .own (H.length + 1) 0 pr.length 1 0 → env.get 6 = e6 → env.get 7 = e7 → env.get 8 = .ptr (.own q 0 0 0 0) 0 → env.get 9 = i64 b → env.get 11 = i64 j →
      LI Try.prog N drawB l14_1 env (H ++ B :: pob (setC pr (x.nx.take j) b) :: M) K := by
  intro n
  induction n with
  | zero =>
    intro j env hj h1 h5 h6 h7 h8 h9 h11
    refine li_go hm l14_1.eq_1 ?_
    have e : j = x.nx.length := by omega
    subst e
    rw [List.take_length]
    simp -implicitDefEqProofs [h1, h5, h6, h7, h8, h9, h11, hq, Nd.cells, sl]
    refine hexit _ ?_ ?_ ?_ ?_ ?_ ?_ <;> simp [h1, h5, h6, h7, h8, h9]
  | succ n ih =>
    intro j env hj h1 h5 h6 h7 h8 h9 h11
    refine li_go hm l14_1.eq_1 ?_
    have hlt : j < x.nx.length := by omega
    obtain ⟨c, hcc⟩ : ∃ c : Nat, x.nx[j] = c := ⟨x.nx[j].toNat, by have := hc _ (List.getElem_mem hlt); omega⟩
    have hcl := (hc _ (List.getElem_mem hlt)).2
    rw [hcc] at hcl
    have hcl' : c < pr.length := by omega
    have hstep := ih (j + 1)
    rw [List.take_succ_eq_append_getElem hlt, setC_snoc, hcc] at hstep
    have hl := setC_len (x.nx.take j) pr b
    generalize setC pr (x.nx.take j) b = p1 at hl hstep ⊢
    have hset : (ints (prI p1)).take c ++ i64 b :: (ints (prI p1)).drop (c + 1) = ints (prI (p1.set (c : Int).toNat b)) := by
      rw [ints_set (by rw [prI_len]; omega), prI_set]; rfl
    have w1 : IntKind.i64.wrap ((j : Int) + 1) = ((j + 1 : Nat) : Int) := wrap_succ (by omega)
    simp -implicitDefEqProofs [h1, h5, h6, h7, h8, h9, h11, hq, Nd.cells, sl, hlt, hcc, hcl', pob, prI_len, hl, hset, w1]
    repeat (refine ⟨by omega, ?_⟩)
    refine hstep _ (by omega) ?_ ?_ ?_ ?_ ?_ ?_ ?_ <;> simp [h1, h5, h6, h7, h8, h9]
end
end Go.Proofs.Ytbfeaikiiamhaaa.Rc

/- H27 -/
namespace Go.Proofs.Ytbfeaikiiamhaaa.Rc
open Go.Ab
def sizV (g : Gm) : SV := if g.formR ≠ 0 then .tup [i64 0, i64 g.formR] else match g.siz with | none => .tup [i64 0, i64 5] | some m => .tup [i64 m, i64 0]
section
variable {H : List AO} {g : Gm}
theorem ok13 : Ok Try.prog 13 [.agg g.cells] H (.ret (sizV g)) H := by
  refine ok_fn hm Try.func13 c13 (by simp) fun hcl => ?_
  have hh := fun H => ok33 (H := H) (g := g)
  rw [form_eq] at hh
  simp only [Gm.cells] at hh
  simp -implicitDefEqProofs [i13, r13, Gm.cells]
  refine call_go (hh _) ?_
  unfold sizV
  by_cases hf : g.formR = 0
  · obtain ⟨hg, hw⟩ := form0 hf
    have hn1 := hg.n1
    simp -implicitDefEqProofs [hf]
    have h34 := ok34 (j := H.length + 1) hg (fwd0 hf) (g.ns.length + 1) 0 1 1 (H ++ [gbox g, scn g 1 false]) (by omega) (by omega) (by omega) (by omega) (by omega) (by omega) (by simp)
    refine call_goP (OkP.cast (by simp) (by simp [gbox, scn]) h34) ?_
    rintro o H' ⟨rfl, hv⟩
    have hs : vis g.ns (g.ns.length + 1) 0 1 1 = g.siz := rfl
    rw [hs] at hv
    cases hsz : g.siz with
    | none =>
      rw [hsz] at hv
      obtain ⟨m, rfl⟩ := hv
      simp -implicitDefEqProofs [scn]
      exact cv_fz 2 hcl rfl (by simp [hf])
    | some m =>
      rw [hsz] at hv
      have hv : H' = _ := hv
      subst hv
      simp -implicitDefEqProofs [scn]
      exact cv_fz 2 hcl rfl (by simp [hf])
  · simp -implicitDefEqProofs [hf]
    exact cv_fz 2 hcl rfl (by simp)
theorem loop14_0 (hg : Gd g) (hf : Fwd g.ns) (hpar : ∀ t : Nat, 0 < t → t < g.ns.length → ∃ (k : Nat) (x : Nd), k < t ∧ g.ns[k]? = some x ∧ (t : Int) ∈ x.nx) {r : Option Nat} {N : Nat} {K : XE → Env → List AO → Prop}
    (hret : r = none → ∀ env P M, env.get 2 = i64 0 → env.get 3 = i64 5 → K .ret env (H ++ gbox g :: P :: M)) (hexit : ∀ m, r = some m → ∀ env P M, env.get 6 = i64 m → K (.exit 0) env (H ++ gbox g :: P :: M)) :
    ∀ (n i : Nat) (s : List Nat × Nat) (env : Env) (M : List AO), i + n = g.ns.length → PI g.ns i s → (run g.ns n i s).map (·.2) = r → env.get 1 = .ptr (.own H.length 0 0 0 0) 0 → env.get 5 = .own (H.length + 1) 0 g.ns.length 1 0 → env.get 6 = i64 s.2 → env.get 7 = i64 i →
      LI Try.prog N drawB l14_0 env (H ++ gbox g :: pob s.1 :: M) K := by
  have hgn := hg.n
  intro n
  induction n with
  | zero =>
    intro i s env M hi hP hr h1 h5 h6 h7
    refine li_go hm l14_0.eq_1 ?_
    have e : i = g.ns.length := by omega
    subst e
    simp -implicitDefEqProofs [h1, h5, h6, h7, gbox]
    exact hexit s.2 (by rw [← hr]; rfl) _ _ _ (by simp [h6])
  | succ n ih =>
    intro i s env M hi hP hr h1 h5 h6 h7
    refine li_go hm l14_0.eq_1 ?_
    have hlt : i < g.ns.length := by omega
    have hmem := List.getElem_mem hlt
    have hgi : g.ns[i]? = some g.ns[i] := List.getElem?_eq_getElem hlt
    have hfew := hg.few hmem
    have hsum := fun h => hg.sum hmem h
    have hend := fun h => hg.en hmem h
    have hfx := hf i _ hgi
    have hb1 : 1 ≤ s.1.getD i 0 := hP.one i hlt (by
      by_cases h0 : i = 0
      · exact .inl h0
      · obtain ⟨k, x, g1, g2, g3⟩ := hpar i (by omega) hlt
        exact .inr ⟨k, x, g1, g2, g3⟩)
    have hb2 := hP.le i
    have hpl := hP.len
    have hset := fun (b m : Nat) (b1 : 1 ≤ b) (b2 : b ≤ 1000000000000000) (m1 : 1 ≤ m) (m2 : m ≤ 1000000000000000) => hP.set hgi hf b1 b2 m1 m2
    have w1 : IntKind.i64.wrap ((i : Int) + 1) = ((i + 1 : Nat) : Int) := wrap_succ (by omega)
    have hat : i < s.1.length := by omega
    have hpa := prI_at hat (by rw [prI_len]; omega)
    simp only [run, stp, hgi] at hr
    have hPm1 := hP.m1
    have hPm2 := hP.m2
    obtain ⟨m0, hm0⟩ : ∃ m0, s.2 = m0 := ⟨_, rfl⟩
    obtain ⟨b0, hbb⟩ : ∃ b0, s.1.getD i 0 = b0 := ⟨_, rfl⟩
    rw [hbb] at hr hb1 hb2 hpa
    rw [hm0] at hr hPm1 hPm2 h6
    have n1 := nds_at hlt
    have n2 := nds_min hlt
    have n3 := nds_ge hlt
    obtain ⟨nd, hnd⟩ : ∃ nd : AO, nd = ⟨g.ns[i].cells, 39, 0, true⟩ := ⟨_, rfl⟩
    have hq : ∀ (P : AO), objCells (H ++ gbox g :: P :: (M ++ [nd])) (H.length + (M.length + 2)) 0 = g.ns[i].cells := fun P => by simp [hnd]
    have w14 := fun (b : Nat) (K : XE → Env → List AO → Prop) => loop14_1 (H := H) (B := gbox g) (M := M ++ [nd]) (q := H.length + (M.length + 2)) (b := b) (x := g.ns[i]) hfew.1 hq (pr := s.1) (fun c hc => by have := hfx c hc; rw [hpl]; omega) (e1 := .ptr (.own H.length 0 0 0 0) 0) (e6 := i64 m0) (e7 := i64 i) (N := N) (K := K)
    simp -implicitDefEqProofs [h1, h5, h6, h7, gbox, hlt, nds_at hlt, nds_min hlt, nds_ge hlt, Nd.cells, sl, pob, prI_len, hpl, hpa]
    refine ⟨by omega, ?_⟩
    simp only [gbox, Nd.cells, sl, pob, hpl] at w14 hnd
    generalize g.ns[i] = x at *
    by_cases hk1 : x.k = 1
    · have hsu := hsum hk1
      obtain ⟨u, hu⟩ : ∃ u : Nat, x.ws.sum = u := ⟨x.ws.sum.toNat, by omega⟩
      rw [if_pos hk1]
      refine call_go (ok36 (IsI.slc _ x.ws) hfew.2.2 (by omega)) ?_
      rw [hu] at hsu ⊢
      have t2 : (1000000000000000 : Int).tdiv u = ((1000000000000000 / u : Nat) : Int) := by rw [Int.tdiv_eq_ediv_of_nonneg (by omega)]; rfl
      have b2 : 1000000000000000 / u ≤ 1000000000000000 := Nat.div_le_self _ _
      have w2 : IntKind.i64.wrap ((1000000000000000 / u : Nat) : Int) = ((1000000000000000 / u : Nat) : Int) := wrap_nat (by omega)
      have hle : 1000000000000000 / u < b0 ↔ 1000000000000000 < b0 * u := Nat.div_lt_iff_lt_mul (by omega)
      rw [if_pos hk1, hu, show (u : Int).toNat = u from rfl] at hr
      generalize hq : 1000000000000000 / u = q at *
      simp -implicitDefEqProofs [t2, w2, hlt, prI_len, hpl, hpa, n1, n2, n3, Nd.cells, sl]
      refine ⟨by omega, ?_⟩
      by_cases hqb : q < b0
      · rw [if_pos hqb] at hr ⊢
        exact hret hr.symm _ _ _ (by simp) (by simp)
      · rw [if_neg hqb] at hr ⊢
        have hbu : b0 * u ≤ 1000000000000000 := by have := fun h => hqb (hle.2 h); omega
        have hbu1 : 1 * 1 ≤ b0 * u := Nat.mul_le_mul hb1 (by omega)
        have w3 : IntKind.i64.wrap ((b0 : Int) * u) = ((b0 * u : Nat) : Int) := by rw [← Int.natCast_mul]; exact wrap_nat (by omega)
        rw [w3]
        have hP' := hset (b0 * u) m0 (by omega) hbu hPm1 hPm2
        refine LI.cong (by rw [hnd]; rfl) (w14 (b0 * u) _ (fun env k1 k5 k6 k7 k8 k9 => ?_) x.nx.length 0 _ (by omega) ?_ ?_ ?_ ?_ ?_ ?_ ?_)
        · simp -implicitDefEqProofs [k1, k5, k6, k7, k8, k9, hnd, Nd.cells, sl, hk1, w1]
          refine LI.cong (by simp [hnd, Nd.cells, sl, gbox, pob, hk1]) (ih (i + 1) (setC s.1 x.nx (b0 * u), m0) _ (M ++ [nd]) (by omega) hP' hr ?_ ?_ ?_ ?_) <;> simp [k1, k5, k6]
        all_goals simp
    · rw [if_neg hk1] at hr ⊢
      have hP' := fun m => hset b0 m hb1 hb2
      refine LI.cong (by rw [hnd]; rfl) (w14 b0 _ (fun env k1 k5 k6 k7 k8 k9 => ?_) x.nx.length 0 _ (by omega) ?_ ?_ ?_ ?_ ?_ ?_ ?_)
      · by_cases hk3 : x.k = 3
        · rw [if_pos hk3] at hr
          have h37 := ok37 (H := H ++ gbox g :: pob (setC s.1 x.nx b0) :: (M ++ [nd])) hPm1 hPm2 hb1 hb2
          have hlr := fun m h => lcmO_rng (m := m0) (p := b0) (n := m) hPm1 hb1 h
          simp -implicitDefEqProofs [k1, k5, k6, k7, k8, k9, hnd, Nd.cells, sl, hk3, w1]
          refine call_go (by simpa [hnd, Nd.cells, sl, gbox, pob, hk3] using h37) ?_
          cases hl : lcmO m0 b0 with
          | none =>
            rw [hl] at hr
            simp -implicitDefEqProofs
            exact hret hr.symm _ _ _ (by simp) (by simp)
          | some m1 =>
            rw [hl] at hr
            have := hlr m1 hl
            simp -implicitDefEqProofs [k1, k5, k6, k7, w1]
            refine LI.cong (by simp [hnd, Nd.cells, sl, gbox, pob, hk3]) (ih (i + 1) (setC s.1 x.nx b0, m1) _ (M ++ [nd]) (by omega) (hP' m1 this.1 this.2) hr ?_ ?_ ?_ ?_) <;> simp [k1, k5]
        · rw [if_neg hk3] at hr
          simp -implicitDefEqProofs [k1, k5, k6, k7, k8, k9, hnd, Nd.cells, sl, hk3, w1]
          refine LI.cong (by simp [hnd, Nd.cells, sl, gbox, pob]) (ih (i + 1) (setC s.1 x.nx b0, m0) _ (M ++ [nd]) (by omega) (hP' m0 hPm1 hPm2) hr ?_ ?_ ?_ ?_) <;> simp [k1, k5, k6]
      all_goals simp
end
end Go.Proofs.Ytbfeaikiiamhaaa.Rc

/- H28 -/
namespace Go.Proofs.Ytbfeaikiiamhaaa.Rc
open Go.Ab
section
variable {H : List AO} {g : Gm}
theorem par0 (h : g.formR = 0) : ∀ t : Nat, 0 < t → t < g.ns.length → ∃ (k : Nat) (x : Nd), k < t ∧ g.ns[k]? = some x ∧ (t : Int) ∈ x.nx := by
  have hw := (form0 h).2
  unfold Gm.wr at hw
  intro t h1 h2
  obtain ⟨k, x, _, a, b, c⟩ := walk_par _ _ _ _ _ hw t h1 h2
  exact ⟨k, x, a, b, c⟩
theorem PI0 (h : g.formR = 0) : PI g.ns 0 ((List.replicate g.ns.length 0).set 0 1, 1) := by
  have hn := (form0 h).1.n1
  refine ⟨by simp, fun t => ?_, fun t ht hp => ?_, by simp, by simp⟩
  · simp only [List.getD_eq_getElem?_getD, List.getElem?_set]
    split
    · split <;> simp
    · rw [List.getElem?_replicate]; split <;> simp
  · rcases hp with rfl | ⟨k, _, hk, _⟩
    · simp only [List.getD_eq_getElem?_getD]
      rw [List.getElem?_set_self (by simpa using ht)]; simp
    · omega
theorem pob0 (n : Nat) : (ints (prI ((List.replicate n 0).set 0 1))) = (List.replicate n (i64 0)).set 0 (i64 1) := by
  cases n with
  | zero => rfl
  | succ n => simp [prI, ints, List.replicate_succ]
theorem ok14 : Ok Try.prog 14 [.agg g.cells] H (.ret (sizV g)) H := by
  refine ok_fn hm Try.func14 c14 (by simp) fun hcl => ?_
  have hh := fun H => ok35 (H := H) (g := g)
  simp only [Gm.cells] at hh
  simp -implicitDefEqProofs [i14, r14, Gm.cells]
  refine call_go (hh _) ?_
  unfold sizV
  by_cases hf : g.formR = 0
  · obtain ⟨hg, hw⟩ := form0 hf
    have hn1 := hg.n1
    have hn := hg.n
    simp -implicitDefEqProofs [hf]
    repeat (refine ⟨by omega, ?_⟩)
    refine LI.cong (H' := H ++ gbox g :: pob ((List.replicate g.ns.length 0).set 0 1) :: []) ?_ (loop14_0 hg (fwd0 hf) (par0 hf) (r := g.siz) (fun hr env P M k2 k3 => ?_) (fun m hr env P M k6 => ?_) g.ns.length 0 ((List.replicate g.ns.length 0).set 0 1, 1) _ [] (by omega) (PI0 hf) (siz_run hf) ?_ ?_ ?_ ?_)
    · simp [gbox, pob, pob0]
      cases hl : g.ns.length with
      | zero => omega
      | succ n => simp [List.replicate_succ]
    · rw [hr]
      simp -implicitDefEqProofs [k2, k3]
      exact cv_fz 2 hcl rfl (by simp [hf])
    · rw [hr]
      simp -implicitDefEqProofs [k6]
      exact cv_fz 2 hcl rfl (by simp [hf])
    all_goals simp
  · simp -implicitDefEqProofs [hf]
    exact cv_fz 2 hcl rfl (by simp)
end
/-- The values of a node's children, out of its own. -/
def Nd.vals (x : Nd) (b : Nat) : List Nat := if x.k = 1 then x.ws.map fun w => b / x.ws.sum.toNat * w.toNat else List.replicate x.nx.length b
def setV (cs : List Nat) : List Int → List Nat → List Nat
  | c :: l, v :: vs => setV (cs.set c.toNat v) l vs
  | _, _ => cs
def cst (ns : List Nd) (i : Nat) (cs : List Nat) : List Nat :=
  match ns[i]? with
  | none => cs
  | some x => setV cs x.nx (x.vals (cs.getD i 0))
def crun (ns : List Nd) : Nat → Nat → List Nat → List Nat
  | 0, _, cs => cs
  | n + 1, i, cs => crun ns n (i + 1) (cst ns i cs)
theorem setV_len : ∀ (l : List Int) (vs cs : List Nat), (setV cs l vs).length = cs.length
  | [], vs, cs => by simp [setV]
  | c :: l, [], cs => by simp [setV]
  | c :: l, v :: vs, cs => by rw [setV, setV_len l]; simp
theorem setV_out : ∀ (l : List Int) (vs cs : List Nat) (t : Nat), (∀ c ∈ l, c.toNat ≠ t) → (setV cs l vs).getD t 0 = cs.getD t 0
  | [], vs, cs, t, h => by simp [setV]
  | c :: l, [], cs, t, h => by simp [setV]
  | c :: l, v :: vs, cs, t, h => by
    rw [setV, setV_out l vs _ t fun x hx => h x (by simp [hx])]
    simp only [List.getD_eq_getElem?_getD]
    rw [List.getElem?_set_ne (h c (by simp))]
theorem setV_le {B : Nat} : ∀ (l : List Int) (vs cs : List Nat), (∀ v ∈ vs, v ≤ B) → (∀ t, cs.getD t 0 ≤ B) → ∀ t, (setV cs l vs).getD t 0 ≤ B
  | [], vs, cs, _, h => by simpa [setV] using h
  | c :: l, [], cs, _, h => by simpa [setV] using h
  | c :: l, v :: vs, cs, hv, h => by
    rw [setV]
    refine setV_le l vs _ (fun x hx => hv x (by simp [hx])) fun t => ?_
    have h1 := h t
    have h2 := hv v (by simp)
    simp only [List.getD_eq_getElem?_getD, List.getElem?_set] at h1 ⊢
    split
    · split
      · simpa using h2
      · simp
    · exact h1
theorem setV_snoc : ∀ (l : List Int) (vs cs : List Nat) (c : Int) (v : Nat), l.length = vs.length → setV cs (l ++ [c]) (vs ++ [v]) = (setV cs l vs).set c.toNat v
  | [], [], cs, c, v, _ => rfl
  | x :: l, y :: vs, cs, c, v, h => by
    simp only [List.cons_append, setV]
    exact setV_snoc l vs _ c v (by simpa using h)
  | [], y :: vs, cs, c, v, h => by simp at h
  | x :: l, [], cs, c, v, h => by simp at h
theorem Nd.vals_len {x : Nd} {g : Gm} (hg : Gd g) (hx : x ∈ g.ns) (b : Nat) : (x.vals b).length = x.nx.length := by
  unfold Nd.vals
  by_cases h : x.k = 1
  · rw [if_pos h, List.length_map]; exact (hg.ch hx h).2.2.1
  · rw [if_neg h, List.length_replicate]
theorem mem_le_sum : ∀ {l : List Int}, (∀ w ∈ l, 0 ≤ w) → ∀ w ∈ l, w ≤ l.sum
  | [], _, w, hw => by simp at hw
  | x :: l, h, w, hw => by
    have h1 := h x (by simp)
    have h2 : 0 ≤ l.sum := by
      clear hw h1
      have h' : ∀ w ∈ l, 0 ≤ w := fun w hw => h w (by simp [hw])
      clear h
      induction l with
      | nil => simp
      | cons y r ih => have := h' y (by simp); have := ih fun w hw => h' w (by simp [hw]); simp only [List.sum_cons]; omega
    rcases List.mem_cons.1 hw with rfl | hw
    · simp only [List.sum_cons]; omega
    · have := mem_le_sum (l := l) (fun w hw => h w (by simp [hw])) w hw
      simp only [List.sum_cons]; omega
theorem part_le {b s w : Nat} (h : w ≤ s) : b / s * w ≤ b := Nat.le_trans (Nat.mul_le_mul_left _ h) (Nat.div_mul_le_self b s)
theorem Nd.vals_le {x : Nd} {g : Gm} (hg : Gd g) (hx : x ∈ g.ns) {b : Nat} : ∀ v ∈ x.vals b, v ≤ b := by
  unfold Nd.vals
  by_cases h : x.k = 1
  · rw [if_pos h]
    intro v hv
    obtain ⟨w, hw, rfl⟩ := List.mem_map.1 hv
    have h1 := (hg.ch hx h).2.2.2
    have h2 := mem_le_sum (fun w hw => by have := h1 w hw; omega) w hw
    exact part_le (by omega)
  · rw [if_neg h]
    intro v hv
    exact Nat.le_of_eq (List.eq_of_mem_replicate hv)
structure CI (ns : List Nd) (cs : List Nat) : Prop where
  len : cs.length = ns.length
  le : ∀ t, cs.getD t 0 ≤ 1000000000000000
theorem CI.step {g : Gm} (hg : Gd g) {cs : List Nat} (h : CI g.ns cs) (i : Nat) : CI g.ns (cst g.ns i cs) := by
  unfold cst
  cases hx : g.ns[i]? with
  | none => exact h
  | some x =>
    refine ⟨by rw [setV_len]; exact h.len, setV_le _ _ _ (fun v hv => ?_) h.le⟩
    exact Nat.le_trans (Nd.vals_le hg (List.mem_of_getElem? hx) v hv) (h.le i)
theorem cst_out {ns : List Nd} (hf : Fwd ns) {i t : Nat} (h : t ≤ i) (cs : List Nat) : (cst ns i cs).getD t 0 = cs.getD t 0 := by
  unfold cst
  cases hx : ns[i]? with
  | none => rfl
  | some x => exact setV_out _ _ _ _ fun c hc e => by have := hf i x hx c hc; omega
theorem crun_out {ns : List Nd} (hf : Fwd ns) : ∀ (n i : Nat) (cs : List Nat) {t : Nat}, t ≤ i → (crun ns n i cs).getD t 0 = cs.getD t 0
  | 0, i, cs, t, h => rfl
  | n + 1, i, cs, t, h => by rw [crun, crun_out hf n (i + 1) _ (by omega), cst_out hf h]
theorem crun_add (ns : List Nd) : ∀ (a b i : Nat) (cs : List Nat), crun ns (a + b) i cs = crun ns b (i + a) (crun ns a i cs)
  | 0, b, i, cs => by simp [crun]
  | a + 1, b, i, cs => by rw [show a + 1 + b = (a + b) + 1 by omega, crun, crun, crun_add ns a b (i + 1), show i + 1 + a = i + (a + 1) by omega]
def cs0 (n m : Nat) : List Nat := (List.replicate n 0).set 0 m
/-- How many seeds lead to a node. -/
def Gm.cnt (g : Gm) (m k : Nat) : Nat := (crun g.ns k 0 (cs0 g.ns.length m)).getD k 0
theorem cnt_all {g : Gm} (hf : Fwd g.ns) {m k : Nat} (hk : k ≤ g.ns.length) : (crun g.ns g.ns.length 0 (cs0 g.ns.length m)).getD k 0 = g.cnt m k := by
  rw [show g.ns.length = k + (g.ns.length - k) by omega, crun_add, crun_out hf _ _ _ (by omega), ← show g.ns.length = k + (g.ns.length - k) by omega]
  rfl
theorem CI0 {ns : List Nd} {m : Nat} (hm : m ≤ 1000000000000000) : CI ns (cs0 ns.length m) := by
  refine ⟨by simp [cs0], fun t => ?_⟩
  simp only [cs0, List.getD_eq_getElem?_getD, List.getElem?_set]
  split
  · split
    · simpa using hm
    · simp
  · rw [List.getElem?_replicate]; split <;> simp
theorem cs0_ints (n m : Nat) : ints (prI (cs0 n m)) = (List.replicate n (i64 0)).set 0 (i64 m) := by
  cases n with
  | zero => rfl
  | succ n => simp [cs0, prI, ints, List.replicate_succ]
end Go.Proofs.Ytbfeaikiiamhaaa.Rc

/- H29 -/
namespace Go.Proofs.Ytbfeaikiiamhaaa.Rc
open Go.Ab
theorem vals_at1 {x : Nd} {b u w j : Nat} (h1 : x.k = 1) (hs : x.ws.sum = u) (hj : j < x.ws.length) (hw : x.ws[j] = w) (hv : j < (x.vals b).length) : (x.vals b)[j] = b / u * w := by
  simp only [Nd.vals, if_pos h1, List.getElem_map, hs, hw]; rfl
theorem vals_at0 {x : Nd} {b j : Nat} (h1 : ¬ x.k = 1) (hv : j < (x.vals b).length) : (x.vals b)[j] = b := by
  simp only [Nd.vals, if_neg h1, List.getElem_replicate]
theorem prI_seti {l : List Nat} {c b : Nat} (h : c < l.length) : (ints (prI l)).take c ++ i64 (b : Int) :: (ints (prI l)).drop (c + 1) = ints (prI (l.set c b)) := by
  rw [ints_set (by rw [prI_len]; exact h), prI_set]
theorem set_ne_getD {l : List Nat} {c i b : Nat} (h : c ≠ i) : (l.set c b).getD i 0 = l.getD i 0 := by
  simp only [List.getD_eq_getElem?_getD]; rw [List.getElem?_set_ne h]
theorem set_set_nat (l : List Nat) (c a b : Nat) : (l.set c a).set c b = l.set c b := List.set_set ..
section
variable {H : List AO} {g : Gm} {B : AO} {M : List AO} {q i b u : Nat} {x : Nd} {cs : List Nat}
/-- What a round over the children needs. -/
structure RC (H : List AO) (B : AO) (M : List AO) (q i b u : Nat) (x : Nd) (cs : List Nat) : Prop where
  hx : x.nx.length ≤ 60
  hq : ∀ P : AO, objCells (H ++ B :: P :: M) q 0 = x.cells
  hc : ∀ c ∈ x.nx, (i : Int) < c ∧ c < cs.length
  hb : cs.getD i 0 = b
  hbb : b ≤ 1000000000000000
  hi : i < cs.length
  hl : (x.vals b).length = x.nx.length
  hs : x.ws.sum = u
  hwl : x.ws.length ≤ 60
  hwr : ∀ w ∈ x.ws, 0 ≤ w ∧ w ≤ 1000
  hch : x.k = 1 → x.ws.length = x.nx.length ∧ 1 ≤ u
theorem loopC15_1 (h : RC H B M q i b u x cs) {e1 e41 e42 e43 : SV} {N : Nat} {K : XE → Env → List AO → Prop}
    (hexit : ∀ env, env.get 1 = e1 → env.get 8 = .own (H.length + 1) 0 cs.length 1 0 → env.get 41 = e41 → env.get 42 = e42 → env.get 43 = e43 → K (.exit 2) env (H ++ B :: pob (setV cs x.nx (x.vals b)) :: M)) :
    ∀ (n j : Nat) (env : Env), j + n = x.nx.length → env.get 1 = e1 → env.get 8 = .own (H.length + 1) 0 cs.length 1 0 → env.get 9 = i64 i → env.get 10 = .ptr (.own q 0 0 0 0) 0 → env.get 11 = i64 u → env.get 41 = e41 → env.get 42 = e42 → env.get 43 = e43 →
      env.get 52 = sl x.nx → env.get 53 = i64 x.nx.length → env.get 54 = i64 j →
      LI Try.prog N drawB l15_1 env (H ++ B :: pob (setV cs (x.nx.take j) ((x.vals b).take j)) :: M) K := by
  obtain ⟨hx, hq, hc, hb, hbb, hi, hl, hs, hwl, hwr, hch⟩ := h
  intro n
  induction n with
  | zero =>
    intro j env hj h1 h8 h9 h10 h11 h41 h42 h43 h52 h53 h54
    refine li_go hm l15_1.eq_1 ?_
    have e : j = x.nx.length := by omega
    subst e
    rw [List.take_length, List.take_of_length_le (by omega)]
    simp -implicitDefEqProofs [h1, h8, h9, h10, h11, h41, h42, h43, h52, h53, h54]
    refine hexit _ ?_ ?_ ?_ ?_ ?_ <;> simp [h1, h8, h41, h42, h43]
  | succ n ih =>
    intro j env hj h1 h8 h9 h10 h11 h41 h42 h43 h52 h53 h54
    refine li_go hm l15_1.eq_1 ?_
    have hlt : j < x.nx.length := by omega
    have hvt : j < (x.vals b).length := by omega
    obtain ⟨c, hcc⟩ : ∃ c : Nat, x.nx[j] = c := ⟨x.nx[j].toNat, by have := hc _ (List.getElem_mem hlt); omega⟩
    have hcr := hc _ (List.getElem_mem hlt)
    rw [hcc] at hcr
    have hstep := ih (j + 1)
    rw [List.take_succ_eq_append_getElem hlt, List.take_succ_eq_append_getElem hvt, setV_snoc _ _ _ _ _ (by simp; omega), hcc] at hstep
    have hpl := setV_len (x.nx.take j) ((x.vals b).take j) cs
    have hpi : (setV cs (x.nx.take j) ((x.vals b).take j)).getD i 0 = b := by
      rw [setV_out _ _ _ _ fun c hc' e => by have := hc c (List.mem_of_mem_take hc'); omega]; exact hb
    generalize setV cs (x.nx.take j) ((x.vals b).take j) = p1 at hpl hpi hstep ⊢
    have hcl : c < p1.length := by omega
    have hset := prI_seti (b := b) hcl
    have hpa := prI_at (l := p1) (k := i) (by omega) (by rw [prI_len]; omega)
    rw [hpi] at hpa
    have hcl' : c < cs.length := by omega
    have w1 : IntKind.i64.wrap ((j : Int) + 1) = ((j + 1 : Nat) : Int) := wrap_succ (by omega)
    simp -implicitDefEqProofs [h1, h8, h9, h10, h11, h41, h42, h43, h52, h53, h54, hq, Nd.cells, sl, hlt, hcc, hcl', hi, pob, prI_len, hpl, hpa, hset, w1]
    repeat (refine ⟨by omega, ?_⟩)
    by_cases hk : x.k = 1
    · obtain ⟨hw1, hu⟩ := hch hk
      have hjw : j < x.ws.length := by omega
      obtain ⟨w, hww⟩ : ∃ w : Nat, x.ws[j] = w := ⟨x.ws[j].toNat, by have := hwr _ (List.getElem_mem hjw); omega⟩
      have hwle : w ≤ u := by have := mem_le_sum (fun w hw => (hwr w hw).1) _ (List.getElem_mem hjw); omega
      have hpb := part_le (b := b) hwle
      have hub : b / u ≤ b := Nat.div_le_self _ _
      have hv := vals_at1 hk hs hjw hww hvt
      have hp2 : p1.set c b = p1.set c b := rfl
      have hcl2 : c < (p1.set c b).length := by simpa using hcl
      have hset2 := prI_seti (b := b / u * w) hcl2
      rw [set_set_nat] at hset2
      have hpa2 := prI_at (l := p1.set c b) (k := i) (by simp; omega) (by rw [prI_len]; simp; omega)
      rw [set_ne_getD (by omega), hpi] at hpa2
      have t1 : (b : Int).tdiv u = ((b / u : Nat) : Int) := by rw [Int.tdiv_eq_ediv_of_nonneg (by omega)]; rfl
      have w2 : IntKind.i64.wrap ((b / u : Nat) : Int) = ((b / u : Nat) : Int) := wrap_nat (by omega)
      have w3 : IntKind.i64.wrap (((b / u : Nat) : Int) * w) = ((b / u * w : Nat) : Int) := by rw [← Int.natCast_mul]; exact wrap_nat (by omega)
      rw [hv] at hstep
      generalize b / u * w = v at hstep hset2 w3
      generalize b / u = d at t1 w2 w3
      have hu0 : ¬ (u : Int) = 0 := by omega
      simp -implicitDefEqProofs [hk, h8, h9, h10, h11, hq, Nd.cells, sl, hjw, hww, hi, prI_len, hpl, hpa2, t1, w2, w3, hset2, hcl', hu0]
      repeat (refine ⟨by omega, ?_⟩)
      refine hstep _ (by omega) ?_ ?_ ?_ ?_ ?_ ?_ ?_ ?_ ?_ ?_ ?_ <;> simp [h1, h8, h9, h10, h11, h41, h42, h43, h52, h53, sl, w1]
    · have hv := vals_at0 hk hvt
      rw [hv] at hstep
      simp -implicitDefEqProofs [hk]
      refine hstep _ (by omega) ?_ ?_ ?_ ?_ ?_ ?_ ?_ ?_ ?_ ?_ ?_ <;> simp [h1, h8, h9, h10, h11, h41, h42, h43, h52, h53, sl, w1]
theorem loopC39_1 (h : RC H B M q i b u x cs) {e2 : SV} {N : Nat} {K : XE → Env → List AO → Prop}
    (hexit : ∀ env, env.get 2 = e2 → env.get 5 = .own (H.length + 1) 0 cs.length 1 0 → env.get 6 = i64 i → K (.exit 2) env (H ++ B :: pob (setV cs x.nx (x.vals b)) :: M)) :
    ∀ (n j : Nat) (env : Env), j + n = x.nx.length → env.get 2 = e2 → env.get 5 = .own (H.length + 1) 0 cs.length 1 0 → env.get 6 = i64 i → env.get 7 = .ptr (.own q 0 0 0 0) 0 → env.get 8 = i64 j →
      LI Try.prog N drawB l39_1 env (H ++ B :: pob (setV cs (x.nx.take j) ((x.vals b).take j)) :: M) K := by
  obtain ⟨hx, hq, hc, hb, hbb, hi, hl, hs, hwl, hwr, hch⟩ := h
  intro n
  induction n with
  | zero =>
    intro j env hj h2 h5 h6 h7 h8
    refine li_go hm l39_1.eq_1 ?_
    have e : j = x.nx.length := by omega
    subst e
    rw [List.take_length, List.take_of_length_le (by omega)]
    simp -implicitDefEqProofs [h2, h5, h6, h7, h8, hq, Nd.cells, sl]
    refine hexit _ ?_ ?_ ?_ <;> simp [h2, h5, h6]
  | succ n ih =>
    intro j env hj h2 h5 h6 h7 h8
    refine li_go hm l39_1.eq_1 ?_
    have hlt : j < x.nx.length := by omega
    have hvt : j < (x.vals b).length := by omega
    obtain ⟨c, hcc⟩ : ∃ c : Nat, x.nx[j] = c := ⟨x.nx[j].toNat, by have := hc _ (List.getElem_mem hlt); omega⟩
    have hcr := hc _ (List.getElem_mem hlt)
    rw [hcc] at hcr
    have hstep := ih (j + 1)
    rw [List.take_succ_eq_append_getElem hlt, List.take_succ_eq_append_getElem hvt, setV_snoc _ _ _ _ _ (by simp; omega), hcc] at hstep
    have hpl := setV_len (x.nx.take j) ((x.vals b).take j) cs
    have hpi : (setV cs (x.nx.take j) ((x.vals b).take j)).getD i 0 = b := by
      rw [setV_out _ _ _ _ fun c hc' e => by have := hc c (List.mem_of_mem_take hc'); omega]; exact hb
    generalize setV cs (x.nx.take j) ((x.vals b).take j) = p1 at hpl hpi hstep ⊢
    have hcl : c < p1.length := by omega
    have hset := prI_seti (b := b) hcl
    have hpa := prI_at (l := p1) (k := i) (by omega) (by rw [prI_len]; omega)
    rw [hpi] at hpa
    have hcl' : c < cs.length := by omega
    have w1 : IntKind.i64.wrap ((j : Int) + 1) = ((j + 1 : Nat) : Int) := wrap_succ (by omega)
    simp -implicitDefEqProofs [h2, h5, h6, h7, h8, hq, Nd.cells, sl, hlt, hcc, hcl', hi, pob, prI_len, hpl, hpa, hset, w1]
    repeat (refine ⟨by omega, ?_⟩)
    by_cases hk : x.k = 1
    · obtain ⟨hw1, hu⟩ := hch hk
      have hjw : j < x.ws.length := by omega
      obtain ⟨w, hww⟩ : ∃ w : Nat, x.ws[j] = w := ⟨x.ws[j].toNat, by have := hwr _ (List.getElem_mem hjw); omega⟩
      have hwle : w ≤ u := by have := mem_le_sum (fun w hw => (hwr w hw).1) _ (List.getElem_mem hjw); omega
      have hpb := part_le (b := b) hwle
      have hub : b / u ≤ b := Nat.div_le_self _ _
      have hv := vals_at1 hk hs hjw hww hvt
      have hp2 : p1.set c b = p1.set c b := rfl
      have hcl2 : c < (p1.set c b).length := by simpa using hcl
      have hset2 := prI_seti (b := b / u * w) hcl2
      rw [set_set_nat] at hset2
      have hpa2 := prI_at (l := p1.set c b) (k := i) (by simp; omega) (by rw [prI_len]; simp; omega)
      rw [set_ne_getD (by omega), hpi] at hpa2
      have t1 : (b : Int).tdiv u = ((b / u : Nat) : Int) := by rw [Int.tdiv_eq_ediv_of_nonneg (by omega)]; rfl
      have w2 : IntKind.i64.wrap ((b / u : Nat) : Int) = ((b / u : Nat) : Int) := wrap_nat (by omega)
      have w3 : IntKind.i64.wrap (((b / u : Nat) : Int) * w) = ((b / u * w : Nat) : Int) := by rw [← Int.natCast_mul]; exact wrap_nat (by omega)
      rw [hv] at hstep
      generalize b / u * w = v at hstep hset2 w3
      generalize b / u = d at t1 w2 w3
      have hu0 : ¬ (u : Int) = 0 := by omega
      simp -implicitDefEqProofs [hk, h5, h6, h7, h8, hq, Nd.cells, sl, hlt, hcc, hjw, hww, hi, prI_len, hpl, hpa2, hcl', hu0]
      repeat (refine And.intro (by omega) ?_)
      refine callq_go (fun _ => ok36 (IsI.slc _ x.ws) hwr (by omega)) ?_
      rw [hs]
      simp -implicitDefEqProofs [hk, h5, h6, h7, h8, hq, Nd.cells, sl, hlt, hcc, hjw, hww, hi, prI_len, hpl, hpa2, t1, w2, w3, hset2, hcl', hu0]
      repeat (refine ⟨by omega, ?_⟩)
      refine hstep _ (by omega) ?_ ?_ ?_ ?_ ?_ <;> simp [h2, h5, h6, h7, w1]
    · have hv := vals_at0 hk hvt
      rw [hv] at hstep
      simp -implicitDefEqProofs [hk]
      refine hstep _ (by omega) ?_ ?_ ?_ ?_ ?_ <;> simp [h2, h5, h6, h7, w1]
end
end Go.Proofs.Ytbfeaikiiamhaaa.Rc

/- H30 -/
namespace Go.Proofs.Ytbfeaikiiamhaaa.Rc
open Go.Ab
theorem nds_app : ∀ a b : List Nd, nds (a ++ b) = nds a ++ nds b
  | [], b => rfl
  | x :: a, b => by simp only [List.cons_append, nds, nds_app a b, List.append_assoc]
theorem nds_takeK (l : List Nd) (k : Nat) (h : k ≤ l.length) : (nds l).take (k * 6) = nds (l.take k) := by
  conv => lhs; rw [← List.take_append_drop k l, nds_app]
  have : (nds (l.take k)).length = k * 6 := by rw [nds_len, List.length_take]; omega
  rw [List.take_append_of_le_length (by omega), List.take_of_length_le (by omega)]
section
variable {H : List AO} {g : Gm}
theorem RC.of (hg : Gd g) (hf : Fwd g.ns) {cs : List Nat} (hP : CI g.ns cs) {i : Nat} (hlt : i < g.ns.length) {B : AO} {M : List AO} {u : Nat} (hu : g.ns[i].ws.sum = u) :
    RC H B (M ++ [⟨g.ns[i].cells, 39, 0, true⟩]) (H.length + (M.length + 2)) i (cs.getD i 0) u g.ns[i] cs := by
  have hmem := List.getElem_mem hlt
  have hfew := hg.few hmem
  refine ⟨hfew.1, fun P => ?_, fun c hc => ?_, rfl, hP.le i, by rw [hP.len]; exact hlt, Nd.vals_len hg hmem _, hu, hfew.2.1, hfew.2.2, fun h1 => ?_⟩
  · simp
  · have := hf i _ (List.getElem?_eq_getElem hlt) c hc
    rw [hP.len]; exact this
  · have h2 := hg.ch hmem h1
    have h3 := hg.sum hmem h1
    exact ⟨h2.2.2.1, by omega⟩
theorem sum_nn {x : Nd} (hg : Gd g) (hx : x ∈ g.ns) : ∃ u : Nat, x.ws.sum = u := by
  have h := (hg.few hx).2.2
  have := sum_rng h
  exact ⟨x.ws.sum.toNat, by omega⟩
theorem loopC15_0 (hg : Gd g) (hf : Fwd g.ns) {k : Nat} (hk : k < g.ns.length) {R : List Nat} {e1 : SV} {N : Nat} {K : XE → Env → List AO → Prop}
    (hexit : ∀ env M, env.get 1 = e1 → env.get 8 = .own (H.length + 1) 0 g.ns.length 1 0 → K (.exit 0) env (H ++ gbox g :: pob R :: M)) :
    ∀ (n i : Nat) (cs : List Nat) (env : Env) (M : List AO), i + n = k → CI g.ns cs → crun g.ns n i cs = R → env.get 1 = e1 → env.get 8 = .own (H.length + 1) 0 g.ns.length 1 0 →
      env.get 41 = .slc (nds (g.ns.take k)) k → env.get 42 = i64 k → env.get 43 = i64 i → LI Try.prog N drawB l15_0 env (H ++ gbox g :: pob cs :: M) K := by
  have hgn := hg.n
  intro n
  induction n with
  | zero =>
    intro i cs env M hi hP hr h1 h8 h41 h42 h43
    refine li_go hm l15_0.eq_1 ?_
    have e : i = k := by omega
    subst e
    simp -implicitDefEqProofs [h1, h8, h41, h42, h43]
    have hr : cs = R := hr
    rw [hr]
    exact hexit _ _ (by simp [h1]) (by simp [h8])
  | succ n ih =>
    intro i cs env M hi hP hr h1 h8 h41 h42 h43
    refine li_go hm l15_0.eq_1 ?_
    have hlt : i < g.ns.length := by omega
    have hik : i < k := by omega
    have hmem := List.getElem_mem hlt
    obtain ⟨u, hu⟩ := sum_nn hg hmem
    have hfew := hg.few hmem
    have hRC := RC.of (H := H) (B := gbox g) (M := M) hg hf hP hlt hu
    have hlt' : i < (g.ns.take k).length := by simp; omega
    have hgi : (g.ns.take k)[i] = g.ns[i] := by simp
    have hP' := hP.step hg i
    have hpl := hP.len
    have hst : cst g.ns i cs = setV cs g.ns[i].nx (g.ns[i].vals (cs.getD i 0)) := by unfold cst; rw [List.getElem?_eq_getElem hlt]
    rw [crun] at hr
    have w1 : IntKind.i64.wrap ((i : Int) + 1) = ((i + 1 : Nat) : Int) := wrap_succ (by omega)
    have n1 := nds_at hlt'
    have n2 := nds_min hlt'
    have n3 := nds_ge hlt'
    rw [hgi] at n1
    have hstep := fun env => ih (i + 1) (cst g.ns i cs) env (M ++ [⟨g.ns[i].cells, 39, 0, true⟩]) (by omega) hP' hr
    rw [hst] at hstep
    simp -implicitDefEqProofs [h1, h8, h41, h42, h43, hik, n1, n2, n3, Nd.cells, sl]
    repeat (refine And.intro (by omega) ?_)
    refine call_go (ok38 (IsI.slc _ g.ns[i].ws) hfew.2.2 (by omega)) ?_
    rw [hu]
    simp -implicitDefEqProofs [h1, h8, h41, h42, h43, Nd.cells, sl]
    refine LI.cong (H' := H ++ gbox g :: pob cs :: (M ++ [⟨g.ns[i].cells, 39, 0, true⟩])) (by simp [Nd.cells, sl]) (loopC15_1 hRC (e1 := e1) (e41 := .slc (nds (g.ns.take k)) k) (e42 := i64 k) (e43 := i64 i) (fun env k1 k8 k41 k42 k43 => ?_) g.ns[i].nx.length 0 _ (by omega) ?_ ?_ ?_ ?_ ?_ ?_ ?_ ?_ ?_ ?_ ?_)
    · simp -implicitDefEqProofs [k1, k8, k41, k42, k43, w1]
      refine hstep _ ?_ ?_ ?_ ?_ ?_ <;> simp [k1, k8, k41, k42, hpl]
    all_goals simp [h1, h8, h41, h42, h43, sl, hpl]
theorem loopC39_0 (hg : Gd g) (hf : Fwd g.ns) {R : List Nat} {N : Nat} {K : XE → Env → List AO → Prop}
    (hexit : ∀ env M, env.get 5 = .own (H.length + 1) 0 g.ns.length 1 0 → K (.exit 0) env (H ++ gbox g :: pob R :: M)) :
    ∀ (n i : Nat) (cs : List Nat) (env : Env) (M : List AO), i + n = g.ns.length → CI g.ns cs → crun g.ns n i cs = R → env.get 2 = .ptr (.own H.length 0 0 0 0) 0 → env.get 5 = .own (H.length + 1) 0 g.ns.length 1 0 →
      env.get 6 = i64 i → LI Try.prog N drawB l39_0 env (H ++ gbox g :: pob cs :: M) K := by
  have hgn := hg.n
  intro n
  induction n with
  | zero =>
    intro i cs env M hi hP hr h2 h5 h6
    refine li_go hm l39_0.eq_1 ?_
    have e : i = g.ns.length := by omega
    subst e
    simp -implicitDefEqProofs [h2, h5, h6, gbox]
    have hr : cs = R := hr
    rw [hr]
    exact hexit _ _ (by simp [h5])
  | succ n ih =>
    intro i cs env M hi hP hr h2 h5 h6
    refine li_go hm l39_0.eq_1 ?_
    have hlt : i < g.ns.length := by omega
    have hmem := List.getElem_mem hlt
    obtain ⟨u, hu⟩ := sum_nn hg hmem
    have hfew := hg.few hmem
    have hRC := RC.of (H := H) (B := gbox g) (M := M) hg hf hP hlt hu
    have hP' := hP.step hg i
    have hpl := hP.len
    have hst : cst g.ns i cs = setV cs g.ns[i].nx (g.ns[i].vals (cs.getD i 0)) := by unfold cst; rw [List.getElem?_eq_getElem hlt]
    rw [crun] at hr
    have w1 : IntKind.i64.wrap ((i : Int) + 1) = ((i + 1 : Nat) : Int) := wrap_succ (by omega)
    have n1 := nds_at hlt
    have n2 := nds_min hlt
    have n3 := nds_ge hlt
    have hstep := fun env => ih (i + 1) (cst g.ns i cs) env (M ++ [⟨g.ns[i].cells, 39, 0, true⟩]) (by omega) hP' hr
    rw [hst] at hstep
    simp -implicitDefEqProofs [h2, h5, h6, hlt, n1, n2, n3, Nd.cells, sl, gbox]
    repeat (refine And.intro (by omega) ?_)
    refine LI.cong (H' := H ++ gbox g :: pob cs :: (M ++ [⟨g.ns[i].cells, 39, 0, true⟩])) (by simp [Nd.cells, sl, gbox]) (loopC39_1 hRC (e2 := .ptr (.own H.length 0 0 0 0) 0) (fun env k2 k5 k6 => ?_) g.ns[i].nx.length 0 _ (by omega) ?_ ?_ ?_ ?_ ?_)
    · simp -implicitDefEqProofs [k2, k5, k6, w1]
      refine hstep _ ?_ ?_ ?_ <;> simp [k2, k5, hpl]
    all_goals simp [h2, h5, h6, sl, hpl]
theorem ok39 (hf : g.formR = 0) {m : Nat} (hm0 : m ≤ 1000000000000000) : Ok Try.prog 39 [.agg g.cells, i64 m] H (.ret (sl (prI (crun g.ns g.ns.length 0 (cs0 g.ns.length m))))) H := by
  obtain ⟨hg, hw⟩ := form0 hf
  have hn1 := hg.n1
  have hn := hg.n
  refine ok_fn hm Try.func39 c39 (by simp) fun hcl => ?_
  simp -implicitDefEqProofs [i39, r39, Gm.cells]
  repeat (refine And.intro (by omega) ?_)
  have hlen : (crun g.ns g.ns.length 0 (cs0 g.ns.length m)).length = g.ns.length := by
    have : ∀ (n i : Nat) (cs : List Nat), CI g.ns cs → CI g.ns (crun g.ns n i cs) := by
      intro n
      induction n with
      | zero => intro i cs h; exact h
      | succ n ih => intro i cs h; exact ih _ _ (h.step hg i)
    exact (this _ _ _ (CI0 hm0)).len
  refine LI.cong (H' := H ++ gbox g :: pob (cs0 g.ns.length m) :: []) ?_ (loopC39_0 hg (fwd0 hf) (R := crun g.ns g.ns.length 0 (cs0 g.ns.length m)) (fun env M k5 => ?_) g.ns.length 0 (cs0 g.ns.length m) _ [] (by omega) (CI0 hm0) rfl ?_ ?_ ?_)
  · simp [gbox, pob, cs0_ints]
    cases hl : g.ns.length with
    | zero => omega
    | succ n => simp [List.replicate_succ]
  · simp -implicitDefEqProofs [k5]
    refine cv_fz 2 hcl rfl ?_
    simp [pob, sl, prI_len, hlen]
  all_goals simp
/-- What Count gives. -/
def cntR (g : Gm) (k : Int) : Int × Int := if g.formR ≠ 0 then (0, g.formR) else match g.siz with | none => (0, 5) | some m => if k < 0 ∨ (g.ns.length : Int) ≤ k then (0, 2) else (g.cnt m k.toNat, 0)
end
end Go.Proofs.Ytbfeaikiiamhaaa.Rc

/- H31 -/
namespace Go.Proofs.Ytbfeaikiiamhaaa.Rc
open Go.Ab
theorem siz_rng {g : Gm} (h : g.formR = 0) {m : Nat} (hs : g.siz = some m) : 1 ≤ m ∧ m ≤ 1000000000000000 := by
  obtain ⟨hg, hw⟩ := form0 h
  exact vis_rng (fun x hx hk => (hg.sum hx hk).1) _ _ _ _ _ (by omega) (by omega) (by omega) hs
theorem cnt_at {g : Gm} (h : g.formR = 0) {m : Nat} (hm : m ≤ 1000000000000000) (n k : Nat) (hk : k < g.ns.length) (h' : k < (prI (crun g.ns n 0 (cs0 g.ns.length m))).length) :
    (prI (crun g.ns n 0 (cs0 g.ns.length m)))[k] = ((crun g.ns n 0 (cs0 g.ns.length m)).getD k 0 : Nat) :=
  prI_at (by rw [prI_len] at h'; exact h') h'
theorem crun_len {g : Gm} (hg : Gd g) : ∀ (n i : Nat) (cs : List Nat), CI g.ns cs → (crun g.ns n i cs).length = g.ns.length := by
  intro n
  induction n with
  | zero => intro i cs h; exact h.len
  | succ n ih => intro i cs h; exact ih _ _ (h.step hg i)
section
variable {H : List AO} {g : Gm}
def tupI (p : Int × Int) : SV := .tup [i64 p.1, i64 p.2]
theorem ok15 (k : Int) : Ok Try.prog 15 [.agg g.cells, i64 k] H (.ret (tupI (cntR g k))) H := by
  refine ok_fn hm Try.func15 c15 (by simp) fun hcl => ?_
  have hh := fun H => ok13 (H := H) (g := g)
  simp only [Gm.cells, sizV] at hh
  simp -implicitDefEqProofs [i15, r15, Gm.cells]
  refine call_go (hh _) ?_
  unfold cntR
  by_cases hf : g.formR = 0
  · obtain ⟨hg, hw⟩ := form0 hf
    have hn1 := hg.n1
    have hn := hg.n
    cases hs : g.siz with
    | none =>
      simp -implicitDefEqProofs [hf]
      exact cv_fz 2 hcl rfl (by simp [tupI])
    | some m =>
      obtain ⟨m1, m2⟩ := siz_rng hf hs
      by_cases hk : k < 0 ∨ (g.ns.length : Int) ≤ k
      · rw [if_neg (by simpa using hf)]
        simp only [if_pos hk]
        rcases Int.lt_or_le k 0 with h0 | h0
        · simp -implicitDefEqProofs [hf, h0]
          exact cv_fz 2 hcl rfl (by simp [tupI])
        · have h1 : (g.ns.length : Int) ≤ k := by omega
          have h2 : ¬ k < 0 := by omega
          simp -implicitDefEqProofs [hf, h1, h2]
          exact cv_fz 2 hcl rfl (by simp [tupI])
      · rw [if_neg (by simpa using hf)]
        simp only [if_neg hk]
        obtain ⟨n, rfl⟩ : ∃ n : Nat, k = n := ⟨k.toNat, by omega⟩
        have h1 : ¬ (g.ns.length : Int) ≤ n := by omega
        have h2 : ¬ (n : Int) < 0 := by omega
        have h3 : ¬ g.ns.length ≤ n := by omega
        have hnl : n < g.ns.length := by omega
        have htk := nds_takeK g.ns n (by omega)
        have hlen := crun_len hg n 0 _ (CI0 (ns := g.ns) m2)
        have hat := cnt_at hf m2 n n hnl (by rw [prI_len, hlen]; exact hnl)
        have hcn : (crun g.ns n 0 (cs0 g.ns.length m)).getD n 0 = g.cnt m n := rfl
        rw [hcn] at hat
        simp -implicitDefEqProofs [hf, h1, h2, h3, htk]
        repeat (refine And.intro (by omega) ?_)
        refine LI.cong (H' := H ++ gbox g :: pob (cs0 g.ns.length m) :: []) ?_ (loopC15_0 hg (fwd0 hf) (k := n) hnl (R := crun g.ns n 0 (cs0 g.ns.length m)) (e1 := i64 n) (fun env M k1 k8 => ?_) n 0 (cs0 g.ns.length m) _ [] (by omega) (CI0 m2) rfl ?_ ?_ ?_ ?_ ?_)
        · simp [gbox, pob, cs0_ints]
          cases hl : g.ns.length with
          | zero => omega
          | succ n => simp [List.replicate_succ]
        · simp -implicitDefEqProofs [k1, k8, pob, prI_len, hlen, hnl, hat]
          exact ⟨by omega, cv_fz 2 hcl rfl (by simp [tupI, hf])⟩
        all_goals simp
  · rw [if_pos (show g.formR ≠ 0 from hf)]
    simp -implicitDefEqProofs [hf]
    exact cv_fz 2 hcl rfl (by simp [tupI])
theorem ok16 (k : Int) : Ok Try.prog 16 [.agg g.cells, i64 k] H (.ret (tupI (cntR g k))) H := by
  refine ok_fn hm Try.func16 c16 (by simp) fun hcl => ?_
  have hh := fun H => ok14 (H := H) (g := g)
  simp only [Gm.cells, sizV] at hh
  simp -implicitDefEqProofs [i16, r16, Gm.cells]
  refine call_go (hh _) ?_
  unfold cntR
  by_cases hf : g.formR = 0
  · obtain ⟨hg, hw⟩ := form0 hf
    have hn1 := hg.n1
    have hn := hg.n
    cases hs : g.siz with
    | none =>
      simp -implicitDefEqProofs [hf]
      exact cv_fz 2 hcl rfl (by simp [tupI])
    | some m =>
      obtain ⟨m1, m2⟩ := siz_rng hf hs
      by_cases hk : k < 0 ∨ (g.ns.length : Int) ≤ k
      · rw [if_neg (by simpa using hf)]
        simp only [if_pos hk]
        rcases Int.lt_or_le k 0 with h0 | h0
        · simp -implicitDefEqProofs [hf, h0]
          exact cv_fz 2 hcl rfl (by simp [tupI])
        · have h1 : (g.ns.length : Int) ≤ k := by omega
          have h2 : ¬ k < 0 := by omega
          simp -implicitDefEqProofs [hf, h1, h2]
          exact cv_fz 2 hcl rfl (by simp [tupI])
      · rw [if_neg (by simpa using hf)]
        simp only [if_neg hk]
        obtain ⟨n, rfl⟩ : ∃ n : Nat, k = n := ⟨k.toNat, by omega⟩
        have h1 : ¬ (g.ns.length : Int) ≤ n := by omega
        have h2 : ¬ (n : Int) < 0 := by omega
        have h3 : ¬ g.ns.length ≤ n := by omega
        have hnl : n < g.ns.length := by omega
        have hlen := crun_len hg g.ns.length 0 _ (CI0 (ns := g.ns) m2)
        have hat := cnt_at hf m2 g.ns.length n hnl (by rw [prI_len, hlen]; exact hnl)
        rw [cnt_all (fwd0 hf) (by omega)] at hat
        have hh := fun H => ok39 (H := H) (g := g) hf m2
        simp only [Gm.cells, sl] at hh
        simp -implicitDefEqProofs [hf, h1, h2, h3]
        refine call_go (hh _) ?_
        simp -implicitDefEqProofs [prI_len, hlen, hnl, hat]
        exact ⟨by omega, cv_fz 2 hcl rfl (by simp [tupI, hf])⟩
  · rw [if_pos (show g.formR ≠ 0 from hf)]
    simp -implicitDefEqProofs [hf]
    exact cv_fz 2 hcl rfl (by simp [tupI])
end
end Go.Proofs.Ytbfeaikiiamhaaa.Rc

/- H32 -/
namespace Go.Proofs.Ytbfeaikiiamhaaa.Rc
open Go.Ab Go.WideShapes
def Nd.fitB (x : Nd) : Prop := x.nx.length * 8 ≤ reachBytes ∧ x.ws.length * 8 ≤ reachBytes ∧ x.ps.length * 8 ≤ reachBytes
theorem ints_fit {d : Dt} {l : List Int} (h : d.sv = .slc (ints l) l.length) (hf : (Sh.sl (.int .i64)).fit d) (hh : (Sh.sl (.int .i64)).has d) : l.length * 8 ≤ reachBytes := by
  simp only [Sh.has] at hh
  obtain ⟨m, rfl, _, _⟩ := hh
  rw [Sh.fit] at hf
  have h1 := (hf m rfl).1
  simp only [Dt.sv, Dt.cells, List.headD_cons, SV.slc.injEq] at h
  have : (Sh.int IntKind.i64).by = 8 := rfl
  rw [this] at h1
  omega
/-- A game that came in, its lists no larger than a process holds. -/
structure Gm.fitB (g : Gm) : Prop where
  is : g.is.length * 16 ≤ reachBytes
  ns : ∀ x ∈ g.ns, x.fitB
theorem reach_eq : reachBytes = 140737488351232 := by decide
section
variable {H : List AO} {g : Gm}
def Gm.larg (g : Gm) : Prop := (60 < g.ns.length ∧ g.ns.length ≤ 2000) ∨ 2010 < g.ns.length
instance : Decidable g.larg := by unfold Gm.larg; infer_instance
theorem ok10 : Ok Try.prog 10 [.agg g.cells] H (.ret (bl (decide g.larg))) H := by
  refine ok_fn hm Try.func10 c10 (by simp) fun hcl => ?_
  simp -implicitDefEqProofs [i10, r10, Gm.cells, pickI]
  by_cases h1 : 60 < (g.ns.length : Int)
  · by_cases h2 : (g.ns.length : Int) ≤ 2000
    · have e : decide g.larg = true := decide_eq_true (show g.larg by unfold Gm.larg; omega)
      rw [e]
      simp -implicitDefEqProofs [h1, h2]
      first | exact cv_fz 2 hcl rfl (by simp) | (refine And.intro (by omega) ?_; exact cv_fz 2 hcl rfl (by simp)) | (refine And.intro (by omega) (And.intro (by omega) ?_); exact cv_fz 2 hcl rfl (by simp))
    · have e : decide g.larg = decide (2010 < (g.ns.length : Int)) := by rw [decide_eq_decide]; unfold Gm.larg; omega
      rw [e]
      simp -implicitDefEqProofs [h1, h2]
      first | exact cv_fz 2 hcl rfl (by simp) | (refine And.intro (by omega) ?_; exact cv_fz 2 hcl rfl (by simp)) | (refine And.intro (by omega) (And.intro (by omega) ?_); exact cv_fz 2 hcl rfl (by simp))
  · have e : decide g.larg = false := decide_eq_false (show ¬ g.larg by unfold Gm.larg; omega)
    have h3 : ¬ 2010 < (g.ns.length : Int) := by omega
    rw [e]
    simp -implicitDefEqProofs [h1, h3]
    first | exact cv_fz 2 hcl rfl (by simp) | (refine And.intro (by omega) ?_; exact cv_fz 2 hcl rfl (by simp)) | (refine And.intro (by omega) (And.intro (by omega) ?_); exact cv_fz 2 hcl rfl (by simp))
end
end Go.Proofs.Ytbfeaikiiamhaaa.Rc

/- H33 -/
namespace Go.Proofs.Ytbfeaikiiamhaaa.Rc
open Go.Ab Go.WideShapes
theorem le_agg {l l' : List SV} (h : leL l l') : SV.le (.agg l) (.agg l') := by
  intro S v hv
  cases hv with
  | agg _ us hl hh => have := h.vrs ⟨hl, hh⟩; exact .agg _ _ this.1 this.2
section
variable {H : List AO} {g : Gm}
set_option maxRecDepth 10000 in
theorem loop17b (hn : g.ns.length < 4611686018427387904) (hx : ∀ x ∈ g.ns, x.nx.length * 8 ≤ 140737488352000 ∧ x.ws.length * 8 ≤ 140737488352000 ∧ x.ps.length * 8 ≤ 140737488352000) {N : Nat} {K : XE → Env → List AO → Prop} {B : AO} (hB : B = ⟨[i64 g.pl, SV.slc (nds g.ns) g.ns.length, .slc (infs g.is) g.is.length], 25, 0, true⟩)
    (hexit : ∀ env, K (.exit 0) env (H ++ [gbox g, B])) :
    ∀ (n i : Nat) (env : Env), i + n = g.ns.length → env.get 2 = .ptr (.own H.length 0 0 0 0) 0 → env.get 3 = .ptr (.own (H.length + 1) 0 0 0 0) 0 → env.get 5 = i64 i → LI Try.prog N drawB l17_0 env (H ++ [gbox g, B]) K := by
  subst hB
  intro n
  induction n with
  | zero =>
    intro i env hi h2 h3 h5
    refine li_go hm l17_0.eq_1 ?_
    have e : i = g.ns.length := by omega
    subst e
    simp -implicitDefEqProofs [h2, h3, h5, gbox]
    exact hexit _
  | succ n ih =>
    intro i env hi h2 h3 h5
    refine li_go hm l17_0.eq_1 ?_
    have hlt : i < g.ns.length := by omega
    have hxi := hx _ (List.getElem_mem hlt)
    have w1 : IntKind.i64.wrap ((i : Int) + 1) = ((i + 1 : Nat) : Int) := wrap_succ (by omega)
    simp -implicitDefEqProofs [h2, h3, h5, gbox, hlt, nds_at hlt, nds_min hlt, nds_ge hlt, sl]
    have hh := fun H => ok41 (H := H) (x := g.ns[i]) (by omega) (by omega) (by omega)
    simp only [Nd.cells, sl] at hh
    refine callq_go (fun _ => hh _) ?_
    simp -implicitDefEqProofs [h5]
    rw [w1]
    exact ih (i + 1) _ (by omega) (by simp [h2]) (by simp [h3]) (by simp)
set_option maxRecDepth 10000 in
theorem ok17b (hn : g.ns.length ≤ 100000) (hi : g.is.length * 16 ≤ 140737488352000) (hx : ∀ x ∈ g.ns, x.nx.length * 8 ≤ 140737488352000 ∧ x.ws.length * 8 ≤ 140737488352000 ∧ x.ps.length * 8 ≤ 140737488352000) :
    Ok Try.prog 17 [.agg g.cells, .agg [i64 g.pl, SV.slc (nds g.ns) g.ns.length, .slc (infs g.is) g.is.length]] H (.ret (bl true)) H := by
  refine ok_fn hm Try.func17 c17 (by simp) fun hcl => ?_
  simp -implicitDefEqProofs [i17, r17, Gm.cells]
  refine callq_st (fun _ => ok40 (is := g.is) (by omega)) ?_
  simp -implicitDefEqProofs
  refine loop17b (g := g) (by omega) hx rfl (fun env => ?_) g.ns.length 0 _ (by omega) (by simp) (by simp) (by simp)
  simp -implicitDefEqProofs
  exact cv_fz 1 hcl rfl (by simp)
theorem own_le (g : Gm) : SV.le (.agg [i64 g.pl, nsv g, .slc (infs g.is) g.is.length]) (.agg g.cells) := by
  refine le_agg (leL.cons (SV.le.refl _) (leL.cons ?_ (leL.cons (SV.le.refl _) leL.nil)))
  by_cases h : g.ns = []
  · rw [nsv_nil h, h]; exact le_nil
  · rw [nsv_ne h]; exact SV.le.refl _
theorem ok3 (hb : g.fitB) (k : Int) : Ok Try.prog 3 [.agg g.cells, i64 k] H (.ret (bl true)) H := by
  refine ok_fn hm Try.func3 c3 (by simp) fun hcl => ?_
  have h10 := fun H => ok10 (H := H) (g := g)
  simp only [Gm.cells] at h10
  by_cases hL : g.larg
  · simp -implicitDefEqProofs [i3, r3, Gm.cells]
    refine call_go (h10 _) ?_
    simp -implicitDefEqProofs [hL]
    refine call_go awake_ok ?_
    simp -implicitDefEqProofs
    exact cv_fz 1 hcl rfl (by simp)
  · have l1 : g.ns.length ≤ 100000 := by unfold Gm.larg at hL; omega
    have l2 := hb.is
    have l3 : ∀ x ∈ g.ns, x.nx.length * 8 ≤ 140737488352000 ∧ x.ws.length * 8 ≤ 140737488352000 ∧ x.ps.length * 8 ≤ 140737488352000 := fun x hx => by
      have := hb.ns x hx
      unfold Nd.fitB at this
      rw [reach_eq] at this
      omega
    rw [reach_eq] at l2
    have l2 : g.is.length * 16 ≤ 140737488352000 := by omega
    simp -implicitDefEqProofs [i3, r3, Gm.cells]
    refine call_go (h10 _) ?_
    simp -implicitDefEqProofs [hL]
    have hh := fun H => ok12 (H := H) (g := g) l1 l2 l3
    simp only [Gm.cells] at hh
    refine call_go (hh _) ?_
    have hns : (if g.ns.length = 0 then nl else SV.slc (nds g.ns) g.ns.length) = nsv g := by
      unfold nsv
      by_cases h : g.ns = []
      · rw [if_pos h, if_pos (by rw [h]; rfl)]
      · rw [if_neg h, if_neg (fun e => h (List.eq_nil_of_length_eq_zero e))]
    rw [hns]
    have hv : (nsv g).isCell = true := by
      by_cases h : g.ns = []
      · rw [nsv_nil h]; rfl
      · rw [nsv_ne h]; rfl
    have h13 := fun H => Ok.le (leL.cons (own_le g) leL.nil) (ok13 (H := H) (g := g))
    have h14 := fun H => ok14 (H := H) (g := g)
    have h15 := fun H => Ok.le (leL.cons (own_le g) (leL.cons (SV.le.refl (i64 k)) leL.nil)) (ok15 (H := H) (g := g) k)
    have h16 := fun H => ok16 (H := H) (g := g) k
    have hsz : ∃ a e : Int, sizV g = .tup [i64 a, i64 e] := by
      unfold sizV
      split
      · exact ⟨_, _, rfl⟩
      · split
        · exact ⟨_, _, rfl⟩
        · exact ⟨_, _, rfl⟩
    obtain ⟨a, e, hsz⟩ := hsz
    generalize cntR g k = p at h15 h16
    obtain ⟨c, d⟩ := p
    simp only [Gm.cells, hsz, tupI] at h13 h14 h15 h16
    have hh := fun H => Ok.le (leL.cons (own_le g) (leL.cons (SV.le.refl (.agg g.cells)) leL.nil)) (ok17b (H := H) (g := g) l1 l2 l3)
    simp only [Gm.cells] at hh
    simp -implicitDefEqProofs [hv]
    refine call_go (h13 _) ?_
    simp -implicitDefEqProofs [hv]
    refine call_go (h14 _) ?_
    simp -implicitDefEqProofs [hv]
    refine call_go (h15 _) ?_
    simp -implicitDefEqProofs [hv]
    refine call_go (h16 _) ?_
    simp -implicitDefEqProofs [hv]
    refine callq_st (r := bl true) (fun _ => by simpa [SV.strip] using hh _) ?_
    simp -implicitDefEqProofs
    refine callq_st (r := bl true) (fun _ => awake_ok) ?_
    simp -implicitDefEqProofs
    exact cv_fz 1 hcl rfl (by simp)
end
end Go.Proofs.Ytbfeaikiiamhaaa.Rc

/- I1 -/
namespace Go.Proofs.Ytbfeaikiiamhaaa.Rc
open Go.Ab
def nxl (ns : List Nd) (i : Nat) : Nat := match ns[i]? with | some x => x.nx.length | none => 0
def nxS (ns : List Nd) : Nat → Nat → Nat
  | 0, _ => 0
  | n + 1, k => nxl ns k + nxS ns n (k + 1)
theorem nxS_add (ns : List Nd) : ∀ (a b k : Nat), nxS ns (a + b) k = nxS ns a k + nxS ns b (k + a)
  | 0, b, k => by simp [nxS]
  | a + 1, b, k => by rw [show a + 1 + b = (a + b) + 1 by omega, nxS, nxS, nxS_add ns a b (k + 1), show k + 1 + a = k + (a + 1) by omega]; omega
/-- Node i has the child c at place p. -/
def Eg (ns : List Nd) (i p : Nat) (c : Int) : Prop := ∃ x, ns[i]? = some x ∧ x.nx[p]? = some c
structure TreeE (ns : List Nd) (k r : Nat) : Prop where
  lt : k < r
  le : r ≤ ns.length
  tgt : ∀ i p c, k ≤ i → i < r → Eg ns i p c → (i : Int) < c ∧ c < r
  uniq : ∀ i i' p p' c, k ≤ i → i < r → k ≤ i' → i' < r → Eg ns i p c → Eg ns i' p' c → i = i' ∧ p = p'
  inc : ∀ j : Nat, k < j → j < r → ∃ i p, k ≤ i ∧ i < j ∧ Eg ns i p j
  sum : nxS ns (r - k) k + 1 = r - k
structure KidsE (ns : List Nd) (r r' : Nat) (cs : List Int) : Prop where
  le : r ≤ r'
  le2 : r' ≤ ns.length
  tgt : ∀ i p c, r ≤ i → i < r' → Eg ns i p c → (i : Int) < c ∧ c < r'
  cin : ∀ (p : Nat) (c : Int), cs[p]? = some c → (r : Int) ≤ c ∧ c < r'
  cu : ∀ (p p' : Nat) (c : Int), cs[p]? = some c → cs[p']? = some c → p = p'
  cno : ∀ (i p p' : Nat) (c : Int), r ≤ i → i < r' → Eg ns i p c → cs[p']? = some c → False
  uniq : ∀ i i' p p' c, r ≤ i → i < r' → r ≤ i' → i' < r' → Eg ns i p c → Eg ns i' p' c → i = i' ∧ p = p'
  inc : ∀ j : Nat, r ≤ j → j < r' → (∃ p : Nat, cs[p]? = some (j : Int)) ∨ ∃ i p : Nat, r ≤ i ∧ i < j ∧ Eg ns i p j
  sum : nxS ns (r' - r) r + cs.length = r' - r
theorem KidsE.nil {ns : List Nd} {r : Nat} (h : r ≤ ns.length) : KidsE ns r r [] where
  le := Nat.le_refl _
  le2 := h
  tgt := fun i p c h1 h2 => by omega
  cin := fun p c h => by simp at h
  cu := fun p p' c h => by simp at h
  cno := fun i p p' c h1 h2 => by omega
  uniq := fun i i' p p' c h1 h2 => by omega
  inc := fun j h1 h2 => by omega
  sum := by simp [nxS]
theorem KidsE.cons {ns : List Nd} {r r1 r' : Nat} {cs : List Int} (ht : TreeE ns r r1) (hk : KidsE ns r1 r' cs) : KidsE ns r r' ((r : Int) :: cs) where
  le := Nat.le_trans (Nat.le_of_lt ht.lt) hk.le
  le2 := hk.le2
  tgt := fun i p c h1 h2 he => by
    by_cases h : i < r1
    · have := ht.tgt i p c h1 h he; have := hk.le; omega
    · exact hk.tgt i p c (by omega) h2 he
  cin := fun p c h => by
    have := ht.lt; have := hk.le
    cases p with
    | zero => simp at h; omega
    | succ p => have := hk.cin p c (by simpa using h); omega
  cu := fun p p' c h h' => by
    have hl := ht.lt
    cases p with
    | zero => cases p' with
      | zero => rfl
      | succ p' => simp at h h'; have := hk.cin p' c h'; omega
    | succ p => cases p' with
      | zero => simp at h h'; have := hk.cin p c h; omega
      | succ p' => simp at h h'; have := hk.cu p p' c h h'; omega
  cno := fun i p p' c h1 h2 he h => by
    have hl := ht.lt
    by_cases hi : i < r1
    · have h3 := ht.tgt i p c h1 hi he
      cases p' with
      | zero => simp at h; omega
      | succ p' => simp at h; have := hk.cin p' c h; omega
    · have h3 := hk.tgt i p c (by omega) h2 he
      cases p' with
      | zero => simp at h; omega
      | succ p' => simp at h; exact hk.cno i p p' c (by omega) h2 he h
  uniq := fun i i' p p' c h1 h2 h3 h4 he he' => by
    by_cases hi : i < r1
    · have g1 := ht.tgt i p c h1 hi he
      by_cases hi' : i' < r1
      · exact ht.uniq i i' p p' c h1 hi h3 hi' he he'
      · have g2 := hk.tgt i' p' c (by omega) h4 he'; omega
    · have g1 := hk.tgt i p c (by omega) h2 he
      by_cases hi' : i' < r1
      · have g2 := ht.tgt i' p' c h3 hi' he'; omega
      · exact hk.uniq i i' p p' c (by omega) h2 (by omega) h4 he he'
  inc := fun j h1 h2 => by
    by_cases hj : j < r1
    · by_cases h : j = r
      · subst h; exact .inl ⟨0, rfl⟩
      · obtain ⟨i, p, g1, g2, g3⟩ := ht.inc j (by omega) hj
        exact .inr ⟨i, p, g1, g2, g3⟩
    · have hl := ht.lt
      rcases hk.inc j (by omega) h2 with ⟨p, hp⟩ | ⟨i, p, g1, g2, g3⟩
      · exact .inl ⟨p + 1, by simpa using hp⟩
      · exact .inr ⟨i, p, by omega, g2, g3⟩
  sum := by
    have h1 := ht.sum; have h2 := hk.sum; have h3 := ht.lt; have h4 := hk.le
    rw [show r' - r = (r1 - r) + (r' - r1) by omega, nxS_add, show r + (r1 - r) = r1 by omega]
    simp only [List.length_cons]; omega
theorem TreeE.node {ns : List Nd} {k r' : Nat} {x : Nd} (hx : ns[k]? = some x) (hk : KidsE ns (k + 1) r' x.nx) : TreeE ns k r' where
  lt := by have := hk.le; omega
  le := hk.le2
  tgt := fun i p c h1 h2 he => by
    by_cases h : i = k
    · subst h
      obtain ⟨y, hy, hp⟩ := he
      rw [hx] at hy; cases hy
      have := hk.cin p c hp; omega
    · exact hk.tgt i p c (by omega) h2 he
  uniq := fun i i' p p' c h1 h2 h3 h4 he he' => by
    by_cases h : i = k
    · by_cases h' : i' = k
      · subst h; subst h'
        obtain ⟨y, hy, hp⟩ := he
        obtain ⟨y', hy', hp'⟩ := he'
        rw [hx] at hy hy'; cases hy; cases hy'
        exact ⟨rfl, hk.cu p p' c hp hp'⟩
      · subst h
        obtain ⟨y, hy, hp⟩ := he
        rw [hx] at hy; cases hy
        exact (hk.cno i' p' p c (by omega) h4 he' hp).elim
    · by_cases h' : i' = k
      · subst h'
        obtain ⟨y, hy, hp⟩ := he'
        rw [hx] at hy; cases hy
        exact (hk.cno i p p' c (by omega) h2 he hp).elim
      · exact hk.uniq i i' p p' c (by omega) h2 (by omega) h4 he he'
  inc := fun j h1 h2 => by
    rcases hk.inc j (by omega) h2 with ⟨p, hp⟩ | ⟨i, p, g1, g2, g3⟩
    · exact ⟨k, p, Nat.le_refl _, by omega, x, hx, hp⟩
    · exact ⟨i, p, by omega, g2, g3⟩
  sum := by
    have h2 := hk.sum; have h4 := hk.le
    have e : nxl ns k = x.nx.length := by unfold nxl; rw [hx]
    rw [show r' - k = (r' - (k + 1)) + 1 by omega, nxS, e]; omega
theorem kids_e {ns : List Nd} {w : Nat → Int → Option Nat × Int} (hw : ∀ r m r' M, w r m = (some r', M) → TreeE ns r r') :
    ∀ (cs : List Int) (r : Nat) (m : Int) (r' : Nat) (M : Int), r ≤ ns.length → kidsR w cs r m = (some r', M) → KidsE ns r r' cs
  | [], r, m, r', M, hr, h => by
    simp only [kidsR, Prod.mk.injEq, Option.some.injEq] at h
    obtain ⟨rfl, _⟩ := h
    exact KidsE.nil hr
  | c :: cs, r, m, r', M, hr, h => by
    unfold kidsR at h
    split at h
    · rename_i hc
      subst hc
      split at h
      · simp at h
      · rename_i r1 m1 h1
        have ht := hw _ _ _ _ h1
        exact KidsE.cons ht (kids_e hw cs r1 m1 r' M ht.le h)
    · simp at h
theorem tree_e {ns : List Nd} : ∀ (f : Nat) (dep : Int) (k : Nat) (m : Int) (r' : Nat) (M : Int), walkR ns f dep k m = (some r', M) → TreeE ns k r'
  | 0, dep, k, m, r', M, h => by simp [walkR] at h
  | f + 1, dep, k, m, r', M, h => by
    unfold walkR at h
    split at h
    · simp at h
    · rename_i x hx
      exact TreeE.node hx (kids_e (fun r m r' M h => tree_e f (dep + 1) r m r' M h) x.nx (k + 1) (max m dep) r' M (getElem?_lt hx) h)
theorem game_e {g : Gm} (h : g.formR = 0) : TreeE g.ns 0 g.ns.length := by
  have hw := (form0 h).2
  have : g.wr = (some g.ns.length, g.wr.2) := Prod.ext hw rfl
  unfold Gm.wr at this
  exact tree_e _ _ _ _ _ _ this
end Go.Proofs.Ytbfeaikiiamhaaa.Rc

