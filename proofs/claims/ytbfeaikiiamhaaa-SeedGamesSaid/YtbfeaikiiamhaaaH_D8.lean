/-
  Steps of the proof: contracts of functions and plain facts that the statement rests on.
-/
import Derived.Test.YtbfeaikiiamhaaaH_D7
import Derived.Test.YtbfeaikiiamhaaaCore4
set_option linter.all false
namespace Go.Proofs.Ytbfeaikiiamhaaa.Rc
open Go.Ab
def Gm.rng (g : Gm) : Prop := ((((g.pl < 1 ∨ 4 < g.pl) ∨ (g.ns.length : Int) < 1) ∨ 2000 < (g.ns.length : Int)) ∨ 200 < (g.is.length : Int))
instance (g : Gm) : Decidable g.rng := by unfold Gm.rng; infer_instance
def nodesE (g : Gm) : List Nd → Int
  | [] => 0
  | x :: r => if x.err g = 0 then nodesE g r else x.err g
def Gm.w0 (g : Gm) : W3 := ⟨List.replicate g.ns.length 0, List.replicate g.ns.length 0, List.replicate g.ns.length 0⟩
def Gm.wk (g : Gm) : Option Nat × W3 := walkS g.ns (g.ns.length + 1) (-1) 0 0 g.w0
/-- The error before the sets are looked at. -/
def Gm.err0 (g : Gm) : Int := if g.rng then 2 else if nodesE g g.ns ≠ 0 then nodesE g g.ns else if g.wk.1 ≠ some g.ns.length then 9 else if 40 < maxL g.wk.2.D then 5 else 0
/-- The walker that is found. -/
def Gm.wp (g : Gm) : SV := .ptr (.slc [i64 g.pl, .slc (nds g.ns) g.ns.length, .slc (infs g.is) g.is.length, sl g.wk.2.P, sl g.wk.2.D, sl g.wk.2.L] 0) 0
def Gm.walked (g : Gm) : SV := if g.err0 ≠ 0 then .tup [.val (.pointer none), i64 g.err0] else .tup [g.wp, i64 g.setsE]
def gbox (g : Gm) : AO := ⟨[i64 g.pl, .slc (nds g.ns) g.ns.length, .slc (infs g.is) g.is.length], 25, 0, true⟩
def wbox (g : Gm) (a b c : SV) : AO := ⟨[i64 g.pl, .slc (nds g.ns) g.ns.length, .slc (infs g.is) g.is.length, a, b, c], 101, 0, true⟩
abbrev nl : SV := .val (.slice none 0 0)
theorem nds_under (n : Nat) : ∀ l : List Nd, SV.underL n (nds l) = true
  | [] => rfl
  | x :: r => by rw [nds, SV.underL_append, nds_under n r]; simp [Nd.cells, sl]
theorem infs_under (n : Nat) : ∀ l : List (Int × Int), SV.underL n (infs l) = true
  | [] => rfl
  | x :: r => by simp [infs, infs_under n r]
theorem fz_mapU {n : Nat} {ks : List Nat} {L : List AO} {d : Nat} {l : List SV} (h : SV.underL n l = true) : l.map (SV.fz n ks L (d + 1)) = l := by
  rw [SV.underL_iff] at h
  conv => rhs; rw [← List.map_id l]
  exact List.map_congr_left fun x hx => fz_under (h x hx)
@[simp] theorem fz_nds (n : Nat) (ks : List Nat) (L : List AO) (d : Nat) (l : List Nd) : (nds l).map (SV.fz n ks L (d + 1)) = nds l := fz_mapU (nds_under n l)
@[simp] theorem fz_infs (n : Nat) (ks : List Nat) (L : List AO) (d : Nat) (l : List (Int × Int)) : (infs l).map (SV.fz n ks L (d + 1)) = infs l := fz_mapU (infs_under n l)
section
variable {H : List AO} {g : Gm}
theorem wk_box {M : List AO} {a b c : SV} : Wk (H ++ gbox g :: wbox g a b c :: M) (H.length + 1) g a b c := ⟨by simp [wbox], by simp⟩
set_option maxRecDepth 10000 in
theorem loop38_0 (h1 : 1 ≤ g.pl) (h4 : g.pl ≤ 4) (h5 : g.is.length ≤ 200) (hn : g.ns.length ≤ 2000) {N : Nat} {K : XE → Env → List AO → Prop}
    (hret : nodesE g g.ns ≠ 0 → ∀ env M, env.get 2 = .val (.pointer none) → env.get 3 = i64 (nodesE g g.ns) → K .ret env (H ++ gbox g :: wbox g nl nl nl :: M))
    (hexit : (∀ x ∈ g.ns, x.err g = 0) → nodesE g g.ns = 0 → ∀ env M, env.get 1 = .ptr (.own H.length 0 0 0 0) 0 → env.get 4 = .ptr (.own (H.length + 1) 0 0 0 0) 0 → K (.exit 0) env (H ++ gbox g :: wbox g nl nl nl :: M)) :
    ∀ (n i : Nat) (env : Env) (M : List AO), i + n = g.ns.length → (∀ k (h : k < g.ns.length), k < i → g.ns[k].err g = 0) → nodesE g (g.ns.drop i) = nodesE g g.ns →
      env.get 1 = .ptr (.own H.length 0 0 0 0) 0 → env.get 4 = .ptr (.own (H.length + 1) 0 0 0 0) 0 → env.get 40 = .slc (nds g.ns) g.ns.length → env.get 41 = i64 g.ns.length → env.get 42 = i64 i →
      LI Try.prog N drawB l49_0 env (H ++ gbox g :: wbox g nl nl nl :: M) K := by
  intro n
  induction n with
  | zero =>
    intro i env M hi hp hE h1 h4 h40 h41 h42
    refine li_go hm l49_0.eq_1 ?_
    have e : i = g.ns.length := by omega
    subst e
    simp -implicitDefEqProofs [h41, h42]
    rw [List.drop_length] at hE
    refine hexit ?_ hE.symm _ _ (by simp [h1]) (by simp [h4])
    intro x hx
    obtain ⟨k, hk, rfl⟩ := List.getElem_of_mem hx
    exact hp k hk hk
  | succ n ih =>
    intro i env M hi hp hE e1 e4 h40 h41 h42
    refine li_go hm l49_0.eq_1 ?_
    have hlt : i < g.ns.length := by omega
    have w1 : IntKind.i64.wrap ((i : Int) + 1) = ((i + 1 : Nat) : Int) := wrap_succ (by omega)
    rw [List.drop_eq_getElem_cons hlt, nodesE] at hE
    simp -implicitDefEqProofs [e1, e4, h40, h41, h42, hlt, nds_at hlt, nds_min hlt, nds_ge hlt, sl]
    refine call_go (ok59 (x := g.ns[i]) (wk_box (g := g) (a := nl) (b := nl) (c := nl)) h1 h4 h5) ?_
    by_cases hc : g.ns[i].err g = 0
    · rw [if_pos hc] at hE
      simp -implicitDefEqProofs [hc, h42]
      rw [w1]
      refine ih (i + 1) _ _ (by omega) ?_ hE ?_ ?_ ?_ ?_ ?_
      rotate_left
      · simp [e1]
      · simp [e4]
      · simp [h40]
      · simp [h41]
      · simp
      intro k hk hki
      by_cases e : k = i
      · subst e; exact hc
      · exact hp k hk (by omega)
    · rw [if_neg hc] at hE
      simp -implicitDefEqProofs [hc]
      refine hret ?_ _ _ (by simp) (by simp [hE])
      rw [← hE]; exact hc
theorem nx_of {x : Nd} (h : x.err g = 0) : x.nx.length ≤ 60 := by
  unfold Nd.err at h
  split at h
  · omega
  · split at h
    · unfold Nd.chance at h
      split at h <;> omega
    · split at h
      · unfold Nd.move at h
        split at h <;> omega
      · unfold Nd.end at h
        split at h <;> omega
theorem upd_rows {M : List AO} {A B x y z : AO} {s : W3} :
    upd (H ++ A :: B :: (M ++ [x, y, z])) (H.length + (M.length + 1 + 1)) (H.length + (M.length + 1 + 1 + 1)) (H.length + (M.length + 1 + 1 + 1 + 1)) s = H ++ A :: B :: (M ++ [rr s.P, rr s.D, rr s.L]) := by
  simp [upd]
set_option maxRecDepth 10000 in
theorem ok49 : Ok Try.prog 49 [.agg g.cells] H (.ret g.walked) H := by
  refine ok_fn hm Try.func49 c49 (by simp [Gm.cells]) fun hcl => ?_
  simp -implicitDefEqProofs [i49, r49, Gm.cells]
  have hR : g.rng = (((((g.pl < 1 ∨ 4 < g.pl) ∨ (g.ns.length : Int) < 1) ∨ 2000 < (g.ns.length : Int)) ∨ 200 < (g.is.length : Int))) := rfl
  split
  · rename_i hc
    refine cv_fz 2 hcl rfl ?_
    simp [Gm.walked, Gm.err0, hR, hc]
  · rename_i hc
    refine ⟨rfl, ?_⟩
    have g1 : 1 ≤ g.pl := by omega
    have g4 : g.pl ≤ 4 := by omega
    have gi : g.is.length ≤ 200 := by omega
    have gn : g.ns.length ≤ 2000 := by omega
    have gn1 : 1 ≤ g.ns.length := by omega
    refine loop38_0 (g := g) g1 g4 gi gn (fun hE env M e2 e3 => ?_) (fun hE hE' env M e1 e4 => ?_) g.ns.length 0 _ [] (by omega) (by omega) (by simp) (by simp) (by simp) (by simp) (by simp) (by simp)
    · simp -implicitDefEqProofs [e2, e3]
      refine cv_fz 2 hcl rfl ?_
      simp [Gm.walked, Gm.err0, hR, hc, hE]
    · have hG : Gd g := ⟨g1, g4, gn1, gn, gi, hE⟩
      simp -implicitDefEqProofs [e1, e4, gbox, wbox]
      refine ⟨by omega, by omega, by omega, by omega, by omega, by omega, ?_⟩
      have ez : (⟨List.replicate g.ns.length (i64 0), 3, 1, true⟩ : AO) = rr (List.replicate g.ns.length 0) := by simp [rr, ints]
      rw [ez]
      generalize hHx : H ++ (⟨[i64 g.pl, SV.slc (nds g.ns) g.ns.length, SV.slc (infs g.is) g.is.length], 25, 0, true⟩ : AO) :: (⟨[i64 g.pl, SV.slc (nds g.ns) g.ns.length, SV.slc (infs g.is) g.is.length,
        SV.own (H.length + (M.length + 1 + 1)) 0 g.ns.length 1 1, SV.own (H.length + (M.length + 1 + 1 + 1)) 0 g.ns.length 1 1, SV.own (H.length + (M.length + 1 + 1 + 1 + 1)) 0 g.ns.length 1 1], 101, 0, true⟩ : AO) ::
          (M ++ [rr (List.replicate g.ns.length 0), rr (List.replicate g.ns.length 0), rr (List.replicate g.ns.length 0)]) = Hx
      have hup : ∀ s, upd Hx (H.length + (M.length + 1 + 1)) (H.length + (M.length + 1 + 1 + 1)) (H.length + (M.length + 1 + 1 + 1 + 1)) s =
          H ++ gbox g :: wbox g (.own (H.length + (M.length + 1 + 1)) 0 g.ns.length 1 1) (.own (H.length + (M.length + 1 + 1 + 1)) 0 g.ns.length 1 1) (.own (H.length + (M.length + 1 + 1 + 1 + 1)) 0 g.ns.length 1 1) :: (M ++ [rr s.P, rr s.D, rr s.L]) :=
        fun s => by rw [← hHx]; exact upd_rows
      have h0 : upd Hx (H.length + (M.length + 1 + 1)) (H.length + (M.length + 1 + 1 + 1)) (H.length + (M.length + 1 + 1 + 1 + 1)) g.w0 = Hx := by rw [hup, ← hHx]; rfl
      have hWh : Wh Hx (H.length + 1) g (H.length + (M.length + 1 + 1)) (H.length + (M.length + 1 + 1 + 1)) (H.length + (M.length + 1 + 1 + 1 + 1)) := by
        refine ⟨⟨by rw [← hHx]; simp, by rw [← hHx]; simp⟩, ⟨by omega, by omega, by rw [← hHx]; simp⟩, by omega, by omega, by omega, gn, fun x hx => ?_⟩
        have := nx_of (hE x hx); omega
      have ok := ok60 hWh (g.ns.length + 1) (-1) 0 0 g.w0 (by omega) (by omega) (by omega) (by omega) ⟨by simp [Gm.w0], by simp [Gm.w0], by simp [Gm.w0]⟩
      have hwok := walkS_ok (ns := g.ns) (g.ns.length + 1) (-1) 0 0 g.w0 ⟨by simp [Gm.w0], by simp [Gm.w0], by simp [Gm.w0]⟩
      rw [h0] at ok
      refine call_go ok ?_
      have hW : walkS g.ns (g.ns.length + 1) (-1) 0 0 g.w0 = g.wk := rfl
      rw [hW] at hwok ⊢
      have hwp : g.walked = if (if g.wk.1 ≠ some g.ns.length then (9 : Int) else if 40 < maxL g.wk.2.D then 5 else 0) ≠ 0 then .tup [.val (.pointer none), i64 (if g.wk.1 ≠ some g.ns.length then (9 : Int) else if 40 < maxL g.wk.2.D then 5 else 0)] else .tup [g.wp, i64 g.setsE] := by
        unfold Gm.walked Gm.err0
        rw [if_neg (show ¬ g.rng by rw [hR]; exact hc), if_neg (show ¬ nodesE g g.ns ≠ 0 by simpa using hE')]
      cases hk : g.wk.1 with
      | none =>
        rw [hk] at hwp
        simp -implicitDefEqProofs [resW]
        rw [hup]
        refine cv_fz 2 hcl rfl ?_
        rw [hwp]; simp
      | some r =>
        rw [hk] at hwp hwok
        have hr := hwok.2 r rfl
        by_cases hrn : r = g.ns.length
        · subst hrn
          simp -implicitDefEqProofs [resW, nds, e1, e4, hWh.cells]
          have hI : IsI (upd Hx (H.length + (M.length + 1 + 1)) (H.length + (M.length + 1 + 1 + 1)) (H.length + (M.length + 1 + 1 + 1 + 1)) g.wk.2) (.own (H.length + (M.length + 1 + 1 + 1)) 0 g.ns.length 1 1) g.wk.2.D := by
            rw [hup]
            have := IsI.own0 H (gbox g :: wbox g (.own (H.length + (M.length + 1 + 1)) 0 g.ns.length 1 1) (.own (H.length + (M.length + 1 + 1 + 1)) 0 g.ns.length 1 1) (.own (H.length + (M.length + 1 + 1 + 1 + 1)) 0 g.ns.length 1 1) :: (M ++ [rr g.wk.2.P, rr g.wk.2.D, rr g.wk.2.L])) (M.length + 1 + 1 + 1) 1 g.wk.2.D [] 3 (by simp [rr])
            rwa [hwok.1.2.1] at this
          refine call_go (ok61 hI (by rw [hwok.1.2.1]; omega) (by rw [hwok.1.2.1]; omega)) ?_
          by_cases hm40 : 40 < maxL g.wk.2.D
          · simp -implicitDefEqProofs [hm40]
            rw [hup]
            refine cv_fz 2 hcl rfl ?_
            rw [hwp]; simp [hm40]
          · simp -implicitDefEqProofs [hm40, e1, e4]
            have hWk : Wk (upd Hx (H.length + (M.length + 1 + 1)) (H.length + (M.length + 1 + 1 + 1)) (H.length + (M.length + 1 + 1 + 1 + 1)) g.wk.2) (H.length + 1) g _ _ _ := ⟨hWh.cells _, by rw [upd_len]; exact hWh.w.lt⟩
            refine call_go (ok62 hWk hG) ?_
            simp -implicitDefEqProofs
            rw [hup]
            refine cv_fz 4 hcl rfl ?_
            rw [hwp]
            have k1 := hwok.1.1
            have k2 := hwok.1.2.1
            have k3 := hwok.1.2.2
            simp [hm40, gbox, wbox, rr, Gm.wp, sl, k1, k2, k3]
        · simp -implicitDefEqProofs [resW, show ¬ g.ns.length - r = 0 by omega, show 0 < g.ns.length - r by omega]
          rw [hup]
          refine cv_fz 2 hcl rfl ?_
          rw [hwp]; simp [hrn]
end
end Go.Proofs.Ytbfeaikiiamhaaa.Rc

