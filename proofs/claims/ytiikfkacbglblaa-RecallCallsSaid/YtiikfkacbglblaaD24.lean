/-
  Steps of the proof: contracts of functions and plain facts that the statement rests on.
-/
import Derived.Test.YtiikfkacbglblaaD23
set_option linter.all false
namespace Go.Proofs.Ytiikfkacbglblaa
open Go.Ab
def wv (l : List (Int × Int)) : SV := if l = [] then nl else .slc (infs l) l.length
def Gm.up (g : Gm) (node : Nat) (pl : Int) : List (Int × Int) := abv g pl (fun _ _ _ => true) (fun l k a => l ++ [(infoAt g k, a)]) g.ns.length node []
def Gm.way (g : Gm) (node : Nat) (pl : Int) : List (Int × Int) := (g.up node pl).reverse
@[simp] theorem fz_infsT (n : Nat) (ks : List Nat) (L : List AO) (d : Nat) (l : List (Int × Int)) : (infs l).map (SV.fz n ks L (d + 1)) = infs l := fz_mapU (infs_under n l)
section
variable {H : List AO} {g : Gm}
set_option maxRecDepth 10000 in
theorem ok50 (hW : Wg g) {node : Nat} (hn : node < g.ns.length) (pl : Int) : Ok Try.prog 50 [g.wp, i64 node, i64 pl] H (.ret (wv (g.way node pl))) H := by
  have hgn := hW.gd.n
  refine ok_fn hm Try.func50 c50 (by simp) fun hcl => ?_
  have hwp : g.wp.vd = true ∧ g.wp.ug = g.wp ∧ g.wp.flat = [g.wp] ∧ g.wp.isCell = true := ⟨rfl, rfl, rfl, rfl⟩
  simp -implicitDefEqProofs [i50, r50, hwp.1, hwp.2.1, hwp.2.2.1, hwp.2.2.2]
  have h67 := ok67 (g := g) (σ := List (Int × Int)) (Inv := WayI g H) (vf := .fn (.func 70) [] [.ptr (.own (H.length + 1) 0 0 0 0) 0, .ptr (.own H.length 0 0 0 0) 0]) (nb := fun _ _ _ => true) (nx := fun l k a => l ++ [(infoAt g k, a)]) (pl := pl) hW ⟨rfl, rfl⟩
    (fun m G s k a hkm hm' hI => okCP_of (by simpa using ok70 hI (by omega) hkm hgn a))
    (fun m G s o hI => by
      obtain ⟨hb, L, c, rfl, hc⟩ := hI
      refine ⟨hb, L ++ [o], c, by simp, ?_⟩
      rcases hc with h | ⟨h1, p, h2, h3⟩
      · exact .inl h
      · exact .inr ⟨h1, p, h2, by rw [List.getElem?_append_left (getElem?_lt h3)]; exact h3⟩)
    (fun m k G s hkm hI => ⟨by have := hI.1; omega, hI.2⟩) (G := H ++ [⟨[g.wp], 67, 0, true⟩, ⟨[nl], 43, 0, true⟩]) (s := []) (node := node) hn ⟨by simp; omega, [], nl, rfl, .inl ⟨rfl, rfl⟩⟩
  refine call_goP h67 (fun out G' hP => ?_)
  obtain ⟨rfl, m, hb, L, c, rfl, hc⟩ := hP
  have hup : abv g pl (fun _ _ _ => true) (fun l k a => l ++ [(infoAt g k, a)]) g.ns.length node [] = g.up node pl := rfl
  rw [hup] at hb hc
  rcases hc with ⟨h0, rfl⟩ | ⟨hne, p, rfl, hp⟩
  · have hw : wv (g.way node pl) = nl := by unfold wv Gm.way; rw [h0]; rfl
    rw [hw]
    simp -implicitDefEqProofs
    refine call_go ok71n ?_
    simp -implicitDefEqProofs
    exact cv_fz 2 hcl rfl (by simp)
  · have hw : wv (g.way node pl) = .slc (infs (g.up node pl).reverse) (g.up node pl).length := by
      unfold wv Gm.way; rw [if_neg (by simpa using hne)]; simp
    rw [hw]
    simp -implicitDefEqProofs
    have hL : L.set p (prow (g.up node pl) (g.up node pl).length) = L := by
      apply List.ext_getElem?
      intro i
      by_cases h : p = i
      · subst h; rw [List.getElem?_set_self (getElem?_lt hp), hp]; rfl
      · rw [List.getElem?_set_ne h]
    have hset : ∀ (A B o : AO), (H ++ A :: B :: L).set (H.length + (p + 1 + 1)) o = H ++ A :: B :: L.set p o := fun A B o => by simp
    have h71 := ok71 (G := H ++ (⟨[g.wp], 67, 0, true⟩ : AO) :: ⟨[.own (H.length + (p + 1 + 1)) 0 (g.up node pl).length 2 (g.up node pl).length], 43, 0, true⟩ :: L) (q := H.length + (p + 1 + 1)) (v := (g.up node pl).length) (by have := getElem?_lt hp; simp; omega) (l := g.up node pl) (by omega)
    rw [hset, hset, hL] at h71
    refine call_go h71 ?_
    simp -implicitDefEqProofs
    refine cv_fz 3 hcl rfl ?_
    have hpl := getElem?_lt hp
    simp [hpl, prow, infs_len, Nat.mul_comm]
    exact List.take_of_length_le (by rw [infs_len, List.length_reverse]; omega)
def Gm.wayE (g : Gm) (node pl : Int) : Int := if g.formE ≠ 0 then g.formE else if node < 0 ∨ g.ns.length ≤ node ∨ pl < 0 ∨ g.pl ≤ pl then 2 else 0
def Gm.wayV (g : Gm) (node pl : Int) : SV := if g.wayE node pl = 0 then .tup [wv (g.way node.toNat pl), i64 0] else .tup [nl, i64 (g.wayE node pl)]
theorem wv_under {n : Nat} {l : List (Int × Int)} : (wv l).under n = true := by
  unfold wv; split
  · rfl
  · exact infs_under n l
set_option maxRecDepth 10000 in
theorem ok18 (node pl : Int) : Ok Try.prog 18 [.agg g.cells, i64 node, i64 pl] H (.ret (g.wayV node pl)) H := by
  refine ok_fn hm Try.func18 c18 (by simp) fun hcl => ?_
  simp -implicitDefEqProofs [i18, r18, Gm.cells]
  have hh := fun H => ok38 (H := H) (g := g)
  simp only [Gm.cells] at hh
  refine call_go (hh _) ?_
  by_cases h : g.formE = 0
  · rw [walked_ok h]
    have hW := wg_of h
    have hgn := hW.gd.n
    have hp1 := hW.gd.p1
    have hp4 := hW.gd.p4
    have w1 : IntKind.i64.wrap ((g.ns.length : Int) - 1) = (g.ns.length : Int) - 1 := wrap_id (by omega) (by omega)
    have w2 : IntKind.i64.wrap (g.pl - 1) = g.pl - 1 := wrap_id (by omega) (by omega)
    simp -implicitDefEqProofs [w1, w2]
    refine call_go (ok45 (IsI.own0 H _ 1 0 [node] [] 3 rfl) (by simp) 0 (g.ns.length - 1)) ?_
    by_cases hn : node < 0 ∨ (g.ns.length : Int) - 1 < node
    · have e : within 0 ((g.ns.length : Int) - 1) [node] = 2 := by rw [within1, if_pos hn]
      have hl : g.wayV node pl = .tup [nl, i64 2] := by
        have : g.wayE node pl = 2 := by unfold Gm.wayE; rw [if_neg (by simpa using h), if_pos (by omega)]
        unfold Gm.wayV; rw [this]; rfl
      rw [e, hl]
      simp -implicitDefEqProofs [w2]
      refine callq_off _ _ _ _ ?_
      simp -implicitDefEqProofs
      exact cv_fz 2 hcl rfl (by simp)
    · have e : within 0 ((g.ns.length : Int) - 1) [node] = 0 := by rw [within1, if_neg hn]
      rw [e]
      simp -implicitDefEqProofs [w2]
      refine callq_st (fun _ => ok45 (x := .own (H.length + 2) 0 1 1 0) (IsI.own0 H _ 2 0 [pl] [] 3 rfl) (by simp) 0 (g.pl - 1)) ?_
      by_cases hp : pl < 0 ∨ g.pl - 1 < pl
      · have e : within 0 (g.pl - 1) [pl] = 2 := by rw [within1, if_pos hp]
        have hl : g.wayV node pl = .tup [nl, i64 2] := by
          have : g.wayE node pl = 2 := by unfold Gm.wayE; rw [if_neg (by simpa using h), if_pos (by omega)]
          unfold Gm.wayV; rw [this]; rfl
        rw [e, hl]
        simp -implicitDefEqProofs
        exact cv_fz 2 hcl rfl (by simp)
      · have e : within 0 (g.pl - 1) [pl] = 0 := by rw [within1, if_neg hp]
        have hl : g.wayV node pl = .tup [wv (g.way node.toNat pl), i64 0] := by
          have : g.wayE node pl = 0 := by unfold Gm.wayE; rw [if_neg (by simpa using h), if_neg (by omega)]
          unfold Gm.wayV; rw [this]; rfl
        rw [e, hl]
        simp -implicitDefEqProofs
        have hno : node = ((node.toNat : Nat) : Int) := by omega
        have h50 := fun H => ok50 (H := H) hW (node := node.toNat) (by omega) pl
        rw [← hno] at h50
        refine call_go (h50 _) ?_
        simp -implicitDefEqProofs
        have hf : ∀ L d, SV.fz H.length [] L (d + 1) (wv (g.way node.toNat pl)) = wv (g.way node.toNat pl) := fun L d => fz_under wv_under
        exact cv_fz 2 hcl rfl (by simp [hf])
  · obtain ⟨p, e, _⟩ := walked_err h
    rw [e]
    simp -implicitDefEqProofs [h]
    refine cv_fz 2 hcl rfl ?_
    have : g.wayE node pl = g.formE := by unfold Gm.wayE; rw [if_pos h]
    simp [Gm.wayV, this, h]
end
end Go.Proofs.Ytiikfkacbglblaa
