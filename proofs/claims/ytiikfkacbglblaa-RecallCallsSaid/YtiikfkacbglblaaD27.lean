/-
  Steps of the proof: contracts of functions and plain facts that the statement rests on.
-/
import Derived.Test.YtiikfkacbglblaaD26
set_option linter.all false
namespace Go.Proofs.Ytiikfkacbglblaa
open Go.Ab
def rpP (n : Nat) : SV := .fn (.func 46) [] [.ptr (.own (n + 2) 0 0 0 0) 0]
def RP (g : Gm) (H : List AO) (_ : Nat) (G : List AO) (b : Bool) : Prop := ∃ L, G = H ++ L ∧ L[2]? = some ⟨[bl b], 4, 0, true⟩ ∧ L[3]? = some ⟨[g.wp, rpP H.length], 80, 0, true⟩
def nxP (_ : Bool) (f : Fl) : Bool := decide (f.k ≠ 2)
section
variable {H : List AO} {g : Gm}
theorem set_app {G : List AO} {j : Nat} (hj : H.length ≤ j) {L : List AO} (hG : G = H ++ L) (o : AO) : G.set j o = H ++ L.set (j - H.length) o := by
  subst hG
  rw [List.set_append_right _ _ hj]
theorem ok46 {c c' : Nat} {G : List AO} {b : Bool} (f : Fl) (hI : RP g H c G b) :
    OkP Try.prog 46 [.agg f.cells, .ptr (.own (H.length + 2) 0 0 0 0) 0] G fun out G' => out = .ret (bl (nxP b f)) ∧ RP g H c' G' (nxP b f) ∧ Keep G G' := by
  obtain ⟨L, rfl, h2, h3⟩ := hI
  refine okP_fn hm Try.func46 c46 (by simp) fun hcl => ?_
  have hl2 := getElem?_lt h2
  have e1 : ∀ X, objCells (L ++ X) 2 0 = [bl b] := fun X => objCells_of (o := ⟨[bl b], 4, 0, true⟩) (by rw [List.getElem?_append_left hl2]; exact h2) rfl
  have e2 : ∀ (c : List SV) X, objCells (L.set 2 (⟨c, 4, 0, true⟩ : AO) ++ X) 2 0 = c := fun c X => objCells_of (o := ⟨c, 4, 0, true⟩) (by rw [List.getElem?_append_left (by simpa using hl2), List.getElem?_set_self hl2]) rfl
  simp -implicitDefEqProofs [i46, r46, Fl.cells, setObj_old h2, e1, e2]
  refine ⟨_, _, ⟨?_, ⟨_, rfl, ?_, ?_⟩, fun j o ho ht => ?_⟩, cv_id⟩
  · simp [nxP]
  · rw [List.getElem?_append_left (by simpa using hl2), List.getElem?_set_self hl2]; simp [nxP]
  · rw [List.getElem?_append_left (by simpa using getElem?_lt h3), List.getElem?_set_ne (by omega)]; exact h3
  · by_cases hj : j < H.length
    · rw [List.getElem?_append_left hj] at ho ⊢; exact ho
    · rw [List.getElem?_append_right (by omega)] at ho ⊢
      by_cases e : 2 = j - H.length
      · rw [← e, h2] at ho; cases ho; simp at ht
      · rw [List.getElem?_append_left (by simpa using getElem?_lt ho), List.getElem?_set_ne e]; exact ho
theorem repP : Rep (rpP H.length) H.length (RP g H) nxP nxP where
  vd := rfl
  ug := rfl
  cell := rfl
  flat := rfl
  call := fun c G s f hI => okCP_of (by simpa using ok46 f hI)
  app := fun c G s o ⟨L, hG, h2, h3⟩ => ⟨L ++ [o], by rw [hG, List.append_assoc], by rw [List.getElem?_append_left (getElem?_lt h2)]; exact h2, by rw [List.getElem?_append_left (getElem?_lt h3)]; exact h3⟩
  put := fun c G s j o o' ⟨L, hG, h2, h3⟩ ho hj ht => by
    subst hG
    rw [List.getElem?_append_right hj] at ho
    refine ⟨L.set (j - H.length) o', by rw [List.set_append_right _ _ hj], ?_, ?_⟩
    · rw [List.getElem?_set_ne (fun e => by rw [e, h2] at ho; cases ho; cases ht)]; exact h2
    · rw [List.getElem?_set_ne (fun e => by rw [e, h3] at ho; cases ho; cases ht)]; exact h3
  len := fun c G s ⟨L, hG, _⟩ => by subst hG; simp
  dec := fun c G s h => h
/-- Through the sets. -/
def setsL {τ : Type} (g : Gm) (rb : τ → Fl → Bool) (rn : τ → Fl → τ) (sel : Int → Bool) (stop : Bool) : Nat → Nat → τ → τ
  | 0, _, s => s
  | f + 1, i, s =>
    match g.sets[i]?, g.is[i]? with
    | some nodes, some inf =>
      if sel inf.1 = true then
        (let r := seekS g rb rn i inf.1 (nodes.headD 0) (g.way (nodes.headD 0).toNat inf.1) nodes s
         if stop = true ∧ r.1 = false then r.2 else setsL g rb rn sel stop f (i + 1) r.2)
      else setsL g rb rn sel stop f (i + 1) s
    | _, _ => s
def Gm.perf (g : Gm) (pl : Int) : Bool := setsL g nxP nxP (fun p => decide (p = pl)) true g.is.length 0 true
theorem Wg.ne (h : Wg g) : ∀ k (hk : k < g.sets.length), g.sets[k] ≠ [] := by
  intro k hk e
  have hse := h.se
  rw [setsE_eq] at hse
  unfold Gm.setsR at hse
  split at hse
  · cases hse
  · split at hse
    · cases hse
    · rename_i h1
      exact h1 (by rw [← e]; exact List.getElem_mem hk)
theorem occ_lt {s : Nat} : ∀ {l : List Nd} {o : Nat} {a : Int}, a ∈ occ s l o → a < o + l.length
  | [], o, a, h => by simp [occ] at h
  | x :: r, o, a, h => by
    unfold occ at h
    split at h
    · rcases List.mem_cons.1 h with rfl | h
      · simp; omega
      · have := occ_lt h; simp; omega
    · have := occ_lt h; simp; omega
theorem occ_len {s : Nat} : ∀ {l : List Nd} {o : Nat}, (occ s l o).length ≤ l.length
  | [], o => by simp [occ]
  | x :: r, o => by
    unfold occ
    have := occ_len (s := s) (l := r) (o := o + 1)
    split <;> simp <;> omega
theorem sets_occ {k : Nat} (hk : k < g.sets.length) : g.sets[k] = occ k g.ns 0 := by
  have := sets_at (g := g) (s := k) (by rw [← sets_len]; exact hk)
  rwa [List.getD_eq_getElem?_getD, List.getElem?_eq_getElem hk, Option.getD_some] at this
theorem sets_mem {k : Nat} (hk : k < g.sets.length) {v : Int} (hv : v ∈ g.sets[k]) : 0 ≤ v ∧ v < g.ns.length := by
  rw [sets_occ hk] at hv
  exact ⟨occ_ge hv, by have := occ_lt hv; simpa using this⟩
theorem sets_lenk {k : Nat} (hk : k < g.sets.length) : g.sets[k].length ≤ g.ns.length := by rw [sets_occ hk]; exact occ_len
set_option maxRecDepth 10000 in
theorem loop16 (hW : Wg g) {pl : Int} {N : Nat} {K : XE → Env → List AO → Prop} {Q : Bool}
    (hexit : ∀ env L, L[2]? = some ⟨[bl Q], 4, 0, true⟩ → env.get 9 = .ptr (.own (H.length + 2) 0 0 0 0) 0 → K (.exit 0) env (H ++ L)) :
    ∀ (n i : Nat) (env : Env) (G : List AO) (s : Bool), i + n = g.is.length → RP g H 0 G s → setsL g nxP nxP (fun p => decide (p = pl)) true n i s = Q →
      env.get 1 = i64 pl → env.get 6 = g.wp → env.get 9 = .ptr (.own (H.length + 2) 0 0 0 0) 0 → env.get 10 = .ptr (.own (H.length + 3) 0 0 0 0) 0 → env.get 34 = g.setsV → env.get 35 = i64 g.is.length → env.get 36 = i64 i →
      LI Try.prog N drawB l16_0 env G K := by
  have hgi := hW.gd.i
  have hgn := hW.gd.n
  have hsl : g.sets.length = g.is.length := sets_len
  intro n
  induction n with
  | zero =>
    intro i env G s hi hR hQ h1 h6 h9 h10 h34 h35 h36
    refine li_go hm l16_0.eq_1 ?_
    have e : i = g.is.length := by omega
    subst e
    simp -implicitDefEqProofs [h35, h36]
    obtain ⟨L, rfl, h2, h3⟩ := hR
    simp only [setsL] at hQ
    subst hQ
    exact hexit _ L h2 (by simp [h9])
  | succ n ih =>
    intro i env G s hi hR hQ h1 h6 h9 h10 h34 h35 h36
    refine li_go hm l16_0.eq_1 ?_
    have hlt : i < g.is.length := by omega
    have hls : i < g.sets.length := by omega
    have w1 : IntKind.i64.wrap ((i : Int) + 1) = ((i + 1 : Nat) : Int) := wrap_succ (by omega)
    have hne := hW.ne i hls
    unfold setsL at hQ
    rw [List.getElem?_eq_getElem hlt, List.getElem?_eq_getElem hls] at hQ
    simp only at hQ
    by_cases hp : g.is[i].1 = pl
    · rw [if_pos (by simpa using hp)] at hQ
      obtain ⟨L, rfl, h2, h3⟩ := id hR
      have ec : objCells (H ++ L) (H.length + 3) 0 = [g.wp, rpP H.length] := by rw [objCells_new]; exact objCells_of h3 rfl
      simp -implicitDefEqProofs [h1, h6, h9, h10, h34, h35, h36, Gm.wp, sl, Gm.setsV, hlt, hls, slN_at hls, slN_ne hne, infs_g0 hlt, infs_len, infs_at hlt, hp, ec]
      obtain ⟨n0, hn0⟩ : ∃ n0, g.sets[i].head? = some n0 := by
        cases h : g.sets[i] with
        | nil => exact (hne h).elim
        | cons y r => exact ⟨y, rfl⟩
      have hd0 : g.sets[i].headD 0 = n0 := by rw [List.headD_eq_head?_getD, hn0]; rfl
      have h48 := ok48 (rp := rpP H.length) (R := RP g H) hW repP hlt hn0 (fun v hv => sets_mem hls hv) (by have := sets_lenk (g := g) hls; omega) (c := 0) (show RP g H _ (H ++ L) s from hR)
      rw [hp] at h48
      rw [hd0, hp] at hQ
      refine call_goP (OkP.strip (by show OkP _ _ [.agg [g.wp, rpP H.length], i64 i, .slc (ints g.sets[i]) g.sets[i].length] _ _; exact h48)) ?_
      rintro out G' ⟨rfl, hR'⟩
      generalize seekS g nxP nxP i pl n0 (g.way n0.toNat pl) g.sets[i] s = q at hR' hQ
      obtain ⟨b, s'⟩ := q
      cases b with
      | false =>
        rw [if_pos (by simp)] at hQ
        subst hQ
        simp -implicitDefEqProofs
        obtain ⟨L', rfl, h2', h3'⟩ := hR'
        exact hexit _ L' h2' (by simp [h9])
      | true =>
        rw [if_neg (by simp)] at hQ
        simp -implicitDefEqProofs [h36]
        rw [w1]
        refine ih (i + 1) _ _ _ (by omega) hR' hQ ?_ ?_ ?_ ?_ ?_ ?_ ?_
        · simp [h1]
        · simp [h6, Gm.wp, sl]
        · simp [h9]
        · simp [h10]
        · simp [h34, Gm.setsV]
        · simp [h35]
        · simp
    · rw [if_neg (by simpa using hp)] at hQ
      simp -implicitDefEqProofs [h1, h6, h9, h10, h34, h35, h36, Gm.wp, sl, Gm.setsV, hlt, hls, slN_at hls, slN_ne hne, infs_g0 hlt, infs_len, infs_at hlt, hp]
      rw [w1]
      refine ih (i + 1) _ _ _ (by omega) hR hQ ?_ ?_ ?_ ?_ ?_ ?_ ?_
      · simp [h1]
      · simp [h6, Gm.wp, sl]
      · simp [h9]
      · simp [h10]
      · simp [h34, Gm.setsV]
      · simp [h35]
      · simp
def Gm.perfE (g : Gm) (pl : Int) : Int := if g.formE ≠ 0 then g.formE else if pl < 0 ∨ g.pl ≤ pl then 2 else 0
def Gm.perfV (g : Gm) (pl : Int) : Bool := if g.perfE pl = 0 then g.perf pl else false
set_option maxRecDepth 10000 in
theorem ok16 (pl : Int) : Ok Try.prog 16 [.agg g.cells, i64 pl] H (.ret (.tup [bl (g.perfV pl), i64 (g.perfE pl)])) H := by
  refine ok_fn hm Try.func16 c16 (by simp) fun hcl => ?_
  simp -implicitDefEqProofs [i16, r16, Gm.cells]
  have hh := fun H => ok38 (H := H) (g := g)
  simp only [Gm.cells] at hh
  refine call_go (hh _) ?_
  by_cases h : g.formE = 0
  · rw [walked_ok h]
    have hW := wg_of h
    have hp1 := hW.gd.p1
    have hp4 := hW.gd.p4
    have w2 : IntKind.i64.wrap (g.pl - 1) = g.pl - 1 := wrap_id (by omega) (by omega)
    simp -implicitDefEqProofs [w2]
    refine call_go (ok45 (IsI.own0 H _ 1 0 [pl] [] 3 rfl) (by simp) 0 (g.pl - 1)) ?_
    by_cases hp : pl < 0 ∨ g.pl - 1 < pl
    · have e : within 0 (g.pl - 1) [pl] = 2 := by rw [within1, if_pos hp]
      have hE : g.perfE pl = 2 := by unfold Gm.perfE; rw [if_neg (by simpa using h), if_pos (by omega)]
      rw [e]
      simp -implicitDefEqProofs
      refine cv_fz 2 hcl rfl ?_
      simp [Gm.perfV, hE]
    · have e : within 0 (g.pl - 1) [pl] = 0 := by rw [within1, if_neg hp]
      have hE : g.perfE pl = 0 := by unfold Gm.perfE; rw [if_neg (by simpa using h), if_neg (by omega)]
      rw [e]
      have hwp : g.wp.vd = true ∧ g.wp.ug = g.wp ∧ g.wp.flat = [g.wp] ∧ g.wp.isCell = true := ⟨rfl, rfl, rfl, rfl⟩
      simp -implicitDefEqProofs [hwp.1, hwp.2.1, hwp.2.2.1, hwp.2.2.2]
      refine ⟨by simp [partOk, Gm.wp], call_go (ok47 hW.gd) ?_⟩
      simp -implicitDefEqProofs [Gm.setsV]
      refine loop16 (g := g) hW (pl := pl) (Q := g.perf pl) (fun env L h2 h9 => ?_) g.is.length 0 _ _ true (by omega) ⟨_, rfl, rfl, rfl⟩ rfl (by simp) (by simp) (by simp) (by simp) (by simp [Gm.setsV]) (by simp) (by simp)
      have ec : objCells (H ++ L) (H.length + 2) 0 = [bl (g.perf pl)] := by rw [objCells_new]; exact objCells_of h2 rfl
      simp -implicitDefEqProofs [h9, ec]
      refine cv_fz 2 hcl rfl ?_
      simp [Gm.perfV, hE]
  · obtain ⟨p, e, _⟩ := walked_err h
    rw [e]
    have hE : g.perfE pl = g.formE := by unfold Gm.perfE; rw [if_pos h]
    simp -implicitDefEqProofs [h]
    refine cv_fz 2 hcl rfl ?_
    simp [Gm.perfV, hE, h]
end
end Go.Proofs.Ytiikfkacbglblaa
