/-
  Steps of the proof: contracts of functions and plain facts that the statement rests on.
-/
import Derived.Test.YtbfeaikiiamhaaaH_D12
import Derived.Test.YtbfeaikiiamhaaaH_D13
set_option linter.all false
namespace Go.Proofs.Ytbfeaikiiamhaaa.Rc
open Go.Ab
/-- Cells of nodes whose rows are our own. -/
def NO (b : Nat) (M : List AO) : List Nd → List SV → Prop
  | [], cs => cs = []
  | x :: r, cs => ∃ p1 p2 p3 rest, cs = i64 x.k :: i64 x.p :: i64 x.i :: .own (b + p1) 0 x.nx.length 1 2 :: .own (b + p2) 0 x.ws.length 1 2 :: .own (b + p3) 0 x.ps.length 1 2 :: rest ∧
      M[p1]? = some (⟨ints x.nx, 3, 2, true⟩ : AO) ∧ M[p2]? = some (⟨ints x.ws, 3, 2, true⟩ : AO) ∧ M[p3]? = some (⟨ints x.ps, 3, 2, true⟩ : AO) ∧ NO b M r rest
theorem NO.mono {b : Nat} {M M' : List AO} (h : ∀ (p : Nat) (l : List Int), M[p]? = some (⟨ints l, 3, 2, true⟩ : AO) → M'[p]? = some (⟨ints l, 3, 2, true⟩ : AO)) : ∀ {l : List Nd} {cs : List SV}, NO b M l cs → NO b M' l cs
  | [], cs, hn => hn
  | x :: r, cs, ⟨p1, p2, p3, rest, h0, h1, h2, h3, h4⟩ => ⟨p1, p2, p3, rest, h0, h _ _ h1, h _ _ h2, h _ _ h3, NO.mono h h4⟩
theorem NO.snoc {b : Nat} {M : List AO} {x : Nd} {p1 p2 p3 : Nat} (h1 : M[p1]? = some ⟨ints x.nx, 3, 2, true⟩) (h2 : M[p2]? = some ⟨ints x.ws, 3, 2, true⟩) (h3 : M[p3]? = some ⟨ints x.ps, 3, 2, true⟩) :
    ∀ {l : List Nd} {cs : List SV}, NO b M l cs → NO b M (l ++ [x]) (cs ++ [i64 x.k, i64 x.p, i64 x.i, .own (b + p1) 0 x.nx.length 1 2, .own (b + p2) 0 x.ws.length 1 2, .own (b + p3) 0 x.ps.length 1 2])
  | [], cs, hn => by
    cases hn
    exact ⟨p1, p2, p3, [], rfl, h1, h2, h3, rfl⟩
  | y :: r, cs, ⟨q1, q2, q3, rest, h0, k1, k2, k3, h4⟩ => by
    subst h0
    exact ⟨q1, q2, q3, _, rfl, k1, k2, k3, NO.snoc h1 h2 h3 h4⟩
theorem NO.len {b : Nat} {M : List AO} : ∀ {l : List Nd} {cs : List SV}, NO b M l cs → cs.length = 6 * l.length
  | [], cs, hn => by cases hn; rfl
  | x :: r, cs, ⟨p1, p2, p3, rest, h0, h1, h2, h3, h4⟩ => by subst h0; simp [NO.len h4]; omega
theorem NO.cell {b : Nat} {M : List AO} : ∀ {l : List Nd} {cs : List SV}, NO b M l cs → cellsOk cs
  | [], cs, hn => by cases hn; intro s hs; simp at hs
  | x :: r, cs, ⟨p1, p2, p3, rest, h0, h1, h2, h3, h4⟩ => by
    subst h0
    intro s hs
    simp only [List.mem_cons] at hs
    rcases hs with rfl | rfl | rfl | rfl | rfl | rfl | hs
    · rfl
    · rfl
    · rfl
    · rfl
    · rfl
    · rfl
    · exact NO.cell h4 s hs
theorem NO.fz {b n k d : Nat} {M F : List AO} (hb : b = n + k) (hF : ∀ p, F[k + p]? = M[p]?) : ∀ {l : List Nd} {cs : List SV}, NO b M l cs → cs.map (SV.fz n [] F (d + 2)) = nds l
  | [], cs, hn => by cases hn; rfl
  | x :: r, cs, ⟨p1, p2, p3, rest, h0, h1, h2, h3, h4⟩ => by
    subst h0
    have e : ∀ p, b + p = n + (k + p) := fun p => by omega
    simp only [List.map_cons, NO.fz hb hF h4, nds, Nd.cells, e, fz_own, hF, h1, h2, h3, placeOf, fz_i64]
    simp [sl]
section
variable {H : List AO} {g : Gm}
theorem len_addn (H : List AO) (k n : Nat) : H.length + k + n = H.length + (k + n) := Nat.add_assoc ..
theorem infs_cell : ∀ l : List (Int × Int), cellsOk (infs l)
  | [] => fun s hs => by simp [infs] at hs
  | x :: r => fun s hs => by
    simp only [infs, List.mem_cons] at hs
    rcases hs with rfl | rfl | hs
    · rfl
    · rfl
    · exact infs_cell r s hs
def nodesV (b i : Nat) : SV := if i = 0 then nl else .own b 0 i 6 i
set_option maxRecDepth 10000 in
theorem loop11 (hn : g.ns.length ≤ 100000) (hx : ∀ x ∈ g.ns, x.nx.length * 8 ≤ 140737488352000 ∧ x.ws.length * 8 ≤ 140737488352000 ∧ x.ps.length * 8 ≤ 140737488352000) {N : Nat} {K : XE → Env → List AO → Prop} {B C : AO}
    (hexit : ∀ env M, (g.ns.length = 0 ∨ ∃ cs, M[5]? = some ⟨cs, 39, g.ns.length, true⟩ ∧ NO (H.length + 4) M g.ns cs) → env.get 2 = .ptr (.own (H.length + 1) 0 0 0 0) 0 → env.get 3 = .ptr (.own (H.length + 3) 0 0 0 1) 0 →
      K (.exit 0) env (H ++ gbox g :: B :: C :: ⟨[i64 g.pl, nodesV (H.length + 9) g.ns.length, .own (H.length + 2) 0 g.is.length 2 2], 25, 1, true⟩ :: M)) :
    ∀ (n i : Nat) (env : Env) (M : List AO), i + n = g.ns.length → ((i = 0 ∧ M = []) ∨ (0 < i ∧ ∃ cs, M[5]? = some ⟨cs, 39, i, true⟩ ∧ NO (H.length + 4) M (g.ns.take i) cs)) →
      env.get 1 = .ptr (.own H.length 0 0 0 0) 0 → env.get 2 = .ptr (.own (H.length + 1) 0 0 0 0) 0 → env.get 3 = .ptr (.own (H.length + 3) 0 0 0 1) 0 → env.get 4 = i64 i →
      LI Try.prog N drawB l12_0 env (H ++ gbox g :: B :: C :: ⟨[i64 g.pl, nodesV (H.length + 9) i, .own (H.length + 2) 0 g.is.length 2 2], 25, 1, true⟩ :: M) K := by
  intro n
  induction n with
  | zero =>
    intro i env M hi hM h1 h2 h3 h4
    refine li_go hm l12_0.eq_1 ?_
    have e : i = g.ns.length := by omega
    subst e
    simp -implicitDefEqProofs [h1, h4, gbox]
    refine hexit _ _ ?_ (by simp [h2]) (by simp [h3])
    rcases hM with ⟨h, _⟩ | ⟨_, cs, h, h'⟩
    · exact .inl h
    · exact .inr ⟨cs, h, by rwa [List.take_length] at h'⟩
  | succ n ih =>
    intro i env M hi hM h1 h2 h3 h4
    refine li_go hm l12_0.eq_1 ?_
    have hlt : i < g.ns.length := by omega
    have hxi := hx _ (List.getElem_mem hlt)
    have w1 : IntKind.i64.wrap ((i : Int) + 1) = ((i + 1 : Nat) : Int) := wrap_succ (by omega)
    have htake : g.ns.take (i + 1) = g.ns.take i ++ [g.ns[i]] := List.take_succ_eq_append_getElem hlt
    rcases hM with ⟨rfl, rfl⟩ | ⟨hi0, cs, hM5, hNO⟩
    · simp -implicitDefEqProofs [h1, h3, h4, gbox, hlt, nds_at hlt, nds_min hlt, nds_ge hlt, sl, nodesV]
      refine ⟨by omega, by omega, by omega, by omega, by omega, by omega, ?_⟩
      refine ih 1 _ _ (by omega) (.inr ⟨by omega, _, by rfl, ?_⟩) ?_ ?_ ?_ ?_
      · rw [htake]
        have := NO.snoc (b := H.length + 4) (M := [⟨[i64 g.ns[0].k, i64 g.ns[0].p, i64 g.ns[0].i, SV.own (H.length + 5) 0 g.ns[0].nx.length 1 2, SV.own (H.length + 6) 0 g.ns[0].ws.length 1 2, SV.own (H.length + 7) 0 g.ns[0].ps.length 1 2], 39, 0, true⟩,
          ⟨ints g.ns[0].nx, 3, 2, true⟩, ⟨ints g.ns[0].ws, 3, 2, true⟩, ⟨ints g.ns[0].ps, 3, 2, true⟩]) (x := g.ns[0]) (p1 := 1) (p2 := 2) (p3 := 3) rfl rfl rfl (l := []) (cs := []) rfl
        refine NO.mono (fun p l h => ?_) this
        have hp := getElem?_lt h
        exact (List.getElem?_append_left (l₂ := [_, _]) hp).trans h
      · simp
      · simp [h2]
      · simp
      · simp; rfl
    · have e5 : nodesV (H.length + 9) i = .own (H.length + 9) 0 i 6 i := by unfold nodesV; rw [if_neg (by omega)]
      have e6 : nodesV (H.length + 9) (i + 1) = .own (H.length + 9) 0 (i + 1) 6 (i + 1) := by unfold nodesV; rw [if_neg (by omega)]
      rw [e5]
      have hcl : cs.length = 6 * i := by rw [hNO.len, List.length_take, Nat.min_eq_left (by omega)]
      simp -implicitDefEqProofs [h1, h3, h4, gbox, hlt, nds_at hlt, nds_min hlt, nds_ge hlt, sl, setObj_old hM5, objIs_old hM5, objCells_set0, objCells_setk, len_addn]
      refine ⟨by omega, by omega, by omega, by omega, by omega, by omega, by omega, by omega, by omega, ?_⟩
      rw [w1]
      have hmlen := getElem?_lt hM5
      have hNO' : ∀ (o y w : AO), NO (H.length + 4) (M.set 5 o ++ [y, ⟨ints g.ns[i].nx, 3, 2, true⟩, ⟨ints g.ns[i].ws, 3, 2, true⟩, ⟨ints g.ns[i].ps, 3, 2, true⟩, w]) (g.ns.take (i + 1))
          (cs ++ [i64 g.ns[i].k, i64 g.ns[i].p, i64 g.ns[i].i, SV.own (H.length + (M.length + 5)) 0 g.ns[i].nx.length 1 2, SV.own (H.length + (M.length + 6)) 0 g.ns[i].ws.length 1 2, SV.own (H.length + (M.length + 7)) 0 g.ns[i].ps.length 1 2]) := fun o y w => by
        rw [htake]
        have ge : ∀ t (v : AO), [y, ⟨ints g.ns[i].nx, 3, 2, true⟩, ⟨ints g.ns[i].ws, 3, 2, true⟩, ⟨ints g.ns[i].ps, 3, 2, true⟩, w][t]? = some v → (M.set 5 o ++ [y, ⟨ints g.ns[i].nx, 3, 2, true⟩, ⟨ints g.ns[i].ws, 3, 2, true⟩, ⟨ints g.ns[i].ps, 3, 2, true⟩, w])[M.length + t]? = some v := fun t v h => by
          rw [List.getElem?_append_right (by simp)]; simpa using h
        have h0 := hNO.mono (M' := M.set 5 o ++ [y, ⟨ints g.ns[i].nx, 3, 2, true⟩, ⟨ints g.ns[i].ws, 3, 2, true⟩, ⟨ints g.ns[i].ps, 3, 2, true⟩, w]) (fun p l h => by
          have hp5 : 5 ≠ p := fun e => by subst e; rw [hM5] at h; cases h
          rw [List.getElem?_append_left (by simpa using getElem?_lt h), List.getElem?_set_ne hp5]; exact h)
        have := NO.snoc (x := g.ns[i]) (ge 1 _ rfl) (ge 2 _ rfl) (ge 3 _ rfl) h0
        rwa [show H.length + 4 + (M.length + 1) = H.length + (M.length + 5) by omega, show H.length + 4 + (M.length + 2) = H.length + (M.length + 6) by omega, show H.length + 4 + (M.length + 3) = H.length + (M.length + 7) by omega] at this
      rw [← e6]
      refine ih (i + 1) _ _ (by omega) (.inr ⟨by omega, _, ?_, hNO' _ _ _⟩) ?_ ?_ ?_ ?_
      · rw [List.getElem?_append_left (by simpa using hmlen), List.getElem?_set_self hmlen]
      · simp
      · simp [h2]
      · simp
      · simp
set_option maxRecDepth 10000 in
theorem ok12 (hn : g.ns.length ≤ 100000) (hi : g.is.length * 16 ≤ 140737488352000) (hx : ∀ x ∈ g.ns, x.nx.length * 8 ≤ 140737488352000 ∧ x.ws.length * 8 ≤ 140737488352000 ∧ x.ps.length * 8 ≤ 140737488352000) :
    Ok Try.prog 12 [.agg g.cells] H (.ret (.agg [i64 g.pl, if g.ns.length = 0 then nl else .slc (nds g.ns) g.ns.length, .slc (infs g.is) g.is.length])) H := by
  refine ok_fn hm Try.func12 c12 (by simp) fun hcl => ?_
  simp -implicitDefEqProofs [i12, r12, Gm.cells, infs_len]
  have hinf : List.take (g.is.length * 2) (infs g.is) = infs g.is := List.take_of_length_le (by rw [infs_len]; omega)
  rw [hinf]
  refine ⟨by omega, infs_cell _, by omega, by omega, rfl, ?_⟩
  refine loop11 (g := g) hn hx (fun env M hM h2 h3 => ?_) g.ns.length 0 _ [] (by omega) (.inl ⟨rfl, rfl⟩) (by simp) (by simp) (by simp) (by simp)
  simp -implicitDefEqProofs [h2, h3, gbox]
  rcases hM with h0 | ⟨cs, hM5, hNO⟩
  · have e : nodesV (H.length + 9) g.ns.length = nl := by unfold nodesV; rw [if_pos h0]
    rw [e, if_pos (List.eq_nil_of_length_eq_zero h0)]
    refine ⟨rfl, cv_fz 5 hcl rfl ?_⟩
    simp [hinf, infs_len, Nat.mul_comm]
  · have hcs := hNO.len
    have hfz := hNO.fz (n := H.length) (k := 4) (d := 1) (F := gbox g :: (⟨[i64 g.pl, nodesV (H.length + 9) g.ns.length, SV.own (H.length + 2) 0 g.is.length 2 2], 25, 0, true⟩ : AO) :: ⟨infs g.is, 70, 2, true⟩ :: ⟨[i64 g.pl, nodesV (H.length + 9) g.ns.length, SV.own (H.length + 2) 0 g.is.length 2 2], 25, 1, true⟩ :: M) rfl
      (fun p => by rw [show 4 + p = p + 1 + 1 + 1 + 1 by omega]; simp)
    by_cases h0 : g.ns = []
    · rw [if_pos h0]
      have e : nodesV (H.length + 9) g.ns.length = nl := by unfold nodesV; rw [if_pos (by rw [h0]; rfl)]
      rw [e]
      refine ⟨rfl, cv_fz 5 hcl rfl ?_⟩
      simp [hinf, infs_len, Nat.mul_comm]
    · rw [if_neg h0]
      have e : nodesV (H.length + 9) g.ns.length = .own (H.length + 9) 0 g.ns.length 6 g.ns.length := by unfold nodesV; rw [if_neg (fun h => h0 (List.eq_nil_of_length_eq_zero h))]
      rw [e] at hfz ⊢
      refine ⟨rfl, cv_fz 5 hcl rfl ?_⟩
      simp [hinf, infs_len, Nat.mul_comm, hM5]
      rw [if_pos (by omega)]
      congr 1
      refine Eq.trans (List.take_of_length_le ?_) hfz
      rw [List.length_map]; omega
end
end Go.Proofs.Ytbfeaikiiamhaaa.Rc

