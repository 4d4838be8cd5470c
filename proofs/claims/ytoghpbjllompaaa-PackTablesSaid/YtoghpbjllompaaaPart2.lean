/-
  Steps of the proof: contracts of functions and plain facts that the statement rests on.
-/
import Derived.Test.YtoghpbjllompaaaPart1
set_option linter.all false
/- P23 -/
namespace Go.Proofs.Ytoghpbjllompaaa.Rc
open Go.Ab
def kidsT (w : Nat → Nat → Except Fl (List Nd × Nat)) : Nat → Nat → Nat → Except Fl (List Int × List Nd × Nat)
  | 0, _, a => .ok ([], [], a)
  | k + 1, m, a => match w m a with
    | .error e => .error e
    | .ok (s, a1) => match kidsT w k (m + s.length) a1 with
      | .error e => .error e
      | .ok (nx, sub, a2) => .ok ((m : Int) :: nx, s ++ sub, a2)
def treeR (pl : Int) (is : List (Int × Int)) (l : List Int) : Nat → Nat → Nat → Nat → Except Fl (List Nd × Nat)
  | 0, _, _, a => .error (5, a)
  | f + 1, dep, m, a => if m = 2000 ∨ 40 < dep then .error (5, a) else match ndR pl is l a with
    | .error e => .error e
    | .ok ((x, k), a1) => match kidsT (treeR pl is l f (dep + 1)) k.toNat (m + 1) a1 with
      | .error e => .error e
      | .ok (nx, sub, a2) => .ok ({ x with nx := nx } :: sub, a2)
section
variable {pl : Int} {is : List (Int × Int)} {l : List Int}
theorem ndR_next {a a' : Nat} {x : Nd} {k : Int} (hk : ∀ p ∈ is, 0 ≤ p.2 ∧ p.2 ≤ 60) (h : ndR pl is l a = .ok ((x, k), a')) : a < a' ∧ a' ≤ l.length ∧ x.nx = [] ∧ 0 ≤ k ∧ k ≤ 60 := by
  unfold ndR at h
  split at h
  · cases h
  · rename_i k0 a1 h0
    have h1 := octR_next h0
    split at h
    · split at h
      · cases h
      · rename_i m a2 h2
        have h3 := octR_next h2
        split at h
        · cases h
        · rename_i ws a3 h4
          have h5 := listR_next (f := numR l 1 1000) (b := l.length) (fun a v a' ha h => numR_next h ha) _ _ _ _ h3.2.1 h4
          simp only [Except.ok.injEq, Prod.mk.injEq] at h
          obtain ⟨⟨rfl, rfl⟩, rfl⟩ := h
          exact ⟨by omega, by omega, rfl, by omega, by omega⟩
    · split at h
      · split at h
        · cases h
        · rename_i i a2 h2
          have h3 := numR_next h2 h1.2.1
          have h4 := numR_rng h2
          simp only [Except.ok.injEq, Prod.mk.injEq] at h
          obtain ⟨⟨rfl, rfl⟩, rfl⟩ := h
          have hlt : i.toNat < is.length := by omega
          have h5 := hk _ (List.getElem_mem hlt)
          have e : infAt is i = is[i.toNat] := by simp [infAt, hlt]
          rw [e]
          exact ⟨by omega, by omega, rfl, h5⟩
      · split at h
        · split at h
          · cases h
          · rename_i ps a2 h2
            have h5 := listR_next (f := sgnR l (-1000000) 1000000) (b := l.length) (fun a v a' ha h => sgnR_next h ha) _ _ _ _ h1.2.1 h2
            simp only [Except.ok.injEq, Prod.mk.injEq] at h
            obtain ⟨⟨rfl, rfl⟩, rfl⟩ := h
            exact ⟨by omega, by omega, rfl, by omega, by omega⟩
        · cases h
theorem kidsT_next {w : Nat → Nat → Except Fl (List Nd × Nat)} {b : Nat} (hw : ∀ m a s a', m ≤ 2000 → a ≤ b → w m a = .ok (s, a') → m + s.length ≤ 2000 ∧ a ≤ a' ∧ a' ≤ b ∧ 1 ≤ s.length) :
    ∀ (k m a : Nat) (nx : List Int) (sub : List Nd) (a' : Nat), m ≤ 2000 → a ≤ b → kidsT w k m a = .ok (nx, sub, a') → m + sub.length ≤ 2000 ∧ a ≤ a' ∧ a' ≤ b ∧ nx.length = k
  | 0, m, a, nx, sub, a', hm, ha, h => by simp only [kidsT, Except.ok.injEq, Prod.mk.injEq] at h; obtain ⟨rfl, rfl, rfl⟩ := h; exact ⟨by simpa using hm, Nat.le_refl _, ha, rfl⟩
  | k + 1, m, a, nx, sub, a', hm, ha, h => by
    simp only [kidsT] at h
    split at h
    · cases h
    · rename_i s a1 h1
      have h2 := hw _ _ _ _ hm ha h1
      split at h
      · cases h
      · rename_i nx1 sub1 a2 h3
        have h4 := kidsT_next hw k _ _ _ _ _ h2.1 h2.2.2.1 h3
        simp only [Except.ok.injEq, Prod.mk.injEq] at h
        obtain ⟨rfl, rfl, rfl⟩ := h
        exact ⟨by simp only [List.length_append]; omega, by omega, h4.2.2.1, by simp [h4.2.2.2]⟩
theorem treeR_next (hk : ∀ p ∈ is, 0 ≤ p.2 ∧ p.2 ≤ 60) : ∀ (f dep m a : Nat) (s : List Nd) (a' : Nat), m ≤ 2000 → a ≤ l.length → treeR pl is l f dep m a = .ok (s, a') → m + s.length ≤ 2000 ∧ a ≤ a' ∧ a' ≤ l.length ∧ 1 ≤ s.length
  | 0, dep, m, a, s, a', hm, ha, h => by simp [treeR] at h
  | f + 1, dep, m, a, s, a', hm, ha, h => by
    simp only [treeR] at h
    split at h
    · cases h
    · rename_i h0
      split at h
      · cases h
      · rename_i x k a1 h1
        have h2 := ndR_next hk h1
        split at h
        · cases h
        · rename_i nx sub a2 h3
          have h4 := kidsT_next (w := treeR pl is l f (dep + 1)) (b := l.length) (fun m a s a' hm ha h => treeR_next hk f (dep + 1) m a s a' hm ha h) _ _ _ _ _ _ (by omega) h2.2.1 h3
          simp only [Except.ok.injEq, Prod.mk.injEq] at h
          obtain ⟨rfl, rfl⟩ := h
          exact ⟨by simp only [List.length_cons]; omega, by omega, h4.2.2.1, by simp⟩
end
/-- The state of the walk: reader and game lie in A. -/
structure TS (A : List AO) (jr jg : Nat) (l : List Int) (pl : Int) (is : List (Int × Int)) (a m v : Nat) : Prop where
  r : A[jr]? = some (rdO l a)
  g : A[jg]? = some (gO pl (.own (A.length + 3) 0 m 6 v) is)
  ne : jr ≠ jg
def TT (A : List AO) (jr jg : Nat) (C : List SV) (v : Nat) (L : List AO) : List AO := A ++ ⟨[rp jr], 80, 0, true⟩ :: ⟨[rp jg], 83, 0, true⟩ :: ⟨[.fn (.func 71) [] [rp (A.length + 1), rp A.length, rp (A.length + 2)]], 119, 0, true⟩ :: ⟨C, 74, v, true⟩ :: L
structure Same (A A' : List AO) (jr jg : Nat) : Prop where
  len : A'.length = A.length
  at_ : ∀ i, i ≠ jr → i ≠ jg → A'[i]? = A[i]?
structure PanT (A : List AO) (jr jg : Nat) (H' : List AO) : Prop where
  len : A.length ≤ H'.length
  at_ : ∀ i, i < A.length → i ≠ jr → i ≠ jg → H'[i]? = A[i]?
  g : ∃ c, H'[jg]? = some ⟨c, 25, 0, true⟩ ∧ c.length = 3
def TrP (A : List AO) (jr jg : Nat) (l : List Int) (pl : Int) (is : List (Int × Int)) (m : Nat) (C : List SV) (L : List AO) (r : Except Fl (List Nd × Nat)) (o : Out) (H' : List AO) : Prop :=
  match r with
  | .ok (sub, a') => o = .ret (.tup []) ∧ ∃ A' v', Same A A' jr jg ∧ TS A' jr jg l pl is a' (m + sub.length) v' ∧ H' = TT A' jr jg (C ++ nds sub) v' L
  | .error e => o = .pan (fltV e) ∧ PanT A jr jg H'
section
variable {A : List AO} {jr jg : Nat} {l : List Int} {pl : Int} {is : List (Int × Int)} {a m v : Nat}
theorem Same.refl (A : List AO) (jr jg : Nat) : Same A A jr jg := ⟨rfl, fun _ _ _ => rfl⟩
theorem Same.trans {B C : List AO} (h : Same A B jr jg) (h' : Same B C jr jg) : Same A C jr jg := ⟨h'.len.trans h.len, fun i h1 h2 => (h'.at_ i h1 h2).trans (h.at_ i h1 h2)⟩
theorem Same.setr (o : AO) : Same A (A.set jr o) jr jg := ⟨by simp, fun i h1 _ => List.getElem?_set_ne (fun e => h1 e.symm)⟩
theorem Same.setg (o : AO) : Same A (A.set jg o) jr jg := ⟨by simp, fun i _ h2 => List.getElem?_set_ne (fun e => h2 e.symm)⟩
theorem TS.setr (h : TS A jr jg l pl is a m v) (a' : Nat) : TS (A.set jr (rdO l a')) jr jg l pl is a' m v :=
  ⟨by rw [List.getElem?_set_self (getElem?_lt h.r)], by rw [List.getElem?_set_ne h.ne]; simpa using h.g, h.ne⟩
theorem TS.setg (h : TS A jr jg l pl is a m v) (m' v' : Nat) : TS (A.set jg (gO pl (.own (A.length + 3) 0 m' 6 v') is)) jr jg l pl is a m' v' :=
  ⟨by rw [List.getElem?_set_ne h.ne.symm]; exact h.r, by rw [List.getElem?_set_self (getElem?_lt h.g)]; simp, h.ne⟩
theorem TS.pan (h : TS A jr jg l pl is a m v) (L : List AO) : PanT A jr jg (A ++ L) :=
  ⟨by simp, fun i hi _ _ => List.getElem?_append_left hi, _, by rw [List.getElem?_append_left (getElem?_lt h.g)]; exact h.g, rfl⟩
theorem PanT.same {B H' : List AO} (h : PanT B jr jg H') (hs : Same A B jr jg) : PanT A jr jg H' :=
  ⟨by have := h.len; rw [hs.len] at this; exact this, fun i hi h1 h2 => (h.at_ i (by rw [hs.len]; exact hi) h1 h2).trans (hs.at_ i h1 h2), h.g⟩
theorem TS.keep (h : TS A jr jg l pl is a m v) {L H' : List AO} (hk : Keep (A ++ L) [jr] H') : PanT A jr jg H' := by
  refine ⟨by have := hk.len; simp at this; omega, fun i hi h1 h2 => (hk.at_ i (by simp; omega) (by simpa using h1)).trans (List.getElem?_append_left hi), _, (hk.at_ jg (by have := getElem?_lt h.g; simp; omega) (by simpa using h.ne.symm)).trans (by rw [List.getElem?_append_left (getElem?_lt h.g)]; exact h.g), rfl⟩
theorem TS.eg (h : TS A jr jg l pl is a m v) (L : List AO) : objCells (A ++ L) jg 0 = [i64 pl, .own (A.length + 3) 0 m 6 v, .slc (infs is) is.length] := by
  rw [objCells_app L (getElem?_lt h.g)]; exact objCells_of (o := gO pl _ is) h.g rfl
theorem TS.er (h : TS A jr jg l pl is a m v) (L : List AO) : objCells (A ++ L) jr 0 = [.slc (byts l) l.length, i64 a] := by
  rw [objCells_app L (getElem?_lt h.r)]; exact objCells_of (o := rdO l a) h.r rfl
theorem TS.sg (h : TS A jr jg l pl is a m v) (L : List AO) (f : AO → AO) : Ab.setObj (A ++ L) jg f = A.set jg (f (gO pl (.own (A.length + 3) 0 m 6 v) is)) ++ L := by
  unfold Ab.setObj; rw [List.getElem?_append_left (getElem?_lt h.g), h.g]; simp only; rw [List.set_append_left _ _ (getElem?_lt h.g)]
end
end Go.Proofs.Ytoghpbjllompaaa.Rc

/- P24 -/
namespace Go.Proofs.Ytoghpbjllompaaa.Rc
open Go.Ab
theorem callT {f f' : SV} {args args' : List SV} {H H' : List AO} {K : Out → List AO → Prop} (hf : f = f') (ha : args = args') (hH : H = H') (h : CallTo Try.prog f' args' H' K) : CallTo Try.prog f args H K := by subst hf ha hH; exact h
theorem nds_app : ∀ a b : List Nd, nds (a ++ b) = nds a ++ nds b
  | [], b => rfl
  | x :: a, b => by simp only [List.cons_append, nds, nds_app a b, List.append_assoc]
theorem put3 {C R : List SV} {m : Nat} (hC : C.length = m * 6) (a b c o o' : SV) : (C ++ a :: b :: c :: o :: R).take (m * 6 + 3) ++ o' :: (C ++ a :: b :: c :: o :: R).drop (m * 6 + 3 + 1) = C ++ a :: b :: c :: o' :: R := by
  have e1 : (C ++ a :: b :: c :: o :: R).take (m * 6 + 3) = C ++ [a, b, c] := by
    rw [← hC, List.take_append, List.take_of_length_le (by omega), Nat.add_sub_cancel_left]; rfl
  have e2 : (C ++ a :: b :: c :: o :: R).drop (m * 6 + 3 + 1) = R := by
    rw [← hC, List.drop_append, List.drop_of_length_le (by omega), show C.length + 3 + 1 - C.length = 4 by omega]; rfl
  rw [e1, e2]; simp
theorem get3 {C R : List SV} {m : Nat} (hC : C.length = m * 6) (a b c o : SV) : (C ++ a :: b :: c :: o :: R)[m * 6 + 3]? = some o := by
  rw [← hC, List.getElem?_append_right (by omega), Nat.add_sub_cancel_left]; rfl
theorem nds_cell' : ∀ l : List Nd, cellsOk (nds l)
  | [], s, hs => by simp [nds] at hs
  | x :: r, s, hs => by
    simp only [nds, List.mem_append] at hs
    rcases hs with hs | hs
    · simp only [Nd.cells, List.mem_cons, List.not_mem_nil, or_false] at hs
      rcases hs with rfl | rfl | rfl | rfl | rfl | rfl <;> rfl
    · exact nds_cell' r s hs
section
variable {A : List AO} {jr jg : Nat} {l : List Int} {pl : Int} {is : List (Int × Int)}
/-- The row of nodes while node m is at work. -/
def Cx (C : List SV) (x : Nd) (q : SV) (sub : List Nd) : List SV := C ++ i64 x.k :: i64 x.p :: i64 x.i :: q :: sl x.ws :: sl x.ps :: nds sub
theorem Cx_len (C : List SV) (x : Nd) (q : SV) (sub : List Nd) {m : Nat} (hC : C.length = m * 6) : (Cx C x q sub).length = (m + 1 + sub.length) * 6 := by
  simp only [Cx, List.length_append, List.length_cons, nds_len, hC]; omega
theorem Cx_cell {C : List SV} {x : Nd} {q : SV} {sub : List Nd} (hC : cellsOk C) (hq : q.isCell = true) : cellsOk (Cx C x q sub) := by
  intro s hs
  simp only [Cx, List.mem_append, List.mem_cons] at hs
  rcases hs with hs | rfl | rfl | rfl | rfl | rfl | rfl | hs
  · exact hC s hs
  · rfl
  · rfl
  · rfl
  · exact hq
  · rfl
  · rfl
  · exact nds_cell' _ s hs
theorem loopC71_0 {f dep mm kk : Nat} {x : Nd} {C : List SV} {L : List AO} {F1 F2 : AO} (hC : C.length = mm * 6) (hCo : cellsOk C) (hmm : mm < 2000) (hkk : kk ≤ 60) (hdep : dep ≤ 40) (hkb : ∀ p ∈ is, 0 ≤ p.2 ∧ p.2 ≤ 60)
    (hrec : ∀ (m a v : Nat) (A' : List AO) (C' : List SV) (L' : List AO), m ≤ 2000 → a ≤ l.length → C'.length = m * 6 → cellsOk C' → TS A' jr jg l pl is a m v →
      OkP Try.prog 71 [i64 ((dep + 1 : Nat) : Int), rp (A'.length + 1), rp A'.length, rp (A'.length + 2)] (TT A' jr jg C' v L') (TrP A' jr jg l pl is m C' L' (treeR pl is l f (dep + 1) m a)))
    {r : Except Fl (List Int × List Nd × Nat)} {N : Nat} {K : XE → Env → List AO → Prop}
    (herr : ∀ e, r = .error e → ∀ env H', PanT A jr jg H' → K (.panic (fltV e)) env H')
    (hexit : ∀ nx sub a A' v M, r = .ok (nx, sub, a) → Same A A' jr jg → TS A' jr jg l pl is a (mm + 1 + sub.length) v → ∀ env, K (.exit 0) env (TT A' jr jg (Cx C x (.own (A'.length + (L.length + 6)) 0 nx.length 1 nx.length) sub) v (L ++ F1 :: F2 :: ⟨ints nx, 3, nx.length, true⟩ :: M))) :
    ∀ (n i a v : Nat) (nx : List Int) (sub : List Nd) (A' : List AO) (env : Env) (M : List AO), i + n = kk → nx.length = i → mm + 1 + sub.length ≤ 2000 → a ≤ l.length → Same A A' jr jg → TS A' jr jg l pl is a (mm + 1 + sub.length) v →
      (match kidsT (treeR pl is l f (dep + 1)) n (mm + 1 + sub.length) a with | .error e => Except.error e | .ok (nx', sub', a') => .ok (nx ++ nx', sub ++ sub', a')) = r →
      env.get 0 = i64 dep → env.get 1 = rp (A'.length + 1) → env.get 3 = rp (A'.length + 2) → env.get 5 = i64 mm → env.get 44 = i64 kk → env.get 45 = i64 i →
      LI Try.prog N drawB l71_0 env (TT A' jr jg (Cx C x (.own (A'.length + (L.length + 6)) 0 nx.length 1 nx.length) sub) v (L ++ F1 :: F2 :: ⟨ints nx, 3, nx.length, true⟩ :: M)) K := by
  intro n
  induction n with
  | zero =>
    intro i a v nx sub A' env M hi hnx hmz ha hs hT hr h0 h1 h3 h5 h44 h45
    refine li_go hm l71_0.eq_1 ?_
    have e : i = kk := by omega
    subst e
    have hr : r = .ok (nx, sub, a) := by rw [← hr]; simp [kidsT]
    simp -implicitDefEqProofs [h0, h1, h3, h5, h44, h45]
    exact hexit nx sub a A' v M hr hs hT _
  | succ n ih =>
    intro i a v nx sub A' env M hi hnx hmz ha hs hT hr h0 h1 h3 h5 h44 h45
    refine li_go hm l71_0.eq_1 ?_
    have hlt : i < kk := by omega
    have w1 : IntKind.i64.wrap ((i : Int) + 1) = ((i + 1 : Nat) : Int) := wrap_succ (by omega)
    have w2 : IntKind.i64.wrap ((dep : Int) + 1) = ((dep + 1 : Nat) : Int) := wrap_succ (by omega)
    have hcl := Cx_len C x (.own (A'.length + (L.length + 6)) 0 nx.length 1 nx.length) sub hC
    have g3 := get3 (R := sl x.ws :: sl x.ps :: nds sub) hC (i64 x.k) (i64 x.p) (i64 x.i)
    have p3 := put3 (R := sl x.ws :: sl x.ps :: nds sub) hC (i64 x.k) (i64 x.p) (i64 x.i)
    have hmi : (mm : Int) < ((mm + 1 + sub.length : Nat) : Int) := by omega
    simp only [rp] at h1 h3
    unfold TT Cx
    simp -implicitDefEqProofs [h0, h1, h3, h5, h44, h45, hlt, rp, hT.eg, g3, hC, nds_len]
    repeat (refine And.intro (by omega) ?_)
    simp only [p3 (.own (A'.length + (L.length + 6)) 0 nx.length 1 nx.length) (.own (A'.length + (L.length + 6)) 0 (nx.length + 1) 1 (nx.length + 1)), w2]
    have hcl2 := Cx_len C x (.own (A'.length + (L.length + 6)) 0 (nx.length + 1) 1 (nx.length + 1)) sub hC
    have hrc := hrec (mm + 1 + sub.length) a v A' (Cx C x (.own (A'.length + (L.length + 6)) 0 (nx.length + 1) 1 (nx.length + 1)) sub) (L ++ F1 :: F2 :: ⟨ints (nx ++ [((mm + 1 + sub.length : Nat) : Int)]), 3, nx.length + 1, true⟩ :: (M ++ [⟨[i64 ((mm + 1 + sub.length : Nat) : Int)], 3, 0, true⟩])) hmz ha hcl2 (Cx_cell hCo rfl) hT
    have htn := fun (s : List Nd) (a1 : Nat) (h : treeR pl is l f (dep + 1) (mm + 1 + sub.length) a = .ok (s, a1)) => treeR_next hkb f (dep + 1) (mm + 1 + sub.length) a s a1 hmz ha h
    simp only [kidsT] at hr
    generalize treeR pl is l f (dep + 1) (mm + 1 + sub.length) a = q at *
    have key : ∀ K : Out → List AO → Prop, (∀ o H', TrP A' jr jg l pl is (mm + 1 + sub.length) (Cx C x (.own (A'.length + (L.length + 6)) 0 (nx.length + 1) 1 (nx.length + 1)) sub) (L ++ F1 :: F2 :: ⟨ints (nx ++ [((mm + 1 + sub.length : Nat) : Int)]), 3, nx.length + 1, true⟩ :: (M ++ [⟨[i64 ((mm + 1 + sub.length : Nat) : Int)], 3, 0, true⟩])) q o H' → K o H') →
        CallTo Try.prog (.fn (.func 71) [] [rp (A'.length + 1), rp A'.length, rp (A'.length + 2)]) [i64 ((dep + 1 : Nat) : Int)] (TT A' jr jg (Cx C x (.own (A'.length + (L.length + 6)) 0 (nx.length + 1) 1 (nx.length + 1)) sub) v (L ++ F1 :: F2 :: ⟨ints (nx ++ [((mm + 1 + sub.length : Nat) : Int)]), 3, nx.length + 1, true⟩ :: (M ++ [⟨[i64 ((mm + 1 + sub.length : Nat) : Int)], 3, 0, true⟩]))) K := fun K hK => call_ofP (a := []) (args := [_]) (b := [_, _, _]) hrc hK
    refine callT rfl rfl (by simp [TT, Cx, rp, ints]) (key _ ?_)
    rintro o H' ho
    cases q with
    | error e =>
      obtain ⟨rfl, hp⟩ := ho
      simp -implicitDefEqProofs
      exact herr e hr.symm _ _ (hp.same hs)
    | ok p =>
      obtain ⟨s, a'⟩ := p
      obtain ⟨rfl, A2, v2, hs2, hT2, rfl⟩ := ho
      have hn := htn s a' rfl
      simp only [] at hr
      simp -implicitDefEqProofs [h0, h1, h3, h5, h44, h45, rp, w1]
      refine LI.cong (H' := TT A2 jr jg (Cx C x (.own (A2.length + (L.length + 6)) 0 (nx ++ [((mm + 1 + sub.length : Nat) : Int)]).length 1 (nx ++ [((mm + 1 + sub.length : Nat) : Int)]).length) (sub ++ s)) v2 (L ++ F1 :: F2 :: ⟨ints (nx ++ [((mm + 1 + sub.length : Nat) : Int)]), 3, (nx ++ [((mm + 1 + sub.length : Nat) : Int)]).length, true⟩ :: (M ++ [⟨[i64 ((mm + 1 + sub.length : Nat) : Int)], 3, 0, true⟩]))) (by simp [TT, Cx, nds_app, hs2.len]) (ih (i + 1) a' v2 (nx ++ [((mm + 1 + sub.length : Nat) : Int)]) (sub ++ s) A2 _ _ (by omega) (by simp [hnx]) (by rw [List.length_append]; omega) hn.2.2.1 (hs.trans hs2) (by rw [List.length_append, ← Nat.add_assoc]; exact hT2) ?_ ?_ ?_ ?_ ?_ ?_ ?_)
      · rw [List.length_append, ← Nat.add_assoc, ← hr]
        cases kidsT (treeR pl is l f (dep + 1)) n (mm + 1 + sub.length + s.length) a' with
        | error e => rfl
        | ok z => obtain ⟨z1, z2, z3⟩ := z; simp
      all_goals simp [rp, hs2.len, h5, h44]
end
end Go.Proofs.Ytoghpbjllompaaa.Rc

/- P25 -/
namespace Go.Proofs.Ytoghpbjllompaaa.Rc
open Go.Ab
theorem cl_get {n : Nat} {l : List AO} (h : Cl n l) {i : Nat} {o : AO} (ho : l[i]? = some o) : ∀ s ∈ o.cells, s.under n = true := h o (List.mem_of_getElem? ho)
theorem TT_len (A : List AO) (jr jg : Nat) (C : List SV) (v : Nat) (L : List AO) : (TT A jr jg C v L).length = A.length + (L.length + 4) := by simp [TT]
theorem TT_hu {A A' : List AO} {jr jg : Nat} {C C' : List SV} {v v' : Nat} {L : List AO} {l : List Int} {pl : Int} {is : List (Int × Int)} {a m : Nat} (hcl : closed (TT A jr jg C v L)) (hS : Same A A' jr jg) (hT : TS A' jr jg l pl is a m v') :
    ∀ (i : Nat) (o : AO), i ≠ A'.length + 3 → (TT A' jr jg C' v' L)[i]? = some o → ∀ s ∈ o.cells, s.under (TT A' jr jg C' v' L).length = true := by
  intro i o hi ho s hs
  rw [closed_iff] at hcl
  have hlen : (TT A jr jg C v L).length = (TT A' jr jg C' v' L).length := by rw [TT_len, TT_len, hS.len]
  rw [hlen] at hcl
  by_cases h1 : i < A'.length
  · unfold TT at ho
    rw [List.getElem?_append_left h1] at ho
    by_cases h2 : i = jr
    · subst h2
      rw [hT.r] at ho; cases ho
      simp only [rdO, List.mem_cons, List.not_mem_nil, or_false] at hs
      rcases hs with rfl | rfl <;> simp
    · by_cases h3 : i = jg
      · subst h3
        rw [hT.g] at ho; cases ho
        simp only [gO, List.mem_cons, List.not_mem_nil, or_false] at hs
        rcases hs with rfl | rfl | rfl
        · simp
        · rw [TT_len]; simp [SV.under]
        · simp [infs_under]
      · rw [hS.at_ i h2 h3] at ho
        refine cl_get hcl (i := i) ?_ s hs
        unfold TT; rw [List.getElem?_append_left (by rw [← hS.len]; exact h1)]; exact ho
  · refine cl_get hcl (i := i) ?_ s hs
    unfold TT at ho ⊢
    rw [List.getElem?_append_right (by omega)] at ho
    rw [List.getElem?_append_right (by rw [← hS.len]; omega), ← hS.len]
    obtain ⟨k, hk⟩ : ∃ k, i = A'.length + k := ⟨i - A'.length, by omega⟩
    subst hk
    rw [Nat.add_sub_cancel_left] at ho ⊢
    rcases k with _ | _ | _ | _ | k
    · exact ho
    · exact ho
    · exact ho
    · exact absurd rfl hi
    · exact ho
theorem TT_cv {A A' : List AO} {jr jg : Nat} {C : List SV} {v v' : Nat} {L : List AO} {l : List Int} {pl : Int} {is : List (Int × Int)} {a m mm : Nat} {x : Nd} {nx : List Int} {sub : List Nd} {F1 F2 : AO} {M : List AO} (hC : C.length = mm * 6) (hCo : cellsOk C) (hcl : closed (TT A jr jg C v L)) (hS : Same A A' jr jg) (hT : TS A' jr jg l pl is a m v') (hx : x.nx = []) :
    Cv (A.length + (L.length + 4)) (.tup []) (TT A' jr jg (Cx C x (.own (A'.length + (L.length + 6)) 0 nx.length 1 nx.length) sub) v' (L ++ F1 :: F2 :: ⟨ints nx, 3, nx.length, true⟩ :: M)) (.tup []) (TT A' jr jg (C ++ nds ({ x with nx := nx } :: sub)) v' L) := by
  have hCu : ∀ s ∈ C, s.under (A'.length + (L.length + 4)) = true := by
    have h := closed_iff.1 hcl
    rw [TT_len, ← hS.len] at h
    exact fun s hs => cl_get h (i := A.length + 3) (o := ⟨C, 74, v, true⟩) (by simp [TT]) s hs
  have hmap : (Cx C x (.own (A'.length + (L.length + 6)) 0 nx.length 1 nx.length) sub).map (SV.fz (A'.length + (L.length + 4)) [] (F1 :: F2 :: ⟨ints nx, 3, nx.length, true⟩ :: M) 3) = C ++ nds ({ x with nx := nx } :: sub) := by
    have e1 : C.map (SV.fz (A'.length + (L.length + 4)) [] (F1 :: F2 :: ⟨ints nx, 3, nx.length, true⟩ :: M) 3) = C := by
      conv => rhs; rw [← List.map_id C]
      exact List.map_congr_left fun s hs => fz_under (hCu s hs)
    have e2 : A'.length + (L.length + 6) = A'.length + (L.length + 4) + 2 := by omega
    simp only [Cx, List.map_append, e1, List.map_cons, e2, nds, Nd.cells]
    simp [sl]
  have hres : (TT A' jr jg (C ++ nds ({ x with nx := nx } :: sub)) v' L) = (TT A' jr jg (Cx C x (.own (A'.length + (L.length + 6)) 0 nx.length 1 nx.length) sub) v' L).set (A'.length + 3) ⟨C ++ nds ({ x with nx := nx } :: sub), 74, v', true⟩ := by
    simp [TT, set_app]
  have hlen := TT_len A' jr jg (Cx C x (.own (A'.length + (L.length + 6)) 0 nx.length 1 nx.length) sub) v' L
  have hcok : cellsOk (C ++ nds ({ x with nx := nx } :: sub)) := by
    intro s hs
    rcases List.mem_append.1 hs with hs | hs
    · exact hCo s hs
    · exact nds_cell' _ s hs
  have key := cv_noneM (n0 := A.length + (L.length + 4)) (Hx := TT A' jr jg (Cx C x (.own (A'.length + (L.length + 6)) 0 nx.length 1 nx.length) sub) v' (L ++ F1 :: F2 :: ⟨ints nx, 3, nx.length, true⟩ :: M)) (r := .tup []) 3
    (H0 := TT A' jr jg (Cx C x (.own (A'.length + (L.length + 6)) 0 nx.length 1 nx.length) sub) v' L) (L := F1 :: F2 :: ⟨ints nx, 3, nx.length, true⟩ :: M) (by simp [TT]) (by rw [hlen, hS.len]; exact Nat.le_refl _)
    (Refz.one (j := A'.length + 3) (o := ⟨Cx C x (.own (A'.length + (L.length + 6)) 0 nx.length 1 nx.length) sub, 74, v', true⟩) (TT_hu hcl hS hT) (by simp [TT]) rfl (by rw [hlen]; simp only [hmap]; exact hcok))
  rw [hlen] at key
  simp only [hmap] at key
  rw [hres]
  simpa using key
section
variable {jr jg : Nat} {l : List Int} {pl : Int} {is : List (Int × Int)}
theorem ok71 (hoct : Oct l) (hl : l.length ≤ 100000) (hpl0 : 0 ≤ pl) (hpl : pl ≤ 4) (his : is.length ≤ 200) (hkb : ∀ p ∈ is, 0 ≤ p.2 ∧ p.2 ≤ 60) :
    ∀ (f dep m a v : Nat) (A : List AO) (C : List SV) (L : List AO), dep + f = 42 → m ≤ 2000 → a ≤ l.length → C.length = m * 6 → cellsOk C → TS A jr jg l pl is a m v →
      OkP Try.prog 71 [i64 dep, rp (A.length + 1), rp A.length, rp (A.length + 2)] (TT A jr jg C v L) (TrP A jr jg l pl is m C L (treeR pl is l f dep m a)) := by
  intro f
  induction f with
  | zero =>
    intro dep m a v A C L hf hm2 ha hC hCo hT
    refine okP_fn hm Try.func71 c71 (by simp [rp, SV.under, TT]) fun hcl => ?_
    have hdep : 40 < (dep : Int) := by omega
    by_cases h2 : m = 2000
    · subst h2
      simp -implicitDefEqProofs [i71, r71, TT, rp, hT.eg, hT.er, pickI]
      refine call_go (ok53 5 a) ?_
      simp -implicitDefEqProofs
      exact ⟨_, _, ⟨rfl, hT.pan _⟩, cv_id⟩
    · have h2' : ¬ (m : Int) = 2000 := by omega
      simp -implicitDefEqProofs [i71, r71, TT, rp, hT.eg, hT.er, pickI, hdep, h2, h2']
      refine call_go (ok53 5 a) ?_
      simp -implicitDefEqProofs
      exact ⟨_, _, ⟨rfl, hT.pan _⟩, cv_id⟩
  | succ f ih =>
    intro dep m a v A C L hf hm2 ha hC hCo hT
    refine okP_fn hm Try.func71 c71 (by simp [rp, SV.under, TT]) fun hcl => ?_
    by_cases h2 : m = 2000
    · subst h2
      simp -implicitDefEqProofs [i71, r71, TT, rp, hT.eg, hT.er, pickI]
      refine call_go (ok53 5 a) ?_
      simp -implicitDefEqProofs
      refine ⟨_, _, ?_, cv_id⟩
      simp only [treeR, TrP, true_or, if_true]
      exact ⟨trivial, hT.pan _⟩
    · have h2' : ¬ (m : Int) = 2000 := by omega
      by_cases h3 : 40 < dep
      · have h3' : 40 < (dep : Int) := by omega
        simp -implicitDefEqProofs [i71, r71, TT, rp, hT.eg, hT.er, pickI, h3', h2, h2']
        refine call_go (ok53 5 a) ?_
        simp -implicitDefEqProofs
        refine ⟨_, _, ?_, cv_id⟩
        simp only [treeR, TrP, h3, or_true, if_true]
        exact ⟨trivial, hT.pan _⟩
      · have h3' : ¬ 40 < (dep : Int) := by omega
        have h72 := ok72 (H := TT A jr jg C v L) (jr := jr) (jg := jg) (a := a) (pl := pl) (nv := .own (A.length + 3) 0 m 6 v) (is := is) hoct hl (by unfold TT; rw [List.getElem?_append_left (getElem?_lt hT.r)]; exact hT.r) (by unfold TT; rw [List.getElem?_append_left (getElem?_lt hT.g)]; exact hT.g) hT.ne ha hpl0 hpl his
        have hnx := fun (x : Nd) (k : Int) (a' : Nat) (h : ndR pl is l a = .ok ((x, k), a')) => ndR_next hkb h
        simp only [treeR]
        rw [if_neg (by omega)]
        generalize ndR pl is l a = q at *
        simp only [rp] at h72
        simp -implicitDefEqProofs [i71, r71, TT, rp, hT.eg, hT.er, pickI, h3', h2, h2']
        refine call_goP (OkP.cast rfl (by simp [TT, rp]) h72) ?_
        rintro o H' ho
        cases q with
        | error e =>
          obtain ⟨rfl, hk⟩ := ho
          simp -implicitDefEqProofs
          exact ⟨_, _, ⟨rfl, hT.keep hk⟩, cv_id⟩
        | ok p =>
          obtain ⟨⟨x, k⟩, a1⟩ := p
          obtain ⟨rfl, rfl⟩ := ho
          have hn := hnx x k a1 rfl
          obtain ⟨kk, rfl⟩ : ∃ kk : Nat, k = kk := ⟨k.toNat, by omega⟩
          have hT1 := hT.setr a1
          have hS1 : Same A (A.set jr (rdO l a1)) jr jg := Same.setr _
          have e1 : (TT A jr jg C v L).set jr (rdO l a1) = TT (A.set jr (rdO l a1)) jr jg C v L := by
            unfold TT; rw [List.set_append_left _ _ (getElem?_lt hT.r)]; simp
          rw [e1]
          have hA1 : A.length = (A.set jr (rdO l a1)).length := by simp
          rw [hA1] at *
          generalize A.set jr (rdO l a1) = A1 at *
          simp only [Int.toNat_natCast]
          simp -implicitDefEqProofs [TT, rp, hT1.eg, hT1.er, ndV, sl]
          refine ⟨rfl, by omega, by omega, hC, ?_⟩
          rw [hT1.sg]
          have hT2 := hT1.setg (m + 1) (v + 1)
          have hS2 : Same A (A1.set jg (gO pl (.own (A1.length + 3) 0 (m + 1) 6 (v + 1)) is)) jr jg := hS1.trans (Same.setg _)
          simp -implicitDefEqProofs [gO]
          simp only [gO] at hT2 hS2
          generalize hA2 : A1.set jg ⟨[i64 pl, .own (A1.length + 3) 0 (m + 1) 6 (v + 1), .slc (infs is) is.length], 25, 0, true⟩ = A2 at hT2 hS2 ⊢
          have hl2 : A1.length = A2.length := by rw [← hA2]; simp
          clear hA2
          rw [hl2] at *
          have hg3 : (Cx C x nl [])[m * 6 + 3]? = some nl := get3 (R := [sl x.ws, sl x.ps]) hC _ _ _ _
          have hs3 : (Cx C x nl []).set (m * 6 + 3) (.own (A2.length + (L.length + 6)) 0 0 1 0) = Cx C x (.own (A2.length + (L.length + 6)) 0 0 1 0) [] := by
            simp only [Cx]
            rw [List.set_append_right _ _ (by omega), hC, Nat.add_sub_cancel_left]; rfl
          have hj3 : (TT A2 jr jg (Cx C x nl []) (v + 1) (L ++ [⟨[i64 x.k, i64 x.p, i64 x.i, nl, sl x.ws, sl x.ps], 74, 0, true⟩, ⟨[i64 x.k, i64 x.p, i64 x.i, nl, sl x.ws, sl x.ps], 74, 0, true⟩]))[A2.length + 3]? = some ⟨Cx C x nl [], 74, v + 1, true⟩ := by simp [TT]
          refine LI.cong (H' := TT A2 jr jg (Cx C x nl []) (v + 1) (L ++ [⟨[i64 x.k, i64 x.p, i64 x.i, nl, sl x.ws, sl x.ps], 74, 0, true⟩, ⟨[i64 x.k, i64 x.p, i64 x.i, nl, sl x.ws, sl x.ps], 74, 0, true⟩])) (by simp [TT, Cx, rp, sl, nds]) ?_
          refine LI.tell (Tell.own0 (j := A2.length + 3) (p := m * 6 + 3) (o := ⟨Cx C x nl [], 74, v + 1, true⟩) hj3 rfl hg3 3 1) ?_
          obtain ⟨R, hR⟩ : ∃ R, kidsT (treeR pl is l f (dep + 1)) kk (m + 1) a1 = R := ⟨_, rfl⟩
          rw [hR]
          refine LI.cong (H' := TT A2 jr jg (Cx C x (.own (A2.length + (L.length + 6)) 0 ([] : List Int).length 1 ([] : List Int).length) []) (v + 1) (L ++ (⟨[i64 x.k, i64 x.p, i64 x.i, nl, sl x.ws, sl x.ps], 74, 0, true⟩ : AO) :: (⟨[i64 x.k, i64 x.p, i64 x.i, nl, sl x.ws, sl x.ps], 74, 0, true⟩ : AO) :: (⟨ints ([] : List Int), 3, ([] : List Int).length, true⟩ : AO) :: [])) ?_
            (loopC71_0 (A := A) (A' := A2) (f := f) (dep := dep) (mm := m) (kk := kk) (x := x) (C := C) (L := L) (is := is) (r := R) hC hCo (by omega) (by omega) (by omega) hkb (fun m' a' v' A' C' L' h1 h2 h3 h4 h5 => ih (dep + 1) m' a' v' A' C' L' (by omega) h1 h2 h3 h4 h5)
              (fun e he env H' hp => ?_) (fun nx sub a' A' v' M he hs' hT' env => ?_) kk 0 a1 (v + 1) [] [] _ [] (by omega) rfl (by simp only [List.length_nil]; omega) hn.2.1 hS2 hT2 (by simp only [List.length_nil, Nat.add_zero, hR]; cases R with | error e => rfl | ok z => obtain ⟨z1, z2, z3⟩ := z; simp) ?_ ?_ ?_ ?_ ?_ ?_)
          · simp only [TT_len, List.length_append, List.length_cons, List.length_nil]
            rw [show A2.length + (L.length + (0 + 1 + 1) + 4) = A2.length + (L.length + 6) by omega, hs3]
            simp [TT, ints]
          · subst he
            simp -implicitDefEqProofs
            exact ⟨_, _, ⟨rfl, hp⟩, cv_id⟩
          · subst he
            simp -implicitDefEqProofs
            refine ⟨_, TT A' jr jg (C ++ nds ({ x with nx := nx } :: sub)) v' L, ⟨rfl, A', v', hs', ?_, rfl⟩, ?_⟩
            · have e : m + ({ x with nx := nx } :: sub).length = m + 1 + sub.length := by simp only [List.length_cons]; omega
              rw [e]; exact hT'
            · have := TT_cv (x := x) (nx := nx) (sub := sub) (F1 := ⟨[i64 x.k, i64 x.p, i64 x.i, nl, sl x.ws, sl x.ps], 74, 0, true⟩) (F2 := ⟨[i64 x.k, i64 x.p, i64 x.i, nl, sl x.ws, sl x.ps], 74, 0, true⟩) (M := M) hC hCo hcl hs' hT' hn.2.2.1
              rw [← hS2.len] at this
              exact this
          all_goals simp [rp]
end
end Go.Proofs.Ytoghpbjllompaaa.Rc

/- P26 -/
namespace Go.Proofs.Ytoghpbjllompaaa.Rc
open Go.Ab
/-- What reading all nodes comes to. -/
def TrQ (A : List AO) (jr jg : Nat) (l : List Int) (pl : Int) (is : List (Int × Int)) (r : Except Fl (List Nd × Nat)) (o : Out) (H' : List AO) : Prop :=
  match r with
  | .ok (ns, a') => o = .ret (.tup []) ∧ Same A H' jr jg ∧ H'[jr]? = some (rdO l a') ∧ H'[jg]? = some (gO pl (.slc (nds ns) ns.length) is)
  | .error e => o = .pan (fltV e) ∧ PanT A jr jg H'
section
variable {H : List AO} {l : List Int} {jr jg a : Nat} {pl : Int} {is : List (Int × Int)}
theorem ok51 (hoct : Oct l) (hl : l.length ≤ 100000) (hr : H[jr]? = some (rdO l a)) (hg : H[jg]? = some (gO pl nl is)) (hne : jr ≠ jg) (ha : a ≤ l.length) (hpl0 : 0 ≤ pl) (hpl : pl ≤ 4) (his : is.length ≤ 200) (hkb : ∀ p ∈ is, 0 ≤ p.2 ∧ p.2 ≤ 60) :
    OkP Try.prog 51 [rp jr, rp jg] H (TrQ H jr jg l pl is (treeR pl is l 42 0 0 a)) := by
  have hj := getElem?_lt hr
  have hjg := getElem?_lt hg
  refine okP_fn hm Try.func51 c51 (by simp [rp, SV.under, hj, hjg]) fun hcl => ?_
  have hT : TS (H.set jg (gO pl (.own (H.length + 3) 0 0 6 0) is)) jr jg l pl is a 0 0 := ⟨by rw [List.getElem?_set_ne hne.symm]; exact hr, by rw [List.getElem?_set_self hjg]; simp, hne⟩
  have h71 := ok71 hoct hl hpl0 hpl his hkb 42 0 0 a 0 (H.set jg (gO pl (.own (H.length + 3) 0 0 6 0) is)) [] [] (by omega) (by omega) ha rfl (fun s hs => by simp at hs) hT
  have hS : Same H (H.set jg (gO pl (.own (H.length + 3) 0 0 6 0) is)) jr jg := Same.setg _
  generalize treeR pl is l 42 0 0 a = q at *
  simp -implicitDefEqProofs [i51, r51, rp]
  have htell : Tell [] (H ++ [⟨[rp jr], 80, 0, true⟩, ⟨[rp jg], 83, 0, true⟩, ⟨[.fn (.func 71) [] [rp (H.length + 1), rp H.length, rp (H.length + 2)]], 119, 0, true⟩]) [] (TT (H.set jg (gO pl (.own (H.length + 3) 0 0 6 0) is)) jr jg [] 0 []) := by
    have := Tell.own0 (env := []) (H := H ++ [⟨[rp jr], 80, 0, true⟩, ⟨[rp jg], 83, 0, true⟩, ⟨[.fn (.func 71) [] [rp (H.length + 1), rp H.length, rp (H.length + 2)]], 119, 0, true⟩]) (j := jg) (p := 1) (o := gO pl nl is) (by rw [List.getElem?_append_left hjg]; exact hg) rfl rfl 74 6
    simpa [TT, gO, List.set_append_left _ _ hjg] using this
  have key : ∀ K : Out → List AO → Prop, (∀ o H', TrP (H.set jg (gO pl (.own (H.length + 3) 0 0 6 0) is)) jr jg l pl is 0 [] [] q o H' → K o H') →
      CallTo Try.prog (.fn (.func 71) [] [rp (H.length + 1), rp H.length, rp (H.length + 2)]) [i64 0] (H ++ [⟨[rp jr], 80, 0, true⟩, ⟨[rp jg], 83, 0, true⟩, ⟨[.fn (.func 71) [] [rp (H.length + 1), rp H.length, rp (H.length + 2)]], 119, 0, true⟩]) K := fun K hK =>
    call_ofP (a := []) (args := [_]) (b := [_, _, _]) (OkP.tell htell (by simp [TT]) (by simpa using h71)) hK
  refine callT rfl rfl (by simp [rp]) (key _ ?_)
  rintro o H' ho
  cases q with
  | error e =>
    obtain ⟨rfl, hp⟩ := ho
    simp -implicitDefEqProofs
    exact ⟨_, _, ⟨rfl, hp.same hS⟩, cv_id⟩
  | ok p =>
    obtain ⟨ns, a'⟩ := p
    obtain ⟨rfl, A', v', hs', hT', rfl⟩ := ho
    simp -implicitDefEqProofs
    have hS2 := hS.trans hs'
    refine ⟨_, A'.set jg (gO pl (.slc (nds ns) ns.length) is), ⟨rfl, hS2.trans (Same.setg _), by rw [List.getElem?_set_ne hne.symm]; exact hT'.r, by rw [List.getElem?_set_self (getElem?_lt hT'.g)]⟩, ?_⟩
    have hmap : (gO pl (.own (A'.length + 3) 0 (0 + ns.length) 6 v') is).cells.map (SV.fz A'.length [] [⟨[rp jr], 80, 0, true⟩, ⟨[rp jg], 83, 0, true⟩, ⟨[.fn (.func 71) [] [rp (A'.length + 1), rp A'.length, rp (A'.length + 2)]], 119, 0, true⟩, ⟨nds ns, 74, v', true⟩] 4) = (gO pl (.slc (nds ns) ns.length) is).cells := by
      simp [gO, nds_len, Nat.mul_comm]
      exact List.take_of_length_le (by rw [nds_len]; omega)
    have hcl' := closed_iff.1 hcl
    have k := cv_noneM (n0 := H.length) (Hx := TT A' jr jg ([] ++ nds ns) v' []) (r := .tup []) 4 (H0 := A') (L := [⟨[rp jr], 80, 0, true⟩, ⟨[rp jg], 83, 0, true⟩, ⟨[.fn (.func 71) [] [rp (A'.length + 1), rp A'.length, rp (A'.length + 2)]], 119, 0, true⟩, ⟨nds ns, 74, v', true⟩]) (by simp [TT]) (by rw [hS2.len]; exact Nat.le_refl _)
      (Refz.one (j := jg) (o := gO pl (.own (A'.length + 3) 0 (0 + ns.length) 6 v') is) (fun i o hi ho s hs => by
        by_cases h2 : i = jr
        · subst h2
          rw [hT'.r] at ho; cases ho
          simp only [rdO, List.mem_cons, List.not_mem_nil, or_false] at hs
          rcases hs with rfl | rfl <;> simp
        · rw [hS2.at_ i h2 hi] at ho
          have := cl_get hcl' ho s hs
          rw [hS2.len]; exact this) hT'.g rfl (by
        rw [hmap]
        intro s hs
        simp only [gO, List.mem_cons, List.not_mem_nil, or_false] at hs
        rcases hs with rfl | rfl | rfl <;> rfl))
    rw [hmap] at k
    simpa [gO] using k
/-- The number that four bytes are. -/
def be (n : Int) (l : List Int) : Int := l.foldl (fun s c => s * 256 + c) n
def hdR (b : List Int) : List Int → Nat → Option Nat
  | [], _ => none
  | c :: r, i => if b.getD i 0 ≠ c then some i else hdR b r (i + 1)
def opnR (b : List Int) (c : Int) : Except Fl (List Int) :=
  if 100000 < b.length then .error (4, 100000) else if b.length < 7 then .error (16, b.length) else
    if be 0 (b.drop (b.length - 4)) ≠ sumV (b.take (b.length - 4)) then .error (14, b.length - 4) else
      match hdR b [80, c, 1] 0 with
      | some i => .error (3, i)
      | none => .ok (b.take (b.length - 4))
theorem be_rng : ∀ (l : List Int) (n : Int) (k : Nat), Oct l → 0 ≤ n → n < 256 ^ k → 0 ≤ be n l ∧ be n l < 256 ^ (k + l.length)
  | [], n, k, _, h0, h1 => ⟨h0, h1⟩
  | c :: l, n, k, ho, h0, h1 => by
    have hc := ho c (by simp)
    have := be_rng l (n * 256 + c) (k + 1) (fun x hx => ho x (by simp [hx])) (by omega) (by rw [Int.pow_succ]; omega)
    simp only [be, List.foldl_cons] at this ⊢
    rw [List.length_cons, show k + (l.length + 1) = k + 1 + l.length by omega]
    exact this
theorem be_snoc (l : List Int) (n c : Int) : be n (l ++ [c]) = be n l * 256 + c := by simp [be]
theorem loopC48_0 {t : List Int} (ho : Oct t) (ht : t.length ≤ 4) {e0 e3 e5 : SV} {N : Nat} {K : XE → Env → List AO → Prop}
    (hexit : ∀ env, env.get 0 = e0 → env.get 3 = e3 → env.get 5 = e5 → env.get 6 = i64 (be 0 t) → K (.exit 0) env H) :
    ∀ (n i : Nat) (env : Env), i + n = t.length → env.get 0 = e0 → env.get 3 = e3 → env.get 5 = e5 → env.get 6 = i64 (be 0 (t.take i)) → env.get 26 = .slc (byts t) t.length → env.get 27 = i64 t.length → env.get 28 = i64 i → LI Try.prog N drawB l48_0 env H K := by
  intro n
  induction n with
  | zero =>
    intro i env hi h0 h3 h5 h6 h26 h27 h28
    refine li_go hm l48_0.eq_1 ?_
    have e : i = t.length := by omega
    subst e
    rw [List.take_length] at h6
    generalize be 0 t = bv at *
    simp -implicitDefEqProofs [h0, h3, h5, h6, h26, h27, h28]
    refine hexit _ ?_ ?_ ?_ ?_ <;> simp [h0, h3, h5, h6]
  | succ n ih =>
    intro i env hi h0 h3 h5 h6 h26 h27 h28
    refine li_go hm l48_0.eq_1 ?_
    have hlt : i < t.length := by omega
    have hc := ho _ (List.getElem_mem hlt)
    have w1 : IntKind.i64.wrap ((i : Int) + 1) = ((i + 1 : Nat) : Int) := wrap_succ (by omega)
    have hb := be_rng (t.take i) 0 0 (fun x hx => ho x (List.mem_of_mem_take hx)) (by omega) (by omega)
    have hp : be 0 (t.take i) < 16777216 := by
      have h : (t.take i).length ≤ 3 := by simp; omega
      have hb := hb.2
      generalize (t.take i).length = k at hb h
      generalize be 0 (t.take i) = v at *
      rcases (by omega : k = 0 ∨ k = 1 ∨ k = 2 ∨ k = 3) with rfl | rfl | rfl | rfl <;> simp only [Nat.zero_add] at hb <;> omega
    have w2 : IntKind.i64.wrap (be 0 (t.take i) * 2 ^ min 8 IntKind.i64.bits) = be 0 (t.take i) * 256 := by
      have e : (2 : Int) ^ min 8 IntKind.i64.bits = 256 := by decide
      rw [e]; exact wrap_id (by omega) (by omega)
    have w3 : IntKind.i64.wrap t[i] = t[i] := wrap_id (by omega) (by omega)
    have hbt := byts_at hlt
    obtain ⟨z, hz⟩ : ∃ z, t[i] = z := ⟨_, rfl⟩
    rw [hz] at hbt hc w3
    have w4 : IntKind.i64.wrap (be 0 (t.take i) * 256 + z) = be 0 (t.take (i + 1)) := by
      rw [List.take_succ_eq_append_getElem hlt, be_snoc, hz]
      exact wrap_id (by omega) (by omega)
    have ih := ih (i + 1)
    generalize be 0 (t.take (i + 1)) = n1 at *
    generalize be 0 (t.take i) = n0 at *
    have e8 : (2 : Int) ^ min 8 IntKind.i64.bits = 256 := by decide
    rw [e8] at w2
    simp -implicitDefEqProofs [h0, h3, h5, h6, h26, h27, h28, hlt, hbt, hz, e8, w1, w2, w3, w4]
    repeat (refine And.intro (by omega) ?_)
    refine ih _ (by omega) ?_ ?_ ?_ ?_ ?_ ?_ ?_ <;> simp [h0, h3, h5, h26, h27]
theorem loopC48_1 {b : List Int} {c : Int} (hb : 7 ≤ b.length) (hbl : b.length ≤ 100000) {r : Option Nat} {e5 : SV} {N : Nat} {K : XE → Env → List AO → Prop}
    (herr : ∀ i, r = some i → ∀ env, K (.panic (fltV (3, i))) env H) (hexit : r = none → ∀ env, env.get 0 = .slc (byts b) b.length → env.get 5 = e5 → K (.exit 2) env H) :
    ∀ (n i : Nat) (env : Env), i + n = 3 → hdR b ([80, c, 1].drop i) i = r → env.get 0 = .slc (byts b) b.length → env.get 5 = e5 → env.get 46 = .agg [u8 80, u8 c, u8 1] → env.get 47 = i64 i → LI Try.prog N drawB l48_1 env H K := by
  intro n
  induction n with
  | zero =>
    intro i env hi hr h0 h5 h46 h47
    refine li_go hm l48_1.eq_1 ?_
    have e : i = 3 := by omega
    subst e
    simp -implicitDefEqProofs [h0, h5, h46, h47]
    refine hexit (by rw [← hr]; rfl) _ ?_ ?_ <;> simp [h0, h5]
  | succ n ih =>
    intro i env hi hr h0 h5 h46 h47
    refine li_go hm l48_1.eq_1 ?_
    have hi3 : i < 3 := by omega
    have hlt : i < b.length := by omega
    have hlt3 : i < ([80, c, 1] : List Int).length := by simpa using hi3
    have w1 : IntKind.i64.wrap ((i : Int) + 1) = ((i + 1 : Nat) : Int) := wrap_succ (by omega)
    have hg : ([u8 80, u8 c, u8 1] : List SV)[i]? = some (u8 ([80, c, 1] : List Int)[i]) := by
      rcases i with _ | _ | _ | i
      · rfl
      · rfl
      · rfl
      · omega
    rw [List.drop_eq_getElem_cons hlt3] at hr
    simp only [hdR] at hr
    have hgd : b.getD i 0 = b[i] := by simp [hlt]
    rw [hgd] at hr
    generalize ([80, c, 1] : List Int)[i] = z at hr hg
    have hg' : ∀ h, ([u8 80, u8 c, u8 1] : List SV)[i]'h = u8 z := fun h => by
      have := List.getElem?_eq_getElem h
      rw [hg] at this; exact (Option.some.inj this).symm
    have hi3' : (i : Int) < 3 := by omega
    have hbt := byts_at hlt
    obtain ⟨y, hy⟩ : ∃ y, b[i] = y := ⟨_, rfl⟩
    rw [hy] at hbt hr
    simp -implicitDefEqProofs [h0, h5, h46, h47, hi3, hi3', hlt, hbt, hy, hg, hg']
    repeat (refine And.intro (by omega) ?_)
    by_cases hz : y = z
    · rw [if_neg (by simpa using hz)] at hr
      simp -implicitDefEqProofs [hz, w1]
      refine ih (i + 1) _ (by omega) hr ?_ ?_ ?_ ?_ <;> simp [h0, h5, h46]
    · rw [if_pos hz] at hr
      simp -implicitDefEqProofs [hz]
      refine call_go (ok53 3 i) ?_
      simp -implicitDefEqProofs
      exact herr i hr.symm _
/-- What opening a reader comes to. -/
def OpP (H : List AO) (r : Except Fl (List Int)) (o : Out) (H' : List AO) : Prop :=
  match r with
  | .ok l => o = .ret (rp H.length) ∧ H' = H ++ [rdO l 3]
  | .error e => o = .pan (fltV e) ∧ Keep H [] H'
theorem ok48 {b : List Int} (ho : Oct b) (hlb : b.length < 4611686018427387904) (c : Int) : OkP Try.prog 48 [.slc (byts b) b.length, .agg [u8 80, u8 c, u8 1]] H (OpP H (opnR b c)) := by
  refine okP_fn hm Try.func48 c48 (by simp) fun hcl => ?_
  have hK : Keep H [] (H ++ [⟨[u8 80, u8 c, u8 1], 68, 0, true⟩]) := Keep.pre (L := [⟨[u8 80, u8 c, u8 1], 68, 0, true⟩]) (Keep.refl _ _)
  unfold opnR
  by_cases h1 : 100000 < b.length
  · have h1' : 100000 < (b.length : Int) := by omega
    rw [if_pos h1]
    simp -implicitDefEqProofs [i48, r48, h1']
    refine call_go (ok53 4 100000) ?_
    simp -implicitDefEqProofs
    exact ⟨_, _, ⟨rfl, hK⟩, cv_id⟩
  · have h1' : ¬ 100000 < (b.length : Int) := by omega
    rw [if_neg h1]
    by_cases h2 : b.length < 7
    · have h2' : (b.length : Int) < 7 := by omega
      rw [if_pos h2]
      simp -implicitDefEqProofs [i48, r48, h1', h2']
      refine call_go (ok53 16 b.length) ?_
      simp -implicitDefEqProofs
      exact ⟨_, _, ⟨rfl, hK⟩, cv_id⟩
    · have h2' : ¬ (b.length : Int) < 7 := by omega
      rw [if_neg h2]
      obtain ⟨e, he⟩ : ∃ e : Nat, b.length = e + 4 := ⟨b.length - 4, by omega⟩
      have w1 : IntKind.i64.wrap ((b.length : Int) - 4) = (e : Int) := by rw [wrap_id (by omega) (by omega)]; omega
      have hdr : (byts b).drop e = byts (b.drop e) := byts_drop _ _
      have htl : (b.drop e).length = 4 := by simp; omega
      have ht4 : ((byts b).drop e).take 4 = byts (b.drop e) := by rw [hdr]; exact List.take_of_length_le (by simp; omega)
      have htk : (byts b).take e = byts (b.take e) := byts_take _ _
      have htkl : (b.take e).length = e := by simp; omega
      have hsub : b.length - e = 4 := by omega
      have he4 : b.length - 4 = e := by omega
      rw [he4]
      simp -implicitDefEqProofs [i48, r48, h1', h2', w1, hsub, ht4]
      have hot : Oct (b.drop e) := fun x hx => ho x (List.mem_of_mem_drop hx)
      have hoe : Oct (b.take e) := fun x hx => ho x (List.mem_of_mem_take hx)
      refine ⟨by omega, loopC48_0 (t := b.drop e) hot (by omega) (e0 := .slc (byts b) b.length) (e3 := (SV.own H.length 0 0 0 0).ptr 0) (e5 := i64 e) ?_ 4 0 _ (by omega) ?_ ?_ ?_ ?_ ?_ ?_ ?_⟩
      · intro env h0 h3 h5 h6
        have h20 := ok20 (H := H ++ [⟨[u8 80, u8 c, u8 1], 68, 0, true⟩]) (IsB.slc _ (b.take e)) hoe (by omega)
        rw [htkl, ← htk] at h20
        generalize sumV (b.take e) = sv at *
        generalize be 0 (b.drop e) = bv at *
        simp -implicitDefEqProofs [h0, h3, h5, h6]
        refine ⟨by omega, call_go (by simpa [htk] using h20) ?_⟩
        have heI : (b.length : Int) - 4 = e := by omega
        by_cases hs : bv = sv
        · rw [if_pos hs]
          simp -implicitDefEqProofs [h0, h3, h5, h6, hs]
          refine loopC48_1 (c := c) (r := hdR b [80, c, 1] 0) (e5 := i64 e) (by omega) (by omega) ?_ ?_ 3 0 _ rfl rfl ?_ ?_ ?_ ?_
          · intro i hi env
            rw [hi]
            simp -implicitDefEqProofs
            exact ⟨_, _, ⟨rfl, hK⟩, cv_id⟩
          · intro hi env h0 h5
            rw [hi]
            simp -implicitDefEqProofs [h0, h5]
            refine ⟨by omega, _, _, ⟨rfl, rfl⟩, ?_⟩
            rw [htk]
            refine cv_kp 4 [1] hcl rfl ?_ ?_ ?_
            · unfold SV.fz; simp [SV.under, rp, placeOf]
            · simp [keptOk, fz_byts]
            · simp [keptO, rdO, htkl]
          all_goals simp [h0, h5]
        · rw [if_neg hs]
          simp -implicitDefEqProofs [h0, h3, h5, h6, hs]
          refine call_go (ok53 14 e) ?_
          simp -implicitDefEqProofs
          rw [heI]
          exact ⟨_, _, ⟨rfl, hK⟩, cv_id⟩
      all_goals simp [htl, be]
end
end Go.Proofs.Ytoghpbjllompaaa.Rc

/- P27 -/
namespace Go.Proofs.Ytoghpbjllompaaa.Rc
open Go.Ab
def flO (e : Fl) : AO := ⟨[i64 e.1, i64 e.2], 47, 0, true⟩
section
variable {H : List AO} {f g : Nat} {e0 e : Fl}
theorem ok47n (hf : H[f]? = some (flO e0)) : Ok Try.prog 47 [.val .nilIface, rp f] H (.ret (.tup [])) H := by
  have hj := getElem?_lt hf
  refine ok_fn hm Try.func47 c47 (by simp [rp, SV.under, hj]) fun hcl => ?_
  simp -implicitDefEqProofs [i47, r47, rp, SV.isIf, SV.ifNil]
  exact cv_id
theorem ok47e (hf : H[f]? = some (flO e0)) : Ok Try.prog 47 [fltV e, rp f] H (.ret (.tup [])) (H.set f (flO e)) := by
  have hj := getElem?_lt hf
  have e1 : objCells H f 0 = (flO e0).cells := objCells_of (o := flO e0) hf rfl
  have e2 : ∀ g : AO → AO, Ab.setObj H f g = H.set f (g (flO e0)) := fun g => setObj_some hf g
  have e3 : objCells (H.set f (flO (13, 0))) f 0 = (flO (13, 0)).cells := objCells_of (o := flO (13, 0)) (by rw [List.getElem?_set_self hj]) rfl
  simp only [flO] at e1 e2 e3
  refine ok_fn hm Try.func47 c47 (by simp [rp, SV.under, hj, fltV]) fun hcl => ?_
  simp -implicitDefEqProofs [i47, r47, rp, fltV, e1, e2, e3, SV.isIf, SV.ifNil, SV.ifIs, SV.ifVal, flO]
  have e4 : objCells (H.set f ⟨[i64 13, i64 0], 47, 0, true⟩ ++ [(⟨[i64 e.1, i64 e.2], 47, 0, true⟩ : AO)]) f 0 = [i64 13, i64 0] := by rw [objCells_app _ (by simpa using hj)]; exact e3
  have e5 : ∀ h : AO → AO, Ab.setObj (H.set f ⟨[i64 13, i64 0], 47, 0, true⟩ ++ [(⟨[i64 e.1, i64 e.2], 47, 0, true⟩ : AO)]) f h = H.set f (h ⟨[i64 13, i64 0], 47, 0, true⟩) ++ [⟨[i64 e.1, i64 e.2], 47, 0, true⟩] := fun h => by
    rw [setObj_some (o := ⟨[i64 13, i64 0], 47, 0, true⟩) (by rw [List.getElem?_append_left (by simpa using hj), List.getElem?_set_self hj])]
    rw [List.set_append_left _ _ (by simpa using hj), List.set_set]
  rw [e4, e5]
  refine ⟨by simp, ?_⟩
  exact cv_drop rfl (by simp) (closed_iff.2 fun o ho s hs => by
    rcases List.mem_or_eq_of_mem_set ho with ho | rfl
    · have := closed_iff.1 hcl o ho s hs; simpa using this
    · simp at hs; rcases hs with rfl | rfl <;> rfl) rfl
theorem okD46n (hf : H[f]? = some (flO (0, e0.2))) (hg : g < H.length) : OkD Try.prog 46 [rp f, rp g] H none (fun H' => H' = H) := by
  have hj := getElem?_lt hf
  have e1 : objCells H f 0 = (flO (0, e0.2)).cells := objCells_of (o := flO (0, e0.2)) hf rfl
  refine okD_rc hm Try.func46 c46 (by rfl) fun hcl => ?_
  simp -implicitDefEqProofs [i46s, i46, rp, rvD]
  refine call_go (ok47n hf) ?_
  simp -implicitDefEqProofs [e1, flO, rp]
  exact cv_id
theorem okD46e (hf : H[f]? = some (flO e0)) {c : List SV} (hg : H[g]? = some ⟨c, 25, 0, true⟩) (hc : c.length = 3) (hne : f ≠ g) (he : e.1 ≠ 0) :
    OkD Try.prog 46 [rp f, rp g] H (some (fltV e)) (fun H' => H' = (H.set f (flO e)).set g ⟨[i64 0, nl, nl], 25, 0, true⟩) := by
  have hj := getElem?_lt hf
  have hjg := getElem?_lt hg
  have e1 : objCells (H.set f (flO e)) f 0 = (flO e).cells := objCells_of (o := flO e) (by rw [List.getElem?_set_self hj]) rfl
  have e3 : objCells (H.set f (flO e)) g 0 = c := objCells_of (o := ⟨c, 25, 0, true⟩) (by rw [List.getElem?_set_ne hne]; exact hg) rfl
  have e2 : ∀ h : AO → AO, Ab.setObj (H.set f (flO e)) g h = (H.set f (flO e)).set g (h ⟨c, 25, 0, true⟩) := fun h => setObj_some (by rw [List.getElem?_set_ne hne]; exact hg) h
  refine okD_rc hm Try.func46 c46 (by rfl) fun hcl => ?_
  simp -implicitDefEqProofs [i46s, i46, rp, rvD]
  refine call_go (by simpa [rp] using ok47e (e := e) hf) ?_
  simp only [flO] at e1 e2 e3
  simp -implicitDefEqProofs [e1, e2, e3, flO, rp, he, hc]
  refine ⟨rfl, ?_⟩
  rw [List.drop_of_length_le (by omega)]
  exact cv_id
theorem okD62n (hf : H[f]? = some (flO (0, e0.2))) (hg : g < H.length) : OkD Try.prog 62 [rp f, rp g] H none (fun H' => H' = H) := by
  have hj := getElem?_lt hf
  have e1 : objCells H f 0 = (flO (0, e0.2)).cells := objCells_of (o := flO (0, e0.2)) hf rfl
  refine okD_rc hm Try.func62 c62 (by rfl) fun hcl => ?_
  simp -implicitDefEqProofs [i62s, i62, rp, rvD]
  refine call_go (ok47n hf) ?_
  simp -implicitDefEqProofs [e1, flO, rp]
  exact cv_id
theorem okD62e (hf : H[f]? = some (flO e0)) {c : List SV} (hg : H[g]? = some ⟨c, 28, 0, true⟩) (hc : c.length = 2) (hne : f ≠ g) (he : e.1 ≠ 0) :
    OkD Try.prog 62 [rp f, rp g] H (some (fltV e)) (fun H' => H' = (H.set f (flO e)).set g ⟨[i64 0, nl], 28, 0, true⟩) := by
  have hj := getElem?_lt hf
  have hjg := getElem?_lt hg
  have e1 : objCells (H.set f (flO e)) f 0 = (flO e).cells := objCells_of (o := flO e) (by rw [List.getElem?_set_self hj]) rfl
  have e3 : objCells (H.set f (flO e)) g 0 = c := objCells_of (o := ⟨c, 28, 0, true⟩) (by rw [List.getElem?_set_ne hne]; exact hg) rfl
  have e2 : ∀ h : AO → AO, Ab.setObj (H.set f (flO e)) g h = (H.set f (flO e)).set g (h ⟨c, 28, 0, true⟩) := fun h => setObj_some (by rw [List.getElem?_set_ne hne]; exact hg) h
  refine okD_rc hm Try.func62 c62 (by rfl) fun hcl => ?_
  simp -implicitDefEqProofs [i62s, i62, rp, rvD]
  refine call_go (by simpa [rp] using ok47e (e := e) hf) ?_
  simp only [flO] at e1 e2 e3
  simp -implicitDefEqProofs [e1, e2, e3, flO, rp, he, hc]
  refine ⟨rfl, ?_⟩
  rw [List.drop_of_length_le (by omega)]
  exact cv_id
/-- What is left when something was thrown. -/
structure PanG (H : List AO) (T n : Nat) (H' : List AO) : Prop where
  at_ : ∀ i, i < H.length → H'[i]? = H[i]?
  len : H.length + 2 ≤ H'.length
  g : ∃ c, H'[H.length]? = some ⟨c, T, 0, true⟩ ∧ c.length = n
  f : H'[H.length + 1]? = some (flO (0, 0))
theorem PanG.keep {T n : Nat} {c : List SV} {L H' : List AO} {js : List Nat} (h : Keep (H ++ ⟨c, T, 0, true⟩ :: flO (0, 0) :: L) js H') (hj : ∀ j ∈ js, H.length + 2 ≤ j) (hc : c.length = n) : PanG H T n H' := by
  have hnot : ∀ i, i < H.length + 2 → i ∉ js := fun i hi hm => by have := hj i hm; omega
  refine ⟨fun i hi => (h.at_ i (by simp; omega) (hnot i (by omega))).trans (List.getElem?_append_left hi), by have := h.len; simp at this; omega, ⟨c, ?_, hc⟩, ?_⟩
  · rw [h.at_ H.length (by simp) (hnot _ (by omega))]; simp
  · rw [h.at_ (H.length + 1) (by simp) (hnot _ (by omega))]; simp
theorem PanG.panT {c : List SV} {L H' : List AO} (h : PanT (H ++ ⟨c, 25, 0, true⟩ :: flO (0, 0) :: L) (H.length + 2) H.length H') : PanG H 25 3 H' := by
  refine ⟨fun i hi => (h.at_ i (by simp; omega) (by omega) (by omega)).trans (List.getElem?_append_left hi), by have := h.len; simp at this; omega, h.g, ?_⟩
  rw [h.at_ (H.length + 1) (by simp) (by omega) (by omega)]; simp
end
end Go.Proofs.Ytoghpbjllompaaa.Rc

/- P28 -/
namespace Go.Proofs.Ytoghpbjllompaaa.Rc
open Go.Ab
def infR (pl : Int) (l : List Int) (a : Nat) : Except Fl ((Int × Int) × Nat) :=
  match octR l 0 (pl - 1) a with
  | .error e => .error e
  | .ok (k, a1) => match octR l 1 10 a1 with
    | .error e => .error e
    | .ok (n, a2) => .ok ((k, n), a2)
def infsR (pl : Int) (l : List Int) : Nat → Nat → Except Fl (List (Int × Int) × Nat)
  | 0, a => .ok ([], a)
  | n + 1, a => match infR pl l a with
    | .error e => .error e
    | .ok (v, a') => match infsR pl l n a' with
      | .error e => .error e
      | .ok (vs, a'') => .ok (v :: vs, a'')
def preI (vs : List (Int × Int)) : Except Fl (List (Int × Int) × Nat) → Except Fl (List (Int × Int) × Nat)
  | .error e => .error e
  | .ok (ws, a) => .ok (vs ++ ws, a)
theorem preI_nil (r : Except Fl (List (Int × Int) × Nat)) : preI [] r = r := by cases r <;> rfl
theorem preI_step (pl : Int) (l : List Int) (n a : Nat) (vs : List (Int × Int)) : preI vs (infsR pl l (n + 1) a) = match infR pl l a with
    | .error e => .error e
    | .ok (v, a') => preI (vs ++ [v]) (infsR pl l n a') := by
  simp only [infsR]
  cases infR pl l a with
  | error e => rfl
  | ok p =>
    obtain ⟨v, a'⟩ := p
    simp only []
    cases infsR pl l n a' with
    | error e => rfl
    | ok q => obtain ⟨ws, b⟩ := q; simp [preI]
theorem infs_snoc (is : List (Int × Int)) (k n : Int) : infs (is ++ [(k, n)]) = infs is ++ [i64 k, i64 n] := by
  induction is with
  | nil => rfl
  | cons x r ih => simp [infs, ih]
def sI (H : List AO) (l : List Int) (a : Nat) (pl : Int) (is : List (Int × Int)) (M : List AO) : List AO :=
  H ++ ⟨[i64 pl, nl, .own (H.length + 3) 0 is.length 2 is.length], 25, 0, true⟩ :: flO (0, 0) :: rdO l a :: ⟨infs is, 72, is.length, true⟩ :: M
section
variable {H : List AO} {l : List Int}
theorem sI_r {a : Nat} {pl : Int} {is : List (Int × Int)} {M : List AO} : (sI H l a pl is M)[H.length + 2]? = some (rdO l a) := by simp [sI]
theorem sI_set {a a' : Nat} {pl : Int} {is : List (Int × Int)} {M : List AO} : (sI H l a pl is M).set (H.length + 2) (rdO l a') = sI H l a' pl is M := by simp [sI]
theorem sI_pan {a : Nat} {pl : Int} {is : List (Int × Int)} {M H' : List AO} (h : Keep (sI H l a pl is M) [H.length + 2] H') : PanG H 25 3 H' := PanG.keep h (by simp) rfl
theorem loop24 (hoct : Oct l) (hl : l.length ≤ 100000) {pl : Int} (hpl : 1 ≤ pl ∧ pl ≤ 4) {cnt : Nat} (hc : cnt ≤ 1000) {r : Except Fl (List (Int × Int) × Nat)} {N : Nat} {K : XE → Env → List AO → Prop}
    (herr : ∀ e, r = .error e → ∀ env H', env.get 2 = rp H.length → env.get 3 = rp (H.length + 1) → PanG H 25 3 H' → K (.panic (fltV e)) env H')
    (hexit : ∀ is a, r = .ok (is, a) → ∀ env M, env.get 2 = rp H.length → env.get 3 = rp (H.length + 1) → env.get 4 = rp (H.length + 2) → K (.exit 0) env (sI H l a pl is M)) :
    ∀ (n i a : Nat) (is : List (Int × Int)) (env : Env) (M : List AO), i + n = cnt → a ≤ l.length → is.length = i → preI is (infsR pl l n a) = r → env.get 2 = rp H.length → env.get 3 = rp (H.length + 1) → env.get 4 = rp (H.length + 2) →
      env.get 15 = i64 cnt → env.get 16 = i64 i → LI Try.prog N drawB l24_0 env (sI H l a pl is M) K := by
  intro n
  induction n with
  | zero =>
    intro i a is env M hi ha his hr h2 h3 h4 h15 h16
    refine li_go hm l24_0.eq_1 ?_
    have e : i = cnt := by omega
    subst e
    have hr : r = .ok (is, a) := by rw [← hr]; simp [infsR, preI]
    simp -implicitDefEqProofs [h2, h3, h4, h15, h16]
    exact hexit is a hr _ M (by simp [h2]) (by simp [h3]) (by simp [h4])
  | succ n ih =>
    intro i a is env M hi ha his hr h2 h3 h4 h15 h16
    refine li_go hm l24_0.eq_1 ?_
    have hlt : i < cnt := by omega
    have w1 : IntKind.i64.wrap ((i : Int) + 1) = ((i + 1 : Nat) : Int) := wrap_succ (by omega)
    have w2 : IntKind.i64.wrap (pl - 1) = pl - 1 := wrap_id (by omega) (by omega)
    rw [preI_step] at hr
    unfold infR at hr
    have h49 := ok49 (H := sI H l a pl is M) (j := H.length + 2) (l := l) (a := a) sI_r hoct hl ha 0 (pl - 1)
    have hnx := fun v a' h => octR_next (l := l) (lo := 0) (hi := pl - 1) (a := a) (a' := a') (n := v) h
    generalize octR l 0 (pl - 1) a = q at *
    simp only [rp] at h2 h3 h4 h49
    have eg : objCells (sI H l a pl is M) H.length 0 = [i64 pl, nl, .own (H.length + 3) 0 is.length 2 is.length] := by simp [sI]
    simp -implicitDefEqProofs [h2, h3, h4, h15, h16, hlt, w2, eg]
    refine call_goP h49 ?_
    rintro o H' ho
    cases q with
    | error e =>
      obtain ⟨rfl, hk⟩ := ho
      simp -implicitDefEqProofs
      exact herr e hr.symm _ _ (by simp [h2, rp]) (by simp [h3, rp]) (sI_pan hk)
    | ok p =>
      obtain ⟨k, a1⟩ := p
      obtain ⟨rfl, rfl⟩ := ho
      have hn := hnx k a1 rfl
      rw [sI_set]
      simp only [] at hr
      have h49 := ok49 (H := sI H l a1 pl is M) (j := H.length + 2) (l := l) (a := a1) sI_r hoct hl hn.2.1 1 10
      have hnx := fun v a' h => octR_next (l := l) (lo := 1) (hi := 10) (a := a1) (a' := a') (n := v) h
      generalize octR l 1 10 a1 = q at *
      simp only [rp] at h49
      have eg : objCells (sI H l a1 pl is M) H.length 0 = [i64 pl, nl, .own (H.length + 3) 0 is.length 2 is.length] := by simp [sI]
      simp -implicitDefEqProofs [h2, h3, h4, h15, h16, eg]
      refine call_goP h49 ?_
      rintro o H' ho
      cases q with
      | error e =>
        obtain ⟨rfl, hk⟩ := ho
        simp -implicitDefEqProofs
        exact herr e hr.symm _ _ (by simp [h2, rp]) (by simp [h3, rp]) (sI_pan hk)
      | ok p =>
        obtain ⟨m, a2⟩ := p
        obtain ⟨rfl, rfl⟩ := ho
        have hn2 := hnx m a2 rfl
        rw [sI_set]
        simp only [] at hr
        have eg : objCells (sI H l a2 pl is M) H.length 0 = [i64 pl, nl, .own (H.length + 3) 0 is.length 2 is.length] := by simp [sI]
        have il := infs_len is
        unfold sI
        simp -implicitDefEqProofs [h2, h3, h4, h15, h16, w1, il]
        repeat (refine And.intro (by omega) ?_)
        refine LI.cong (by simp [sI, infs_snoc]) (ih (i + 1) a2 (is ++ [(k, m)]) _ (M ++ [⟨[i64 k, i64 m], 72, 0, true⟩]) (by omega) hn2.2.1 (by simp; omega) hr ?_ ?_ ?_ ?_ ?_) <;> simp [rp, h2, h3, h4, h15]
end
end Go.Proofs.Ytoghpbjllompaaa.Rc

/- P29 -/
namespace Go.Proofs.Ytoghpbjllompaaa.Rc
open Go.Ab
def readG (b : List Int) : Except Fl Gm :=
  match opnR b 71 with
  | .error e => .error e
  | .ok l => match octR l 1 4 3 with
    | .error e => .error e
    | .ok (pl, a1) => match numR l 0 200 a1 with
      | .error e => .error e
      | .ok (n, a2) => match infsR pl l n.toNat a2 with
        | .error e => .error e
        | .ok (is, a3) => match treeR pl is l 42 0 0 a3 with
          | .error e => .error e
          | .ok (ns, a4) => if a4 < l.length then .error (4, a4) else if Gm.formE ⟨pl, ns, is⟩ ≠ 0 then .error (Gm.formE ⟨pl, ns, is⟩, l.length) else .ok ⟨pl, ns, is⟩
def gOf : Except Fl Gm → Gm
  | .ok g => g
  | .error _ => ⟨0, [], []⟩
def fOf {α : Type} : Except Fl α → Fl
  | .ok _ => (0, 0)
  | .error e => e
def RgP (H : List AO) (r : Except Fl Gm) (o : Out) (H' : List AO) : Prop := o = .ret (.tup [.agg (gOf r).cells, .agg [i64 (fOf r).1, i64 (fOf r).2]]) ∧ H' = H
theorem pre_split {H H' : List AO} (hl : H.length ≤ H'.length) (h : ∀ i, i < H.length → H'[i]? = H[i]?) : ∃ L, H' = H ++ L := by
  refine ⟨H'.drop H.length, ?_⟩
  conv => lhs; rw [← List.take_append_drop H.length H']
  congr 1
  apply List.ext_getElem?
  intro i
  by_cases hi : i < H.length
  · rw [List.getElem?_take_of_lt hi, h i hi]
  · rw [List.getElem?_eq_none (by simp; omega), List.getElem?_eq_none (by omega)]
section
variable {H : List AO}
theorem fin24e {H1 : List AO} {env : Env} {e : Fl} (hcl : closed H) (hp : PanG H 25 3 H1) (he : e.1 ≠ 0) (h2 : env.get 2 = rp H.length) (h3 : env.get 3 = rp (H.length + 1)) :
    FinD Try.prog H.length r24 (RgP H (.error e)) 46 [rp (H.length + 1), rp H.length] (.panic (fltV e)) env H1 := by
  obtain ⟨c, hg, hc⟩ := hp.g
  have hlen := hp.len
  refine ⟨_, okD46e hp.f hg hc (by omega) he, ?_⟩
  rintro H4 rfl
  obtain ⟨L, hL⟩ := pre_split (H := H) (H' := (H1.set (H.length + 1) (flO e)).set H.length ⟨[i64 0, nl, nl], 25, 0, true⟩) (by simp; omega) (fun i hi => by
    rw [List.getElem?_set_ne (by omega), List.getElem?_set_ne (by omega)]; exact hp.at_ i hi)
  have e1 : objCells ((H1.set (H.length + 1) (flO e)).set H.length ⟨[i64 0, nl, nl], 25, 0, true⟩) H.length 0 = [i64 0, nl, nl] := objCells_of (o := ⟨[i64 0, nl, nl], 25, 0, true⟩) (by rw [List.getElem?_set_self (by simp; omega)]) rfl
  have e2 : objCells ((H1.set (H.length + 1) (flO e)).set H.length ⟨[i64 0, nl, nl], 25, 0, true⟩) (H.length + 1) 0 = [i64 e.1, i64 e.2] := objCells_of (o := flO e) (by rw [List.getElem?_set_ne (by omega), List.getElem?_set_self (by omega)]) rfl
  refine ⟨?_, _, H, ⟨rfl, rfl⟩, ?_⟩
  · intro s hs
    simp only [r24, List.mem_cons, List.not_mem_nil, or_false] at hs
    rcases hs with rfl | rfl
    · simp [RS.side, h2, rp, e1]
    · simp [RS.side, h3, rp, e2]
  · have hr : resV env ((H1.set (H.length + 1) (flO e)).set H.length ⟨[i64 0, nl, nl], 25, 0, true⟩) r24 = .tup [.agg [i64 0, nl, nl], .agg [i64 e.1, i64 e.2]] := by
      simp [resV, r24, RS.ev, h2, h3, rp, e1, e2]
    rw [hr, hL]
    refine Cv.le (cv_drop rfl (Nat.le_refl _) hcl rfl) (le_tup (leL.cons (le_agg ?_) (leL.cons (SV.le.refl _) leL.nil)))
    exact leL.cons (SV.le.refl _) (leL.cons le_nil (leL.cons le_nil leL.nil))
theorem opnR_err {b : List Int} {c : Int} {e : Fl} (h : opnR b c = .error e) : e.1 ≠ 0 := by
  unfold opnR at h
  split at h
  · cases h; simp
  · split at h
    · cases h; simp
    · split at h
      · cases h; simp
      · split at h
        · cases h; simp
        · cases h
theorem octR_err {l : List Int} {lo hi : Int} {a : Nat} {e : Fl} (h : octR l lo hi a = .error e) : e.1 ≠ 0 := by
  unfold octR at h
  split at h
  · cases h; simp
  · split at h
    · cases h; simp
    · cases h
theorem numR_err {l : List Int} {lo hi : Int} {a : Nat} {e : Fl} (h : numR l lo hi a = .error e) : e.1 ≠ 0 := by
  unfold numR at h
  split at h
  · cases h; assumption
  · split at h
    · cases h; simp
    · cases h
theorem sgnR_err {l : List Int} {lo hi : Int} {a : Nat} {e : Fl} (h : sgnR l lo hi a = .error e) : e.1 ≠ 0 := by
  unfold sgnR at h
  split at h
  · rename_i h1; cases h; exact numR_err h1
  · split at h
    · cases h; simp
    · cases h
theorem listR_err {f : Nat → Except Fl (Int × Nat)} (hf : ∀ a e, f a = .error e → e.1 ≠ 0) : ∀ (n a : Nat) (e : Fl), listR f n a = .error e → e.1 ≠ 0
  | 0, a, e, h => by cases h
  | n + 1, a, e, h => by
    simp only [listR] at h
    split at h
    · rename_i h1; cases h; exact hf _ _ h1
    · split at h
      · rename_i h1; cases h; exact listR_err hf _ _ _ h1
      · cases h
theorem infsR_err {pl : Int} {l : List Int} : ∀ (n a : Nat) (e : Fl), infsR pl l n a = .error e → e.1 ≠ 0
  | 0, a, e, h => by cases h
  | n + 1, a, e, h => by
    simp only [infsR] at h
    split at h
    · rename_i h1
      cases h
      unfold infR at h1
      split at h1
      · rename_i h2; cases h1; exact octR_err h2
      · split at h1
        · rename_i h2; cases h1; exact octR_err h2
        · cases h1
    · split at h
      · rename_i h1; cases h; exact infsR_err _ _ _ h1
      · cases h
theorem ndR_err {pl : Int} {is : List (Int × Int)} {l : List Int} {a : Nat} {e : Fl} (h : ndR pl is l a = .error e) : e.1 ≠ 0 := by
  unfold ndR at h
  split at h
  · rename_i h1; cases h; exact octR_err h1
  · split at h
    · split at h
      · rename_i h1; cases h; exact octR_err h1
      · split at h
        · rename_i h1; cases h; exact listR_err (fun a e => numR_err) _ _ _ h1
        · cases h
    · split at h
      · split at h
        · rename_i h1; cases h; exact numR_err h1
        · cases h
      · split at h
        · split at h
          · rename_i h1; cases h; exact listR_err (fun a e => sgnR_err) _ _ _ h1
          · cases h
        · cases h; simp
theorem kidsT_err {w : Nat → Nat → Except Fl (List Nd × Nat)} (hw : ∀ m a e, w m a = .error e → e.1 ≠ 0) : ∀ (k m a : Nat) (e : Fl), kidsT w k m a = .error e → e.1 ≠ 0
  | 0, m, a, e, h => by cases h
  | k + 1, m, a, e, h => by
    simp only [kidsT] at h
    split at h
    · rename_i h1; cases h; exact hw _ _ _ h1
    · split at h
      · rename_i h1; cases h; exact kidsT_err hw _ _ _ _ h1
      · cases h
theorem treeR_err {pl : Int} {is : List (Int × Int)} {l : List Int} : ∀ (f dep m a : Nat) (e : Fl), treeR pl is l f dep m a = .error e → e.1 ≠ 0
  | 0, dep, m, a, e, h => by cases h; simp
  | f + 1, dep, m, a, e, h => by
    simp only [treeR] at h
    split at h
    · cases h; simp
    · split at h
      · rename_i h1; cases h; exact ndR_err h1
      · split at h
        · rename_i h1; cases h; exact kidsT_err (fun m a e => treeR_err f _ m a e) _ _ _ _ h1
        · cases h
theorem infsR_next {pl : Int} {l : List Int} : ∀ (n a : Nat) (is : List (Int × Int)) (a' : Nat), a ≤ l.length → infsR pl l n a = .ok (is, a') → a ≤ a' ∧ a' ≤ l.length ∧ is.length = n ∧ ∀ p ∈ is, 1 ≤ p.2 ∧ p.2 ≤ 10 ∧ 0 ≤ p.1 ∧ p.1 ≤ pl - 1
  | 0, a, is, a', ha, h => by simp only [infsR, Except.ok.injEq, Prod.mk.injEq] at h; obtain ⟨rfl, rfl⟩ := h; exact ⟨Nat.le_refl _, ha, rfl, fun p hp => by simp at hp⟩
  | n + 1, a, is, a', ha, h => by
    simp only [infsR] at h
    split at h
    · cases h
    · rename_i v a1 h1
      unfold infR at h1
      split at h1
      · cases h1
      · rename_i k a2 h2
        split at h1
        · cases h1
        · rename_i m a3 h3
          have g2 := octR_next h2
          have g3 := octR_next h3
          simp only [Except.ok.injEq, Prod.mk.injEq] at h1
          obtain ⟨rfl, rfl⟩ := h1
          split at h
          · cases h
          · rename_i vs a4 h4
            have g4 := infsR_next _ _ _ _ g3.2.1 h4
            simp only [Except.ok.injEq, Prod.mk.injEq] at h
            obtain ⟨rfl, rfl⟩ := h
            refine ⟨by omega, g4.2.1, by simp [g4.2.2.1], fun p hp => ?_⟩
            rcases List.mem_cons.1 hp with rfl | hp
            · exact ⟨by omega, by omega, by omega, by omega⟩
            · exact g4.2.2.2 p hp
end
end Go.Proofs.Ytoghpbjllompaaa.Rc

/- P30 -/
namespace Go.Proofs.Ytoghpbjllompaaa.Rc
open Go.Ab
section
variable {H : List AO}
theorem sI_tell (hcl : closed H) {l : List Int} {a : Nat} {pl : Int} {is : List (Int × Int)} {M : List AO} :
    Tell [] (sI H l a pl is M) [] (H ++ gO pl nl is :: flO (0, 0) :: rdO l a :: (AO.gv (H.length + 3) is.length (infs is) 1 (AO.dead ⟨infs is, 72, is.length, true⟩)) :: M.map (AO.gv (H.length + 3) is.length (infs is) 1)) := by
  have il := infs_len is
  have e1 : AO.gv (H.length + 3) is.length (infs is) 1 ⟨[i64 pl, nl, .own (H.length + 3) 0 is.length 2 is.length], 25, 0, true⟩ = gO pl nl is := by
    simp [AO.gv, gO, il, Nat.mul_comm]
    exact List.take_of_length_le (by omega)
  have e2 : AO.gv (H.length + 3) is.length (infs is) 1 (flO (0, 0)) = flO (0, 0) := by simp [AO.gv, flO]
  have e3 : AO.gv (H.length + 3) is.length (infs is) 1 (rdO l a) = rdO l a := by simp [AO.gv, rdO]
  have := Tell.give (env := []) (L := ⟨[i64 pl, nl, .own (H.length + 3) 0 is.length 2 is.length], 25, 0, true⟩ :: flO (0, 0) :: rdO l a :: ⟨infs is, 72, is.length, true⟩ :: M) hcl 3 1 (o := ⟨infs is, 72, is.length, true⟩) rfl rfl
  have h2 : Tell [] (sI H l a pl is M) [] (H ++ AO.gv (H.length + 3) is.length (infs is) 1 ⟨[i64 pl, nl, .own (H.length + 3) 0 is.length 2 is.length], 25, 0, true⟩ :: AO.gv (H.length + 3) is.length (infs is) 1 (flO (0, 0)) :: AO.gv (H.length + 3) is.length (infs is) 1 (rdO l a) :: (AO.gv (H.length + 3) is.length (infs is) 1 (AO.dead ⟨infs is, 72, is.length, true⟩)) :: M.map (AO.gv (H.length + 3) is.length (infs is) 1)) := this
  rw [e1, e2, e3] at h2
  exact h2
theorem fin24r {H1 : List AO} {env : Env} {g : Gm} (hcl : closed H) (hp : PanG H 25 3 H1) (hg : H1[H.length]? = some (gO g.pl (.slc (nds g.ns) g.ns.length) g.is)) (h2 : env.get 2 = rp H.length) (h3 : env.get 3 = rp (H.length + 1)) :
    FinD Try.prog H.length r24 (RgP H (.ok g)) 46 [rp (H.length + 1), rp H.length] .ret env H1 := by
  have hlen := hp.len
  refine ⟨_, okD46n (e0 := (0, 0)) hp.f (by omega), ?_⟩
  rintro H4 rfl
  obtain ⟨L, rfl⟩ := pre_split (H := H) (by omega) hp.at_
  have e1 : objCells (H ++ L) H.length 0 = g.cells := objCells_of (o := gO g.pl (.slc (nds g.ns) g.ns.length) g.is) hg rfl
  have e2 : objCells (H ++ L) (H.length + 1) 0 = [i64 0, i64 0] := objCells_of (o := flO (0, 0)) hp.f rfl
  refine ⟨?_, _, H, ⟨rfl, rfl⟩, ?_⟩
  · intro s hs
    simp only [r24, List.mem_cons, List.not_mem_nil, or_false] at hs
    rcases hs with rfl | rfl
    · simp [RS.side, h2, rp, e1, Gm.cells]
    · simp [RS.side, h3, rp, e2]
  · have hr : resV env (H ++ L) r24 = .tup [.agg g.cells, .agg [i64 0, i64 0]] := by
      simp [resV, r24, RS.ev, h2, h3, rp, e1, e2, Gm.cells]
    rw [hr]
    refine cv_drop rfl (Nat.le_refl _) hcl ?_
    simp [SV.under, SV.underL, Gm.cells, nds_under, infs_under]
theorem okP24 {b : List Int} (ho : Oct b) (hlb : b.length < 4611686018427387904) : OkP Try.prog 24 [.slc (byts b) b.length] H (RgP H (readG b)) := by
  refine okP_df hm Try.func24 c24 (by rfl) fun hcl => ?_
  have h48 := ok48 (H := H ++ [⟨[i64 0, nl, nl], 25, 0, true⟩, flO (0, 0)]) ho hlb 71
  have her := fun e => opnR_err (b := b) (c := 71) (e := e)
  have hok : ∀ l, opnR b 71 = .ok l → l.length ≤ 100000 ∧ 3 ≤ l.length ∧ Oct l := fun l h => by
    unfold opnR at h
    split at h
    · cases h
    · split at h
      · cases h
      · split at h
        · cases h
        · split at h
          · cases h
          · cases h
            exact ⟨by simp; omega, by simp; omega, fun x hx => ho x (List.mem_of_mem_take hx)⟩
  unfold readG
  generalize opnR b 71 = q at *
  simp -implicitDefEqProofs [i24a, i24s, i24f, i24]
  refine ⟨46, _, ⟨rfl, rfl⟩, call_go (ok37 71) ?_⟩
  simp only [flO] at h48
  simp -implicitDefEqProofs
  refine call_goP h48 ?_
  rintro o H' hp
  cases q with
  | error e =>
    obtain ⟨rfl, hk⟩ := hp
    simp -implicitDefEqProofs
    exact fin24e hcl (PanG.keep (c := [i64 0, nl, nl]) (L := []) hk (by simp) rfl) (her e rfl) (by simp [rp]) (by simp [rp])
  | ok l =>
    obtain ⟨rfl, rfl⟩ := hp
    have hl : l.length ≤ 100000 ∧ 3 ≤ l.length ∧ Oct l := hok l rfl
    have h49 := ok49 (H := H ++ [⟨[i64 0, nl, nl], 25, 0, true⟩, ⟨[i64 0, i64 0], 47, 0, true⟩, rdO l 3]) (j := H.length + 2) (l := l) (a := 3) (by simp) hl.2.2 hl.1 hl.2.1 1 4
    have hnx := fun v a' h => octR_next (l := l) (lo := 1) (hi := 4) (a := 3) (a' := a') (n := v) h
    have her := fun e => octR_err (l := l) (lo := 1) (hi := 4) (a := 3) (e := e)
    simp only []
    generalize octR l 1 4 3 = q at *
    simp only [rp] at h49
    simp -implicitDefEqProofs [rp]
    refine call_goP h49 ?_
    rintro o H' hp
    cases q with
    | error e =>
      obtain ⟨rfl, hk⟩ := hp
      simp -implicitDefEqProofs
      exact fin24e hcl (PanG.keep (c := [i64 0, nl, nl]) (L := [rdO l 3]) hk (by simp) rfl) (her e rfl) (by simp [rp]) (by simp [rp])
    | ok p =>
      obtain ⟨pl, a1⟩ := p
      obtain ⟨rfl, rfl⟩ := hp
      have hn := hnx pl a1 rfl
      have h50 := ok50 (H := H ++ [⟨[i64 pl, nl, nl], 25, 0, true⟩, ⟨[i64 0, i64 0], 47, 0, true⟩, rdO l a1]) (j := H.length + 2) (l := l) (a := a1) (by simp) hl.2.2 hl.1 hn.2.1 0 200
      have hnx := fun v a' h => numR_next (l := l) (lo := 0) (hi := 200) (a := a1) (a' := a') (n := v) h hn.2.1
      have hrg := fun v a' h => numR_rng (l := l) (lo := 0) (hi := 200) (a := a1) (a' := a') (n := v) h
      have her := fun e => numR_err (l := l) (lo := 0) (hi := 200) (a := a1) (e := e)
      simp only []
      generalize numR l 0 200 a1 = q at *
      simp only [rp] at h50
      simp -implicitDefEqProofs [rp]
      refine call_goP h50 ?_
      rintro o H' hp
      cases q with
      | error e =>
        obtain ⟨rfl, hk⟩ := hp
        simp -implicitDefEqProofs
        exact fin24e hcl (PanG.keep (c := [i64 pl, nl, nl]) (L := [rdO l a1]) hk (by simp) rfl) (her e rfl) (by simp [rp]) (by simp [rp])
      | ok p =>
        obtain ⟨n, a2⟩ := p
        obtain ⟨rfl, rfl⟩ := hp
        have hn2 := hnx n a2 rfl
        have hr2 := hrg n a2 rfl
        obtain ⟨n, rfl⟩ : ∃ k : Nat, n = k := ⟨n.toNat, by omega⟩
        simp only [Int.toNat_natCast]
        have her := fun e => infsR_err (pl := pl) (l := l) n a2 e
        have hnx := fun is a' => infsR_next (pl := pl) (l := l) n a2 is a' hn2.2
        obtain ⟨q, hq⟩ : ∃ q, infsR pl l n a2 = q := ⟨_, rfl⟩
        rw [hq] at her hnx ⊢
        simp -implicitDefEqProofs [rp]
        refine LI.tell (Tell.own0 (j := H.length) (p := 2) (o := ⟨[i64 pl, nl, nl], 25, 0, true⟩) (by simp) rfl rfl 72 2) (LI.cong (H' := sI H l a2 pl [] []) (by simp [sI, infs, flO, set_app0]) (loop24 hl.2.2 hl.1 (pl := pl) (by omega) (cnt := n) (by omega) (r := q) (fun e he env H' k2 k3 hp => ?_) (fun is a3 he env M k2 k3 k4 => ?_) n 0 a2 [] _ [] (by omega) hn2.2 rfl (by rw [preI_nil]; exact hq) ?_ ?_ ?_ ?_ ?_))
        · subst he
          simp -implicitDefEqProofs
          exact fin24e hcl hp (her e rfl) k2 k3
        · subst he
          have hi := hnx is a3 rfl
          simp -implicitDefEqProofs [k2, k3, k4]
          have h51 := ok51 (H := H ++ gO pl nl is :: flO (0, 0) :: rdO l a3 :: (AO.gv (H.length + 3) is.length (infs is) 1 (AO.dead ⟨infs is, 72, is.length, true⟩)) :: M.map (AO.gv (H.length + 3) is.length (infs is) 1)) (jr := H.length + 2) (jg := H.length) (a := a3) (pl := pl) (is := is)
            hl.2.2 hl.1 (by simp) (by simp) (by omega) hi.2.1 (by omega) (by omega) (by omega) (fun p hp => by have := hi.2.2.2 p hp; omega)
          have her := fun e => treeR_err (pl := pl) (is := is) (l := l) 42 0 0 a3 e
          obtain ⟨q, hq⟩ : ∃ q, treeR pl is l 42 0 0 a3 = q := ⟨_, rfl⟩
          simp only []
          rw [hq] at her h51 ⊢
          refine call_goP (OkP.tell (sI_tell hcl) (by simp [sI]) h51) ?_
          rintro o H' hp
          cases q with
          | error e =>
            obtain ⟨rfl, hk⟩ := hp
            simp -implicitDefEqProofs
            exact fin24e hcl (PanG.panT hk) (her e rfl) (by simp [k2]) (by simp [k3])
          | ok p =>
            obtain ⟨ns, a4⟩ := p
            obtain ⟨rfl, hs, hr, hg⟩ := hp
            simp -implicitDefEqProofs [k2, k3, k4]
            have hf : H'[H.length + 1]? = some (flO (0, 0)) := by rw [hs.at_ _ (by omega) (by omega)]; simp
            have hlen : H.length + 2 ≤ H'.length := by rw [hs.len]; simp
            have hpan : PanG H 25 3 H' := ⟨fun i hi => (hs.at_ i (by omega) (by omega)).trans (List.getElem?_append_left hi), hlen, ⟨_, hg, rfl⟩, hf⟩
            have ha4 : a4 ≤ l.length := (treeR_next (fun p hp => by have := hi.2.2.2 p hp; omega) 42 0 0 a3 ns a4 (by omega) hi.2.1 hq).2.2.1
            refine call_go (ok52 hr ha4) ?_
            by_cases h4 : a4 < l.length
            · rw [if_pos h4]
              simp -implicitDefEqProofs [h4]
              exact fin24e hcl hpan (by simp) (by simp [k2]) (by simp [k3])
            · rw [if_neg h4]
              have eg : objCells H' H.length 0 = [i64 pl, .slc (nds ns) ns.length, .slc (infs is) is.length] := objCells_of (o := gO pl (.slc (nds ns) ns.length) is) hg rfl
              have er : objCells H' (H.length + 2) 0 = [.slc (byts l) l.length, i64 a4] := objCells_of (o := rdO l a4) hr rfl
              simp -implicitDefEqProofs [k2, k3, k4, rp, eg]
              refine call_go (by simpa [Gm.cells] using ok36 (H := H') (g := ⟨pl, ns, is⟩)) ?_
              generalize hfe : Gm.formE ⟨pl, ns, is⟩ = fe at *
              by_cases h5 : fe = 0
              · subst h5
                simp -implicitDefEqProofs [k2, k3, k4, rp, eg]
                have e7 : Ab.setObj H' H.length (fun o => ⟨i64 pl :: SV.slc (nds ns) ns.length :: SV.slc (infs is) is.length :: List.drop 3 o.cells, o.ty, o.ver, o.live⟩) = H' := by
                  rw [setObj_some hg]; exact set_same hg
                have e8 : Ab.setObj H' (H.length + 1) (fun o => ⟨i64 0 :: i64 0 :: List.drop 2 o.cells, o.ty, o.ver, o.live⟩) = H' := by
                  rw [setObj_some hf]; exact set_same hf
                have e9 : objCells H' (H.length + 1) 0 = [i64 0, i64 0] := objCells_of (o := flO (0, 0)) hf rfl
                rw [e7, e8, e9, if_neg h4, if_pos hfe]
                refine ⟨by simp, fin24r (g := ⟨pl, ns, is⟩) hcl hpan hg (by simp [k2]) (by simp [k3])⟩
              · simp -implicitDefEqProofs [k2, k3, k4, rp, er, h5]
                refine call_go (ok53 fe l.length) ?_
                simp -implicitDefEqProofs
                rw [if_neg h4, if_neg (by rw [hfe]; exact h5), hfe]
                exact fin24e (e := (fe, l.length)) hcl hpan h5 (by simp [k2]) (by simp [k3])
        all_goals simp [rp]
end
end Go.Proofs.Ytoghpbjllompaaa.Rc

/- P31 -/
namespace Go.Proofs.Ytoghpbjllompaaa.Rc
open Go.Ab
/-- A row of shares. -/
def rowR (l : List Int) (a : Nat) : Except Fl (List Int × Nat) :=
  match octR l 1 10 a with
  | .error e => .error e
  | .ok (n, a1) => listR (numR l 0 4611686018427387903) n.toNat a1
def rowsR (l : List Int) : Nat → Nat → Except Fl (List (List Int) × Nat)
  | 0, a => .ok ([], a)
  | n + 1, a => match rowR l a with
    | .error e => .error e
    | .ok (v, a') => match rowsR l n a' with
      | .error e => .error e
      | .ok (vs, a'') => .ok (v :: vs, a'')
def preT (vs : List (List Int)) : Except Fl (List (List Int) × Nat) → Except Fl (List (List Int) × Nat)
  | .error e => .error e
  | .ok (ws, a) => .ok (vs ++ ws, a)
theorem preT_nil (r : Except Fl (List (List Int) × Nat)) : preT [] r = r := by cases r <;> rfl
theorem preT_step (l : List Int) (n a : Nat) (vs : List (List Int)) : preT vs (rowsR l (n + 1) a) = match rowR l a with
    | .error e => .error e
    | .ok (v, a') => preT (vs ++ [v]) (rowsR l n a') := by
  simp only [rowsR]
  cases rowR l a with
  | error e => rfl
  | ok p =>
    obtain ⟨v, a'⟩ := p
    simp only []
    cases rowsR l n a' with
    | error e => rfl
    | ok q => obtain ⟨ws, b⟩ := q; simp [preT]
def sR (H : List AO) (l : List Int) (a : Nat) (bb : Int) (rows : List (List Int)) (M : List AO) : List AO :=
  H ++ ⟨[i64 bb, .own (H.length + 3) 0 rows.length 1 rows.length], 28, 0, true⟩ :: flO (0, 0) :: rdO l a :: ⟨rowsV rows, 30, rows.length, true⟩ :: M
section
variable {H : List AO} {l : List Int}
theorem sR_r {a : Nat} {bb : Int} {rows : List (List Int)} {M : List AO} : (sR H l a bb rows M)[H.length + 2]? = some (rdO l a) := by simp [sR]
theorem sR_set {a a' : Nat} {bb : Int} {rows : List (List Int)} {M : List AO} : (sR H l a bb rows M).set (H.length + 2) (rdO l a') = sR H l a' bb rows M := by simp [sR]
theorem sR_pan {a : Nat} {bb : Int} {rows : List (List Int)} {M H' : List AO} (h : Keep (sR H l a bb rows M) [H.length + 2] H') : PanG H 28 2 H' := PanG.keep h (by simp) rfl
/-- A row that is being filled. -/
def fillO (vs : List Int) (n v : Nat) : AO := ⟨ints (vs ++ List.replicate n 0), 3, v, true⟩
theorem fill_set {vs : List Int} {n : Nat} {v : Int} {i : Nat} (hi : vs.length = i) : List.take i (ints (vs ++ List.replicate (n + 1) 0)) ++ i64 v :: List.drop (i + 1) (ints (vs ++ List.replicate (n + 1) 0)) = ints ((vs ++ [v]) ++ List.replicate n 0) := by
  subst hi
  have e : ints (vs ++ List.replicate (n + 1) 0) = ints vs ++ i64 0 :: ints (List.replicate n 0) := by simp [ints, List.replicate_succ]
  have e2 : ints vs ++ i64 0 :: ints (List.replicate n 0) = (ints vs ++ [i64 0]) ++ ints (List.replicate n 0) := by simp
  rw [e, List.take_left' (by simp [ints]), e2, List.drop_left' (by simp [ints])]
  simp [ints]
theorem sR_get {a : Nat} {bb : Int} {rows : List (List Int)} {M : List AO} {x : AO} : (sR H l a bb rows (M ++ [x]))[H.length + 4 + M.length]? = some x := by
  rw [show H.length + 4 + M.length = H.length + (M.length + 4) by omega]
  unfold sR
  rw [get_app]
  simp
theorem sR_put {a : Nat} {bb : Int} {rows : List (List Int)} {M : List AO} {x y : AO} : (sR H l a bb rows (M ++ [x])).set (H.length + 4 + M.length) y = sR H l a bb rows (M ++ [y]) := by
  rw [show H.length + 4 + M.length = H.length + (M.length + 4) by omega]
  unfold sR
  rw [set_app]
  simp
theorem loop32_1 (hoct : Oct l) (hl : l.length ≤ 100000) {bb : Int} {rows : List (List Int)} {M : List AO} {cnt ver : Nat} (hc : cnt ≤ 10) {r : Except Fl (List Int × Nat)} {e16 e17 : SV} {N : Nat} {K : XE → Env → List AO → Prop}
    (herr : ∀ e, r = .error e → ∀ env H', env.get 2 = rp H.length → env.get 3 = rp (H.length + 1) → PanG H 28 2 H' → K (.panic (fltV e)) env H')
    (hexit : ∀ vs a, r = .ok (vs, a) → ∀ env, env.get 2 = rp H.length → env.get 3 = rp (H.length + 1) → env.get 4 = rp (H.length + 2) → env.get 5 = .own (H.length + 4 + M.length) 0 cnt 1 ver → env.get 16 = e16 → env.get 17 = e17 → K (.exit 2) env (sR H l a bb rows (M ++ [fillO vs 0 ver]))) :
    ∀ (n i a : Nat) (vs : List Int) (env : Env), i + n = cnt → a ≤ l.length → vs.length = i → preR vs (listR (numR l 0 4611686018427387903) n a) = r → env.get 2 = rp H.length → env.get 3 = rp (H.length + 1) → env.get 4 = rp (H.length + 2) →
      env.get 5 = .own (H.length + 4 + M.length) 0 cnt 1 ver → env.get 16 = e16 → env.get 17 = e17 → env.get 23 = i64 cnt → env.get 24 = i64 i → LI Try.prog N drawB l32_1 env (sR H l a bb rows (M ++ [fillO vs n ver])) K := by
  intro n
  induction n with
  | zero =>
    intro i a vs env hi ha hvs hr h2 h3 h4 h5 h16 h17 h23 h24
    refine li_go hm l32_1.eq_1 ?_
    have e : i = cnt := by omega
    subst e
    have hr : r = .ok (vs, a) := by rw [← hr]; simp [listR, preR]
    simp -implicitDefEqProofs [h2, h3, h4, h5, h16, h17, h23, h24]
    exact hexit vs a hr _ (by simp [h2]) (by simp [h3]) (by simp [h4]) (by simp [h5]) (by simp [h16]) (by simp [h17])
  | succ n ih =>
    intro i a vs env hi ha hvs hr h2 h3 h4 h5 h16 h17 h23 h24
    refine li_go hm l32_1.eq_1 ?_
    have hlt : i < cnt := by omega
    have w1 : IntKind.i64.wrap ((i : Int) + 1) = ((i + 1 : Nat) : Int) := wrap_succ (by omega)
    rw [preR_step] at hr
    have h50 := ok50 (H := sR H l a bb rows (M ++ [fillO vs (n + 1) ver])) (j := H.length + 2) (l := l) (a := a) sR_r hoct hl ha 0 4611686018427387903
    have hnx := fun v a' h => numR_next (l := l) (lo := 0) (hi := 4611686018427387903) (a := a) (a' := a') (n := v) h ha
    generalize numR l 0 4611686018427387903 a = q at *
    simp only [rp] at h2 h3 h4 h50
    simp -implicitDefEqProofs [h2, h3, h4, h5, h16, h17, h23, h24, hlt]
    refine call_goP h50 ?_
    rintro o H' ho
    cases q with
    | error e =>
      obtain ⟨rfl, hk⟩ := ho
      simp -implicitDefEqProofs
      exact herr e hr.symm _ _ (by simp [h2, rp]) (by simp [h3, rp]) (sR_pan hk)
    | ok p =>
      obtain ⟨v, a'⟩ := p
      obtain ⟨rfl, rfl⟩ := ho
      have hn := hnx v a' rfl
      rw [sR_set]
      simp only [] at hr
      have eo : (sR H l a' bb rows (M ++ [fillO vs (n + 1) ver]))[H.length + 4 + M.length]? = some (fillO vs (n + 1) ver) := sR_get
      have ec : objCells (sR H l a' bb rows (M ++ [fillO vs (n + 1) ver])) (H.length + 4 + M.length) ver = ints (vs ++ List.replicate (n + 1) 0) := objCells_of eo rfl
      have es : ∀ f : AO → AO, Ab.setObj (sR H l a' bb rows (M ++ [fillO vs (n + 1) ver])) (H.length + 4 + M.length) f = sR H l a' bb rows (M ++ [f (fillO vs (n + 1) ver)]) := fun f => by rw [setObj_some eo, sR_put]
      simp -implicitDefEqProofs [h2, h3, h4, h5, h16, h17, h23, h24, ec, es, hlt, w1]
      refine ⟨by omega, LI.cong ?_ (ih (i + 1) a' (vs ++ [v]) _ (by omega) hn.2 (by simp; omega) hr ?_ ?_ ?_ ?_ ?_ ?_ ?_ ?_)⟩
      · simp only [fillO]
        rw [fill_set hvs]
      all_goals simp [rp, h2, h3, h4, h5, h16, h17, h23]
theorem loop32_0 (hoct : Oct l) (hl : l.length ≤ 100000) {bb : Int} {cnt : Nat} (hc : cnt ≤ 200) {r : Except Fl (List (List Int) × Nat)} {N : Nat} {K : XE → Env → List AO → Prop}
    (herr : ∀ e, r = .error e → ∀ env H', env.get 2 = rp H.length → env.get 3 = rp (H.length + 1) → PanG H 28 2 H' → K (.panic (fltV e)) env H')
    (hexit : ∀ rows a, r = .ok (rows, a) → ∀ env M, env.get 2 = rp H.length → env.get 3 = rp (H.length + 1) → env.get 4 = rp (H.length + 2) → K (.exit 0) env (sR H l a bb rows M)) (hcl : closed H) :
    ∀ (n i a : Nat) (rows : List (List Int)) (env : Env) (M : List AO), i + n = cnt → a ≤ l.length → rows.length = i → preT rows (rowsR l n a) = r → env.get 2 = rp H.length → env.get 3 = rp (H.length + 1) → env.get 4 = rp (H.length + 2) →
      env.get 16 = i64 cnt → env.get 17 = i64 i → LI Try.prog N drawB l32_0 env (sR H l a bb rows M) K := by
  intro n
  induction n with
  | zero =>
    intro i a rows env M hi ha his hr h2 h3 h4 h16 h17
    refine li_go hm l32_0.eq_1 ?_
    have e : i = cnt := by omega
    subst e
    have hr : r = .ok (rows, a) := by rw [← hr]; simp [rowsR, preT]
    simp -implicitDefEqProofs [h2, h3, h4, h16, h17]
    exact hexit rows a hr _ M (by simp [h2]) (by simp [h3]) (by simp [h4])
  | succ n ih =>
    intro i a rows env M hi ha his hr h2 h3 h4 h16 h17
    refine li_go hm l32_0.eq_1 ?_
    have hlt : i < cnt := by omega
    have w1 : IntKind.i64.wrap ((i : Int) + 1) = ((i + 1 : Nat) : Int) := wrap_succ (by omega)
    rw [preT_step] at hr
    unfold rowR at hr
    have h49 := ok49 (H := sR H l a bb rows M) (j := H.length + 2) (l := l) (a := a) sR_r hoct hl ha 1 10
    have hnx := fun v a' h => octR_next (l := l) (lo := 1) (hi := 10) (a := a) (a' := a') (n := v) h
    generalize octR l 1 10 a = q at *
    simp only [rp] at h2 h3 h4 h49
    simp -implicitDefEqProofs [h2, h3, h4, h16, h17, hlt]
    refine call_goP h49 ?_
    rintro o H' ho
    cases q with
    | error e =>
      obtain ⟨rfl, hk⟩ := ho
      simp -implicitDefEqProofs
      exact herr e hr.symm _ _ (by simp [h2, rp]) (by simp [h3, rp]) (sR_pan hk)
    | ok p =>
      obtain ⟨m, a1⟩ := p
      obtain ⟨rfl, rfl⟩ := ho
      have hn := hnx m a1 rfl
      rw [sR_set]
      obtain ⟨c, rfl⟩ : ∃ k : Nat, m = k := ⟨m.toNat, by omega⟩
      simp only [Int.toNat_natCast] at hr
      have hlr := fun vs a' h => listR_next (f := numR l 0 4611686018427387903) (b := l.length) (fun a v a' ha h => numR_next h ha) c a1 vs a' hn.2.1 h
      obtain ⟨lr, hlq⟩ : ∃ lr, listR (numR l 0 4611686018427387903) c a1 = lr := ⟨_, rfl⟩
      rw [hlq] at hr hlr
      simp -implicitDefEqProofs [h2, h3, h4, h16, h17]
      refine ⟨by omega, by omega, ?_⟩
      have hlen : (sR H l a1 bb rows M).length = H.length + 4 + M.length := by simp [sR]; omega
      rw [hlen]
      refine LI.cong (H' := sR H l a1 bb rows (M ++ [fillO [] c 0])) (by simp [sR, fillO, ints]) (loop32_1 hoct hl (cnt := c) (ver := 0) (by omega) (r := lr) (e16 := i64 cnt) (e17 := i64 i) (fun e he env H' k2 k3 hp => ?_) (fun vs a2 he env k2 k3 k4 k5 k16 k17 => ?_) c 0 a1 [] _ (by omega) hn.2.1 rfl (by rw [preR_nil]; exact hlq) ?_ ?_ ?_ ?_ ?_ ?_ ?_ ?_)
      · subst he
        simp -implicitDefEqProofs
        exact herr e hr.symm _ _ k2 k3 hp
      · subst he
        have hv := hlr vs a2 rfl
        simp only [] at hr
        simp only [rp] at k2 k3 k4
        have eg : objCells (sR H l a2 bb rows (M ++ [fillO vs 0 0])) H.length 0 = [i64 bb, .own (H.length + 3) 0 rows.length 1 rows.length] := by simp [sR]
        have rl : (rowsV rows).length = rows.length := by simp [rowsV]
        unfold sR at eg ⊢
        simp -implicitDefEqProofs [k2, k3, k4, k5, k16, k17, w1, rl]
        refine ⟨by omega, by omega, ?_⟩
        have hkk : H.length + 4 + M.length = H.length + (M.length + 4) := by omega
        have il : (ints vs).length = vs.length := by simp [ints]
        have hso : (fillO vs 0 0).cells = ints vs := by simp [fillO]
        refine LI.tell (Tell.give hcl (M.length + 4) 1 (o := fillO vs 0 0) (by simp) rfl) ?_
        have g1 : AO.gv (H.length + (M.length + 4)) 0 (ints vs) 1 ⟨[i64 bb, .own (H.length + 3) 0 (rows.length + 1) 1 (rows.length + 1)], 28, 0, true⟩ = ⟨[i64 bb, .own (H.length + 3) 0 (rows.length + 1) 1 (rows.length + 1)], 28, 0, true⟩ := by
          simp [AO.gv]
        have g2 : AO.gv (H.length + (M.length + 4)) 0 (ints vs) 1 (flO (0, 0)) = flO (0, 0) := by simp [AO.gv, flO]
        have g3 : AO.gv (H.length + (M.length + 4)) 0 (ints vs) 1 (rdO l a2) = rdO l a2 := by simp [AO.gv, rdO]
        have g4 : AO.gv (H.length + (M.length + 4)) 0 (ints vs) 1 ⟨rowsV rows ++ [.own (H.length + 4 + M.length) 0 c 1 0], 30, rows.length + 1, true⟩ = ⟨rowsV (rows ++ [vs]), 30, (rows ++ [vs]).length, true⟩ := by
          simp [AO.gv, rowsV, sl, hkk, il, hv.2.2, Function.comp_def]
        refine LI.cong (H' := sR H l a2 bb (rows ++ [vs]) ((M ++ [AO.dead (fillO vs 0 0), ⟨[.own (H.length + 4 + M.length) 0 c 1 0], 30, 0, true⟩]).map (AO.gv (H.length + (M.length + 4)) 0 (ints vs) 1))) ?_ (ih (i + 1) a2 (rows ++ [vs]) _ _ (by omega) hv.2.1 (by simp; omega) hr ?_ ?_ ?_ ?_ ?_)
        · simp [sR, fillO, g1, g2, g3, g4]
          exact ⟨g2.symm, g3.symm, by have := congrArg AO.cells g4; simpa [AO.gv] using this.symm⟩
        all_goals rw [get_map _ (SV.gv _ _ _ _) (gv_any _ _ _ _)]; simp [rp, k2, k3, k4, k16, k17]
      all_goals simp [rp, h2, h3, h4]
end
end Go.Proofs.Ytoghpbjllompaaa.Rc

/- P32 -/
namespace Go.Proofs.Ytoghpbjllompaaa.Rc
open Go.Ab
def readT (b : List Int) : Except Fl Tb :=
  match opnR b 84 with
  | .error e => .error e
  | .ok l => match octR l 0 255 3 with
    | .error e => .error e
    | .ok (bb, a1) => match numR l 0 200 a1 with
      | .error e => .error e
      | .ok (n, a2) => match rowsR l n.toNat a2 with
        | .error e => .error e
        | .ok (rows, a3) => if a3 < l.length then .error (4, a3) else if Tb.err ⟨bb, rows⟩ ≠ 0 then .error (Tb.err ⟨bb, rows⟩, l.length) else .ok ⟨bb, rows⟩
def tOf : Except Fl Tb → Tb
  | .ok t => t
  | .error _ => ⟨0, []⟩
def RtP (H : List AO) (r : Except Fl Tb) (o : Out) (H' : List AO) : Prop := o = .ret (.tup [.agg (tOf r).cells, .agg [i64 (fOf r).1, i64 (fOf r).2]]) ∧ H' = H
def tO (t : Tb) : AO := ⟨t.cells, 28, 0, true⟩
section
variable {H : List AO}
theorem fin32e {H1 : List AO} {env : Env} {e : Fl} (hcl : closed H) (hp : PanG H 28 2 H1) (he : e.1 ≠ 0) (h2 : env.get 2 = rp H.length) (h3 : env.get 3 = rp (H.length + 1)) :
    FinD Try.prog H.length r32 (RtP H (.error e)) 62 [rp (H.length + 1), rp H.length] (.panic (fltV e)) env H1 := by
  obtain ⟨c, hg, hc⟩ := hp.g
  have hlen := hp.len
  refine ⟨_, okD62e hp.f hg hc (by omega) he, ?_⟩
  rintro H4 rfl
  obtain ⟨L, hL⟩ := pre_split (H := H) (H' := (H1.set (H.length + 1) (flO e)).set H.length ⟨[i64 0, nl], 28, 0, true⟩) (by simp; omega) (fun i hi => by
    rw [List.getElem?_set_ne (by omega), List.getElem?_set_ne (by omega)]; exact hp.at_ i hi)
  have e1 : objCells ((H1.set (H.length + 1) (flO e)).set H.length ⟨[i64 0, nl], 28, 0, true⟩) H.length 0 = [i64 0, nl] := objCells_of (o := ⟨[i64 0, nl], 28, 0, true⟩) (by rw [List.getElem?_set_self (by simp; omega)]) rfl
  have e2 : objCells ((H1.set (H.length + 1) (flO e)).set H.length ⟨[i64 0, nl], 28, 0, true⟩) (H.length + 1) 0 = [i64 e.1, i64 e.2] := objCells_of (o := flO e) (by rw [List.getElem?_set_ne (by omega), List.getElem?_set_self (by omega)]) rfl
  refine ⟨?_, _, H, ⟨rfl, rfl⟩, ?_⟩
  · intro s hs
    simp only [r32, List.mem_cons, List.not_mem_nil, or_false] at hs
    rcases hs with rfl | rfl
    · simp [RS.side, h2, rp, e1]
    · simp [RS.side, h3, rp, e2]
  · have hr : resV env ((H1.set (H.length + 1) (flO e)).set H.length ⟨[i64 0, nl], 28, 0, true⟩) r32 = .tup [.agg [i64 0, nl], .agg [i64 e.1, i64 e.2]] := by
      simp [resV, r32, RS.ev, h2, h3, rp, e1, e2]
    rw [hr, hL]
    refine Cv.le (cv_drop rfl (Nat.le_refl _) hcl rfl) (le_tup (leL.cons (le_agg ?_) (leL.cons (SV.le.refl _) leL.nil)))
    exact leL.cons (SV.le.refl _) (leL.cons le_nil leL.nil)
theorem fin32r {H1 : List AO} {env : Env} {g : Tb} (hcl : closed H) (hp : PanG H 28 2 H1) (hg : H1[H.length]? = some (tO g)) (h2 : env.get 2 = rp H.length) (h3 : env.get 3 = rp (H.length + 1)) :
    FinD Try.prog H.length r32 (RtP H (.ok g)) 62 [rp (H.length + 1), rp H.length] .ret env H1 := by
  have hlen := hp.len
  refine ⟨_, okD62n (e0 := (0, 0)) hp.f (by omega), ?_⟩
  rintro H4 rfl
  obtain ⟨L, rfl⟩ := pre_split (H := H) (by omega) hp.at_
  have e1 : objCells (H ++ L) H.length 0 = g.cells := objCells_of (o := tO g) hg rfl
  have e2 : objCells (H ++ L) (H.length + 1) 0 = [i64 0, i64 0] := objCells_of (o := flO (0, 0)) hp.f rfl
  refine ⟨?_, _, H, ⟨rfl, rfl⟩, ?_⟩
  · intro s hs
    simp only [r32, List.mem_cons, List.not_mem_nil, or_false] at hs
    rcases hs with rfl | rfl
    · simp [RS.side, h2, rp, e1, Tb.cells]
    · simp [RS.side, h3, rp, e2]
  · have hr : resV env (H ++ L) r32 = .tup [.agg g.cells, .agg [i64 0, i64 0]] := by
      simp [resV, r32, RS.ev, h2, h3, rp, e1, e2, Tb.cells]
    rw [hr]
    refine cv_drop rfl (Nat.le_refl _) hcl ?_
    simp [SV.under, SV.underL, Tb.cells, rowsV_under]
theorem rowR_err {l : List Int} {a : Nat} {e : Fl} (h : rowR l a = .error e) : e.1 ≠ 0 := by
  unfold rowR at h
  split at h
  · rename_i h1; cases h; exact octR_err h1
  · exact listR_err (fun a e => numR_err) _ _ _ h
theorem rowsR_err {l : List Int} : ∀ (n a : Nat) (e : Fl), rowsR l n a = .error e → e.1 ≠ 0
  | 0, a, e, h => by cases h
  | n + 1, a, e, h => by
    simp only [rowsR] at h
    split at h
    · rename_i h1; cases h; exact rowR_err h1
    · split at h
      · rename_i h1; cases h; exact rowsR_err _ _ _ h1
      · cases h
theorem rowR_next {l : List Int} {a a' : Nat} {row : List Int} (ha : a ≤ l.length) (h : rowR l a = .ok (row, a')) : a ≤ a' ∧ a' ≤ l.length ∧ 1 ≤ row.length ∧ row.length ≤ 10 := by
  unfold rowR at h
  split at h
  · cases h
  · rename_i m a1 h1
    have g1 := octR_next h1
    have g2 := listR_next (f := numR l 0 4611686018427387903) (b := l.length) (fun a v a' ha h => numR_next h ha) _ _ _ _ g1.2.1 h
    omega
theorem rowsR_next {l : List Int} : ∀ (n a : Nat) (rows : List (List Int)) (a' : Nat), a ≤ l.length → rowsR l n a = .ok (rows, a') → a ≤ a' ∧ a' ≤ l.length ∧ rows.length = n ∧ ∀ r ∈ rows, 1 ≤ r.length ∧ r.length ≤ 10
  | 0, a, rows, a', ha, h => by simp only [rowsR, Except.ok.injEq, Prod.mk.injEq] at h; obtain ⟨rfl, rfl⟩ := h; exact ⟨Nat.le_refl _, ha, rfl, fun p hp => by simp at hp⟩
  | n + 1, a, rows, a', ha, h => by
    simp only [rowsR] at h
    split at h
    · cases h
    · rename_i v a1 h1
      have g1 := rowR_next ha h1
      split at h
      · cases h
      · rename_i vs a4 h4
        have g4 := rowsR_next _ _ _ _ g1.2.1 h4
        simp only [Except.ok.injEq, Prod.mk.injEq] at h
        obtain ⟨rfl, rfl⟩ := h
        refine ⟨by omega, g4.2.1, by simp [g4.2.2.1], fun p hp => ?_⟩
        rcases List.mem_cons.1 hp with rfl | hp
        · exact ⟨by omega, by omega⟩
        · exact g4.2.2.2 p hp
theorem sR_tell (hcl : closed H) {l : List Int} {a : Nat} {bb : Int} {rows : List (List Int)} {M : List AO} :
    Tell [] (sR H l a bb rows M) [] (H ++ tO ⟨bb, rows⟩ :: flO (0, 0) :: rdO l a :: (AO.gv (H.length + 3) rows.length (rowsV rows) 1 (AO.dead ⟨rowsV rows, 30, rows.length, true⟩)) :: M.map (AO.gv (H.length + 3) rows.length (rowsV rows) 1)) := by
  have il : (rowsV rows).length = rows.length := by simp [rowsV]
  have e1 : AO.gv (H.length + 3) rows.length (rowsV rows) 1 ⟨[i64 bb, .own (H.length + 3) 0 rows.length 1 rows.length], 28, 0, true⟩ = tO ⟨bb, rows⟩ := by
    simp [AO.gv, tO, Tb.cells, il]
    exact List.take_of_length_le (by omega)
  have e2 : AO.gv (H.length + 3) rows.length (rowsV rows) 1 (flO (0, 0)) = flO (0, 0) := by simp [AO.gv, flO]
  have e3 : AO.gv (H.length + 3) rows.length (rowsV rows) 1 (rdO l a) = rdO l a := by simp [AO.gv, rdO]
  have := Tell.give (env := []) (L := ⟨[i64 bb, .own (H.length + 3) 0 rows.length 1 rows.length], 28, 0, true⟩ :: flO (0, 0) :: rdO l a :: ⟨rowsV rows, 30, rows.length, true⟩ :: M) hcl 3 1 (o := ⟨rowsV rows, 30, rows.length, true⟩) rfl rfl
  have h2 : Tell [] (sR H l a bb rows M) [] (H ++ AO.gv (H.length + 3) rows.length (rowsV rows) 1 ⟨[i64 bb, .own (H.length + 3) 0 rows.length 1 rows.length], 28, 0, true⟩ :: AO.gv (H.length + 3) rows.length (rowsV rows) 1 (flO (0, 0)) :: AO.gv (H.length + 3) rows.length (rowsV rows) 1 (rdO l a) :: (AO.gv (H.length + 3) rows.length (rowsV rows) 1 (AO.dead ⟨rowsV rows, 30, rows.length, true⟩)) :: M.map (AO.gv (H.length + 3) rows.length (rowsV rows) 1)) := this
  rw [e1, e2, e3] at h2
  exact h2
theorem okP32 {b : List Int} (ho : Oct b) (hlb : b.length < 4611686018427387904) : OkP Try.prog 32 [.slc (byts b) b.length] H (RtP H (readT b)) := by
  refine okP_df hm Try.func32 c32 (by rfl) fun hcl => ?_
  have h48 := ok48 (H := H ++ [⟨[i64 0, nl], 28, 0, true⟩, flO (0, 0)]) ho hlb 84
  have her := fun e => opnR_err (b := b) (c := 84) (e := e)
  have hok : ∀ l, opnR b 84 = .ok l → l.length ≤ 100000 ∧ 3 ≤ l.length ∧ Oct l := fun l h => by
    unfold opnR at h
    split at h
    · cases h
    · split at h
      · cases h
      · split at h
        · cases h
        · split at h
          · cases h
          · cases h
            exact ⟨by simp; omega, by simp; omega, fun x hx => ho x (List.mem_of_mem_take hx)⟩
  unfold readT
  generalize opnR b 84 = q at *
  simp -implicitDefEqProofs [i32a, i32s, i32f, i32]
  refine ⟨62, _, ⟨rfl, rfl⟩, call_go (ok37 84) ?_⟩
  simp only [flO] at h48
  simp -implicitDefEqProofs
  refine call_goP h48 ?_
  rintro o H' hp
  cases q with
  | error e =>
    obtain ⟨rfl, hk⟩ := hp
    simp -implicitDefEqProofs
    exact fin32e hcl (PanG.keep (c := [i64 0, nl]) (L := []) hk (by simp) rfl) (her e rfl) (by simp [rp]) (by simp [rp])
  | ok l =>
    obtain ⟨rfl, rfl⟩ := hp
    have hl : l.length ≤ 100000 ∧ 3 ≤ l.length ∧ Oct l := hok l rfl
    have h49 := ok49 (H := H ++ [⟨[i64 0, nl], 28, 0, true⟩, ⟨[i64 0, i64 0], 47, 0, true⟩, rdO l 3]) (j := H.length + 2) (l := l) (a := 3) (by simp) hl.2.2 hl.1 hl.2.1 0 255
    have hnx := fun v a' h => octR_next (l := l) (lo := 0) (hi := 255) (a := 3) (a' := a') (n := v) h
    have her := fun e => octR_err (l := l) (lo := 0) (hi := 255) (a := 3) (e := e)
    simp only []
    generalize octR l 0 255 3 = q at *
    simp only [rp] at h49
    simp -implicitDefEqProofs [rp]
    refine call_goP h49 ?_
    rintro o H' hp
    cases q with
    | error e =>
      obtain ⟨rfl, hk⟩ := hp
      simp -implicitDefEqProofs
      exact fin32e hcl (PanG.keep (c := [i64 0, nl]) (L := [rdO l 3]) hk (by simp) rfl) (her e rfl) (by simp [rp]) (by simp [rp])
    | ok p =>
      obtain ⟨bb, a1⟩ := p
      obtain ⟨rfl, rfl⟩ := hp
      have hn := hnx bb a1 rfl
      have h50 := ok50 (H := H ++ [⟨[i64 bb, nl], 28, 0, true⟩, ⟨[i64 0, i64 0], 47, 0, true⟩, rdO l a1]) (j := H.length + 2) (l := l) (a := a1) (by simp) hl.2.2 hl.1 hn.2.1 0 200
      have hnx := fun v a' h => numR_next (l := l) (lo := 0) (hi := 200) (a := a1) (a' := a') (n := v) h hn.2.1
      have hrg := fun v a' h => numR_rng (l := l) (lo := 0) (hi := 200) (a := a1) (a' := a') (n := v) h
      have her := fun e => numR_err (l := l) (lo := 0) (hi := 200) (a := a1) (e := e)
      simp only []
      generalize numR l 0 200 a1 = q at *
      simp only [rp] at h50
      simp -implicitDefEqProofs [rp]
      refine call_goP h50 ?_
      rintro o H' hp
      cases q with
      | error e =>
        obtain ⟨rfl, hk⟩ := hp
        simp -implicitDefEqProofs
        exact fin32e hcl (PanG.keep (c := [i64 bb, nl]) (L := [rdO l a1]) hk (by simp) rfl) (her e rfl) (by simp [rp]) (by simp [rp])
      | ok p =>
        obtain ⟨n, a2⟩ := p
        obtain ⟨rfl, rfl⟩ := hp
        have hn2 := hnx n a2 rfl
        have hr2 := hrg n a2 rfl
        obtain ⟨n, rfl⟩ : ∃ k : Nat, n = k := ⟨n.toNat, by omega⟩
        simp only [Int.toNat_natCast]
        have her := fun e => rowsR_err (l := l) n a2 e
        have hnx := fun rows a' => rowsR_next (l := l) n a2 rows a' hn2.2
        obtain ⟨q, hq⟩ : ∃ q, rowsR l n a2 = q := ⟨_, rfl⟩
        rw [hq] at her hnx ⊢
        simp -implicitDefEqProofs [rp]
        refine LI.tell (Tell.own0 (j := H.length) (p := 1) (o := ⟨[i64 bb, nl], 28, 0, true⟩) (by simp) rfl rfl 30 1) (LI.cong (H' := sR H l a2 bb [] []) (by simp [sR, rowsV, flO, set_app0]) (loop32_0 hl.2.2 hl.1 (bb := bb) (cnt := n) (by omega) (r := q) (fun e he env H' k2 k3 hp => ?_) (fun rows a3 he env M k2 k3 k4 => ?_) hcl n 0 a2 [] _ [] (by omega) hn2.2 rfl (by rw [preT_nil]; exact hq) ?_ ?_ ?_ ?_ ?_))
        · subst he
          simp -implicitDefEqProofs
          exact fin32e hcl hp (her e rfl) k2 k3
        · subst he
          have hi := hnx rows a3 rfl
          simp -implicitDefEqProofs [k2, k3, k4]
          refine call_goP (OkP.tell (sR_tell hcl) (by simp [sR]) (ok52 (l := l) (a := a3) (by simp) hi.2.1).toP) ?_
          rintro o H' ⟨rfl, rfl⟩
          generalize hH2 : H ++ tO ⟨bb, rows⟩ :: flO (0, 0) :: rdO l a3 :: (AO.gv (H.length + 3) rows.length (rowsV rows) 1 (AO.dead ⟨rowsV rows, 30, rows.length, true⟩)) :: M.map (AO.gv (H.length + 3) rows.length (rowsV rows) 1) = H'
          have hg : H'[H.length]? = some (tO ⟨bb, rows⟩) := by subst hH2; simp
          have hf : H'[H.length + 1]? = some (flO (0, 0)) := by subst hH2; simp
          have hr : H'[H.length + 2]? = some (rdO l a3) := by subst hH2; simp
          have hpan : PanG H 28 2 H' := ⟨fun i hi => by subst hH2; exact List.getElem?_append_left hi, by subst hH2; simp, ⟨_, hg, rfl⟩, hf⟩
          by_cases h4 : a3 < l.length
          · rw [if_pos h4]
            simp -implicitDefEqProofs [h4]
            exact fin32e hcl hpan (by simp) (by simp [k2]) (by simp [k3])
          · rw [if_neg h4]
            have eg : objCells H' H.length 0 = [i64 bb, .slc (rowsV rows) rows.length] := objCells_of (o := tO ⟨bb, rows⟩) hg rfl
            have er : objCells H' (H.length + 2) 0 = [.slc (byts l) l.length, i64 a3] := objCells_of (o := rdO l a3) hr rfl
            simp -implicitDefEqProofs [k2, k3, k4, rp, eg]
            refine call_go (by simpa [Tb.cells] using ok44 (H := H') (t := ⟨bb, rows⟩) (fun i h => by have := hi.2.2.2 _ (List.getElem_mem h); omega)) ?_
            generalize hfe : Tb.err ⟨bb, rows⟩ = fe at *
            by_cases h5 : fe = 0
            · subst h5
              simp -implicitDefEqProofs [k2, k3, k4, rp, eg]
              have e7 : Ab.setObj H' H.length (fun o => ⟨i64 bb :: SV.slc (rowsV rows) rows.length :: List.drop 2 o.cells, o.ty, o.ver, o.live⟩) = H' := by
                rw [setObj_some hg]; exact set_same hg
              have e8 : Ab.setObj H' (H.length + 1) (fun o => ⟨i64 0 :: i64 0 :: List.drop 2 o.cells, o.ty, o.ver, o.live⟩) = H' := by
                rw [setObj_some hf]; exact set_same hf
              have e9 : objCells H' (H.length + 1) 0 = [i64 0, i64 0] := objCells_of (o := flO (0, 0)) hf rfl
              rw [e7, e8, e9, if_neg h4, if_pos hfe]
              exact ⟨by simp, fin32r (g := ⟨bb, rows⟩) hcl hpan hg (by simp [k2]) (by simp [k3])⟩
            · simp -implicitDefEqProofs [k2, k3, k4, rp, er, h5]
              refine call_go (ok53 fe l.length) ?_
              simp -implicitDefEqProofs
              rw [if_neg h4, if_neg (by rw [hfe]; exact h5), hfe]
              exact fin32e (e := (fe, l.length)) hcl hpan h5 (by simp [k2]) (by simp [k3])
        all_goals simp [rp]
end
end Go.Proofs.Ytoghpbjllompaaa.Rc

/- P33 -/
namespace Go.Proofs.Ytoghpbjllompaaa.Rc
open Go.Ab
def b0 : List Int := [80, 71, 1, 1, 0, 3, 5, 3, 245, 0, 162]
def g0 : Gm := ⟨1, [⟨3, 0, 0, [], [], [-3]⟩], []⟩
/-- All objects are laid down behind the k-th step. -/
def icFrz (ks : List Nat) (d : Nat) : Nat → IC → IC
  | 0, a => .keep ks (.frz d a)
  | k + 1, .seq a b => .seq a (icFrz ks d k b)
  | _, a => a
@[simp] theorem icFrz_zero (ks : List Nat) (d : Nat) (a : IC) : icFrz ks d 0 a = .keep ks (.frz d a) := by cases a <;> rfl
@[simp] theorem icFrz_succ (ks : List Nat) (d k : Nat) (a b : IC) : icFrz ks d (k + 1) (.seq a b) = .seq a (icFrz ks d k b) := rfl
@[simp] theorem env_frz_nil (H : List AO) (d : Nat) : Env.frz [] H d = [] := rfl
@[simp] theorem env_frz_cons (k : Nat) (v : SV) (e : Env) (H : List AO) (d : Nat) : Env.frz ((k, v) :: e) H d = (k, v.fz 0 [] H d) :: Env.frz e H d := rfl
@[simp] theorem X_frz {P : Program} {N : Nat} {D : Array Oper → List Nat → List Ins → Bool} (d : Nat) (a : IC) (env : Env) (H : List AO) (K : XE → Env → List AO → Prop) : X P N D (.frz d a) env H K = X P N D a (env.frz H d) (H.map AO.dead) K := rfl
theorem fz0_ptr {L : List AO} (d k off len sz ver p : Nat) : SV.fz 0 [] L (d + 1) (.ptr (.own k off len sz ver) p) = (match L[k]? with
      | some o => if o.live = true ∧ o.ver = ver ∧ off < o.cells.length then .ptr (.slc ((o.cells.drop off).map (SV.fz 0 [] L d)) 0) p else .any
      | none => .any) := by
  have := fz_ptr (n := 0) (L := L) (d := d) k off len sz ver p
  rw [Nat.zero_add] at this
  exact this
theorem fz0_own {L : List AO} (d k off len sz ver : Nat) : SV.fz 0 [] L (d + 1) (.own k off len sz ver) = (match L[k]? with
      | some o => if o.live = true ∧ o.ver = ver ∧ off + len * sz ≤ o.cells.length then .slc (((o.cells.drop off).take (len * sz)).map (SV.fz 0 [] L d)) len else .any
      | none => .any) := by
  have := fz_own 0 [] L d k off len sz ver
  rw [Nat.zero_add] at this
  simp only [placeOf] at this
  exact this
section
variable {H : List AO}
theorem ok25 : Ok Try.prog 25 [] H (.ret (.slc (byts b0) b0.length)) H := by
  refine ok_fn hm Try.func25 c25 (by rfl) fun hcl => ?_
  simp -implicitDefEqProofs [i25, r25]
  exact cv_fz 2 hcl rfl (by simp; exact ⟨rfl, rfl⟩)
theorem ok27 : Ok Try.prog 27 [] H (.ret (.agg g0.cells)) H := by
  refine ok_fn hm Try.func27 c27 (by rfl) fun hcl => ?_
  simp -implicitDefEqProofs [i27, r27]
  refine ⟨rfl, Cv.le (cv_fz (r := .agg [i64 1, .slc [i64 3, i64 0, i64 0, nl, nl, .slc [i64 (-3)] 1] 1, nl]) 5 hcl rfl (by simp)) ?_⟩
  refine le_agg (leL.cons (SV.le.refl _) (leL.cons (le_slc ?_ 1) (leL.cons le_nil leL.nil)))
  exact leL.cons (SV.le.refl _) (leL.cons (SV.le.refl _) (leL.cons (SV.le.refl _) (leL.cons le_nil (leL.cons le_nil (leL.cons (SV.le.refl _) leL.nil)))))
theorem ok22 {x : SV} {l : List Int} {n : Int} (hx : IsB H x l) (hl : l.length < 4611686018427387904) (hn : n < 9223372036854775808) (h : putR n = (l, 0)) : Ok Try.prog 22 [i64 n, x] H (.ret (bl true)) H := by
  refine ok_fn hm Try.func22 c22 (by simp) fun hcl => ?_
  have h16 := ok16 (H := H) hn
  rw [h] at h16
  simp -implicitDefEqProofs [i22, r22]
  refine call_go h16 ?_
  simp -implicitDefEqProofs [bl2]
  refine callq_st (r := bl true) (fun _ => by simp only [List.map_cons, List.map_nil, SV.strip]; exact ok15s (IsB.slc _ _) (by simpa [hx.strip] using hx) hl) ?_
  simp -implicitDefEqProofs
  exact cv_id
end
end Go.Proofs.Ytoghpbjllompaaa.Rc

/- W10 -/
namespace Go.Proofs.Ytoghpbjllompaaa.Rc
open Go.Ab
def b1 : List Int := [80, 84, 1, 1, 1, 2, 1, 1, 4, 236, 0, 172]
section
variable {H : List AO}
theorem gm0 : gameR g0 = (b0, 0) := by kernel_rfl
theorem tb0 : tabR ⟨1, [[1, 1]]⟩ = (b1, 0) := by kernel_rfl
theorem awakeW (hcl : closed H) : Ok Try.prog 10 [] H (.ret (bl true)) H := by
  refine ok_fn hm Try.func10 c10 (by rfl) fun hcl => ?_
  simp -implicitDefEqProofs [i10, r10]
  refine call_go ok27 ?_
  simp -implicitDefEqProofs
  have h11 := ok11 (H := H) (g := g0)
  rw [gm0] at h11
  refine call_go h11 ?_
  simp -implicitDefEqProofs [bl2]
  have h13 := fun H => ok13 (H := H) (t := ⟨1, [[1, 1]]⟩) (by simp)
  rw [tb0] at h13
  have t1 := Tell.give (env := []) (H0 := H) (L := [⟨[i64 1, i64 1], 3, 0, true⟩, ⟨[.own H.length 0 2 1 0], 30, 0, true⟩]) hcl 0 1 (o := ⟨[i64 1, i64 1], 3, 0, true⟩) rfl rfl
  simp [AO.dead] at t1
  have h := OkP.tell t1 (by simp) (OkP.give (H.length + 1) 2 (o := ⟨[.slc [i64 1, i64 1] 2], 30, 0, true⟩) (args := [.agg [i64 1, .own (H.length + 1) 0 1 1 0]]) (by simp) rfl (OkP.cast (by simp [Tb.cells, rowsV, sl]; rfl) rfl (h13 _).toP))
  refine call_goP h ?_
  rintro o H' ⟨rfl, rfl⟩
  simp -implicitDefEqProofs [bl2]
  refine call_go (ok22 (l := [172, 2]) (n := 300) (IsL.at_ (j := H.length + 2) (T := 5) (by simp) rfl) (by decide) (by decide) (by kernel_rfl)) ?_
  simp -implicitDefEqProofs
  have q20 := fun H' : List AO => fun x hx => ok20 (H := H') (x := x) (l := [1, 2]) hx (by unfold Oct; decide) (by decide)
  rw [show sumV [1, 2] = 393220 by kernel_rfl] at q20
  refine callq_go (fun _ => q20 _ _ (IsL.at_ (j := H.length + 3) (T := 5) (by simp) rfl)) ?_
  simp -implicitDefEqProofs
  refine callq_go (fun _ => ok25) ?_
  simp -implicitDefEqProofs
  refine callq_st (r := bl true) (fun _ => by simpa [SV.strip] using ok15s (IsB.slc _ b0) (IsB.slc _ b0) (by decide)) ?_
  simp -implicitDefEqProofs
  have q15 := fun H' : List AO => fun y hy => ok15s (H := H') (x := .slc (byts b1) b1.length) (y := y) (l := b1) (IsB.slc _ b1) hy (by decide)
  refine callq_st (r := bl true) (fun _ => by simpa [SV.strip] using q15 _ (.own (H.length + 4) 0 12 1 0) (IsL.at_ (j := H.length + 4) (T := 5) (by simp [byts, b1]) rfl)) ?_
  simp -implicitDefEqProofs
  exact cv_fz 1 hcl rfl (by simp)
theorem awake_w : Ok Try.prog 10 [] H (.ret (bl true)) H := ok_lift (awakeW (H := []) (by intro i o h; simp at h)) rfl
end
end Go.Proofs.Ytoghpbjllompaaa.Rc

/- W11 -/
namespace Go.Proofs.Ytoghpbjllompaaa.Rc
open Go.Ab
section
variable {H : List AO} {g : Gm}
theorem ok13k {t : Tb} (hs : ∀ i (h : i < t.r.length), t.r[i].length < 9223372036854775808) (hf : t.err = 0) : Ok Try.prog 13 [.agg t.cells] H (.ret (.tup [.own H.length 0 (sealB t.byt).length 1 0, i64 0])) (H ++ [rwB 5 0 (sealB t.byt)]) := by
  refine ok_fn hm Try.func13 c13 (by simp [Tb.cells, rowsV_under]) fun hcl => ?_
  have hh := fun H => ok44 (H := H) (t := t) hs
  simp only [Tb.cells] at hh
  simp -implicitDefEqProofs [i13, r13, Tb.cells]
  refine call_go (hh _) ?_
  · have ht := Td.of hf
    have hn := ht.n
    have hbl := Tb.byt_len ht
    have hbo := Tb.byt_oct ht
    have hpl := putB_len t.r.length
    simp -implicitDefEqProofs [hf]
    refine call_go (ok37 84) ?_
    simp -implicitDefEqProofs [u8w_eq]
    have h38 := ok38 (H := H ++ tbox t :: hdO 84 :: rwB 5 2 [80, 84, 1, u8w t.b] :: [⟨[u8 (u8w t.b)], 5, 0, true⟩]) (j := H.length + 2) (v := 2) (l := [80, 84, 1, u8w t.b]) (by simp) (by simp) (n := t.r.length) (by omega) (by omega)
    refine call_go (Ok.cast (by simp) (by simp [rwB, byts, tbox, hdO]) rfl rfl h38) ?_
    simp -implicitDefEqProofs [tbox]
    refine LI.cong (H' := (H ++ [tbox t, hdO 84]) ++ rwB 5 (2 + (putB t.r.length).length) (headB 84 t.b t.r.length) :: [⟨[u8 (u8w t.b)], 5, 0, true⟩]) ?_ (loopC13_0 (A := H ++ [tbox t, hdO 84]) ht (R := t.byt) (by omega) (fun env v M k6 => ?_) t.r.length 0 (headB 84 t.b t.r.length) (2 + (putB t.r.length).length) _ [⟨[u8 (u8w t.b)], 5, 0, true⟩] (by omega) (by simp [Tb.byt]) ?_ ?_ ?_ ?_)
    · simp [tbox, headB]
    · simp -implicitDefEqProofs [k6]
      have h40 := ok40 (A := H ++ [tbox t, hdO 84]) (l := t.byt) (v := v) (M := M) hbo (by omega)
      refine call_go (Ok.cast (by simp) (by simp) rfl rfl h40) ?_
      simp -implicitDefEqProofs
      refine cv_kp (H' := [rwB 5 0 (sealB t.byt)]) 4 [2] hcl rfl ?_ ?_ ?_
      · unfold SV.fz; simp [SV.under, rwB, placeOf, SV.fz]
      · simp [keptOk, rwB, fz_byts]
      · simp [keptO, rwB, fz_byts]
    all_goals simp [headB]
end
end Go.Proofs.Ytoghpbjllompaaa.Rc

/- W12 -/
namespace Go.Proofs.Ytoghpbjllompaaa.Rc
open Go.Ab
section
variable {l : List Int}
theorem drop_lt {a : Nat} {c : Int} {r : List Int} (h : l.drop a = c :: r) : a < l.length := by
  rcases Nat.lt_or_ge a l.length with h1 | h1
  · exact h1
  · rw [List.drop_of_length_le h1] at h; cases h
theorem drop_more {a : Nat} {s r : List Int} (h : l.drop a = s ++ r) : l.drop (a + s.length) = r := by
  rw [← List.drop_drop, h, List.drop_left' rfl]
theorem oct_at {a : Nat} {c lo hi : Int} {r : List Int} (h : l.drop a = c :: r) (h1 : lo ≤ c) (h2 : c ≤ hi) : octR l lo hi a = .ok (c, a + 1) := by
  have hl := drop_lt h
  have hc : l.getD a 0 = c := by
    rw [List.drop_eq_getElem_cons hl] at h
    simp only [List.cons.injEq] at h
    simp [hl, h.1]
  unfold octR
  rw [if_neg (by omega), hc, if_neg (by omega)]
theorem putB_pos (n : Int) : 1 ≤ (putB n).length := (putF_len 9 n).1
theorem num_at {a : Nat} {n lo hi : Int} {r : List Int} (h : l.drop a = putB n ++ r) (h0 : 0 ≤ n) (hn : n < 4611686018427387904) (h1 : lo ≤ n) (h2 : n ≤ hi) : numR l lo hi a = .ok (n, a + (putB n).length) := by
  have hp := putB_pos n
  have hl : a < l.length := by
    rcases Nat.lt_or_ge a l.length with h3 | h3
    · exact h3
    · rw [List.drop_of_length_le h3] at h
      have := congrArg List.length h
      simp at this; omega
  have e : l = l.take a ++ putB n ++ r := by
    rw [List.append_assoc, ← h, List.take_append_drop]
  have ht : (l.take a).length = a := by simp; omega
  have hg : getV l a = (n, ((a + (putB n).length : Nat) : Int), 0) := by
    have := getV_put h0 hn (l.take a) r
    rw [← e, ht] at this; exact this
  unfold numR
  rw [hg]
  simp only [ne_eq, not_true_eq_false, if_false]
  rw [if_neg (by omega)]
  simp
  omega
theorem list_at {f : Nat → Except Fl (Int × Nat)} {enc : Int → List Int} : ∀ (vs : List Int) (a : Nat) (r : List Int), (∀ v ∈ vs, ∀ a r, l.drop a = enc v ++ r → f a = .ok (v, a + (enc v).length)) → l.drop a = vs.flatMap enc ++ r → listR f vs.length a = .ok (vs, a + (vs.flatMap enc).length)
  | [], a, r, _, _ => by simp [listR]
  | v :: vs, a, r, hf, h => by
    rw [List.flatMap_cons, List.append_assoc] at h
    simp only [List.length_cons, listR]
    rw [hf v (by simp) a _ h]
    have h2 := drop_more h
    simp only []
    rw [list_at vs _ r (fun v hv => hf v (by simp [hv])) h2]
    simp [List.flatMap_cons, Nat.add_assoc]
theorem u8w_id {n : Int} (h0 : 0 ≤ n) (h : n < 256) : u8w n = n := by
  unfold u8w IntKind.wrap
  simp [IntKind.bits, IntKind.signed]
  omega
end
end Go.Proofs.Ytoghpbjllompaaa.Rc

/- W13 -/
namespace Go.Proofs.Ytoghpbjllompaaa.Rc
open Go.Ab
section
variable {g : Gm}
end
end Go.Proofs.Ytoghpbjllompaaa.Rc

/- W14 -/
namespace Go.Proofs.Ytoghpbjllompaaa.Rc
open Go.Ab
section
variable {ns : List Nd}
end
section
variable {g : Gm} {l : List Int}
end
end Go.Proofs.Ytoghpbjllompaaa.Rc

/- W15 -/
namespace Go.Proofs.Ytoghpbjllompaaa.Rc
open Go.Ab
theorem u8w_mod (n : Int) : u8w n = n % 256 := by
  unfold u8w IntKind.wrap
  simp [IntKind.bits, IntKind.signed]
theorem tailB_eq (n : Int) : tailB n = [n / 16777216 % 256, n / 65536 % 256, n / 256 % 256, n % 256] := by
  simp only [tailB, u8w_mod, sh8]
  have e1 : (2 : Int) ^ min 24 IntKind.i64.bits = 16777216 := by decide
  have e2 : (2 : Int) ^ min 16 IntKind.i64.bits = 65536 := by decide
  have e3 : (2 : Int) ^ min 8 IntKind.i64.bits = 256 := by decide
  rw [e1, e2, e3, Int.fdiv_eq_ediv_of_nonneg _ (by decide), Int.fdiv_eq_ediv_of_nonneg _ (by decide), Int.fdiv_eq_ediv_of_nonneg _ (by decide)]
theorem be_tail {n : Int} (h0 : 0 ≤ n) (h : n < 4294967296) : be 0 (tailB n) = n := by
  rw [tailB_eq]
  simp [be]
  omega
theorem sumV_rng (l : List Int) : 0 ≤ sumV l ∧ sumV l < 4294967296 := by
  have := sumF_rng (l := l) (a := 1) (b := 0) (by decide) (by decide) (by decide) (by decide)
  unfold sumV; omega
theorem tailB_oct (n : Int) : Oct (tailB n) := by
  rw [tailB_eq]
  exact Oct.cons (by omega) (Oct.cons (by omega) (Oct.cons (by omega) (Oct.cons (by omega) Oct.nil)))
theorem sealB_len' (l : List Int) : (sealB l).length = l.length + 4 := by simp [sealB, tailB]
theorem sealB_take (l : List Int) : (sealB l).take ((sealB l).length - 4) = l := by
  rw [sealB_len', Nat.add_sub_cancel, sealB, List.take_left' rfl]
theorem sealB_drop (l : List Int) : (sealB l).drop ((sealB l).length - 4) = tailB (sumV l) := by
  rw [sealB_len', Nat.add_sub_cancel, sealB, List.drop_left' rfl]
theorem opn_seal {c : Int} {r : List Int} (hl : (80 :: c :: 1 :: r).length ≤ 99996) : opnR (sealB (80 :: c :: 1 :: r)) c = .ok (80 :: c :: 1 :: r) := by
  have h := sealB_len' (80 :: c :: 1 :: r)
  have hs := sumV_rng (80 :: c :: 1 :: r)
  unfold opnR
  rw [if_neg (by omega), if_neg (by simp only [List.length_cons] at h; omega), sealB_take, sealB_drop, be_tail hs.1 hs.2]
  simp [hdR, sealB]
theorem be_inj : ∀ (a b : List Int) (n m : Int), Oct a → Oct b → a.length = b.length → be n a = be m b → a = b ∧ n = m
  | [], [], n, m, _, _, _, h => ⟨rfl, h⟩
  | [], _ :: _, _, _, _, _, h, _ => by simp at h
  | _ :: _, [], _, _, _, _, h, _ => by simp at h
  | x :: a, y :: b, n, m, ha, hb, hl, h => by
    have h1 := ha x (by simp)
    have h2 := hb y (by simp)
    obtain ⟨e1, e2⟩ := be_inj a b (n * 256 + x) (m * 256 + y) (fun c hc => ha c (by simp [hc])) (fun c hc => hb c (by simp [hc])) (by simpa using hl) h
    have : x = y := by omega
    exact ⟨by rw [e1, this], by omega⟩
theorem sumF_fst : ∀ (l : List Int) (a b : Int), 0 ≤ a → a < 65521 → (sumF a b l).1 = (a + l.sum) % 65521
  | [], a, b, h0, h1 => by simp only [sumF, List.sum_nil]; omega
  | c :: l, a, b, h0, h1 => by
    simp only [sumF, List.sum_cons]
    rw [sumF_fst l _ _ (by omega) (by omega)]
    omega
theorem sum_set : ∀ (l : List Int) (k : Nat) (v : Int) (h : k < l.length), (l.set k v).sum = l.sum - l[k] + v
  | c :: l, 0, v, _ => by simp; omega
  | c :: l, k + 1, v, h => by
    simp only [List.set_cons_succ, List.sum_cons, List.getElem_cons_succ]
    rw [sum_set l k v (by simpa using h)]
    omega
theorem sumV_set {l : List Int} {k : Nat} {v : Int} (hk : k < l.length) (ho : Oct l) (hv : 0 ≤ v ∧ v < 256) (hne : v ≠ l[k]) : sumV (l.set k v) ≠ sumV l := by
  intro h
  have h1 := sumF_rng (l := l) (a := 1) (b := 0) (by decide) (by decide) (by decide) (by decide)
  have h2 := sumF_rng (l := l.set k v) (a := 1) (b := 0) (by decide) (by decide) (by decide) (by decide)
  have e1 := sumF_fst l 1 0 (by decide) (by decide)
  have e2 := sumF_fst (l.set k v) 1 0 (by decide) (by decide)
  rw [sum_set l k v hk] at e2
  have hb := ho _ (List.getElem_mem hk)
  unfold sumV at h
  omega
/-- One byte of what is sealed is changed. -/
theorem opn_bad {b : List Int} {c c' : Int} {l : List Int} (ho : Oct b) (h : opnR b c = .ok l) {k : Nat} {v : Int} (hk : k < b.length) (hv : 0 ≤ v ∧ v < 256) (hne : v ≠ b[k]) : ∃ e : Fl, e.1 ≠ 0 ∧ opnR (b.set k v) c' = .error e := by
  unfold opnR at h
  split at h
  · cases h
  · rename_i h1
    split at h
    · cases h
    · rename_i h2
      split at h
      · cases h
      · rename_i h3
        have h3 : be 0 (b.drop (b.length - 4)) = sumV (b.take (b.length - 4)) := Classical.not_not.1 h3
        refine ⟨(14, b.length - 4), by simp, ?_⟩
        unfold opnR
        rw [List.length_set, if_neg h1, if_neg h2, if_pos]
        intro e
        by_cases hlt : k < b.length - 4
        · rw [List.drop_set_of_lt (by omega), h3, List.take_set] at e
          refine sumV_set (l := b.take (b.length - 4)) (k := k) (v := v) (by simp; omega) (fun x hx => ho x (List.mem_of_mem_take hx)) hv ?_ e.symm
          rw [List.getElem_take]; exact hne
        · rw [List.take_set_of_le (by omega), ← h3] at e
          have hos : Oct (b.set k v) := fun x hx => by
            rcases List.mem_or_eq_of_mem_set hx with hx | rfl
            · exact ho x hx
            · exact hv
          have := (be_inj _ _ _ _ (fun x hx => hos x (List.mem_of_mem_drop hx)) (fun x hx => ho x (List.mem_of_mem_drop hx)) (by simp) e).1
          have h5 := congrArg (fun L : List Int => L[k - (b.length - 4)]?) this
          simp only [List.getElem?_drop] at h5
          rw [show b.length - 4 + (k - (b.length - 4)) = k by omega, List.getElem?_set_self hk, List.getElem?_eq_getElem hk] at h5
          exact hne (Option.some.inj h5)
theorem readT_bad {b : List Int} {t : Tb} (ho : Oct b) (h : readT b = .ok t) {k : Nat} {v : Int} (hk : k < b.length) (hv : 0 ≤ v ∧ v < 256) (hne : v ≠ b[k]) : ∃ e : Fl, e.1 ≠ 0 ∧ readT (b.set k v) = .error e := by
  unfold readT at h
  split at h
  · cases h
  · rename_i l hl
    obtain ⟨e, he, h2⟩ := opn_bad (c' := 84) ho hl hk hv hne
    exact ⟨e, he, by unfold readT; rw [h2]⟩
end Go.Proofs.Ytoghpbjllompaaa.Rc

/- W17 -/
namespace Go.Proofs.Ytoghpbjllompaaa.Rc
open Go.Ab
section
variable {l : List Int}
theorem rows_at : ∀ (rows : List (List Int)) (a : Nat) (r : List Int), (∀ w ∈ rows, 1 ≤ w.length ∧ w.length ≤ 10 ∧ ∀ s ∈ w, 0 ≤ s ∧ s ≤ 1073741824) → l.drop a = rows.flatMap rowB ++ r → rowsR l rows.length a = .ok (rows, a + (rows.flatMap rowB).length)
  | [], a, r, _, _ => by simp [rowsR]
  | w :: rows, a, r, hw, h => by
    obtain ⟨w1, w2, w3⟩ := hw w (by simp)
    rw [List.flatMap_cons, List.append_assoc] at h
    have e : rowB w = (w.length : Int) :: w.flatMap putB := by unfold rowB; rw [u8w_id (by omega) (by omega)]
    have hh := h
    rw [e, List.cons_append] at h
    have g1 : octR l 1 10 a = .ok ((w.length : Int), a + 1) := oct_at h (by omega) (by omega)
    have h2 := drop_more (s := [(w.length : Int)]) (r := w.flatMap putB ++ (rows.flatMap rowB ++ r)) h
    have g2 : listR (numR l 0 4611686018427387903) w.length (a + 1) = .ok (w, a + 1 + (w.flatMap putB).length) := list_at (f := numR l 0 4611686018427387903) (enc := putB) w _ _ (fun v hv a r h => num_at h (w3 v hv).1 (by have := w3 v hv; omega) (w3 v hv).1 (by have := w3 v hv; omega)) h2
    have h5 := drop_more hh
    simp only [List.length_cons, rowsR]
    unfold rowR
    rw [g1]; simp only [Int.toNat_natCast]
    rw [g2]; simp only []
    have e2 : a + 1 + (w.flatMap putB).length = a + (rowB w).length := by rw [e]; simp; omega
    rw [e2, rows_at rows _ r (fun p hp => hw p (by simp [hp])) h5]
    simp [List.flatMap_cons, Nat.add_assoc]
theorem readT_seal {t : Tb} (h : t.err = 0) : readT (sealB t.byt) = .ok t := by
  have ht := Td.of h
  have hb1 := ht.b1
  have hb2 := ht.b2
  have hn := ht.n
  have hl : t.byt.length ≤ 99996 := by
    have h1 := headB_len 84 t.b t.r.length
    have h2 := fm_len (f := rowB) (b := 101) (l := t.r) fun y hy => rowB_len (ht.r y hy).2.1
    simp only [Tb.byt, List.length_append]; omega
  have hb : t.byt = 80 :: 84 :: 1 :: t.b :: (putB t.r.length ++ t.r.flatMap rowB) := by
    unfold Tb.byt headB
    rw [u8w_id (by omega) (by omega)]
    simp
  have ho := opn_seal (c := 84) (r := t.b :: (putB t.r.length ++ t.r.flatMap rowB)) (by rw [← hb]; exact hl)
  rw [← hb] at ho
  have e3 : t.byt.drop 3 = t.b :: (putB t.r.length ++ t.r.flatMap rowB) := by rw [hb]; rfl
  have e4 : t.byt.drop 4 = putB t.r.length ++ t.r.flatMap rowB := by rw [hb]; rfl
  have e5 := drop_more e4
  have h1 : octR t.byt 0 255 3 = .ok (t.b, 4) := oct_at e3 (by omega) (by omega)
  have h2 : numR t.byt 0 200 4 = .ok ((t.r.length : Int), 4 + (putB t.r.length).length) := num_at e4 (by omega) (by omega) (by omega) (by omega)
  have h3 := rows_at (l := t.byt) t.r (4 + (putB t.r.length).length) [] ht.r (by rw [List.append_nil]; exact e5)
  have hlen : t.byt.length = 4 + (putB t.r.length).length + (t.r.flatMap rowB).length := by
    conv => lhs; rw [hb]
    simp; omega
  unfold readT
  rw [ho]; simp only []
  rw [h1]; simp only []
  rw [h2]; simp only [Int.toNat_natCast]
  rw [h3]; simp only []
  rw [if_neg (by omega), if_neg (by simpa using h)]
/-! One way to write. -/
theorem oct_of {lo hi v : Int} {a a' : Nat} (h : octR l lo hi a = .ok (v, a')) : l.drop a = v :: l.drop a' ∧ a' = a + 1 ∧ lo ≤ v ∧ v ≤ hi := by
  unfold octR at h
  split at h
  · cases h
  · split at h
    · cases h
    · rename_i h1 h2
      simp only [Except.ok.injEq, Prod.mk.injEq] at h
      obtain ⟨rfl, rfl⟩ := h
      have hlt : a < l.length := by omega
      refine ⟨?_, rfl, by omega, by omega⟩
      rw [List.drop_eq_getElem_cons hlt]
      simp [hlt]
theorem num_of (ho : Oct l) {lo hi v : Int} {a a' : Nat} (h : numR l lo hi a = .ok (v, a')) : l.drop a = putB v ++ l.drop a' ∧ a' = a + (putB v).length ∧ lo ≤ v ∧ v ≤ hi := by
  unfold numR at h
  split at h
  · cases h
  · rename_i h1
    split at h
    · cases h
    · rename_i h2
      simp only [Except.ok.injEq, Prod.mk.injEq] at h
      obtain ⟨hv, ha⟩ := h
      have hc : (getV l (a : Int)).2.2 = 0 := Classical.not_not.1 h1
      have hcond : ¬ ((a : Int) < 0 ∨ (l.length : Int) < a) := fun hcond => by unfold getV at hc; rw [if_pos hcond] at hc; cases hc
      have hgv : getV l (a : Int) = getR 9 (l.drop a) 1 0 a := by unfold getV; rw [if_neg hcond, Int.toNat_natCast]
      have hod : Oct (l.drop a) := fun x hx => ho x (List.mem_of_mem_drop hx)
      rw [hgv] at hc hv ha h2
      obtain ⟨n, s, h3, h4, _, h5, h6, h7⟩ := getR_back 9 (l.drop a) 1 0 a v (getR 9 (l.drop a) 1 0 a).2.1 hod (by omega) (Prod.ext hv (Prod.ext rfl hc))
      have hn : v = n := by omega
      subst hn
      have h8 : a' = a + (putB v).length := by rw [← ha, h7]; unfold putB; omega
      refine ⟨?_, h8, by omega, by omega⟩
      have h9 : l.drop a = putB v ++ s := h6
      rw [h8, drop_more h9, ← h9]
theorem zig_unz {n : Int} (h : 0 ≤ n) : zig (unz n) = n := by unfold unz zig; split <;> split <;> omega
theorem sgn_of (ho : Oct l) {lo hi v : Int} {a a' : Nat} (h : sgnR l lo hi a = .ok (v, a')) : l.drop a = putB (zig v) ++ l.drop a' ∧ a' = a + (putB (zig v)).length := by
  unfold sgnR at h
  split at h
  · cases h
  · rename_i n a1 h1
    split at h
    · cases h
    · simp only [Except.ok.injEq, Prod.mk.injEq] at h
      obtain ⟨rfl, rfl⟩ := h
      obtain ⟨g1, g2, g3, _⟩ := num_of ho h1
      rw [zig_unz g3]
      exact ⟨g1, g2⟩
theorem list_of {f : Nat → Except Fl (Int × Nat)} {enc : Int → List Int} (hf : ∀ a v a', f a = .ok (v, a') → l.drop a = enc v ++ l.drop a' ∧ a' = a + (enc v).length) :
    ∀ (n a : Nat) (vs : List Int) (a' : Nat), listR f n a = .ok (vs, a') → l.drop a = vs.flatMap enc ++ l.drop a' ∧ a' = a + (vs.flatMap enc).length ∧ vs.length = n
  | 0, a, vs, a', h => by simp only [listR, Except.ok.injEq, Prod.mk.injEq] at h; obtain ⟨rfl, rfl⟩ := h; simp
  | n + 1, a, vs, a', h => by
    simp only [listR] at h
    split at h
    · cases h
    · rename_i v a1 h1
      split at h
      · cases h
      · rename_i ws a2 h2
        simp only [Except.ok.injEq, Prod.mk.injEq] at h
        obtain ⟨rfl, rfl⟩ := h
        obtain ⟨g1, g2⟩ := hf _ _ _ h1
        obtain ⟨g3, g4, g5⟩ := list_of hf n a1 ws a2 h2
        refine ⟨?_, ?_, by simp [g5]⟩
        · rw [g1, g3]; simp [List.flatMap_cons]
        · rw [g4, g2]; simp [List.flatMap_cons, Nat.add_assoc]
theorem rows_of (ho : Oct l) : ∀ (n a : Nat) (rows : List (List Int)) (a' : Nat), rowsR l n a = .ok (rows, a') → l.drop a = rows.flatMap rowB ++ l.drop a' ∧ a' = a + (rows.flatMap rowB).length ∧ rows.length = n
  | 0, a, rows, a', h => by simp only [rowsR, Except.ok.injEq, Prod.mk.injEq] at h; obtain ⟨rfl, rfl⟩ := h; simp
  | n + 1, a, rows, a', h => by
    simp only [rowsR] at h
    split at h
    · cases h
    · rename_i w a1 h1
      split at h
      · cases h
      · rename_i ws a2 h2
        simp only [Except.ok.injEq, Prod.mk.injEq] at h
        obtain ⟨rfl, rfl⟩ := h
        obtain ⟨g3, g4, g5⟩ := rows_of ho n a1 ws a2 h2
        unfold rowR at h1
        split at h1
        · cases h1
        · rename_i m a3 h3
          obtain ⟨k1, k2, k3, k4⟩ := oct_of h3
          obtain ⟨j1, j2, j3⟩ := list_of (l := l) (enc := putB) (fun a v a' h => by have := num_of ho h; exact ⟨this.1, this.2.1⟩) _ _ _ _ h1
          have hm : u8w (w.length : Int) = m := by rw [j3]; rw [u8w_id (by omega) (by omega)]; omega
          have e : rowB w = m :: w.flatMap putB := by unfold rowB; rw [hm]
          refine ⟨?_, ?_, by simp [g5]⟩
          · rw [k1, j1, g3, List.flatMap_cons, e]; simp
          · rw [g4, j2, k2, List.flatMap_cons, e]; simp; omega
theorem opn_of {b : List Int} {c : Int} (ho : Oct b) (h : opnR b c = .ok l) : b = sealB l ∧ (∃ r, l = 80 :: c :: 1 :: r) ∧ Oct l := by
  unfold opnR at h
  split at h
  · cases h
  · split at h
    · cases h
    · rename_i h1 h2
      split at h
      · cases h
      · rename_i h3
        split at h
        · cases h
        · rename_i h4
          cases h
          have h3 : be 0 (b.drop (b.length - 4)) = sumV (b.take (b.length - 4)) := Classical.not_not.1 h3
          have hs := sumV_rng (b.take (b.length - 4))
          have ht := be_inj (b.drop (b.length - 4)) (tailB (sumV (b.take (b.length - 4)))) 0 0 (fun x hx => ho x (List.mem_of_mem_drop hx)) (tailB_oct _) (by simp [tailB]; omega) (by rw [h3, be_tail hs.1 hs.2])
          refine ⟨?_, ?_, fun x hx => ho x (List.mem_of_mem_take hx)⟩
          · unfold sealB
            rw [← ht.1, List.take_append_drop]
          · rcases b with _ | ⟨x, _ | ⟨y, _ | ⟨z, r⟩⟩⟩
            · simp at h2
            · simp at h2
            · simp at h2
            · simp only [hdR, List.getD_cons_zero, List.getD_cons_succ] at h4
              split at h4
              · cases h4
              · split at h4
                · cases h4
                · split at h4
                  · cases h4
                  · rename_i e1 e2 e3
                    have e1 := Classical.not_not.1 e1
                    have e2 := Classical.not_not.1 e2
                    have e3 := Classical.not_not.1 e3
                    subst e1 e2 e3
                    simp only [List.length_cons] at h2 ⊢
                    obtain ⟨n, hn⟩ : ∃ n, r.length + 1 + 1 + 1 - 4 = n + 3 := ⟨r.length - 4, by omega⟩
                    rw [hn]
                    exact ⟨r.take n, rfl⟩
theorem readT_of {b : List Int} {t : Tb} (ho : Oct b) (h : readT b = .ok t) : sealB t.byt = b ∧ t.err = 0 := by
  unfold readT at h
  split at h
  · cases h
  · rename_i l hl
    obtain ⟨hb, ⟨r, hr⟩, hol⟩ := opn_of ho hl
    split at h
    · cases h
    · rename_i bb a1 h1
      split at h
      · cases h
      · rename_i n a2 h2
        split at h
        · cases h
        · rename_i rows a3 h3
          split at h
          · cases h
          · rename_i h4
            split at h
            · cases h
            · rename_i h5
              cases h
              refine ⟨?_, Classical.not_not.1 h5⟩
              obtain ⟨k1, k2, k3, k4⟩ := oct_of h1
              obtain ⟨j1, j2, j3, j4⟩ := num_of hol h2
              obtain ⟨i1, i2, i3⟩ := rows_of hol _ _ _ _ h3
              have e3 : l.drop a3 = [] := List.drop_of_length_le (by omega)
              have hlen : (rows.length : Int) = n := by omega
              rw [hb]
              congr 1
              have el : l = [80, 84, 1] ++ l.drop 3 := by rw [hr]; rfl
              rw [el, k1, j1, i1, e3]
              unfold Tb.byt headB
              simp only []
              rw [hlen, u8w_id k3 (by omega)]
              simp
end
end Go.Proofs.Ytoghpbjllompaaa.Rc

/- W18 -/
namespace Go.Proofs.Ytoghpbjllompaaa.Rc
open Go.Ab
section
variable {l : List Int} {pl : Int} {is : List (Int × Int)}
theorem infs_of (hpl : pl ≤ 4) : ∀ (n a : Nat) (vs : List (Int × Int)) (a' : Nat), infsR pl l n a = .ok (vs, a') → l.drop a = vs.flatMap infB ++ l.drop a' ∧ a' = a + (vs.flatMap infB).length ∧ vs.length = n
  | 0, a, vs, a', h => by simp only [infsR, Except.ok.injEq, Prod.mk.injEq] at h; obtain ⟨rfl, rfl⟩ := h; simp
  | n + 1, a, vs, a', h => by
    simp only [infsR] at h
    split at h
    · cases h
    · rename_i v a1 h1
      split at h
      · cases h
      · rename_i ws a2 h2
        simp only [Except.ok.injEq, Prod.mk.injEq] at h
        obtain ⟨rfl, rfl⟩ := h
        obtain ⟨g3, g4, g5⟩ := infs_of hpl n a1 ws a2 h2
        unfold infR at h1
        split at h1
        · cases h1
        · rename_i k a3 h3
          split at h1
          · cases h1
          · rename_i m a4 h4
            simp only [Except.ok.injEq, Prod.mk.injEq] at h1
            obtain ⟨rfl, rfl⟩ := h1
            obtain ⟨k1, k2, k3, k4⟩ := oct_of h3
            obtain ⟨j1, j2, j3, j4⟩ := oct_of h4
            have e : infB (k, m) = [k, m] := by unfold infB; simp only []; rw [u8w_id k3 (by omega), u8w_id (by omega) (by omega)]
            refine ⟨?_, ?_, by simp [g5]⟩
            · rw [k1, j1, g3, List.flatMap_cons, e]; simp
            · rw [g4, j2, k2, List.flatMap_cons, e]; simp; omega
theorem nd_of (ho : Oct l) {a a' : Nat} {x : Nd} {k : Int} (h : ndR pl is l a = .ok ((x, k), a')) {nx : List Int} (hn : nx.length = k.toNat) : l.drop a = ({ x with nx := nx } : Nd).byt ++ l.drop a' ∧ a' = a + ({ x with nx := nx } : Nd).byt.length := by
  unfold ndR at h
  split at h
  · cases h
  · rename_i k0 a1 h0
    obtain ⟨k1, k2, k3, k4⟩ := oct_of h0
    split at h
    · rename_i e1
      subst e1
      split at h
      · cases h
      · rename_i m a2 h2
        obtain ⟨j1, j2, j3, j4⟩ := oct_of h2
        split at h
        · cases h
        · rename_i ws a3 h3
          simp only [Except.ok.injEq, Prod.mk.injEq] at h
          obtain ⟨⟨rfl, rfl⟩, rfl⟩ := h
          obtain ⟨i1, i2, _⟩ := list_of (l := l) (enc := putB) (fun a v a' h => by have := num_of ho h; exact ⟨this.1, this.2.1⟩) _ _ _ _ h3
          have e : Nd.byt ⟨1, 0, 0, nx, ws, []⟩ = 1 :: m :: ws.flatMap putB := by
            unfold Nd.byt
            simp only [if_true]
            rw [u8w_id (by decide) (by decide), hn, show ((m.toNat : Nat) : Int) = m by omega, u8w_id (by omega) (by omega)]
          rw [e]
          exact ⟨by rw [k1, j1, i1]; simp, by rw [i2, j2, k2]; simp; omega⟩
    · split at h
      · rename_i e1 e2
        subst e2
        split at h
        · cases h
        · rename_i i a2 h2
          simp only [Except.ok.injEq, Prod.mk.injEq] at h
          obtain ⟨⟨rfl, rfl⟩, rfl⟩ := h
          obtain ⟨j1, j2, _⟩ := num_of ho h2
          have e : Nd.byt ⟨2, (infAt is i).1, i, nx, [], []⟩ = 2 :: putB i := by
            show u8w 2 :: _ = _
            rw [u8w_id (by decide) (by decide)]; rfl
          rw [e]
          exact ⟨by rw [k1, j1]; simp, by rw [j2, k2]; simp; omega⟩
      · split at h
        · rename_i e1 e2 e3
          subst e3
          split at h
          · cases h
          · rename_i ps a2 h2
            simp only [Except.ok.injEq, Prod.mk.injEq] at h
            obtain ⟨⟨rfl, rfl⟩, rfl⟩ := h
            obtain ⟨i1, i2, _⟩ := list_of (l := l) (enc := fun y => putB (zig y)) (fun a v a' h => sgn_of ho h) _ _ _ _ h2
            have e : Nd.byt ⟨3, 0, 0, nx, [], ps⟩ = 3 :: ps.flatMap fun y => putB (zig y) := by
              show u8w 3 :: _ = _
              rw [u8w_id (by decide) (by decide)]; rfl
            rw [e]
            exact ⟨by rw [k1, i1]; simp, by rw [i2, k2]; simp; omega⟩
        · cases h
theorem kids_of {w : Nat → Nat → Except Fl (List Nd × Nat)} (hw : ∀ m a s a', w m a = .ok (s, a') → l.drop a = s.flatMap Nd.byt ++ l.drop a' ∧ a' = a + (s.flatMap Nd.byt).length) :
    ∀ (k m a : Nat) (nx : List Int) (sub : List Nd) (a' : Nat), kidsT w k m a = .ok (nx, sub, a') → l.drop a = sub.flatMap Nd.byt ++ l.drop a' ∧ a' = a + (sub.flatMap Nd.byt).length ∧ nx.length = k
  | 0, m, a, nx, sub, a', h => by simp only [kidsT, Except.ok.injEq, Prod.mk.injEq] at h; obtain ⟨rfl, rfl, rfl⟩ := h; simp
  | k + 1, m, a, nx, sub, a', h => by
    simp only [kidsT] at h
    split at h
    · cases h
    · rename_i s a1 h1
      split at h
      · cases h
      · rename_i nx2 sub2 a2 h2
        simp only [Except.ok.injEq, Prod.mk.injEq] at h
        obtain ⟨rfl, rfl, rfl⟩ := h
        obtain ⟨g1, g2⟩ := hw _ _ _ _ h1
        obtain ⟨g3, g4, g5⟩ := kids_of hw k _ _ _ _ _ h2
        refine ⟨by rw [g1, g3, List.flatMap_append, List.append_assoc], by rw [g4, g2, List.flatMap_append, List.length_append, Nat.add_assoc], by simp [g5]⟩
theorem tree_of (ho : Oct l) : ∀ (f dep m a : Nat) (s : List Nd) (a' : Nat), treeR pl is l f dep m a = .ok (s, a') → l.drop a = s.flatMap Nd.byt ++ l.drop a' ∧ a' = a + (s.flatMap Nd.byt).length
  | 0, dep, m, a, s, a', h => by simp [treeR] at h
  | f + 1, dep, m, a, s, a', h => by
    simp only [treeR] at h
    split at h
    · cases h
    · split at h
      · cases h
      · rename_i x k a1 h1
        split at h
        · cases h
        · rename_i nx sub a2 h2
          simp only [Except.ok.injEq, Prod.mk.injEq] at h
          obtain ⟨rfl, rfl⟩ := h
          obtain ⟨g3, g4, g5⟩ := kids_of (fun m a s a' h => tree_of ho f (dep + 1) m a s a' h) _ _ _ _ _ _ h2
          obtain ⟨g1, g2⟩ := nd_of ho h1 g5
          exact ⟨by rw [g1, g3, List.flatMap_cons, List.append_assoc], by rw [g4, g2, List.flatMap_cons, List.length_append, Nat.add_assoc]⟩
end
theorem readG_of {b : List Int} {g : Gm} (ho : Oct b) (h : readG b = .ok g) : sealB g.byt = b ∧ g.formR = 0 := by
  unfold readG at h
  split at h
  · cases h
  · rename_i l hl
    obtain ⟨hb, ⟨r, hr⟩, hol⟩ := opn_of ho hl
    split at h
    · cases h
    · rename_i pl a1 h1
      split at h
      · cases h
      · rename_i n a2 h2
        split at h
        · cases h
        · rename_i is a3 h3
          split at h
          · cases h
          · rename_i ns a4 h4
            split at h
            · cases h
            · rename_i h5
              split at h
              · cases h
              · rename_i h6
                cases h
                have h6 := Classical.not_not.1 h6
                rw [form_eq] at h6
                refine ⟨?_, h6⟩
                obtain ⟨k1, k2, k3, k4⟩ := oct_of h1
                obtain ⟨j1, j2, j3, j4⟩ := num_of hol h2
                obtain ⟨i1, i2, i3⟩ := infs_of k4 _ _ _ _ h3
                obtain ⟨m1, m2⟩ := tree_of hol _ _ _ _ _ _ h4
                have e4 : l.drop a4 = [] := List.drop_of_length_le (by omega)
                have hlen : (is.length : Int) = n := by omega
                rw [hb]
                congr 1
                have el : l = [80, 71, 1] ++ l.drop 3 := by rw [hr]; rfl
                rw [el, k1, j1, i1, m1, e4]
                unfold Gm.byt headB
                simp only []
                rw [hlen, u8w_id (by omega) (by omega)]
                simp
end Go.Proofs.Ytoghpbjllompaaa.Rc

