/-
  Steps of the proof: contracts of functions and plain facts that the statement rests on.
-/
import Derived.Test.YtbfeaikiiamhaaaUG4
set_option linter.all false
namespace Go.Proofs.Ytbfeaikiiamhaaa.Rc
open Go.Ab
section
variable {A B : List AO} {c : Mc} {s : Ms}
def endX (A B : List AO) (ps : List Int) : AO := ⟨[i64 3, i64 0, i64 0, .val (.slice none 0 0), .val (.slice none 0 0), .own (A.length + (B.length + 7)) 0 ps.length 1 ps.length], 39, 0, true⟩
def endP (ps : List Int) : AO := ⟨ints ps, 3, ps.length, true⟩
set_option maxRecDepth 10000 in
theorem loop73 {np : Nat} {at' : Int} {N : Nat} {K : XE → Env → List AO → Prop} (hl : c.l.length < 4611686018427387904) (hp : c.pl = np) (hnp : np ≤ 1000)
    (hexit : ∀ env ps L a, ps.length = np → (∀ w ∈ ps, -3 ≤ w ∧ w ≤ 3) → 0 ≤ a → env.get 0 = .ptr (.own (A.length + 1) 0 0 0 0) 0 → env.get 1 = i64 at' → env.get 4 = .ptr (.own (A.length + (B.length + 6)) 0 0 0 0) 0 →
      K (.exit 0) env (c.hp A (B ++ endX A B ps :: endP ps :: L) { s with at' := a })) :
    ∀ (n : Nat) (env : Env) (ps : List Int) (L : List AO) (a : Int), ps.length + n = np → (∀ w ∈ ps, -3 ≤ w ∧ w ≤ 3) → 0 ≤ a → env.get 0 = .ptr (.own (A.length + 1) 0 0 0 0) 0 → env.get 1 = i64 at' → env.get 4 = .ptr (.own (A.length + (B.length + 6)) 0 0 0 0) 0 → env.get 5 = i64 ps.length →
      LI Try.prog N drawB l55_0 env (c.hp A (B ++ endX A B ps :: endP ps :: L) { s with at' := a }) K := by
  intro n
  induction n with
  | zero =>
    intro env ps L a hn hw ha h0 h1 h4 h5
    refine li_go hm' l55_0.eq_1 ?_
    have e : ps.length = np := by omega
    simp -implicitDefEqProofs [h0, h1, h4, h5, Mc.hp, Mc.M, show ¬ ((ps.length : Int) < c.pl) by omega]
    refine hexit _ ps L a e hw ha ?_ ?_ ?_ <;> simp [h0, h1, h4]
  | succ n ih =>
    intro env ps L a hn hw ha h0 h1 h4 h5
    refine li_go hm' l55_0.eq_1 ?_
    have hlt : ps.length < np := by omega
    simp -implicitDefEqProofs [h0, h1, h4, h5, Mc.hp, Mc.M, show (ps.length : Int) < c.pl by omega, endX, endP]
    have h59 := ok30m (A := A) (c := c) (B := B ++ endX A B ps :: endP ps :: L) (n := 7) (s := { s with at' := a }) hl ha (by omega)
    refine call_goP (by simpa [Mc.hp, Mc.D, Mc.L, Mc.M, Mc.V, Mc.N, Mc.I, endX, endP] using h59) ?_
    rintro o G' ⟨v, a', rfl, h1', h2, h3, rfl⟩
    have w1 : IntKind.i64.wrap (v - 3) = v - 3 := wrap_id (by omega) (by omega)
    have w2 : IntKind.i64.wrap ((ps.length : Int) + 1) = ((ps.length + 1 : Nat) : Int) := wrap_succ (by omega)
    simp -implicitDefEqProofs [h0, h1, h4, h5, Mc.hp, Mc.D, Mc.L, Mc.M, Mc.V, Mc.N, Mc.I, endX, endP, w1]
    refine ⟨by omega, by omega, ?_⟩
    refine LI.cong (H' := c.hp A (B ++ endX A B (ps ++ [v - 3]) :: endP (ps ++ [v - 3]) :: (L ++ [⟨[i64 (v - 3)], 3, 0, true⟩])) { s with at' := a' }) (by simp [Mc.hp, Mc.D, Mc.L, Mc.M, Mc.V, Mc.N, Mc.I, endX, endP, show ints (ps ++ [v - 3]) = ints ps ++ [i64 (v - 3)] by simp [ints]]) (ih _ _ _ _ (by simp; omega) ?_ h1' ?_ ?_ ?_ ?_)
    · intro w hw'
      rcases List.mem_append.1 hw' with h | h
      · exact hw w h
      · simp at h; omega
    all_goals simp [h0, h1, h4, w2]
theorem hp_setN (n : AO) : (c.hp A B s).set (A.length + 4) n = A ++ (c.D s :: c.M A.length s :: c.L :: Mc.V s :: n :: Mc.I s :: B) := by
  unfold Mc.hp; rw [List.set_append_right _ _ (by omega)]; simp
theorem cN_cells (x : Nd) : cellsOk x.cN := by
  intro y hy
  have hs : ∀ l : List Int, (slN l).isCell = true := fun l => by unfold slN; split <;> rfl
  simp only [Nd.cN, List.mem_cons, List.not_mem_nil, or_false] at hy
  rcases hy with rfl | rfl | rfl | rfl | rfl | rfl
  · rfl
  · rfl
  · rfl
  · exact hs _
  · exact hs _
  · exact hs _
theorem cN_under (n : Nat) (x : Nd) : SV.underL n x.cN = true := by simp [Nd.cN, SV.underL, SV.under, slN_under]
/-- THE END OF A FUNCTION that has written a node. -/
theorem fin_node {n0 k : Nat} {L : List AO} {r : SV} {x : Nd} {cx : List SV} (hcl : closed (c.hp A B s)) (hn : n0 ≤ A.length + (B.length + 6)) (hk : k < s.ns.length) (hx : cx.map (SV.fz (A.length + (B.length + 6)) [] L 2) = x.cN) :
    Cv n0 r (A ++ (c.D s :: c.M A.length s :: c.L :: Mc.V s :: ⟨(rws Nd.cN s.ns).take (k * 6) ++ (cx ++ (rws Nd.cN s.ns).drop (k * 6 + 6)), 39, s.vn, true⟩ :: Mc.I s :: (B ++ L))) (r.fz (A.length + (B.length + 6)) [] L 2) (c.hp A B { s with ns := s.ns.set k x }) := by
  have hu0 := rws_under (cN_under (A.length + (B.length + 6))) s.ns
  have hm : ∀ l : List SV, (∀ y ∈ l, y ∈ rws Nd.cN s.ns) → l.map (SV.fz (A.length + (B.length + 6)) [] L 2) = l := by
    intro l hl
    exact map_fz_under _ [] L 1 ((SV.underL_iff _ _).2 fun y hy => (SV.underL_iff _ _).1 hu0 y (hl y hy))
  have hc : ((rws Nd.cN s.ns).take (k * 6) ++ (cx ++ (rws Nd.cN s.ns).drop (k * 6 + 6))).map (SV.fz (A.length + (B.length + 6)) [] L 2) = rws Nd.cN (s.ns.set k x) := by
    rw [List.map_append, List.map_append, hx, hm _ (fun y hy => List.mem_of_mem_take hy), hm _ (fun y hy => List.mem_of_mem_drop hy), rws_set Nd.lenN hk]
  have hlen : ((c.hp A B s).set (A.length + 4) ⟨(rws Nd.cN s.ns).take (k * 6) ++ (cx ++ (rws Nd.cN s.ns).drop (k * 6 + 6)), 39, s.vn, true⟩).length = A.length + (B.length + 6) := by rw [List.length_set, hp_len]
  have hz := Refz.one (L := L) (ks := []) (d := 2) (j := A.length + 4) (H0 := (c.hp A B s).set (A.length + 4) ⟨(rws Nd.cN s.ns).take (k * 6) ++ (cx ++ (rws Nd.cN s.ns).drop (k * 6 + 6)), 39, s.vn, true⟩)
    (fun i o hi ho y hy => by rw [List.getElem?_set_ne (by omega)] at ho; rw [List.length_set]; exact hcl i o ho y hy)
    (List.getElem?_set_self (by rw [hp_len]; omega)) rfl (by rw [hlen, hc]; exact rws_cells cN_cells _)
  rw [hlen, hc, List.set_set, hp_setN, hp_setN] at hz
  have := cv_noneM (n0 := n0) (r := r) (Hx := A ++ (c.D s :: c.M A.length s :: c.L :: Mc.V s :: ⟨(rws Nd.cN s.ns).take (k * 6) ++ (cx ++ (rws Nd.cN s.ns).drop (k * 6 + 6)), 39, s.vn, true⟩ :: Mc.I s :: (B ++ L))) 2 (by simp) (by simp; omega) hz
  rw [hp_setN] at hlen
  rw [hlen] at this
  have e : c.hp A B { s with ns := s.ns.set k x } = A ++ (c.D s :: c.M A.length s :: c.L :: Mc.V s :: ⟨rws Nd.cN (s.ns.set k x), 39, s.vn, true⟩ :: Mc.I s :: B) := by simp [Mc.hp, Mc.D, Mc.M, Mc.V, Mc.N, Mc.I]
  rw [e]; exact this
def Ms.endN (s : Ms) (k : Nat) (ps : List Int) (a : Int) : Ms := { s with at' := a, ns := s.ns.set k ⟨3, 0, 0, [], [], ps⟩ }
def endQ (c : Mc) (A B : List AO) (s : Ms) (k : Nat) (o : Out) (G' : List AO) : Prop :=
  o = .ret (.tup []) ∧ ∃ (ps : List Int) (a : Int), (ps.length : Int) = c.pl ∧ (∀ w ∈ ps, -3 ≤ w ∧ w ≤ 3) ∧ 0 ≤ a ∧ G' = c.hp A B (s.endN k ps a)
set_option maxRecDepth 10000 in
theorem ok55 {k : Nat} (hl : c.l.length < 4611686018427387904) (h0 : 0 ≤ s.at') (hp : 1 ≤ c.pl) (hp2 : c.pl ≤ 1000) (hk : k < s.ns.length) (hn : s.ns.length < 1000000) :
    OkP Try.prog 55 [.ptr (.own (A.length + 1) 0 0 0 0) 0, i64 k] (c.hp A B s) (endQ c A B s k) := by
  refine okP_fn hm' Try.func55 c55 (by simp) fun hcl => ?_
  obtain ⟨np, hnp⟩ : ∃ np : Nat, c.pl = np := ⟨c.pl.toNat, by omega⟩
  have ha : c.hp A B s = A ++ (c.D s :: c.M A.length s :: c.L :: Mc.V s :: Mc.N s :: Mc.I s :: B) := rfl
  rw [ha]
  simp -implicitDefEqProofs [i55, r55]
  refine ⟨rfl, LI.tell (Tell.own0 (j := A.length + (B.length + 6)) (p := 5) (o := ⟨[i64 3, i64 0, i64 0, .val (.slice none 0 0), .val (.slice none 0 0), .val (.slice none 0 0)], 39, 0, true⟩) ?_ rfl rfl 3 1) ?_⟩
  · rw [List.getElem?_append_right (Nat.le_add_right _ _), Nat.add_sub_cancel_left]; simp
  simp -implicitDefEqProofs
  refine loop73 (A := A) (B := B) (c := c) (s := s) (np := np) (at' := k) hl hnp (by omega) (fun env ps L a hps hw ha' g0 g1 g4 => ?_) np _ [] [] s.at' (by simp) (by simp) h0 (by simp) (by simp) (by simp) (by simp)
  have hle := rws_le Nd.lenN hk
  have key : ∀ ps' : List Int, ps'.length = np → (∀ w ∈ ps', -3 ≤ w ∧ w ≤ 3) → FinQ (A.length + (B.length + 6)) (endQ c A B s k) (.tup [])
      (A ++ (c.D { s with at' := a } :: c.M A.length s :: c.L :: Mc.V s :: ⟨(rws Nd.cN s.ns).take (k * 6) ++ ([i64 3, i64 0, i64 0, .val (.slice none 0 0), .val (.slice none 0 0), .own (A.length + (B.length + 7)) 0 ps.length 1 ps.length] ++ (rws Nd.cN s.ns).drop (k * 6 + 6)), 39, s.vn, true⟩ :: Mc.I s ::
        (B ++ endX A B ps :: ⟨ints ps', 3, ps.length, true⟩ :: L))) := by
    intro ps' hps' hw'
    have hne : ps' ≠ [] := by intro e; subst e; simp at hps'; omega
    refine ⟨_, _, ⟨rfl, ps', a, by omega, hw', ha', rfl⟩, ?_⟩
    have := fin_node (A := A) (B := B) (c := c) (s := { s with at' := a }) (n0 := A.length + (B.length + 6)) (k := k) (L := endX A B ps :: ⟨ints ps', 3, ps.length, true⟩ :: L) (r := .tup []) (x := ⟨3, 0, 0, [], [], ps'⟩)
      (cx := [i64 3, i64 0, i64 0, .val (.slice none 0 0), .val (.slice none 0 0), .own (A.length + (B.length + 7)) 0 ps.length 1 ps.length]) (closed_hp hcl) (by omega) hk (by
        have e1 : SV.fz (A.length + (B.length + 6)) [] (endX A B ps :: ⟨ints ps', 3, ps.length, true⟩ :: L) 2 (.own (A.length + (B.length + 7)) 0 ps.length 1 ps.length) = .slc (ints ps') ps'.length := by
          have h := fz_own (n := A.length + (B.length + 6)) (ks := []) (L := endX A B ps :: ⟨ints ps', 3, ps.length, true⟩ :: L) (d := 1) 1 0 ps.length 1 ps.length
          rw [show A.length + (B.length + 7) = A.length + (B.length + 6) + 1 by omega, h]
          simp [placeOf, hps, hps', show (ints ps').length = np by simp [ints, hps'], List.take_of_length_le]
        simp [Nd.cN, slN, hne, e1, sl, fz_under, SV.under])
    simp [Mc.hp, Ms.endN, Mc.D, Mc.L, Mc.M, Mc.V, Mc.N, Mc.I] at this ⊢
    exact this
  simp -implicitDefEqProofs [g0, g1, g4, Mc.hp, Mc.D, Mc.L, Mc.M, Mc.V, Mc.N, Mc.I, endX, endP]
  by_cases hz : c.zero = true ∧ c.pl = 2
  · rw [if_pos hz]
    have h2 : np = 2 := by omega
    match ps, hps, hw, key with
    | [x, y], hps, hw, key =>
      have hx := hw x (by simp)
      have w1 : IntKind.i64.wrap (-x) = -x := wrap_id (by omega) (by omega)
      simp [ints, w1]
      refine ⟨hk, rfl, hle, ?_⟩
      have := key [x, -x] (by simp [h2]) (by intro w h; simp at h; omega)
      simpa [Mc.D, Mc.L, Mc.M, Mc.V, Mc.N, Mc.I, endX, ints] using this
    | [], hps, _, _ => simp at hps; omega
    | [_], hps, _, _ => simp at hps; omega
    | _ :: _ :: _ :: _, hps, _, _ => simp at hps; omega
  · rw [if_neg hz]
    refine ⟨hk, rfl, hle, ?_⟩
    have := key ps hps hw
    simpa [Mc.D, Mc.L, Mc.M, Mc.V, Mc.N, Mc.I, endX] using this
end
end Go.Proofs.Ytbfeaikiiamhaaa.Rc

