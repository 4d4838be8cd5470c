/-
  Steps of the proof: contracts of functions and plain facts that the statement rests on.
-/
import Derived.Test.YtbfeaikiiamhaaaCore4
set_option linter.all false
/- AbZc -/
namespace Go.Ab
/-- The cells of records. -/
def rws {α : Type} (f : α → List SV) : List α → List SV
  | [] => []
  | x :: r => f x ++ rws f r
section
variable {α : Type} {f : α → List SV} {sz : Nat}
theorem rws_app (a b : List α) : rws f (a ++ b) = rws f a ++ rws f b := by
  induction a with
  | nil => rfl
  | cons x r ih => simp [rws, ih]
theorem rws_len (hf : ∀ x, (f x).length = sz) (l : List α) : (rws f l).length = l.length * sz := by
  induction l with
  | nil => simp [rws]
  | cons x r ih => simp only [rws, List.length_append, hf, ih, List.length_cons]; rw [Nat.succ_mul]; omega
theorem rws_take (hf : ∀ x, (f x).length = sz) (l : List α) (k : Nat) (hk : k ≤ l.length) : (rws f l).take (k * sz) = rws f (l.take k) := by
  have e : rws f l = rws f (l.take k) ++ rws f (l.drop k) := by rw [← rws_app, List.take_append_drop]
  rw [e, List.take_append_of_le_length (by rw [rws_len hf, List.length_take]; rw [Nat.min_eq_left hk]; exact Nat.le_refl _), List.take_of_length_le (by rw [rws_len hf, List.length_take, Nat.min_eq_left hk]; exact Nat.le_refl _)]
theorem rws_drop (hf : ∀ x, (f x).length = sz) (l : List α) (k : Nat) (hk : k ≤ l.length) : (rws f l).drop (k * sz) = rws f (l.drop k) := by
  have e : rws f l = rws f (l.take k) ++ rws f (l.drop k) := by rw [← rws_app, List.take_append_drop]
  have h : (rws f (l.take k)).length = k * sz := by rw [rws_len hf, List.length_take, Nat.min_eq_left hk]
  rw [e, List.drop_append_of_le_length (by omega), List.drop_of_length_le (by omega), List.nil_append]
theorem rws_at (hf : ∀ x, (f x).length = sz) {l : List α} {k : Nat} (hk : k < l.length) : (rws f l).drop (k * sz) = f l[k] ++ rws f (l.drop (k + 1)) := by
  rw [rws_drop hf l k (by omega), List.drop_eq_getElem_cons hk]; rfl
theorem rws_get (hf : ∀ x, (f x).length = sz) {l : List α} {k t : Nat} (hk : k < l.length) (ht : t < sz) : (rws f l)[k * sz + t]? = (f l[k])[t]? := by
  have : (rws f l)[k * sz + t]? = ((rws f l).drop (k * sz))[t]? := by rw [List.getElem?_drop]
  rw [this, rws_at hf hk, List.getElem?_append_left (by rw [hf]; exact ht)]
theorem rws_le (hf : ∀ x, (f x).length = sz) {l : List α} {k : Nat} (hk : k < l.length) : k * sz + sz ≤ (rws f l).length := by
  rw [rws_len hf]
  have := Nat.mul_le_mul_right sz (show k + 1 ≤ l.length from hk)
  rw [Nat.succ_mul] at this; exact this
theorem rws_ge (hf : ∀ x, (f x).length = sz) {l : List α} {k : Nat} (hk : k < l.length) : sz ≤ (rws f l).length - k * sz := by have := rws_le hf hk; omega
theorem rws_min (hf : ∀ x, (f x).length = sz) {l : List α} {k : Nat} (hk : k < l.length) : min sz ((rws f l).length - k * sz) = sz := by have := rws_ge hf hk; omega
theorem rws_set (hf : ∀ x, (f x).length = sz) {l : List α} {k : Nat} (hk : k < l.length) (x : α) : rws f (l.set k x) = (rws f l).take (k * sz) ++ (f x ++ (rws f l).drop (k * sz + sz)) := by
  have e : k * sz + sz = (k + 1) * sz := by rw [Nat.succ_mul]
  rw [e, rws_take hf l k (by omega), rws_drop hf l (k + 1) (by omega)]
  rw [show l.set k x = l.take k ++ x :: l.drop (k + 1) from by rw [List.set_eq_take_append_cons_drop, if_pos hk]]
  rw [rws_app]; rfl
theorem rws_under {n : Nat} (h : ∀ x, SV.underL n (f x) = true) (l : List α) : SV.underL n (rws f l) = true := by
  induction l with
  | nil => rfl
  | cons x r ih => rw [rws, SV.underL_append, h, ih]; rfl
theorem rws_cells (h : ∀ x, cellsOk (f x)) (l : List α) : cellsOk (rws f l) := by
  induction l with
  | nil => intro s hs; simp [rws] at hs
  | cons x r ih =>
    intro s hs
    rcases List.mem_append.1 hs with h1 | h1
    · exact h x s h1
    · exact ih s h1
end
theorem objCells_set {H : List AO} {j : Nat} (hj : j < H.length) (c : List SV) (T : TypeId) (v : Nat) : objCells (H.set j ⟨c, T, v, true⟩) j v = c := by
  unfold objCells; rw [List.getElem?_set_self hj]; simp
theorem objCells_ne {H : List AO} {i j : Nat} (h : i ≠ j) (o : AO) (v : Nat) : objCells (H.set i o) j v = objCells H j v := by
  unfold objCells; rw [List.getElem?_set_ne h]
theorem set_same {H : List AO} {j : Nat} {o : AO} (h : H[j]? = some o) : H.set j o = H := by
  apply List.ext_getElem?
  intro i
  rw [List.getElem?_set]; split
  · rename_i e; subst e; rw [if_pos (getElem?_lt h), h]
  · rfl
/-- What a value says is less than what another one says. -/
def SV.le (s s' : SV) : Prop := ∀ (S : St) (v : Value), VR S s v → VR S s' v
theorem SV.le.refl (s : SV) : s.le s := fun _ _ h => h
theorem le_nil : SV.le (.val (.slice none 0 0)) (.slc [] 0) := by
  intro S v h; cases h; exact .nilslc
def leL (l l' : List SV) : Prop := l.length = l'.length ∧ ∀ (j : Nat) (s s' : SV), l[j]? = some s → l'[j]? = some s' → s.le s'
theorem leL.nil : leL [] [] := ⟨rfl, fun j s s' h => by simp at h⟩
theorem leL.refl (l : List SV) : leL l l := ⟨rfl, fun j s s' h h' => by rw [h] at h'; cases h'; exact SV.le.refl s⟩
theorem leL.cons {s s' : SV} {l l' : List SV} (h : s.le s') (hl : leL l l') : leL (s :: l) (s' :: l') := by
  refine ⟨by simp [hl.1], fun j a b h1 h2 => ?_⟩
  cases j with
  | zero => simp at h1 h2; subst h1 h2; exact h
  | succ j => simp at h1 h2; exact hl.2 j a b h1 h2
theorem leL.app {a a' b b' : List SV} (h : leL a a') (h' : leL b b') : leL (a ++ b) (a' ++ b') := by
  induction a generalizing a' with
  | nil => cases a' with
    | nil => exact h'
    | cons x r => have := h.1; simp at this
  | cons x r ih => cases a' with
    | nil => have := h.1; simp at this
    | cons x' r' => exact leL.cons (h.2 0 x x' rfl rfl) (ih ⟨by have := h.1; simpa using this, fun j s s' h1 h2 => h.2 (j + 1) s s' (by simpa using h1) (by simpa using h2)⟩)
theorem leL.rws {α : Type} {f g : α → List SV} (h : ∀ x, leL (f x) (g x)) (l : List α) : leL (rws f l) (rws g l) := by
  induction l with
  | nil => exact leL.nil
  | cons x r ih => exact leL.app (h x) ih
theorem leL.vrs {S : St} {l l' : List SV} {us : List Value} (h : leL l l') (hv : VRs S l us) : VRs S l' us := by
  refine ⟨by rw [hv.1, h.1], fun j s u h1 h2 => ?_⟩
  have hj : j < l.length := by rw [h.1]; rcases Nat.lt_or_ge j l'.length with h3 | h3; exact h3; rw [List.getElem?_eq_none h3] at h1; cases h1
  exact h.2 j _ _ (List.getElem?_eq_getElem hj) h1 S u (hv.2 j _ u (List.getElem?_eq_getElem hj) h2)
theorem le_slc {l l' : List SV} (h : leL l l') (n : Nat) : SV.le (.slc l n) (.slc l' n) := by
  intro S v hv
  cases hv with
  | nilslc =>
    have : l' = [] := List.eq_nil_of_length_eq_zero (by rw [← h.1]; rfl)
    subst this; exact .nilslc
  | slc _ _ a cap us hc hl hi hh =>
    have := h.vrs ⟨hl, hh⟩
    exact .slc _ _ a cap us hc this.1 hi this.2
theorem le_agg {l l' : List SV} (h : leL l l') : SV.le (.agg l) (.agg l') := by
  intro S v hv
  cases hv with
  | agg _ us hl hh => have := h.vrs ⟨hl, hh⟩; exact .agg _ _ this.1 this.2
theorem Ok.le {P : Program} {f : FuncId} {args args' : List SV} {H H' : List AO} {out : Out} (hle : leL args args') (h : Ok P f args' H out H') : Ok P f args H out H' :=
  ⟨h.1, fun S vs hH hS hv => h.2 S vs hH hS (hle.vrs hv)⟩
theorem OkP.le {P : Program} {f : FuncId} {args args' : List SV} {H : List AO} {Pt : Out → List AO → Prop} (hle : leL args args') (h : OkP P f args' H Pt) : OkP P f args H Pt :=
  ⟨h.1, fun S vs hH hS hv => h.2 S vs hH hS (hle.vrs hv)⟩
@[simp] theorem objCells_next2 (o : AO) (r : List AO) (a b k ver : Nat) : objCells (o :: r) (a + (b + (k + 1))) ver = objCells r (a + (b + k)) ver := objCells_next o r (a + (b + k)) ver
@[simp] theorem setObj_next2 (o : AO) (r : List AO) (a b k : Nat) (f : AO → AO) : setObj (o :: r) (a + (b + (k + 1))) f = o :: setObj r (a + (b + k)) f := setObj_next o r (a + (b + k)) f
@[simp] theorem objCells_next3 (o : AO) (r : List AO) (a b c k ver : Nat) : objCells (o :: r) (a + (b + (c + (k + 1)))) ver = objCells r (a + (b + (c + k))) ver := objCells_next o r (a + (b + (c + k))) ver
theorem LI.cong {P : Program} {N : Nat} {D : Array Oper → List Nat → List Ins → Bool} {i : IC} {env : Env} {H H' : List AO} {K : XE → Env → List AO → Prop} (e : H' = H) (h : LI P N D i env H' K) : LI P N D i env H K := by rw [← e]; exact h
/-- No cell of these objects names an object from n on. -/
def Cl (n : Nat) (l : List AO) : Prop := ∀ o ∈ l, ∀ s ∈ o.cells, s.under n = true
theorem Cl.nil (n : Nat) : Cl n [] := fun o h => by simp at h
theorem Cl.cons {n : Nat} {o : AO} {l : List AO} (h : SV.underL n o.cells = true) (hl : Cl n l) : Cl n (o :: l) := by
  intro p hp
  rcases List.mem_cons.1 hp with rfl | hp
  · exact (SV.underL_iff _ _).1 h
  · exact hl p hp
theorem Cl.app {n : Nat} {a b : List AO} (h : Cl n a) (h' : Cl n b) : Cl n (a ++ b) := by
  intro p hp
  rcases List.mem_append.1 hp with hp | hp
  · exact h p hp
  · exact h' p hp
theorem Cl.mono {n m : Nat} {l : List AO} (h : Cl n l) (hm : n ≤ m) : Cl m l := fun o ho s hs => SV.under_mono hm s (h o ho s hs)
theorem closed_iff {H : List AO} : closed H ↔ Cl H.length H := by
  refine ⟨fun h o ho s hs => ?_, fun h i o ho s hs => h o (List.mem_of_getElem? ho) s hs⟩
  obtain ⟨i, hi⟩ := List.getElem?_of_mem ho
  exact h i o hi s hs
theorem Cl.left {n : Nat} {a b : List AO} (h : Cl n (a ++ b)) : Cl n a := fun o ho => h o (List.mem_append_left _ ho)
theorem Cl.right {n : Nat} {a b : List AO} (h : Cl n (a ++ b)) : Cl n b := fun o ho => h o (List.mem_append_right _ ho)
theorem Cl.tail {n : Nat} {o : AO} {a : List AO} (h : Cl n (o :: a)) : Cl n a := fun p hp => h p (List.mem_cons_of_mem _ hp)
theorem AO.gv_cl {k ver d n : Nat} {cs : List SV} (hn : n ≤ k) {l : List AO} (h : Cl n l) : l.map (AO.gv k ver cs d) = l := by
  have : l.map (AO.gv k ver cs d) = l.map id := List.map_congr_left fun o ho => by
    show AO.mk _ _ _ _ = o
    have : o.cells.map (SV.gv k ver cs d) = o.cells.map id := List.map_congr_left fun s hs => gv_under hn d s (h o ho s hs)
    rw [this, List.map_id]
  rw [this, List.map_id]
theorem LI.closed {P : Program} {N : Nat} {D : Array Oper → List Nat → List Ins → Bool} {i : IC} {env : Env} {H : List AO} {K : XE → Env → List AO → Prop} (h : Go.Ab.closed H → LI P N D i env H K) : LI P N D i env H K :=
  fun c hc db S a hH hS he hN hd => h (by rw [← hH]; exact hS.closed) c hc db S a hH hS he hN hd
theorem OkP.cast {P : Program} {f : FuncId} {args args' : List SV} {H H' : List AO} {Pt : Out → List AO → Prop} (ha : args = args') (hH : H = H') (h : OkP P f args' H' Pt) : OkP P f args H Pt := by subst ha hH; exact h
theorem Ok.cast {P : Program} {f : FuncId} {args args' : List SV} {H H' H1 H1' : List AO} {o o' : Out} (ha : args = args') (hH : H = H') (ho : o = o') (h1 : H1 = H1') (h : Ok P f args' H' o' H1') : Ok P f args H o H1 := by subst ha hH ho h1; exact h
theorem set_app {α : Type} (a b : List α) (k : Nat) (x : α) : (a ++ b).set (a.length + k) x = a ++ b.set k x := by rw [List.set_append_right _ _ (by omega)]; simp
theorem set_app0 {α : Type} (a b : List α) (x : α) : (a ++ b).set a.length x = a ++ b.set 0 x := set_app a b 0 x
theorem get_app {α : Type} (a b : List α) (k : Nat) : (a ++ b)[a.length + k]? = b[k]? := by rw [List.getElem?_append_right (by omega)]; simp
theorem get_app0 {α : Type} (a b : List α) : (a ++ b)[a.length]? = b[0]? := get_app a b 0
theorem set_c2 {α : Type} (o x : α) (r : List α) (a b k : Nat) : (o :: r).set (a + (b + (k + 1))) x = o :: r.set (a + (b + k)) x := rfl
theorem get_c2 {α : Type} (o : α) (r : List α) (a b k : Nat) : (o :: r)[a + (b + (k + 1))]? = r[a + (b + k)]? := rfl
/-- An empty row more. -/
theorem Tell.nil {env : Env} {H : List AO} (T : TypeId) : Tell env H env (H ++ [⟨[], T, 0, true⟩]) := by
  intro S tmps hH hS he
  subst hH
  exact ⟨_, ext_newNil S T, sim_newNil hS T, he.ext (ext_newNil S T)⟩
theorem Cv.trans {n0 : Nat} {r1 r2 r3 : SV} {H1 H2 H3 : List AO} (h : Cv n0 r1 H1 r2 H2) (h' : Cv n0 r2 H2 r3 H3) : Cv n0 r1 H1 r3 H3 := by
  intro S v hS hsim hv
  obtain ⟨ρ, h1, h2, h3⟩ := h S v hS hsim hv
  obtain ⟨ρ', h4, h5, h6⟩ := h' ⟨ρ, H2, S.w⟩ v rfl h2 h3
  exact ⟨ρ', h1.trans h4, h5, h6⟩
theorem Cv.le {n0 : Nat} {r1 r r' : SV} {H1 H' : List AO} (h : Cv n0 r1 H1 r H') (hle : r.le r') : Cv n0 r1 H1 r' H' := by
  intro S v hS hsim hv
  obtain ⟨ρ, h1, h2, h3⟩ := h S v hS hsim hv
  exact ⟨ρ, h1, h2, hle _ _ h3⟩
theorem cv_trunc {n0 : Nat} {r : SV} {H : List AO} {j : Nat} {o : AO} (hn : n0 ≤ H.length) (ho : H[j]? = some o) (hl : o.live = true) (k : Nat) : Cv n0 r H r (H.set j ⟨o.cells.take k, o.ty, o.ver, true⟩) := by
  intro S v hS hsim hv
  subst hS
  have h3 := ext_retell ho hl (o.cells.take k)
  exact ⟨_, h3.mono hn, sim_retell hsim ho hl (fun s hs => (hsim.bel j o ho s (List.mem_of_mem_take hs)).2 hl) (fun us hus => ⟨k, hus.take k⟩), hv.ext h3⟩
theorem Refz.one {H0 L : List AO} {ks : List Nat} {d j : Nat} {o : AO} (hu : ∀ (i : Nat) (o : AO), i ≠ j → H0[i]? = some o → ∀ s ∈ o.cells, s.under H0.length = true) (ho : H0[j]? = some o) (hl : o.live = true)
    (hc : cellsOk (o.cells.map (SV.fz H0.length ks L d))) : Refz H0 (H0.set j ⟨o.cells.map (SV.fz H0.length ks L d), o.ty, o.ver, true⟩) L ks d := by
  refine ⟨by simp, fun i o' h => ?_⟩
  by_cases e : i = j
  · subst e
    rw [List.getElem?_set_self (getElem?_lt ho)] at h; cases h
    exact .inr ⟨o, (o.cells.map (SV.fz H0.length ks L d)).length, ho, hl, by rw [List.take_length], hc⟩
  · rw [List.getElem?_set_ne (by omega)] at h
    exact .inl ⟨h, hu i o' e h⟩
end Go.Ab
