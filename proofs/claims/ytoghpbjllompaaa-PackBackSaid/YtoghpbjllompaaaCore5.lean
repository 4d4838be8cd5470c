/-
  Steps of the proof: contracts of functions and plain facts that the statement rests on.
-/
import Derived.Test.YtoghpbjllompaaaCore4
set_option linter.all false
/- AbZc -/
namespace Go.Ab
/-- The cells of records. -/
def rws {α : Type} (f : α → List SV) : List α → List SV
  | [] => []
  | x :: r => f x ++ rws f r
section
variable {α : Type} {f : α → List SV} {sz : Nat}
theorem rws_app (a b : List α) : rws f (a ++ b) = rws f a ++ rws f b := by
  induction a with
  | nil => rfl
  | cons x r ih => simp [rws, ih]
theorem rws_len (hf : ∀ x, (f x).length = sz) (l : List α) : (rws f l).length = l.length * sz := by
  induction l with
  | nil => simp [rws]
  | cons x r ih => simp only [rws, List.length_append, hf, ih, List.length_cons]; rw [Nat.succ_mul]; omega
theorem rws_take (hf : ∀ x, (f x).length = sz) (l : List α) (k : Nat) (hk : k ≤ l.length) : (rws f l).take (k * sz) = rws f (l.take k) := by
  have e : rws f l = rws f (l.take k) ++ rws f (l.drop k) := by rw [← rws_app, List.take_append_drop]
  rw [e, List.take_append_of_le_length (by rw [rws_len hf, List.length_take]; rw [Nat.min_eq_left hk]; exact Nat.le_refl _), List.take_of_length_le (by rw [rws_len hf, List.length_take, Nat.min_eq_left hk]; exact Nat.le_refl _)]
theorem rws_drop (hf : ∀ x, (f x).length = sz) (l : List α) (k : Nat) (hk : k ≤ l.length) : (rws f l).drop (k * sz) = rws f (l.drop k) := by
  have e : rws f l = rws f (l.take k) ++ rws f (l.drop k) := by rw [← rws_app, List.take_append_drop]
  have h : (rws f (l.take k)).length = k * sz := by rw [rws_len hf, List.length_take, Nat.min_eq_left hk]
  rw [e, List.drop_append_of_le_length (by omega), List.drop_of_length_le (by omega), List.nil_append]
theorem rws_at (hf : ∀ x, (f x).length = sz) {l : List α} {k : Nat} (hk : k < l.length) : (rws f l).drop (k * sz) = f l[k] ++ rws f (l.drop (k + 1)) := by
  rw [rws_drop hf l k (by omega), List.drop_eq_getElem_cons hk]; rfl
theorem rws_get (hf : ∀ x, (f x).length = sz) {l : List α} {k t : Nat} (hk : k < l.length) (ht : t < sz) : (rws f l)[k * sz + t]? = (f l[k])[t]? := by
  have : (rws f l)[k * sz + t]? = ((rws f l).drop (k * sz))[t]? := by rw [List.getElem?_drop]
  rw [this, rws_at hf hk, List.getElem?_append_left (by rw [hf]; exact ht)]
theorem rws_le (hf : ∀ x, (f x).length = sz) {l : List α} {k : Nat} (hk : k < l.length) : k * sz + sz ≤ (rws f l).length := by
  rw [rws_len hf]
  have := Nat.mul_le_mul_right sz (show k + 1 ≤ l.length from hk)
  rw [Nat.succ_mul] at this; exact this
theorem rws_ge (hf : ∀ x, (f x).length = sz) {l : List α} {k : Nat} (hk : k < l.length) : sz ≤ (rws f l).length - k * sz := by have := rws_le hf hk; omega
theorem rws_min (hf : ∀ x, (f x).length = sz) {l : List α} {k : Nat} (hk : k < l.length) : min sz ((rws f l).length - k * sz) = sz := by have := rws_ge hf hk; omega
theorem rws_set (hf : ∀ x, (f x).length = sz) {l : List α} {k : Nat} (hk : k < l.length) (x : α) : rws f (l.set k x) = (rws f l).take (k * sz) ++ (f x ++ (rws f l).drop (k * sz + sz)) := by
  have e : k * sz + sz = (k + 1) * sz := by rw [Nat.succ_mul]
  rw [e, rws_take hf l k (by omega), rws_drop hf l (k + 1) (by omega)]
  rw [show l.set k x = l.take k ++ x :: l.drop (k + 1) from by rw [List.set_eq_take_append_cons_drop, if_pos hk]]
  rw [rws_app]; rfl
theorem rws_under {n : Nat} (h : ∀ x, SV.underL n (f x) = true) (l : List α) : SV.underL n (rws f l) = true := by
  induction l with
  | nil => rfl
  | cons x r ih => rw [rws, SV.underL_append, h, ih]; rfl
theorem rws_cells (h : ∀ x, cellsOk (f x)) (l : List α) : cellsOk (rws f l) := by
  induction l with
  | nil => intro s hs; simp [rws] at hs
  | cons x r ih =>
    intro s hs
    rcases List.mem_append.1 hs with h1 | h1
    · exact h x s h1
    · exact ih s h1
end
theorem objCells_set {H : List AO} {j : Nat} (hj : j < H.length) (c : List SV) (T : TypeId) (v : Nat) : objCells (H.set j ⟨c, T, v, true⟩) j v = c := by
  unfold objCells; rw [List.getElem?_set_self hj]; simp
theorem objCells_ne {H : List AO} {i j : Nat} (h : i ≠ j) (o : AO) (v : Nat) : objCells (H.set i o) j v = objCells H j v := by
  unfold objCells; rw [List.getElem?_set_ne h]
theorem set_same {H : List AO} {j : Nat} {o : AO} (h : H[j]? = some o) : H.set j o = H := by
  apply List.ext_getElem?
  intro i
  rw [List.getElem?_set]; split
  · rename_i e; subst e; rw [if_pos (getElem?_lt h), h]
  · rfl
/-- What a value says is less than what another one says. -/
def SV.le (s s' : SV) : Prop := ∀ (S : St) (v : Value), VR S s v → VR S s' v
theorem SV.le.refl (s : SV) : s.le s := fun _ _ h => h
theorem le_nil : SV.le (.val (.slice none 0 0)) (.slc [] 0) := by
  intro S v h; cases h; exact .nilslc
def leL (l l' : List SV) : Prop := l.length = l'.length ∧ ∀ (j : Nat) (s s' : SV), l[j]? = some s → l'[j]? = some s' → s.le s'
theorem leL.nil : leL [] [] := ⟨rfl, fun j s s' h => by simp at h⟩
theorem leL.refl (l : List SV) : leL l l := ⟨rfl, fun j s s' h h' => by rw [h] at h'; cases h'; exact SV.le.refl s⟩
theorem leL.cons {s s' : SV} {l l' : List SV} (h : s.le s') (hl : leL l l') : leL (s :: l) (s' :: l') := by
  refine ⟨by simp [hl.1], fun j a b h1 h2 => ?_⟩
  cases j with
  | zero => simp at h1 h2; subst h1 h2; exact h
  | succ j => simp at h1 h2; exact hl.2 j a b h1 h2
theorem leL.app {a a' b b' : List SV} (h : leL a a') (h' : leL b b') : leL (a ++ b) (a' ++ b') := by
  induction a generalizing a' with
  | nil => cases a' with
    | nil => exact h'
    | cons x r => have := h.1; simp at this
  | cons x r ih => cases a' with
    | nil => have := h.1; simp at this
    | cons x' r' => exact leL.cons (h.2 0 x x' rfl rfl) (ih ⟨by have := h.1; simpa using this, fun j s s' h1 h2 => h.2 (j + 1) s s' (by simpa using h1) (by simpa using h2)⟩)
theorem leL.rws {α : Type} {f g : α → List SV} (h : ∀ x, leL (f x) (g x)) (l : List α) : leL (rws f l) (rws g l) := by
  induction l with
  | nil => exact leL.nil
  | cons x r ih => exact leL.app (h x) ih
theorem leL.vrs {S : St} {l l' : List SV} {us : List Value} (h : leL l l') (hv : VRs S l us) : VRs S l' us := by
  refine ⟨by rw [hv.1, h.1], fun j s u h1 h2 => ?_⟩
  have hj : j < l.length := by rw [h.1]; rcases Nat.lt_or_ge j l'.length with h3 | h3; exact h3; rw [List.getElem?_eq_none h3] at h1; cases h1
  exact h.2 j _ _ (List.getElem?_eq_getElem hj) h1 S u (hv.2 j _ u (List.getElem?_eq_getElem hj) h2)
theorem le_slc {l l' : List SV} (h : leL l l') (n : Nat) : SV.le (.slc l n) (.slc l' n) := by
  intro S v hv
  cases hv with
  | nilslc =>
    have : l' = [] := List.eq_nil_of_length_eq_zero (by rw [← h.1]; rfl)
    subst this; exact .nilslc
  | slc _ _ a cap us hc hl hi hh =>
    have := h.vrs ⟨hl, hh⟩
    exact .slc _ _ a cap us hc this.1 hi this.2
theorem le_agg {l l' : List SV} (h : leL l l') : SV.le (.agg l) (.agg l') := by
  intro S v hv
  cases hv with
  | agg _ us hl hh => have := h.vrs ⟨hl, hh⟩; exact .agg _ _ this.1 this.2
theorem Ok.le {P : Program} {f : FuncId} {args args' : List SV} {H H' : List AO} {out : Out} (hle : leL args args') (h : Ok P f args' H out H') : Ok P f args H out H' :=
  ⟨h.1, fun S vs hH hS hv => h.2 S vs hH hS (hle.vrs hv)⟩
theorem OkP.le {P : Program} {f : FuncId} {args args' : List SV} {H : List AO} {Pt : Out → List AO → Prop} (hle : leL args args') (h : OkP P f args' H Pt) : OkP P f args H Pt :=
  ⟨h.1, fun S vs hH hS hv => h.2 S vs hH hS (hle.vrs hv)⟩
@[simp] theorem objCells_next2 (o : AO) (r : List AO) (a b k ver : Nat) : objCells (o :: r) (a + (b + (k + 1))) ver = objCells r (a + (b + k)) ver := objCells_next o r (a + (b + k)) ver
@[simp] theorem setObj_next2 (o : AO) (r : List AO) (a b k : Nat) (f : AO → AO) : setObj (o :: r) (a + (b + (k + 1))) f = o :: setObj r (a + (b + k)) f := setObj_next o r (a + (b + k)) f
@[simp] theorem objCells_next3 (o : AO) (r : List AO) (a b c k ver : Nat) : objCells (o :: r) (a + (b + (c + (k + 1)))) ver = objCells r (a + (b + (c + k))) ver := objCells_next o r (a + (b + (c + k))) ver
theorem LI.cong {P : Program} {N : Nat} {D : Array Oper → List Nat → List Ins → Bool} {i : IC} {env : Env} {H H' : List AO} {K : XE → Env → List AO → Prop} (e : H' = H) (h : LI P N D i env H' K) : LI P N D i env H K := by rw [← e]; exact h
/-- No cell of these objects names an object from n on. -/
def Cl (n : Nat) (l : List AO) : Prop := ∀ o ∈ l, ∀ s ∈ o.cells, s.under n = true
theorem Cl.nil (n : Nat) : Cl n [] := fun o h => by simp at h
theorem Cl.cons {n : Nat} {o : AO} {l : List AO} (h : SV.underL n o.cells = true) (hl : Cl n l) : Cl n (o :: l) := by
  intro p hp
  rcases List.mem_cons.1 hp with rfl | hp
  · exact (SV.underL_iff _ _).1 h
  · exact hl p hp
theorem Cl.app {n : Nat} {a b : List AO} (h : Cl n a) (h' : Cl n b) : Cl n (a ++ b) := by
  intro p hp
  rcases List.mem_append.1 hp with hp | hp
  · exact h p hp
  · exact h' p hp
theorem Cl.mono {n m : Nat} {l : List AO} (h : Cl n l) (hm : n ≤ m) : Cl m l := fun o ho s hs => SV.under_mono hm s (h o ho s hs)
theorem closed_iff {H : List AO} : closed H ↔ Cl H.length H := by
  refine ⟨fun h o ho s hs => ?_, fun h i o ho s hs => h o (List.mem_of_getElem? ho) s hs⟩
  obtain ⟨i, hi⟩ := List.getElem?_of_mem ho
  exact h i o hi s hs
theorem Cl.left {n : Nat} {a b : List AO} (h : Cl n (a ++ b)) : Cl n a := fun o ho => h o (List.mem_append_left _ ho)
theorem Cl.right {n : Nat} {a b : List AO} (h : Cl n (a ++ b)) : Cl n b := fun o ho => h o (List.mem_append_right _ ho)
theorem Cl.tail {n : Nat} {o : AO} {a : List AO} (h : Cl n (o :: a)) : Cl n a := fun p hp => h p (List.mem_cons_of_mem _ hp)
theorem AO.gv_cl {k ver d n : Nat} {cs : List SV} (hn : n ≤ k) {l : List AO} (h : Cl n l) : l.map (AO.gv k ver cs d) = l := by
  have : l.map (AO.gv k ver cs d) = l.map id := List.map_congr_left fun o ho => by
    show AO.mk _ _ _ _ = o
    have : o.cells.map (SV.gv k ver cs d) = o.cells.map id := List.map_congr_left fun s hs => gv_under hn d s (h o ho s hs)
    rw [this, List.map_id]
  rw [this, List.map_id]
theorem LI.closed {P : Program} {N : Nat} {D : Array Oper → List Nat → List Ins → Bool} {i : IC} {env : Env} {H : List AO} {K : XE → Env → List AO → Prop} (h : Go.Ab.closed H → LI P N D i env H K) : LI P N D i env H K :=
  fun c hc db S a hH hS he hN hd => h (by rw [← hH]; exact hS.closed) c hc db S a hH hS he hN hd
theorem OkP.cast {P : Program} {f : FuncId} {args args' : List SV} {H H' : List AO} {Pt : Out → List AO → Prop} (ha : args = args') (hH : H = H') (h : OkP P f args' H' Pt) : OkP P f args H Pt := by subst ha hH; exact h
theorem Ok.cast {P : Program} {f : FuncId} {args args' : List SV} {H H' H1 H1' : List AO} {o o' : Out} (ha : args = args') (hH : H = H') (ho : o = o') (h1 : H1 = H1') (h : Ok P f args' H' o' H1') : Ok P f args H o H1 := by subst ha hH ho h1; exact h
theorem set_app {α : Type} (a b : List α) (k : Nat) (x : α) : (a ++ b).set (a.length + k) x = a ++ b.set k x := by rw [List.set_append_right _ _ (by omega)]; simp
theorem set_app0 {α : Type} (a b : List α) (x : α) : (a ++ b).set a.length x = a ++ b.set 0 x := set_app a b 0 x
theorem get_app {α : Type} (a b : List α) (k : Nat) : (a ++ b)[a.length + k]? = b[k]? := by rw [List.getElem?_append_right (by omega)]; simp
theorem get_app0 {α : Type} (a b : List α) : (a ++ b)[a.length]? = b[0]? := get_app a b 0
theorem set_c2 {α : Type} (o x : α) (r : List α) (a b k : Nat) : (o :: r).set (a + (b + (k + 1))) x = o :: r.set (a + (b + k)) x := rfl
theorem get_c2 {α : Type} (o : α) (r : List α) (a b k : Nat) : (o :: r)[a + (b + (k + 1))]? = r[a + (b + k)]? := rfl
/-- An empty row more. -/
theorem Tell.nil {env : Env} {H : List AO} (T : TypeId) : Tell env H env (H ++ [⟨[], T, 0, true⟩]) := by
  intro S tmps hH hS he
  subst hH
  exact ⟨_, ext_newNil S T, sim_newNil hS T, he.ext (ext_newNil S T)⟩
theorem Cv.trans {n0 : Nat} {r1 r2 r3 : SV} {H1 H2 H3 : List AO} (h : Cv n0 r1 H1 r2 H2) (h' : Cv n0 r2 H2 r3 H3) : Cv n0 r1 H1 r3 H3 := by
  intro S v hS hsim hv
  obtain ⟨ρ, h1, h2, h3⟩ := h S v hS hsim hv
  obtain ⟨ρ', h4, h5, h6⟩ := h' ⟨ρ, H2, S.w⟩ v rfl h2 h3
  exact ⟨ρ', h1.trans h4, h5, h6⟩
theorem Cv.le {n0 : Nat} {r1 r r' : SV} {H1 H' : List AO} (h : Cv n0 r1 H1 r H') (hle : r.le r') : Cv n0 r1 H1 r' H' := by
  intro S v hS hsim hv
  obtain ⟨ρ, h1, h2, h3⟩ := h S v hS hsim hv
  exact ⟨ρ, h1, h2, hle _ _ h3⟩
theorem cv_trunc {n0 : Nat} {r : SV} {H : List AO} {j : Nat} {o : AO} (hn : n0 ≤ H.length) (ho : H[j]? = some o) (hl : o.live = true) (k : Nat) : Cv n0 r H r (H.set j ⟨o.cells.take k, o.ty, o.ver, true⟩) := by
  intro S v hS hsim hv
  subst hS
  have h3 := ext_retell ho hl (o.cells.take k)
  exact ⟨_, h3.mono hn, sim_retell hsim ho hl (fun s hs => (hsim.bel j o ho s (List.mem_of_mem_take hs)).2 hl) (fun us hus => ⟨k, hus.take k⟩), hv.ext h3⟩
theorem Refz.one {H0 L : List AO} {ks : List Nat} {d j : Nat} {o : AO} (hu : ∀ (i : Nat) (o : AO), i ≠ j → H0[i]? = some o → ∀ s ∈ o.cells, s.under H0.length = true) (ho : H0[j]? = some o) (hl : o.live = true)
    (hc : cellsOk (o.cells.map (SV.fz H0.length ks L d))) : Refz H0 (H0.set j ⟨o.cells.map (SV.fz H0.length ks L d), o.ty, o.ver, true⟩) L ks d := by
  refine ⟨by simp, fun i o' h => ?_⟩
  by_cases e : i = j
  · subst e
    rw [List.getElem?_set_self (getElem?_lt ho)] at h; cases h
    exact .inr ⟨o, (o.cells.map (SV.fz H0.length ks L d)).length, ho, hl, by rw [List.take_length], hc⟩
  · rw [List.getElem?_set_ne (by omega)] at h
    exact .inl ⟨h, hu i o' e h⟩
end Go.Ab
/- AbZd -/
namespace Go.Ab

/-- x is a slice that holds these. -/
structure IsL {α : Type} (f : α → SV) (H : List AO) (x : SV) (l : List α) : Prop where
  vd : x.vd = true
  ug : x.ug = x
  sl : x.isSl = true
  cell : x.isCell = true
  sz : x.szIs 1 = true
  len : x.slen = l.length
  und : x.under H.length = true
  row : (x.row H).take l.length = l.map f
  flat : x.flat = [x]
namespace IsL
variable {α : Type} {f : α → SV} {H : List AO} {x : SV} {l : List α}
theorem app (h : IsL f H x l) (L : List AO) : IsL f (H ++ L) x l :=
  ⟨h.vd, h.ug, h.sl, h.cell, h.sz, h.len, SV.under_mono (by simp) x h.und, by rw [row_app L h.und]; exact h.row, h.flat⟩
theorem slc (H : List AO) (l : List α) (hu : SV.underL H.length (l.map f) = true) : IsL f H (.slc (l.map f) l.length) l :=
  ⟨rfl, rfl, rfl, rfl, rfl, rfl, by simpa [SV.under] using hu, by simp [SV.row, List.take_of_length_le], rfl⟩
theorem rowlen (h : IsL f H x l) : l.length ≤ (x.row H).length := by
  have := congrArg List.length h.row
  simp at this; omega
theorem ldlen (h : IsL f H x l) {k : Nat} (hk : k < l.length) : k < (x.row H).length := Nat.lt_of_lt_of_le hk h.rowlen
theorem ld? (h : IsL f H x l) {k : Nat} (hk : k < l.length) : (x.row H)[k]? = some (f l[k]) := by
  have h2 : ((x.row H).take l.length)[k]? = (l.map f)[k]? := by rw [h.row]
  rw [List.getElem?_take_of_lt hk] at h2
  rw [h2]; simp [hk]
theorem ld?A (h : IsL f H x l) (L : List AO) {k : Nat} (hk : k < l.length) : (x.row (H ++ L))[k]? = some (f l[k]) := (h.app L).ld? hk
theorem ok (h : IsL f H x l) {k : Nat} (hk : k < l.length) : ldok H (.ptr x k) 1 := by
  have := h.ldlen hk
  simp only [ldok, at_ptr, List.length_drop]; omega
theorem okA (h : IsL f H x l) (L : List AO) {k : Nat} (hk : k < l.length) : ldok (H ++ L) (.ptr x k) 1 := (h.app L).ok hk
theorem v (h : IsL f H x l) {k : Nat} (hk : k < l.length) : ldv H (.ptr x k) = f (l[k]'hk) := by
  have := h.ld? hk
  simp only [ldv, at_ptr]
  rw [List.headD_eq_head?_getD, List.head?_drop, this]; rfl
theorem vA (h : IsL f H x l) (L : List AO) {k : Nat} (hk : k < l.length) : ldv (H ++ L) (.ptr x k) = f (l[k]'hk) := (h.app L).v hk
theorem strip (h : IsL f H x l) : x.strip = x := by
  have h1 := h.sl
  cases x <;> first | rfl | simp [SV.isSl] at h1
theorem own0 (H : List AO) (L : List AO) (k ver : Nat) (l : List α) (m : List SV) (T : TypeId) (h : L[k]? = some ⟨l.map f ++ m, T, ver, true⟩) : IsL f (H ++ L) (.own (H.length + k) 0 l.length 1 ver) l := by
  refine ⟨rfl, rfl, rfl, rfl, rfl, rfl, ?_, ?_, rfl⟩
  · have : k < L.length := getElem?_lt h
    simp; omega
  · simp only [SV.row, objCells_new, List.drop_zero]
    unfold objCells
    rw [h]
    simp
theorem whole {H L : List AO} {T : TypeId} {l : List α} {k n ver : Nat} (h : L[k]? = some ⟨l.map f, T, ver, true⟩) (hn : n = l.length) : IsL f (H ++ L) (.own (H.length + k) 0 n 1 ver) l := by
  subst hn; exact own0 H L k ver l [] T (by simpa using h)
theorem at_ {H : List AO} {T : TypeId} {l : List α} {j n ver : Nat} (h : H[j]? = some ⟨l.map f, T, ver, true⟩) (hn : n = l.length) : IsL f H (.own j 0 n 1 ver) l := by
  subst hn
  have e := objCells_of h rfl
  refine ⟨rfl, rfl, rfl, rfl, rfl, rfl, ?_, ?_, rfl⟩
  · simpa [SV.under] using getElem?_lt h
  · simp only [SV.row, List.drop_zero, e]
    exact List.take_of_length_le (by simp)
/-- What it may be told as when it is frozen. -/
theorem els (h : IsL f H x l) : x.els H 1 = l.map f := by
  unfold SV.els; rw [h.len, Nat.mul_one, h.row]
end IsL
def u8 (n : Int) : SV := .val (.int .u8 n)
@[simp] theorem u8_eq (n : Int) : SV.val (.int .u8 n) = u8 n := rfl
section
variable (n : Int)
@[simp] theorem isI_u8 (k : IntKind) : SV.isI k (u8 n) = decide (IntKind.u8 = k) := rfl
@[simp] theorem isN_u8 : SV.isN (u8 n) = true := rfl
@[simp] theorem int_u8 : SV.int (u8 n) = n := rfl
@[simp] theorem ug_u8 : SV.ug (u8 n) = u8 n := rfl
@[simp] theorem vd_u8 : SV.vd (u8 n) = true := rfl
@[simp] theorem isCell_u8 : SV.isCell (u8 n) = true := rfl
@[simp] theorem flat_u8 : SV.flat (u8 n) = [u8 n] := rfl
@[simp] theorem isPt_u8 : SV.isPt (u8 n) = false := rfl
@[simp] theorem isAg_u8 : SV.isAg (u8 n) = false := rfl
@[simp] theorem isTu_u8 : SV.isTu (u8 n) = false := rfl
@[simp] theorem under_u8 (m : Nat) : SV.under m (u8 n) = true := rfl
@[simp] theorem partOk_u8 (m : Nat) : partOk m (u8 n) = (m = 1) := by
  show (m = 1 ∧ (u8 n).isCell = true ∧ true = true) = _
  simp
@[simp] theorem fz_u8 (m : Nat) (ks : List Nat) (L : List AO) (d : Nat) : SV.fz m ks L (d + 1) (u8 n) = u8 n := fz_under rfl
@[simp] theorem gv_u8 (k ver : Nat) (cs : List SV) (d : Nat) : SV.gv k ver cs d (u8 n) = u8 n := by cases d <;> rfl
@[simp] theorem strip_u8 : (u8 n).strip = u8 n := rfl
end
def byts (l : List Int) : List SV := l.map u8
@[simp] theorem cellsOk_byts (l : List Int) : cellsOk (byts l) = True := by
  simp only [cellsOk, byts, List.mem_map, eq_iff_iff, iff_true]; rintro s ⟨n, _, rfl⟩; rfl
@[simp] theorem byts_length (l : List Int) : (byts l).length = l.length := by simp [byts]
theorem byts_take (l : List Int) (n : Nat) : (byts l).take n = byts (l.take n) := by simp [byts]
theorem byts_drop (l : List Int) (n : Nat) : (byts l).drop n = byts (l.drop n) := by simp [byts]
theorem byts_append (a b : List Int) : byts a ++ byts b = byts (a ++ b) := by simp [byts]
theorem byts_snoc (a : List Int) (b : Int) : byts a ++ [u8 b] = byts (a ++ [b]) := by simp [byts]
@[simp] theorem take_byts (l : List Int) : (byts l).take l.length = byts l := by rw [byts_take, List.take_length]
@[simp] theorem underL_byts (n : Nat) (l : List Int) : SV.underL n (byts l) = true := by
  rw [SV.underL_iff]; simp only [byts, List.mem_map]; rintro s ⟨k, _, rfl⟩; rfl
@[simp] theorem fz_byts (n : Nat) (ks : List Nat) (L : List AO) (d : Nat) (l : List Int) : (byts l).map (SV.fz n ks L (d + 1)) = byts l := by
  simp only [byts, List.map_map]; apply List.map_congr_left; intro k _; exact fz_u8 k n ks L d
@[simp] theorem byts_G {l : List Int} {k : Nat} (h : k < (byts l).length) : (byts l)[k] = u8 (l[k]'(by simpa using h)) := by simp [byts]
@[simp] theorem take_byts_le {l : List Int} {n : Nat} (h : l.length ≤ n) : (byts l).take n = byts l := List.take_of_length_le (by simpa using h)
abbrev IsB := IsL u8
theorem IsB.slc (H : List AO) (l : List Int) : IsB H (.slc (byts l) l.length) l := IsL.slc H l (underL_byts _ l)

theorem OkP.tell {P : Program} {f : FuncId} {args : List SV} {H H' : List AO} {Pt : Out → List AO → Prop} (ht : Tell [] H [] H') (hl : H.length ≤ H'.length) (h : OkP P f args H' Pt) : OkP P f args H Pt := by
  refine ⟨h.1, ?_⟩
  intro S vs hH hS hvs
  obtain ⟨ρ', h1, h2, _⟩ := ht S #[] hH hS ⟨fun t => .any _⟩
  have h3 := h.2 ⟨ρ', H', S.w⟩ vs rfl h2 (hvs.ext h1)
  refine h3.mono ?_
  rintro en w' ⟨out, H2, v, ρ2, hp, hext, hsim, hout⟩
  exact ⟨out, H2, v, ρ2, hp, h1.trans (hext.mono (by subst hH; exact hl)), hsim, hout⟩
theorem yl_go {P : Program} {N : Nat} (hm : P.follows .mixedOrders = true) {i kk : Nat} {ps : List Nat} {ia ib ia' ib' : IC} {env : Env} {args : List SV} {H : List AO} {Pt : Out → List AO → Prop} (hia : ia = ia') (hib : ib = ib')
    (ho : H[i]? = some (lpo P N drawB kk ps ia ib (env.vals N) .ready)) (he : (env.all fun p => decide (p.1 < N)) = true) (hp : (ps.all fun p => decide (p < N)) = true) (hl : args.length = ps.length)
    (hx : closed H → X P N drawB ia' (env.puts ps args) H fun x env1 H1 => x = .normal ∧ ∃ cs, H1[i]? = some (lpo P N drawB kk ps ia ib cs .ready) ∧ X P N drawB ib' env1 (H1.set i (lpo P N drawB kk ps ia ib cs .busy)) (FinR P N kk ps ia ib i H.length Pt)) :
    YlP P i args H Pt := by
  subst hia hib
  exact yl_ok hm ho he hp hl hx
theorem cv_idq {n0 : Nat} {v : SV} {H1 H' : List AO} (h : H1 = H') : Cv n0 v H1 v H' := by subst h; exact cv_id
theorem le_tup {l l' : List SV} (h : leL l l') : SV.le (.tup l) (.tup l') := by
  intro S v hv
  cases hv with
  | tup _ us hl hh => have := h.vrs ⟨hl, hh⟩; exact .tup _ _ this.1 this.2

/-! A heap in which one object has been changed, and what stands behind it -/
@[simp] theorem objCells_nS (H L : List AO) (j : Nat) (o : AO) (k ver : Nat) : objCells (H.set j o ++ L) (H.length + k) ver = objCells L k ver := by
  have := objCells_new (H := H.set j o) (L := L) (k := k) (ver := ver); simpa using this
@[simp] theorem objCells_nS0 (H L : List AO) (j : Nat) (o : AO) (ver : Nat) : objCells (H.set j o ++ L) H.length ver = objCells L 0 ver := objCells_nS H L j o 0 ver
theorem setObj_app (A B : List AO) (k : Nat) (f : AO → AO) : setObj (A ++ B) (A.length + k) f = A ++ setObj B k f := by
  unfold setObj
  rw [get_app]
  cases h : B[k]? with
  | none => rfl
  | some o => simp only; rw [set_app]
@[simp] theorem setObj_nS (H L : List AO) (j : Nat) (o : AO) (k : Nat) (f : AO → AO) : setObj (H.set j o ++ L) (H.length + k) f = H.set j o ++ setObj L k f := by
  have := setObj_app (H.set j o) L k f; simpa using this
@[simp] theorem setObj_nS0 (H L : List AO) (j : Nat) (o : AO) (f : AO → AO) : setObj (H.set j o ++ L) H.length f = H.set j o ++ setObj L 0 f := setObj_nS H L j o 0 f
@[simp] theorem get_nS {α : Type} (H L : List α) (j : Nat) (o : α) (k : Nat) : (H.set j o ++ L)[H.length + k]? = L[k]? := by
  have := get_app (H.set j o) L k; simpa using this
@[simp] theorem get_nS0 {α : Type} (H L : List α) (j : Nat) (o : α) : (H.set j o ++ L)[H.length]? = L[0]? := get_nS H L j o 0
@[simp] theorem set_nS {α : Type} (H L : List α) (j : Nat) (o : α) (k : Nat) (x : α) : (H.set j o ++ L).set (H.length + k) x = H.set j o ++ L.set k x := by
  have := set_app (H.set j o) L k x; simpa using this
@[simp] theorem set_nS0 {α : Type} (H L : List α) (j : Nat) (o x : α) : (H.set j o ++ L).set H.length x = H.set j o ++ L.set 0 x := set_nS H L j o 0 x
theorem objCells_hS {H : List AO} {j : Nat} (hj : j < H.length) (L : List AO) (c : List SV) (T : TypeId) (v : Nat) : objCells (H.set j ⟨c, T, v, true⟩ ++ L) j v = c := by
  rw [objCells_app L (by simpa using hj)]; exact objCells_set hj c T v
theorem get_hS {H : List AO} {j : Nat} (hj : j < H.length) (L : List AO) (o : AO) : (H.set j o ++ L)[j]? = some o := by
  rw [List.getElem?_append_left (by simpa using hj), List.getElem?_set_self hj]
theorem setObj_hS {H : List AO} {j : Nat} (hj : j < H.length) (L : List AO) (o : AO) (f : AO → AO) : setObj (H.set j o ++ L) j f = H.set j (f o) ++ L := by
  unfold setObj
  rw [get_hS hj]
  simp only
  rw [List.set_append_left _ _ (by simpa using hj), List.set_set]
@[simp] theorem objIs_nS (H L : List AO) (j : Nat) (o : AO) (k ver : Nat) (T : TypeId) (m : Nat) : objIs (H.set j o ++ L) (H.length + k) ver T m = objIs L k ver T m := by
  unfold objIs; rw [get_nS]
theorem objIs_hS {H : List AO} {j : Nat} (hj : j < H.length) (L : List AO) (c : List SV) (T : TypeId) (v : Nat) (T' : TypeId) (v' m : Nat) : objIs (H.set j ⟨c, T, v, true⟩ ++ L) j v' T' m = (v = v' ∧ T = T' ∧ c.length = m) := by
  unfold objIs; rw [get_hS hj]; simp
theorem closed_set {H : List AO} (hcl : closed H) (j : Nat) {o : AO} (hu : SV.underL H.length o.cells = true) : closed (H.set j o) := by
  intro i p hp s hs
  rw [List.length_set]
  by_cases e : j = i
  · subst e
    have hj := getElem?_lt hp
    rw [List.getElem?_set_self (by simpa using hj)] at hp
    cases hp
    exact (SV.underL_iff _ _).1 hu s hs
  · rw [List.getElem?_set_ne e] at hp
    exact hcl i p hp s hs
/-- A nil slice handed over, told as an empty row of one's own. -/
theorem Ok.nilArg {P : Program} {f : FuncId} {args : List SV} {H H' : List AO} {out : Out} (T : TypeId) (sz : Nat) (h : Ok P f (.own H.length 0 0 sz 0 :: args) (H ++ [⟨[], T, 0, true⟩]) out H') : Ok P f (.val (.slice none 0 0) :: args) H out H' := by
  refine ⟨h.1, ?_⟩
  intro S vs hH hS hvs
  subst hH
  have h1 := ext_newNil S T
  have h2 := sim_newNil hS T
  have hn : (S.newNil T).H[S.H.length]? = some ⟨[], T, 0, true⟩ := by show (S.H ++ _)[S.H.length]? = _; simp
  have hval : VR (S.newNil T) (.own S.H.length 0 0 sz 0) (.slice none 0 0) := by
    refine .own _ _ _ _ _ none 0 _ hn (Nat.le_refl _) (Nat.le_refl _) (fun _ => rfl) fun _ => ?_
    unfold St.OwnAt
    have : (S.newNil T).ρ S.H.length = none := upd_same _ _ _
    rw [this]; exact ⟨rfl, rfl⟩
  have hlen : S.H.length ≤ (S.newNil T).H.length := h1.len (Nat.le_refl _)
  cases vs with
  | nil => have := hvs.1; simp at this
  | cons v vs =>
    have hv0 : v = .slice none 0 0 := by
      have := hvs.2 0 _ _ rfl rfl
      cases this; rfl
    subst hv0
    have hr : VRs S args vs := ⟨by have := hvs.1; simpa using this, fun j s u h1 h2 => hvs.2 (j + 1) s u (by simpa using h1) (by simpa using h2)⟩
    refine (h.2 (S.newNil T) _ rfl h2 (VRs.cons hval (hr.ext h1))).mono ?_
    rintro e w' ⟨v, ρ', g1, g2, g3⟩
    exact ⟨v, ρ', h1.trans (g1.mono hlen), g2, g3⟩
theorem Ok.closed {P : Program} {f : FuncId} {args a2 : List SV} {H H' H2 H3 : List AO} {out o2 : Out} (h1 : Ok P f a2 H2 o2 H3) (h : Go.Ab.closed H → Ok P f args H out H') : Ok P f args H out H' :=
  ⟨h1.1, fun S vs hH hS hv => (h (by rw [← hH]; exact hS.closed)).2 S vs hH hS hv⟩
/-- What comes back, told otherwise. -/
theorem Ok.cv {P : Program} {f : FuncId} {args : List SV} {H H1 H' : List AO} {r r' : SV} (h : Ok P f args H (.ret r) H1) (hc : Cv H.length r H1 r' H') : Ok P f args H (.ret r') H' := by
  refine ⟨h.1, fun S vs hH hS hv => (h.2 S vs hH hS hv).mono ?_⟩
  rintro e w' ⟨v, ρ', h1, h2, h3, h4⟩
  obtain ⟨ρ2, g1, g2, g3⟩ := hc ⟨ρ', H1, w'⟩ v rfl h2 h4
  subst hH
  exact ⟨v, ρ2, h1.trans g1, g2, h3, g3⟩
/-- Bytes. -/
def Oct (l : List Int) : Prop := ∀ c ∈ l, 0 ≤ c ∧ c < 256
/-- A slice of bytes that came in. -/
theorem has_byts {d : Dt} (h : (Sh.sl (.int .u8)).has d) : ∃ l : List Int, d.cells = [.slc (byts l) l.length] ∧ d.sv = .slc (byts l) l.length ∧ l.length ≤ maxLen ∧ Oct l := by
  simp only [Sh.has] at h
  obtain ⟨l, rfl, hl, hx⟩ := h
  have : ∃ ns : List Int, l = ns.map (Dt.int .u8) ∧ ∀ n ∈ ns, (Lit.int .u8 n).wf = true := by
    clear hl
    induction l with
    | nil => exact ⟨[], rfl, by simp⟩
    | cons x r ih =>
      obtain ⟨ns, rfl, h2⟩ := ih fun y hy => hx y (by simp [hy])
      obtain ⟨n, rfl, hn⟩ := hx x (by simp)
      exact ⟨n :: ns, rfl, by simpa using ⟨hn, h2⟩⟩
  obtain ⟨ns, rfl, h2⟩ := this
  have hc : ∀ ns : List Int, Dt.cellsL (ns.map (Dt.int .u8)) = byts ns := by
    intro ns
    induction ns with
    | nil => rfl
    | cons n r ih => simp only [List.map_cons, Dt.cellsL, ih, Dt.cells]; rfl
  refine ⟨ns, ?_, ?_, by simpa using hl, fun c hc => ?_⟩
  · simp only [Dt.cells, hc, List.length_map]
  · simp only [Dt.sv, Dt.cells, hc, List.length_map]; rfl
  · have := h2 c hc
    revert this
    simp [Lit.wf, IntKind.min, IntKind.max, IntKind.signed, IntKind.bits]
    omega
end Go.Ab
