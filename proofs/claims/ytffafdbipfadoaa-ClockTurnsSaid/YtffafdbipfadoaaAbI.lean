/-
  The order of such a region is idle: proved over the model's own draw.
-/
import Derived.Test.YtffafdbipfadoaaAbH
set_option linter.all false
namespace Go.Ab

def putAll : Env → List Ins → List SV → Env
  | e, o :: r, v :: vs => putAll (e.put o.d v) r vs
  | e, _, _ => e

theorem put_get_ne {e : Env} {d : Option Nat} {v : SV} {t : Nat} (h : d ≠ some t) : (e.put d v).get t = e.get t := by
  cases d with
  | none => rfl
  | some d => simp only [Env.put, Env.get]; rw [if_neg (fun e => h (by rw [e]))]
theorem put_get_eq {e : Env} {v : SV} {t : Nat} : (e.put (some t) v).get t = v := by simp [Env.put, Env.get]

theorem putAll_not : ∀ (os : List Ins) (vs : List SV) (e : Env) (t : Nat), (∀ o ∈ os, o.d ≠ some t) → (putAll e os vs).get t = e.get t
  | [], vs, e, t, _ => rfl
  | o :: r, [], e, t, _ => rfl
  | o :: r, v :: vs, e, t, h => by
    rw [putAll, putAll_not r vs _ t (fun o' ho' => h o' (by simp [ho'])), put_get_ne (h o (by simp))]
theorem putAll_one : ∀ (os : List Ins) (vs : List SV) (e : Env) (t i : Nat) (o : Ins) (v : SV), os[i]? = some o → vs[i]? = some v → o.d = some t → (∀ j p, i < j → os[j]? = some p → p.d ≠ some t) →
    (putAll e os vs).get t = v
  | [], vs, e, t, i, o, v, h, _, _, _ => by simp at h
  | o' :: r, [], e, t, i, o, v, _, h, _, _ => by simp at h
  | o' :: r, v' :: vs, e, t, 0, o, v, h1, h2, h3, h4 => by
    simp at h1 h2; subst h1 h2
    rw [putAll, putAll_not r vs _ t, h3, put_get_eq]
    intro p hp
    obtain ⟨j, hj⟩ := List.getElem?_of_mem hp
    exact h4 (j + 1) p (by omega) (by simpa using hj)
  | o' :: r, v' :: vs, e, t, i + 1, o, v, h1, h2, h3, h4 => by
    rw [putAll]
    exact putAll_one r vs _ t i o v (by simpa using h1) (by simpa using h2) h3 fun j p hj hp => h4 (j + 1) p (by omega) (by simpa using hp)

theorem EnvR.congr {S : St} {e e' : Env} {tmps : Array Value} (h : EnvR S e tmps) (hk : ∀ t, e'.get t = .any ∨ e'.get t = e.get t) : EnvR S e' tmps := by
  refine ⟨fun t => ?_⟩
  rcases hk t with h1 | h1 <;> rw [h1]
  · exact .any _
  · exact h.get t

theorem filter_lt {α : Type} {p q : α → Bool} : ∀ (l : List α), (∀ x ∈ l, q x = true → p x = true) → ∀ i ∈ l, p i = true → q i = false → (l.filter q).length < (l.filter p).length
  | [], _, i, hi, _, _ => by simp at hi
  | x :: r, h, i, hi, hp, hq => by
    have hle : ∀ (l : List α), (∀ x ∈ l, q x = true → p x = true) → (l.filter q).length ≤ (l.filter p).length := by
      intro l
      induction l with
      | nil => intro _; simp
      | cons y s ih =>
        intro hh
        have := ih (fun z hz => hh z (by simp [hz]))
        simp only [List.filter_cons]
        by_cases hqy : q y = true
        · rw [if_pos hqy, if_pos (hh y (by simp) hqy)]; simp; omega
        · rw [if_neg hqy]; split <;> simp <;> omega
    simp only [List.mem_cons] at hi
    simp only [List.filter_cons]
    rcases hi with rfl | hi
    · rw [if_pos hp, if_neg (by simp [hq])]
      have := hle r (fun z hz => h z (by simp [hz]))
      simp; omega
    · have ih := filter_lt r (fun z hz => h z (by simp [hz])) i hi hp hq
      by_cases hqx : q x = true
      · rw [if_pos hqx, if_pos (h x (by simp) hqx)]; simp; omega
      · rw [if_neg hqx]; split <;> simp <;> omega

abbrev CI := Nat × Ins

/-- What the check says, taken apart. -/
structure DC (ops : Array Oper) (C : List CI) : Prop where
  cov : ∀ i, i < ops.size → ∃ x ∈ C, x.1 = i
  edge : ∀ i o, ops[i]? = some o → ∀ e ∈ o.after.toList, Region.binds .any e = true → e.on < i
  uniq : ∀ x ∈ C, ∀ y ∈ C, x.1 ≠ y.1 → ∀ d, x.2.d = some d → y.2.d ≠ some d
  dep : ∀ x ∈ C, ∀ y ∈ C, ∀ d, x.2.d = some d → d ∈ y.2.slots → beforeB (masks ops.toList []) x.1 y.1 = true
  self : ∀ x ∈ C, ∀ d, x.2.d = some d → d ∉ x.2.slots
  pw : C.Pairwise fun x y => (∀ d, y.2.d = some d → d ∉ x.2.slots) ∧ (x.2.j.quiet = false → beforeB (masks ops.toList []) x.1 y.1 = true) ∧ x.1 ≠ y.1

theorem zip_fst {ns : List Nat} {l : List Ins} (h : ns.length = l.length) {i : Nat} (hi : i ∈ ns) : ∃ x ∈ ns.zip l, x.1 = i := by
  obtain ⟨k, hk⟩ := List.getElem?_of_mem hi
  have hlt : k < l.length := by rw [← h]; exact getElem?_lt hk
  exact ⟨(i, l[k]), List.mem_of_getElem? (i := k) (by rw [List.getElem?_zip_eq_some]; exact ⟨hk, List.getElem?_eq_getElem hlt⟩), rfl⟩

theorem dc_of {ops : Array Oper} {ns : List Nat} {l : List Ins} (h : drawB ops ns l = true) : DC ops (ns.zip l) := by
  unfold drawB at h
  simp only [Bool.and_eq_true, beq_iff_eq, List.all_eq_true, List.mem_range, Bool.or_eq_true, Bool.not_eq_true', decide_eq_true_eq, List.contains_eq_mem] at h
  obtain ⟨⟨⟨⟨h1, h2⟩, h3⟩, h4⟩, h5⟩ := h
  generalize hC : ns.zip l = C at h5 ⊢
  have hp : ∀ (a b : Nat) (x y : CI), C[a]? = some x → C[b]? = some y →
      (∀ d, x.2.d = some d → (a = b ∨ y.2.d ≠ some d) ∧ (d ∈ y.2.slots → beforeB (masks ops.toList []) x.1 y.1 = true ∧ a < b)) ∧
      ((x.2.j.quiet = true ∨ b ≤ a) ∨ beforeB (masks ops.toList []) x.1 y.1 = true) ∧ (a = b ∨ x.1 ≠ y.1) := by
    intro a b x y hx hy
    have hxm : (x, a) ∈ C.zipIdx := List.mem_of_getElem? (i := a) (by rw [List.getElem?_zipIdx]; simp [hx])
    have hym : (y, b) ∈ C.zipIdx := List.mem_of_getElem? (i := b) (by rw [List.getElem?_zipIdx]; simp [hy])
    have h6 := h5 (x, a) hxm (y, b) hym
    simp only [bne_iff_ne, ne_eq] at h6
    obtain ⟨⟨h6, h7⟩, h8⟩ := h6
    refine ⟨fun d hd => ?_, h7, h8⟩
    rw [hd] at h6
    simp only [Bool.and_eq_true, Bool.or_eq_true, beq_iff_eq, bne_iff_ne, ne_eq, Bool.not_eq_true', decide_eq_true_eq, List.contains_eq_mem, decide_eq_false_iff_not] at h6
    refine ⟨h6.1, fun hm => ?_⟩
    rcases h6.2 with h9 | h9
    · exact absurd hm h9
    · exact h9
  refine ⟨fun i hi => ?_, ?_, ?_, ?_, ?_, ?_⟩
  · rw [← hC]; exact zip_fst h2 (h3 i (by omega))
  · intro i o ho e he hb
    have hi : i < ops.size := (Array.getElem?_eq_some_iff.1 ho).1
    rcases h4 i (by omega) e (by rw [Array.getD_eq_getD_getElem?, ho]; simpa using he) with h6 | h6
    · rw [hb] at h6; cases h6
    · exact h6
  · intro x hx y hy hne d hd hd'
    obtain ⟨a, ha⟩ := List.getElem?_of_mem hx
    obtain ⟨b, hb⟩ := List.getElem?_of_mem hy
    rcases ((hp a b x y ha hb).1 d hd).1 with h6 | h6
    · subst h6; rw [ha] at hb; cases hb; exact hne rfl
    · exact h6 hd'
  · intro x hx y hy d hd hs
    obtain ⟨a, ha⟩ := List.getElem?_of_mem hx
    obtain ⟨b, hb⟩ := List.getElem?_of_mem hy
    exact (((hp a b x y ha hb).1 d hd).2 hs).1
  · intro x hx d hd hs
    obtain ⟨a, ha⟩ := List.getElem?_of_mem hx
    have := (((hp a a x x ha ha).1 d hd).2 hs).2; omega
  · rw [List.pairwise_iff_getElem]
    intro a b ha hb hab
    have h6 := hp a b C[a] C[b] (List.getElem?_eq_getElem ha) (List.getElem?_eq_getElem hb)
    have h7 := hp b a C[b] C[a] (List.getElem?_eq_getElem hb) (List.getElem?_eq_getElem ha)
    refine ⟨fun d hd hs => ?_, fun hq => ?_, ?_⟩
    · have := ((h7.1 d hd).2 hs).2; omega
    · rcases h6.2.1 with (h8 | h8) | h8
      · rw [hq] at h8; cases h8
      · omega
      · exact h8
    · rcases h6.2.2 with h8 | h8
      · omega
      · exact h8

/-! The state of such a region: what is to come, and what may have run already -/
abbrev QI := Nat × Ins × SV
def unl (listed : Array Bool) (q : QI) : Bool := !listed.getD q.1 false
def maskE (Qs : List QI) (e : Env) : Env := (Qs.filterMap fun q => q.2.1.d.map fun d => (d, SV.any)) ++ e

theorem mask_any {e : Env} {t : Nat} : ∀ {Qs : List QI}, (∃ q ∈ Qs, q.2.1.d = some t) → (maskE Qs e).get t = .any
  | [], h => by obtain ⟨q, hq, _⟩ := h; simp at hq
  | q :: r, h => by
    simp only [maskE, List.filterMap_cons]
    cases hd : q.2.1.d with
    | none =>
      simp only [Option.map_none]
      refine mask_any ?_
      obtain ⟨q', hq', ht⟩ := h
      simp only [List.mem_cons] at hq'
      rcases hq' with rfl | hq'
      · rw [hd] at ht; cases ht
      · exact ⟨q', hq', ht⟩
    | some d =>
      simp only [Option.map_some, List.cons_append, Env.get]
      by_cases h2 : d = t
      · rw [if_pos h2]
      · rw [if_neg h2]
        refine mask_any ?_
        obtain ⟨q', hq', ht⟩ := h
        simp only [List.mem_cons] at hq'
        rcases hq' with rfl | hq'
        · rw [hd] at ht; cases ht; exact absurd rfl h2
        · exact ⟨q', hq', ht⟩
theorem mask_get {e : Env} {t : Nat} : ∀ {Qs : List QI}, (∀ q ∈ Qs, q.2.1.d ≠ some t) → (maskE Qs e).get t = e.get t
  | [], _ => rfl
  | q :: r, h => by
    simp only [maskE, List.filterMap_cons]
    cases hd : q.2.1.d with
    | none => simp only [Option.map_none]; exact mask_get fun q' hq' => h q' (by simp [hq'])
    | some d =>
      simp only [Option.map_some, List.cons_append, Env.get]
      rw [if_neg (fun e => h q (by simp) (by rw [hd, e]))]
      exact mask_get fun q' hq' => h q' (by simp [hq'])

section
variable {P : Program}

theorem xo_congr {o : Ins} {env env' : Env} {H : List AO} {K : XE → Env → List AO → Prop} (hq : o.j.quiet = false) (hs : ∀ t ∈ o.slots, env'.get t = env.get t) (h : xo P o env H K) :
    xo P o env' H fun x e2 H' => match x with
      | .normal => ∃ v, e2 = env'.put o.d v ∧ K .normal (env.put o.d v) H'
      | x => K x env H' := by
  cases hoj : o.j with
  | p i => rw [hoj] at hq; simp [J.quiet] at hq
  | q f args => rw [hoj] at hq; simp [J.quiet] at hq
  | e i =>
    have hods : ∀ x ∈ i.ods, env.ev x = env'.ev x := by
      intro x hx
      refine (ev_congr fun t ht => hs t ?_).symm
      simp only [Ins.slots, hoj, J.slots, List.mem_append, List.mem_flatMap]
      exact .inr ⟨x, hx, ht⟩
    have hj : xj P o env H K → xj P o env' H fun x e2 H' => match x with
      | .normal => ∃ v, e2 = env'.put o.d v ∧ K .normal (env.put o.d v) H'
      | x => K x env H' := by
      intro hx
      by_cases hc : i.isCall = true
      · cases i <;> simp [E.isCall] at hc
        rename_i f args
        simp only [E.ods, List.mem_cons, forall_eq_or_imp] at hods
        have h1 : args.map env.ev = args.map env'.ev := List.map_congr_left hods.2
        unfold xj at hx ⊢
        rw [hoj] at hx ⊢
        simp only at hx ⊢
        obtain ⟨out, H', h2, h3⟩ := hx
        refine ⟨out, H', by rw [← hods.1, ← h1]; exact h2, ?_⟩
        cases out with
        | ret r => exact ⟨r, rfl, h3⟩
        | pan x => exact h3
      · have hc' : i.isCall = false := by simpa using hc
        unfold xj at hx ⊢
        rw [hoj] at hx ⊢
        have h1 : xe i env.ev H fun v H' => K .normal (env.put o.d v) H' := by
          cases i <;> first | exact hx | simp [E.isCall] at hc'
        have h2 := xe_congr (K' := fun v H' => ∃ v', env'.put o.d v = env'.put o.d v' ∧ K .normal (env.put o.d v') H') hods (fun v H' hk => ⟨v, rfl, hk⟩) h1
        cases i <;> first | exact h2 | simp [E.isCall] at hc'
    unfold xo at h ⊢
    cases hog : o.g with
    | none => rw [hog] at h; exact hj h
    | some sw =>
      obtain ⟨s, want⟩ := sw
      rw [hog] at h
      have hgs : env'.get s = env.get s := hs s (by simp [Ins.slots, hog])
      rw [hoj] at h ⊢
      simp only at h ⊢
      rw [hgs]
      exact ⟨h.1, fun hon => hj (h.2.1 hon), fun hoff => ⟨_, rfl, h.2.2 hoff⟩⟩

theorem pv_H {i : I} (h : J.dep (.p i) = false) (g : Od → SV) (H H' : List AO) : pv i g H = pv i g H' := by
  cases i <;> first | rfl | (simp [J.dep] at h)
theorem quietV_H {o : Ins} {env : Env} {H H' : List AO} {v : SV} (hd : o.j.dep = false) (h : quietV P o env H v) : quietV P o env H' v := by
  unfold quietV at *
  cases hoj : o.j with
  | p i =>
    rw [hoj] at h hd
    simp only [pv_H hd env.ev H H'] at h
    exact h
  | q f args => rw [hoj] at hd; simp [J.dep] at hd
  | e i => rw [hoj] at h; exact h

/-- The quiet operations at a list's head. -/
theorem xd_split {H : List AO} {K : XE → Env → List AO → Prop} : ∀ (rest : List CI) (pend : List (Ins × SV)) (env : Env), xd P pend (rest.map (·.2)) env H K →
    ∃ (F : List QI) (rest' : List CI) (pend' : List (Ins × SV)), rest = (F.map fun q => (q.1, q.2.1)) ++ rest' ∧ (rest' = [] ∨ ∃ c r, rest' = c :: r ∧ c.2.j.quiet = false) ∧
      (∀ q ∈ F, q.2.1.j.quiet = true) ∧ (∀ p ∈ pend, p ∈ pend') ∧ (∀ q ∈ F, (q.2.1, q.2.2) ∈ pend') ∧ (∀ p ∈ pend', p ∈ pend ∨ ∃ q ∈ F, p.1 = q.2.1) ∧
      (∀ (k : Nat) (q : QI), F[k]? = some q → quietV P q.2.1 (putAll env ((F.take k).map (·.2.1)) ((F.take k).map (·.2.2))) H q.2.2) ∧
      xd P pend' (rest'.map (·.2)) (putAll env (F.map (·.2.1)) (F.map (·.2.2))) H K
  | [], pend, env, h => ⟨[], [], pend, rfl, .inl rfl, fun q hq => by simp at hq, fun p hp => hp, fun q hq => by simp at hq, fun p hp => .inl hp, fun k q hk => by simp at hk, h⟩
  | c :: r, pend, env, h => by
    by_cases hq : c.2.j.quiet = true
    · have key : ∃ v, quietV P c.2 env H v ∧ xd P ((c.2, v) :: pend) (r.map (·.2)) (env.put c.2.d v) H K := by
        simp only [List.map_cons, xd] at h
        rw [if_pos hq] at h
        unfold quietV
        cases hog : c.2.g with
        | none =>
          rw [hog] at h
          cases hoj : c.2.j with
          | p i =>
            rw [hoj] at h
            simp only at h ⊢
            exact ⟨_, ⟨h.1, rfl⟩, h.2⟩
          | q f args =>
            rw [hoj] at h
            simp only at h ⊢
            obtain ⟨v, h1, h2⟩ := h
            exact ⟨v, h1, h2⟩
          | e i => rw [hoj] at hq; simp [J.quiet] at hq
        | some sw =>
          obtain ⟨s, want⟩ := sw
          rw [hog] at h
          cases hoj : c.2.j with
          | p i =>
            rw [hoj] at h
            simp only at h ⊢
            exact ⟨_, ⟨h.1, h.2.1, rfl⟩, h.2.2⟩
          | q f args =>
            rw [hoj] at h
            simp only at h ⊢
            obtain ⟨h0, v, h1, h2⟩ := h
            exact ⟨_, ⟨h0, v, h1, rfl⟩, h2⟩
          | e i => rw [hoj] at hq; simp [J.quiet] at hq
      obtain ⟨v, h1, h4⟩ := key
      obtain ⟨F, rest', pend', g1, g2, g3, g4, g5, g8, g6, g7⟩ := xd_split r _ _ h4
      refine ⟨(c.1, c.2, v) :: F, rest', pend', by simp [g1], g2, ?_, fun p hp => g4 p (by simp [hp]), ?_, ?_, ?_, by simpa [putAll] using g7⟩
      · intro q hqm
        simp only [List.mem_cons] at hqm
        rcases hqm with rfl | hqm
        · exact hq
        · exact g3 q hqm
      · intro q hqm
        simp only [List.mem_cons] at hqm
        rcases hqm with rfl | hqm
        · exact g4 _ (by simp)
        · exact g5 q hqm
      · intro p hp
        rcases g8 p hp with h | ⟨q, hqm, h⟩
        · simp only [List.mem_cons] at h
          rcases h with rfl | h
          · exact .inr ⟨(c.1, c.2, v), by simp, rfl⟩
          · exact .inl h
        · exact .inr ⟨q, by simp [hqm], h⟩
      · intro k q hk
        cases k with
        | zero => simp at hk; subst hk; simpa [putAll] using h1
        | succ k => simpa [putAll] using g6 k q (by simpa using hk)
    · exact ⟨[], c :: r, pend, rfl, .inr ⟨c, r, rfl, by simpa using hq⟩, fun q hq => by simp at hq, fun p hp => hp, fun q hq => by simp at hq, fun p hp => .inl hp, fun k q hk => by simp at hk, h⟩

theorem set_listed {listed : Array Bool} {i k : Nat} (hi : i < listed.size) : (listed.setIfInBounds i true).getD k false = true ↔ (k = i ∨ listed.getD k false = true) := by
  by_cases h : i = k
  · subst h; simp [hi]
  · rw [getD_set_ne false h]
    constructor
    · exact fun h' => .inr h'
    · rintro (h' | h')
      · exact absurd h'.symm h
      · exact h'
theorem getD_size {listed : Array Bool} {i : Nat} (h : i < listed.size) : listed.getD i true = listed.getD i false := by
  simp [Array.getD_eq_getD_getElem?, Array.getElem?_eq_getElem h]

theorem step_wpOp {ops : Array Oper} {Q : Exit → Act → World → Prop} {i : Nat} {o : Oper} {a : Act} {w : World} {next : Act → World → Prop} (ho : ops[i]? = some o) (h : StepOf P ops o a w next Q) : wpOp P ops Q i next a w := by
  unfold wpOp
  rw [ho]
  simp only
  unfold StepOf at h
  split
  · rename_i hw; rw [if_pos hw] at h; exact .inl h
  · rename_i hw; rw [if_neg hw] at h; exact h

/-- Where not all are listed, one is ready. -/
theorem some_ready {ops : Array Oper} (hedge : ∀ i o, ops[i]? = some o → ∀ e ∈ o.after.toList, Region.binds .any e = true → e.on < i) {listed : Array Bool} (hsz : listed.size = ops.size) (hr : Region.ready .any ops listed = []) :
    ∀ i, i < ops.size → listed.getD i false = true := by
  intro i
  induction i using Nat.strongRecOn with
  | _ i ih =>
    intro hi
    cases h : listed.getD i false with
    | true => rfl
    | false =>
      have : i ∈ Region.ready .any ops listed := by
        rw [mem_ready]
        refine ⟨by rw [getD_size (by omega)]; exact h, ops[i], Array.getElem?_eq_getElem hi, fun e he hb => ?_⟩
        have := hedge i ops[i] (Array.getElem?_eq_getElem hi) e (by simpa using he) hb
        exact ih e.on this (by omega)
      rw [hr] at this; simp at this

theorem before_listed {ops : Array Oper} {listed : Array Bool} {j : Nat} {o : Oper} (ho : ops[j]? = some o) (hcl : Closed ops fun t => listed.getD t false = true)
    (hdeps : ∀ e ∈ o.after, Region.binds .any e = true → listed.getD e.on false = true) {i : Nat} (hb : beforeB (masks ops.toList []) i j = true) : listed.getD i false = true := by
  have hlt : j < ops.size := (Array.getElem?_eq_some_iff.1 ho).1
  have h4 : j < (masks ops.toList []).length := by rw [masks_length]; simpa using hlt
  unfold beforeB at hb
  rw [List.getD_eq_getElem?_getD, List.getElem?_eq_getElem h4] at hb
  exact mask_listed hcl j (fun o' ho' e hem hb => by rw [ho] at ho'; cases ho'; exact hdeps e (by simpa using hem) hb) i _ (List.getElem?_eq_getElem h4) hb

theorem before_closed {ops : Array Oper} {listed : Array Bool} {i j : Nat} {o : Oper} (ho : ops[j]? = some o) (hcl : Closed ops fun t => listed.getD t false = true) (hj : listed.getD j false = true)
    (hb : beforeB (masks ops.toList []) i j = true) : listed.getD i false = true :=
  before_listed ho hcl (fun e he hb => hcl j o hj ho e (by simpa using he) hb) hb

theorem needed_listed {N : Nat} {ops : Array Oper} {C : List CI} (hd : DC ops C) (hchk : ∀ x ∈ C, ∃ o, ops[x.1]? = some o ∧ chkIns P N ops o x.2 = true) {listed : Array Bool} (hcl : Closed ops fun t => listed.getD t false = true) :
    ∀ (pend : List (Ins × SV)) (ts : List Nat), (∀ p ∈ pend, ∃ i, (i, p.1) ∈ C) → (∀ t ∈ ts, ∀ y ∈ C, y.2.d = some t → listed.getD y.1 false = true) →
      ∀ s ∈ needed ts pend, ∀ y ∈ C, y.2.d = some s → listed.getD y.1 false = true
  | [], ts, _, h => h
  | (p, v) :: r, ts, hp, h => by
    unfold needed
    by_cases hm : hasD ts p.d = true
    · rw [if_pos hm]
      refine needed_listed hd hchk hcl r _ (fun q hq => hp q (by simp [hq])) ?_
      intro t ht y hy hyd
      rcases List.mem_append.1 ht with ht | ht
      · obtain ⟨i, hi⟩ := hp (p, v) (by simp)
        obtain ⟨o, ho, _⟩ := hchk _ hi
        cases hpd : p.d with
        | none => rw [hpd] at hm; simp [hasD] at hm
        | some d =>
          rw [hpd] at hm
          simp only [hasD] at hm
          have h1 := h d (by simpa using hm) (i, p) hi hpd
          exact before_closed ho hcl h1 (hd.dep y hy (i, p) hi t hyd ht)
      · exact h t ht y hy hyd
    · rw [if_neg hm]
      exact needed_listed hd hchk hcl r ts (fun q hq => hp q (by simp [hq])) h

/-- THE STATE: some of the quiet operations that stand ahead of the next write may still be to come. -/
theorem draw_main {N : Nat} {ops : Array Oper} {C : List CI} {S : St} {K : XE → Env → List AO → Prop} (hd : DC ops C) (hchk : ∀ x ∈ C, ∃ o, ops[x.1]? = some o ∧ chkIns P N ops o x.2 = true) :
    ∀ (fuel : Nat) (listed : Array Bool) (S' : St) (a : Act) (Qs : List QI) (Ef : Env) (pend : List (Ins × SV)) (rest : List CI),
    rest.length + (Qs.filter (unl listed)).length ≤ fuel → listed.size = ops.size → (Closed ops fun t => listed.getD t false = true) →
    (∀ q ∈ Qs, (q.1, q.2.1) ∈ C) → (∀ r ∈ rest, r ∈ C) →
    (∀ i, i < ops.size → listed.getD i false = false → (∃ q ∈ Qs, q.1 = i) ∨ ∃ r ∈ rest, r.1 = i) →
    (∀ r ∈ rest, listed.getD r.1 false = false) →
    (rest.Pairwise fun x y => (∀ d, y.2.d = some d → d ∉ x.2.slots) ∧ (x.2.j.quiet = false → beforeB (masks ops.toList []) x.1 y.1 = true) ∧ x.1 ≠ y.1) →
    (rest = [] ∨ ∃ c r, rest = c :: r ∧ c.2.j.quiet = false) →
    (∀ q ∈ Qs, ∀ r ∈ rest, (∀ d, r.2.d = some d → d ∉ q.2.1.slots) ∧ q.1 ≠ r.1) →
    (∀ q ∈ Qs, ∀ q' ∈ Qs, q.1 = q'.1 → q = q') → (∀ q ∈ Qs, q.2.1.j.quiet = true) →
    (∀ q ∈ Qs, ∀ d, q.2.1.d = some d → Ef.get d = q.2.2) →
    (∀ q ∈ Qs, listed.getD q.1 false = false → quietV P q.2.1 Ef S'.H q.2.2) →
    (∀ q ∈ Qs, (q.2.1, q.2.2) ∈ pend) → (∀ p ∈ pend, ∃ i, (i, p.1) ∈ C) →
    Ext S.H.length S S' → Sim S' → EnvR S' (maskE (Qs.filter (unl listed)) Ef) a.tmps → a.tmps.size = N → a.defers = [] →
    xd P pend (rest.map (·.2)) Ef S'.H K → wpAny P .any ops (Post S N K) fuel listed a S'.w := by
  intro fuel
  induction fuel with
  | zero =>
    intro listed S' a Qs Ef pend rest hf hsz hcl hQC hrC hcov hrl hpw hhead hqr hqn hqq hval hqv hpend hpC he hS henv hN hdf hx
    obtain rfl : rest = [] := List.eq_nil_of_length_eq_zero (by omega)
    have hun : Qs.filter (unl listed) = [] := List.eq_nil_of_length_eq_zero (by omega)
    have hall : ∀ i, i < ops.size → listed.getD i false = true := by
      intro i hi
      cases h : listed.getD i false with
      | true => rfl
      | false =>
        rcases hcov i hi h with ⟨q, hq, rfl⟩ | ⟨r, hr, _⟩
        · have : q ∈ Qs.filter (unl listed) := by rw [List.mem_filter]; exact ⟨hq, by simp [unl]; simpa using h⟩
          rw [hun] at this; simp at this
        · simp at hr
    rw [hun] at henv
    refine ⟨?_, ⟨.normal, Ef, S'.ρ, S'.H, trivial, he, hS, henv, hN, hdf, hx⟩⟩
    rw [List.eq_nil_iff_forall_not_mem]
    intro i hi
    rw [mem_ready] at hi
    obtain ⟨h1, o, ho, _⟩ := hi
    have hlt : i < ops.size := (Array.getElem?_eq_some_iff.1 ho).1
    rw [getD_size (by omega), hall i hlt] at h1; cases h1
  | succ fuel ih =>
    intro listed S' a Qs Ef pend rest hf hsz hcl hQC hrC hcov hrl hpw hhead hqr hqn hqq hval hqv hpend hpC he hS henv hN hdf hx
    refine ⟨fun hr => ?_, fun j hj => ?_⟩
    · have hall := some_ready hd.edge hsz hr
      have hrest : rest = [] := by
        cases rest with
        | nil => rfl
        | cons c r =>
          obtain ⟨o, ho, _⟩ := hchk c (hrC c (by simp))
          have h1 := hrl c (by simp)
          rw [hall c.1 (Array.getElem?_eq_some_iff.1 ho).1] at h1; cases h1
      subst hrest
      have hun : Qs.filter (unl listed) = [] := by
        rw [List.filter_eq_nil_iff]
        intro q hq hu
        obtain ⟨o, ho, _⟩ := hchk _ (hQC q hq)
        have := hall q.1 (Array.getElem?_eq_some_iff.1 ho).1
        have e : unl listed q = false := by unfold unl; rw [this]; rfl
        rw [e] at hu; cases hu
      rw [hun] at henv
      exact ⟨.normal, Ef, S'.ρ, S'.H, trivial, he, hS, henv, hN, hdf, hx⟩
    · rw [mem_ready] at hj
      obtain ⟨g1, o, ho, hdeps⟩ := hj
      have hlt : j < ops.size := (Array.getElem?_eq_some_iff.1 ho).1
      rw [getD_size (by omega)] at g1
      have before := fun (i : Nat) => before_listed (i := i) ho hcl hdeps
      have hjs : j < listed.size := by omega
      have hset : ∀ k, (listed.setIfInBounds j true).getD k false = false → listed.getD k false = false := by
        intro k hk
        cases h : listed.getD k false with
        | false => rfl
        | true => rw [(set_listed (k := k) hjs).2 (.inr h)] at hk; cases hk
      have hclosed' : Closed ops fun t => (listed.setIfInBounds j true).getD t false = true := by
        intro i p hi hp e hem hb
        rw [set_listed hjs] at hi ⊢
        rcases hi with rfl | hi
        · rw [ho] at hp; cases hp; exact .inr (hdeps e (by simpa using hem) hb)
        · exact .inr (hcl i p hi hp e hem hb)
      rcases hcov j hlt g1 with ⟨q, hq, rfl⟩ | ⟨c, hc, rfl⟩
      · -- a quiet operation
        obtain ⟨o', ho', hci⟩ := hchk _ (hQC q hq)
        rw [ho] at ho'; cases ho'
        have hm : ∀ t ∈ q.2.1.slots, (maskE (Qs.filter (unl listed)) Ef).get t = Ef.get t := by
          intro t ht
          refine mask_get fun q' hq' hd' => ?_
          rw [List.mem_filter] at hq'
          have h1 := before q'.1 (hd.dep _ (hQC q' hq'.1) _ (hQC q hq) t hd' ht)
          have h2 := hq'.2
          simp only [unl, Bool.not_eq_true'] at h2
          rw [h1] at h2; cases h2
        have hq1 := quietV_congr (hqv q hq g1) hm
        have hxo : xo P q.2.1 (maskE (Qs.filter (unl listed)) Ef) S'.H (fun x env' H' => x = .normal ∧ env' = (maskE (Qs.filter (unl listed)) Ef).put q.2.1.d q.2.2 ∧ H' = S'.H) := xo_of_quietV hq1 ⟨rfl, rfl, rfl⟩
        refine step_wpOp ho (xo_sound hS henv hN hdf hci hxo ?_ ?_)
        · rintro a' w' ⟨x, env', ρ', H', hx', hext, hsim, henv', hN', hdf', hxn, rfl, rfl⟩
          refine ih _ ⟨ρ', S'.H, w'⟩ a' Qs Ef pend rest ?_ (by simpa using hsz) hclosed' hQC hrC (fun i hi h => hcov i hi (hset i h)) ?_ hpw hhead hqr hqn hqq hval
            (fun q' hq' h => hqv q' hq' (hset _ h)) hpend hpC (he.trans (hext.mono (he.len (Nat.le_refl _)))) hsim ?_ hN' hdf' hx
          · have := filter_lt (p := unl listed) (q := unl (listed.setIfInBounds q.1 true)) Qs (by
              intro q' _ h
              simp only [unl, Bool.not_eq_true'] at h ⊢
              exact hset _ h) q hq (by simp only [unl, g1]; rfl) (by
              simp only [unl, Bool.not_eq_false']
              exact (set_listed hjs).2 (.inl rfl))
            omega
          · intro r hr
            have h1 := hrl r hr
            cases h : (listed.setIfInBounds q.1 true).getD r.1 false with
            | false => rfl
            | true =>
              rw [set_listed hjs] at h
              rcases h with h | h
              · exact absurd h.symm (hqr q hq r hr).2
              · rw [h1] at h; cases h
          · refine henv'.congr fun t => ?_
            by_cases hun : ∃ q' ∈ Qs.filter (unl (listed.setIfInBounds q.1 true)), q'.2.1.d = some t
            · exact .inl (mask_any hun)
            · right
              rw [mask_get (fun q' hq' h => hun ⟨q', hq', h⟩)]
              by_cases h2 : q.2.1.d = some t
              · rw [h2, put_get_eq]; exact hval q hq t h2
              · rw [put_get_ne h2, mask_get]
                intro q' hq' h3
                apply hun
                refine ⟨q', ?_, h3⟩
                rw [List.mem_filter] at hq' ⊢
                refine ⟨hq'.1, ?_⟩
                have h4 := hq'.2
                simp only [unl, Bool.not_eq_true'] at h4 ⊢
                cases h5 : (listed.setIfInBounds q.1 true).getD q'.1 false with
                | false => rfl
                | true =>
                  rw [set_listed hjs] at h5
                  rcases h5 with h5 | h5
                  · have := hqn q' hq'.1 q hq h5
                    subst this; exact absurd h3 h2
                  · rw [h4] at h5; cases h5
        · rintro ch a' w' ⟨x, env', ρ', H', hx', hext, hsim, henv', hN', hdf', hxn, _⟩
          subst hxn
          simp only [ER] at hx'
      · -- the next write
        have hhd : ∃ r, rest = c :: r := by
          rcases hhead with rfl | ⟨c', r, rfl, hq'⟩
          · simp at hc
          · simp only [List.mem_cons] at hc
            rcases hc with rfl | hc
            · exact ⟨r, rfl⟩
            · rw [List.pairwise_cons] at hpw
              have h1 := before c'.1 ((hpw.1 c hc).2.1 hq')
              rw [hrl c' (by simp)] at h1; cases h1
        obtain ⟨r, rfl⟩ := hhd
        have hcq : c.2.j.quiet = false := by
          rcases hhead with h | ⟨c', r', h, hq'⟩
          · cases h
          · cases h; exact hq'
        obtain ⟨o', ho', hci⟩ := hchk c (hrC c (by simp))
        rw [ho] at ho'; cases ho'
        rw [List.pairwise_cons] at hpw
        have hm : ∀ t ∈ c.2.slots, (maskE (Qs.filter (unl listed)) Ef).get t = Ef.get t := by
          intro t ht
          refine mask_get fun q' hq' hd' => ?_
          rw [List.mem_filter] at hq'
          have h1 := before q'.1 (hd.dep _ (hQC q' hq'.1) _ (hrC c (by simp)) t hd' ht)
          have h2 := hq'.2
          simp only [unl, Bool.not_eq_true'] at h2
          rw [h1] at h2; cases h2
        simp only [List.map_cons, xd] at hx
        rw [if_neg (by simp [hcq])] at hx
        have hxo := xo_congr hcq hm hx
        refine step_wpOp ho (xo_sound hS henv hN hdf hci hxo ?_ ?_)
        · rintro a' w' ⟨x, env', ρ', H', hx', hext, hsim, henv', hN', hdf', hk⟩
          cases x <;> simp only [ER] at hx'
          obtain ⟨v, rfl, hpv, hxd⟩ := hk
          obtain ⟨F, rest', pend', f1, f2, f3, f4, f5, f8, f6, f7⟩ := xd_split r pend _ hxd
          subst f1
          -- F's slots against all the others
          have hFC : ∀ q ∈ F, (q.1, q.2.1) ∈ C := fun q hq => hrC _ (by simp; exact .inr (.inl ⟨q.2.2, hq⟩))
          have hr'C : ∀ y ∈ rest', y ∈ C := fun y hy => hrC _ (by simp [hy])
          have hFr : ∀ q ∈ F, (q.1, q.2.1) ∈ (F.map fun q => (q.1, q.2.1)) ++ rest' := fun q hq => List.mem_append_left _ (List.mem_map.2 ⟨q, hq, rfl⟩)
          rw [List.pairwise_append] at hpw
          obtain ⟨hpc, hpF, hpr, hpFr⟩ := hpw
          have hFidx : ∀ (i k : Nat) (x y : QI), F[i]? = some x → F[k]? = some y → i < k → (∀ d, y.2.1.d = some d → d ∉ x.2.1.slots) ∧ x.1 ≠ y.1 := by
            intro i k x y hx hy hik
            rw [List.pairwise_map, List.pairwise_iff_getElem] at hpF
            have h1 := getElem?_lt hx
            have h2 := getElem?_lt hy
            have h3 := hpF i k h1 h2 hik
            rw [List.getElem?_eq_getElem h1] at hx; cases hx
            rw [List.getElem?_eq_getElem h2] at hy; cases hy
            exact ⟨h3.1, h3.2.2⟩
          generalize hE1 : Ef.put c.2.d v = E1 at *
          have getF : ∀ (t : Nat), (∀ q ∈ F, q.2.1.d ≠ some t) → (putAll E1 (F.map (·.2.1)) (F.map (·.2.2))).get t = E1.get t := by
            intro t h
            refine putAll_not _ _ _ _ fun p hp => ?_
            obtain ⟨q, hq, rfl⟩ := List.mem_map.1 hp
            exact h q hq
          have getF1 : ∀ q ∈ F, ∀ d, q.2.1.d = some d → (putAll E1 (F.map (·.2.1)) (F.map (·.2.2))).get d = q.2.2 := by
            intro q hq d hqd
            obtain ⟨k, hk⟩ := List.getElem?_of_mem hq
            refine putAll_one _ _ _ d k q.2.1 q.2.2 (by simp [hk]) (by simp [hk]) hqd ?_
            intro i p hik hp hpd
            simp only [List.getElem?_map, Option.map_eq_some_iff] at hp
            obtain ⟨y, hy, rfl⟩ := hp
            exact hd.uniq _ (hFC q hq) _ (hFC y (List.mem_of_getElem? hy)) (hFidx k i q y hk hy hik).2 d hqd hpd
          have hcF : ∀ q ∈ F, c.1 ≠ q.1 := fun q hq => (hpc _ (hFr q hq)).2.2
          have hcr' : ∀ y ∈ rest', c.1 ≠ y.1 := fun y hy => (hpc _ (List.mem_append_right _ hy)).2.2
          have hlF : ∀ q ∈ F, (listed.setIfInBounds c.1 true).getD q.1 false = false := by
            intro q hq
            cases h : (listed.setIfInBounds c.1 true).getD q.1 false with
            | false => rfl
            | true =>
              rw [set_listed hjs] at h
              rcases h with h | h
              · exact absurd h.symm (hcF q hq)
              · have := hrl (q.1, q.2.1) (List.mem_cons_of_mem _ (hFr q hq)); rw [this] at h; cases h
          have hQF : ∀ q ∈ Qs, ∀ q' ∈ F, (∀ d, q'.2.1.d = some d → d ∉ q.2.1.slots) ∧ q.1 ≠ q'.1 := fun q hq q' hq' => hqr q hq (q'.1, q'.2.1) (List.mem_cons_of_mem _ (hFr q' hq'))
          have hQc : ∀ q ∈ Qs, (∀ d, c.2.d = some d → d ∉ q.2.1.slots) ∧ q.1 ≠ c.1 := fun q hq => hqr q hq c (by simp)
          refine ih _ ⟨ρ', H', w'⟩ a' (Qs ++ F) (putAll E1 (F.map (·.2.1)) (F.map (·.2.2))) pend' rest' ?_ (by simpa using hsz) hclosed' ?_ hr'C ?_ ?_ hpr f2 ?_ ?_ ?_ ?_ ?_ ?_ ?_
            (he.trans (hext.mono (he.len (Nat.le_refl _)))) hsim ?_ hN' hdf' f7
          · -- fuel
            have h1 : ((Qs ++ F).filter (unl (listed.setIfInBounds c.1 true))).length ≤ (Qs.filter (unl listed)).length + F.length := by
              rw [List.filter_append, List.length_append]
              have h2 := List.length_filter_le (unl (listed.setIfInBounds c.1 true)) F
              have h3 : (Qs.filter (unl (listed.setIfInBounds c.1 true))).length ≤ (Qs.filter (unl listed)).length := by
                have : Qs.filter (unl (listed.setIfInBounds c.1 true)) = (Qs.filter (unl listed)).filter (unl (listed.setIfInBounds c.1 true)) := by
                  rw [List.filter_filter]
                  refine List.filter_congr fun q _ => ?_
                  simp only [unl]
                  cases h : (listed.setIfInBounds c.1 true).getD q.1 false with
                  | true => rfl
                  | false => rw [hset _ h]; rfl
                rw [this]; exact List.length_filter_le _ _
              omega
            simp only [List.length_cons, List.length_append, List.length_map] at hf
            omega
          · intro q hq
            rcases List.mem_append.1 hq with hq | hq
            · exact hQC q hq
            · exact hFC q hq
          · intro i hi h
            have h0 := hset i h
            rcases hcov i hi h0 with ⟨q, hq, rfl⟩ | ⟨y, hy, rfl⟩
            · exact .inl ⟨q, List.mem_append_left _ hq, rfl⟩
            · simp only [List.mem_cons, List.mem_append, List.mem_map] at hy
              rcases hy with rfl | ⟨q, hq, rfl⟩ | hy
              · rw [(set_listed (k := y.1) hjs).2 (.inl rfl)] at h; cases h
              · exact .inl ⟨q, List.mem_append_right _ hq, rfl⟩
              · exact .inr ⟨y, hy, rfl⟩
          · intro y hy
            cases h : (listed.setIfInBounds c.1 true).getD y.1 false with
            | false => rfl
            | true =>
              rw [set_listed hjs] at h
              rcases h with h | h
              · exact absurd h.symm (hcr' y hy)
              · have := hrl y (List.mem_cons_of_mem _ (List.mem_append_right _ hy)); rw [this] at h; cases h
          · intro q hq y hy
            rcases List.mem_append.1 hq with hq | hq
            · exact hqr q hq y (List.mem_cons_of_mem _ (List.mem_append_right _ hy))
            · have := hpFr (q.1, q.2.1) (List.mem_map.2 ⟨q, hq, rfl⟩) y hy
              exact ⟨this.1, this.2.2⟩
          · intro q hq q' hq' heq
            rcases List.mem_append.1 hq with hq | hq <;> rcases List.mem_append.1 hq' with hq' | hq'
            · exact hqn q hq q' hq' heq
            · exact absurd heq (hQF q hq q' hq').2
            · exact absurd heq.symm (hQF q' hq' q hq).2
            · obtain ⟨i, hi⟩ := List.getElem?_of_mem hq
              obtain ⟨k, hk⟩ := List.getElem?_of_mem hq'
              rcases Nat.lt_trichotomy i k with h | h | h
              · exact absurd heq (hFidx i k q q' hi hk h).2
              · subst h; rw [hi] at hk; cases hk; rfl
              · exact absurd heq.symm (hFidx k i q' q hk hi h).2
          · intro q hq
            rcases List.mem_append.1 hq with hq | hq
            · exact hqq q hq
            · exact f3 q hq
          · intro q hq d hqd
            rcases List.mem_append.1 hq with hq | hq
            · rw [getF d (fun q' hq' h => hd.uniq _ (hQC q hq) _ (hFC q' hq') (hQF q hq q' hq').2 d hqd h), ← hE1, put_get_ne (fun h => hd.uniq _ (hQC q hq) _ (hrC c (by simp)) (hQc q hq).2 d hqd h)]
              exact hval q hq d hqd
            · exact getF1 q hq d hqd
          · intro q hq hun
            rcases List.mem_append.1 hq with hq | hq
            · have hcg : ∀ t ∈ q.2.1.slots, (putAll E1 (F.map (·.2.1)) (F.map (·.2.2))).get t = E1.get t := fun t ht => getF t fun q' hq' h => (hQF q hq q' hq').1 t h ht
              refine quietV_congr ?_ hcg
              by_cases hdep : q.2.1.j.dep = true
              · refine hpv _ (hpend q hq) ?_
                simp only [loose, hdep, Bool.true_and, Bool.not_eq_true']
                unfold hasD
                cases hqd : q.2.1.d with
                | none => rfl
                | some d =>
                  simp only
                  cases hcn : (needed c.2.slots pend).contains d with
                  | false => rfl
                  | true =>
                    have h1 := needed_listed hd hchk hcl pend c.2.slots hpC (fun t ht y hy hyd => before y.1 (hd.dep y hy c (hrC c (by simp)) t hyd ht)) d (by simpa using hcn) _ (hQC q hq) hqd
                    rw [hset _ hun] at h1; cases h1
              · refine quietV_H (by simpa using hdep) (quietV_congr (hqv q hq (hset _ hun)) fun t ht => ?_)
                rw [← hE1, put_get_ne (fun h => (hQc q hq).1 t h ht)]
            · obtain ⟨k, hk⟩ := List.getElem?_of_mem hq
              refine quietV_congr (f6 k q hk) fun t ht => ?_
              -- what q reads is written by none that stands behind it
              by_cases hw : ∃ y ∈ F, y.2.1.d = some t
              · obtain ⟨y, hy, hyd⟩ := hw
                obtain ⟨i, hi⟩ := List.getElem?_of_mem hy
                have hik : i < k := by
                  rcases Nat.lt_trichotomy i k with h | h | h
                  · exact h
                  · subst h; rw [hi] at hk; cases hk
                    exact absurd ht (hd.self _ (hFC q hq) t hyd)
                  · exact absurd ht ((hFidx k i q y hk hi h).1 t hyd)
                rw [getF1 y hy t hyd]
                refine (putAll_one _ _ _ t i y.2.1 y.2.2 ?_ ?_ hyd ?_).symm
                · simp only [List.getElem?_map, List.getElem?_take, if_pos hik, hi, Option.map_some]
                · simp only [List.getElem?_map, List.getElem?_take, if_pos hik, hi, Option.map_some]
                · intro m p him hp hpd
                  simp only [List.getElem?_map, List.getElem?_take, Option.map_eq_some_iff] at hp
                  obtain ⟨z, hz, rfl⟩ := hp
                  split at hz
                  · exact hd.uniq _ (hFC y hy) _ (hFC z (List.mem_of_getElem? hz)) (hFidx i m y z hi hz him).2 t hyd hpd
                  · cases hz
              · have hw' : ∀ y ∈ F, y.2.1.d ≠ some t := fun y hy h => hw ⟨y, hy, h⟩
                rw [getF t hw']
                refine (putAll_not _ _ _ _ fun p hp => ?_).symm
                obtain ⟨z, hz, rfl⟩ := List.mem_map.1 hp
                exact hw' z (List.mem_of_mem_take hz)
          · intro q hq
            rcases List.mem_append.1 hq with hq | hq
            · exact f4 _ (hpend q hq)
            · exact f5 q hq
          · intro p hp
            rcases f8 p hp with h | ⟨q, hq, h⟩
            · exact hpC p h
            · exact ⟨q.1, by rw [h]; exact hFC q hq⟩
          · refine henv'.congr fun t => ?_
            by_cases hun : ∃ q' ∈ (Qs ++ F).filter (unl (listed.setIfInBounds c.1 true)), q'.2.1.d = some t
            · exact .inl (mask_any hun)
            · right
              rw [mask_get (fun q' hq' h => hun ⟨q', hq', h⟩)]
              have hnF : ∀ q ∈ F, q.2.1.d ≠ some t := by
                intro q hq h
                exact hun ⟨q, by rw [List.mem_filter]; exact ⟨List.mem_append_right _ hq, by simp only [unl, hlF q hq]; rfl⟩, h⟩
              rw [getF t hnF, ← hE1]
              by_cases h2 : c.2.d = some t
              · rw [h2, put_get_eq, put_get_eq]
              · rw [put_get_ne h2, put_get_ne h2, mask_get]
                intro q' hq' h3
                apply hun
                refine ⟨q', ?_, h3⟩
                rw [List.mem_filter] at hq' ⊢
                refine ⟨List.mem_append_left _ hq'.1, ?_⟩
                have h4 := hq'.2
                simp only [unl, Bool.not_eq_true'] at h4 ⊢
                cases h5 : (listed.setIfInBounds c.1 true).getD q'.1 false with
                | false => rfl
                | true =>
                  rw [set_listed hjs] at h5
                  rcases h5 with h5 | h5
                  · exact absurd h5 (hQc q' hq'.1).2
                  · rw [h4] at h5; cases h5
        · rintro ch a' w' ⟨x, env', ρ', H', hx', hext, hsim, henv', hN', hdf', hk⟩
          cases x <;> simp only [ER] at hx'
          exact ⟨.panic _, [], ρ', H', hx', he.trans (hext.mono (he.len (Nat.le_refl _))), hsim, ⟨fun t => .any _⟩, hN', hdf', hk⟩

theorem draw_ok {P : Program} (hm : P.follows .mixedOrders = true) : DOk P drawB := by
  intro N id ops ns l env H K hc hdr hx S a hH hS he hN hdf
  subst hH
  have hd := dc_of hdr
  refine wp_region_any hm ?_
  have hlen : ns.length = l.length ∧ l.length = ops.size := by
    unfold drawB at hdr
    simp only [Bool.and_eq_true, beq_iff_eq] at hdr
    exact ⟨hdr.1.1.1.2, hdr.1.1.1.1⟩
  have hsnd : (ns.zip l).map (·.2) = l := by rw [List.map_snd_zip]; omega
  have hchk : ∀ x ∈ ns.zip l, ∃ o, ops[x.1]? = some o ∧ chkIns P N ops o x.2 = true := by
    intro x hx
    unfold chkP at hc
    rw [List.all_eq_true] at hc
    have := hc x hx
    split at this
    · rename_i o ho; exact ⟨o, ho, this⟩
    · cases this
  have hnone : ∀ i, (Array.replicate ops.size false).getD i false = false := by
    intro i
    rw [Array.getD_eq_getD_getElem?, Array.getElem?_replicate]
    split <;> rfl
  have hE := ext_same (S := S) (w' := S.w.drew) rfl rfl rfl rfl
  have hS' := sim_same hS (w' := S.w.drew) rfl rfl rfl rfl
  obtain ⟨F, rest', pend', f1, f2, f3, f4, f5, f8, f6, f7⟩ := xd_split (ns.zip l) [] env (by rw [hsnd]; exact hx)
  have hFC : ∀ q ∈ F, (q.1, q.2.1) ∈ ns.zip l := fun q hq => by rw [f1]; exact List.mem_append_left _ (List.mem_map.2 ⟨q, hq, rfl⟩)
  have hr'C : ∀ y ∈ rest', y ∈ ns.zip l := fun y hy => by rw [f1]; exact List.mem_append_right _ hy
  have hpw := hd.pw
  rw [f1, List.pairwise_append] at hpw
  obtain ⟨hpF, hpr, hpFr⟩ := hpw
  have hFidx : ∀ (i k : Nat) (x y : QI), F[i]? = some x → F[k]? = some y → i < k → (∀ d, y.2.1.d = some d → d ∉ x.2.1.slots) ∧ x.1 ≠ y.1 := by
    intro i k x y hx hy hik
    rw [List.pairwise_map, List.pairwise_iff_getElem] at hpF
    have h1 := getElem?_lt hx
    have h2 := getElem?_lt hy
    have h3 := hpF i k h1 h2 hik
    rw [List.getElem?_eq_getElem h1] at hx; cases hx
    rw [List.getElem?_eq_getElem h2] at hy; cases hy
    exact ⟨h3.1, h3.2.2⟩
  have getF : ∀ (t : Nat), (∀ q ∈ F, q.2.1.d ≠ some t) → (putAll env (F.map (·.2.1)) (F.map (·.2.2))).get t = env.get t := by
    intro t h
    refine putAll_not _ _ _ _ fun p hp => ?_
    obtain ⟨q, hq, rfl⟩ := List.mem_map.1 hp
    exact h q hq
  have getF1 : ∀ q ∈ F, ∀ d, q.2.1.d = some d → (putAll env (F.map (·.2.1)) (F.map (·.2.2))).get d = q.2.2 := by
    intro q hq d hqd
    obtain ⟨k, hk⟩ := List.getElem?_of_mem hq
    refine putAll_one _ _ _ d k q.2.1 q.2.2 (by simp [hk]) (by simp [hk]) hqd ?_
    intro i p hik hp hpd
    simp only [List.getElem?_map, Option.map_eq_some_iff] at hp
    obtain ⟨y, hy, rfl⟩ := hp
    exact hd.uniq _ (hFC q hq) _ (hFC y (List.mem_of_getElem? hy)) (hFidx k i q y hk hy hik).2 d hqd hpd
  refine draw_main hd hchk ops.size (Array.replicate ops.size false) ⟨S.ρ, S.H, S.w.drew⟩ a F (putAll env (F.map (·.2.1)) (F.map (·.2.2))) pend' rest' ?_ (by simp) ?_ hFC hr'C ?_ (fun r _ => hnone _) hpr f2 ?_ ?_ f3 getF1 ?_ f5 (fun p hp => by
      rcases f8 p hp with h | ⟨q, hq, h⟩
      · simp at h
      · exact ⟨q.1, by rw [h]; exact hFC q hq⟩)
    hE hS' ?_ hN hdf f7
  · have h1 := List.length_filter_le (unl (Array.replicate ops.size false)) F
    have h2 : (ns.zip l).length = ops.size := by rw [List.length_zip]; omega
    rw [f1] at h2
    simp at h2; omega
  · intro j o hj
    simp only [hnone] at hj; cases hj
  · intro i hi _
    obtain ⟨x, hx, rfl⟩ := hd.cov i hi
    rw [f1, List.mem_append, List.mem_map] at hx
    rcases hx with ⟨q, hq, rfl⟩ | hx
    · exact .inl ⟨q, hq, rfl⟩
    · exact .inr ⟨x, hx, rfl⟩
  · intro q hq y hy
    have := hpFr (q.1, q.2.1) (List.mem_map.2 ⟨q, hq, rfl⟩) y hy
    exact ⟨this.1, this.2.2⟩
  · intro q hq q' hq' heq
    obtain ⟨i, hi⟩ := List.getElem?_of_mem hq
    obtain ⟨k, hk⟩ := List.getElem?_of_mem hq'
    rcases Nat.lt_trichotomy i k with h | h | h
    · exact absurd heq (hFidx i k q q' hi hk h).2
    · subst h; rw [hi] at hk; cases hk; rfl
    · exact absurd heq.symm (hFidx k i q' q hk hi h).2
  · intro q hq _
    obtain ⟨k, hk⟩ := List.getElem?_of_mem hq
    refine quietV_congr (f6 k q hk) fun t ht => ?_
    by_cases hw : ∃ y ∈ F, y.2.1.d = some t
    · obtain ⟨y, hy, hyd⟩ := hw
      obtain ⟨i, hi⟩ := List.getElem?_of_mem hy
      have hik : i < k := by
        rcases Nat.lt_trichotomy i k with h | h | h
        · exact h
        · subst h; rw [hi] at hk; cases hk
          exact absurd ht (hd.self _ (hFC q hq) t hyd)
        · exact absurd ht ((hFidx k i q y hk hi h).1 t hyd)
      rw [getF1 y hy t hyd]
      refine (putAll_one _ _ _ t i y.2.1 y.2.2 ?_ ?_ hyd ?_).symm
      · simp only [List.getElem?_map, List.getElem?_take, if_pos hik, hi, Option.map_some]
      · simp only [List.getElem?_map, List.getElem?_take, if_pos hik, hi, Option.map_some]
      · intro m p him hp hpd
        simp only [List.getElem?_map, List.getElem?_take, Option.map_eq_some_iff] at hp
        obtain ⟨z, hz, rfl⟩ := hp
        split at hz
        · exact hd.uniq _ (hFC y hy) _ (hFC z (List.mem_of_getElem? hz)) (hFidx i m y z hi hz him).2 t hyd hpd
        · cases hz
    · have hw' : ∀ y ∈ F, y.2.1.d ≠ some t := fun y hy h => hw ⟨y, hy, h⟩
      rw [getF t hw']
      refine (putAll_not _ _ _ _ fun p hp => ?_).symm
      obtain ⟨z, hz, rfl⟩ := List.mem_map.1 hp
      exact hw' z (List.mem_of_mem_take hz)
  · refine (he.ext hE).congr fun t => ?_
    by_cases hw : ∃ y ∈ F, y.2.1.d = some t
    · left
      obtain ⟨y, hy, hyd⟩ := hw
      exact mask_any ⟨y, by rw [List.mem_filter]; exact ⟨hy, by simp only [unl, hnone]; rfl⟩, hyd⟩
    · right
      have hw' : ∀ y ∈ F, y.2.1.d ≠ some t := fun y hy h => hw ⟨y, hy, h⟩
      rw [mask_get (fun q hq => hw' q (List.mem_filter.1 hq).1), getF t hw']

end
end Go.Ab
