/-
  A region whose order the model draws: where all but its forced tail only compute, read and call quietly, the order is idle.
-/
import Derived.Test.YtffafdbipfadoaaAbG
set_option linter.all false
namespace Go.Ab

theorem opt_map_congr {lo : Option Od} {g g' : Od → SV} (h : ∀ x ∈ lo.toList, g x = g' x) : lo.map g = lo.map g' := by
  cases lo with
  | none => rfl
  | some x => simp [h x (by simp)]

theorem pv_congr (i : I) (g g' : Od → SV) (H : List AO) (h : ∀ x ∈ i.ods, g x = g' x) : pv i g H = pv i g' H := by
  cases i with
  | sl sz x lo hi =>
    simp only [I.ods, List.mem_cons, List.mem_append] at h
    have h1 := h x (.inl rfl)
    have h2 := opt_map_congr (lo := lo) fun y hy => h y (.inr (.inl hy))
    have h3 := opt_map_congr (lo := hi) fun y hy => h y (.inr (.inr hy))
    simp only [pv, h1, h2, h3]
  | sls x lo hi =>
    simp only [I.ods, List.mem_cons, List.mem_append] at h
    have h1 := h x (.inl rfl)
    have h2 := opt_map_congr (lo := lo) fun y hy => h y (.inr (.inl hy))
    have h3 := opt_map_congr (lo := hi) fun y hy => h y (.inr (.inr hy))
    simp only [pv, h1, h2, h3]
  | mkf f a b =>
    simp only [I.ods, List.mem_append] at h
    have h1 : a.map g = a.map g' := List.map_congr_left fun x hx => h x (.inl hx)
    have h2 : b.map g = b.map g' := List.map_congr_left fun x hx => h x (.inr hx)
    simp only [pv, h1, h2]
  | bld z ps =>
    simp only [I.ods, List.mem_map] at h
    have h1 : ∀ p ∈ ps, g p.2.2 = g' p.2.2 := fun p hp => h _ ⟨p, hp, rfl⟩
    have h2 : (ps.map fun p => (p.1, g p.2.2)) = ps.map fun p => (p.1, g' p.2.2) := List.map_congr_left fun p hp => by rw [h1 p hp]
    have h3 : (∀ p ∈ ps, partOk p.2.1 (g p.2.2) ∧ p.1 + p.2.1 ≤ z.length) = ∀ p ∈ ps, partOk p.2.1 (g' p.2.2) ∧ p.1 + p.2.1 ≤ z.length := by
      apply propext
      constructor
      · intro hh p hp; rw [← h1 p hp]; exact hh p hp
      · intro hh p hp; rw [h1 p hp]; exact hh p hp
    simp only [pv, h2, h3]
  | _ => simp only [I.ods, List.mem_cons, List.not_mem_nil, or_false, forall_eq_or_imp, forall_eq] at h; simp only [pv, h]

theorem xe_congr {i : E} {g g' : Od → SV} {H : List AO} {K K' : SV → List AO → Prop} (h : ∀ x ∈ i.ods, g x = g' x) (hk : ∀ v H, K v H → K' v H) (hx : xe i g H K) : xe i g' H K' := by
  cases i with
  | alc T z => exact hk _ _ hx
  | box T x =>
    simp only [E.ods, List.mem_cons, List.not_mem_nil, or_false, forall_eq] at h
    simp only [xe, ← h] at *
    exact ⟨hx.1, hx.2.1, hk _ _ hx.2.2⟩
  | bsl T sz len z ps =>
    simp only [E.ods, List.mem_map] at h
    have h1 : ∀ p ∈ ps, g p.2 = g' p.2 := fun p hp => h _ ⟨p, hp, rfl⟩
    have h2 : (ps.map fun p => (p.1 * sz, g p.2)) = ps.map fun p => (p.1 * sz, g' p.2) := List.map_congr_left fun p hp => by rw [h1 p hp]
    simp only [xe, ← h2] at *
    exact ⟨fun p hp => by rw [← h1 p hp]; exact hx.1 p hp, hx.2.1, hk _ _ hx.2.2⟩
  | mks T sz by_ z l c =>
    simp only [E.ods, List.mem_cons, List.not_mem_nil, or_false, forall_eq_or_imp, forall_eq] at h
    simp only [xe, ← h.1, ← h.2] at *
    obtain ⟨a1, a2, a3, a4, a5, a6, a7⟩ := hx
    exact ⟨a1, a2, a3, a4, a5, a6, hk _ _ a7⟩
  | app T sz by_ s x =>
    simp only [E.ods, List.mem_cons, List.not_mem_nil, or_false, forall_eq_or_imp, forall_eq] at h
    simp only [xe, ← h.1, ← h.2] at *
    obtain ⟨a1, a2, a3, a4, a5, a6, a7, a8⟩ := hx
    refine ⟨a1, a2, a3, a4, a5, a6, a7, ?_⟩
    split
    · rename_i hs
      rw [hs] at a8
      exact ⟨a8.1, a8.2.1, hk _ _ a8.2.2⟩
    · rename_i hs
      split at a8
      · rename_i hs'; exact absurd hs' (hs _ _ _ _)
      · exact a8
  | st n p x =>
    simp only [E.ods, List.mem_cons, List.not_mem_nil, or_false, forall_eq_or_imp, forall_eq] at h
    simp only [xe, ← h.1, ← h.2] at *
    obtain ⟨a1, a2, a3, a4, a5, a6⟩ := hx
    refine ⟨a1, a2, a3, a4, a5, ?_⟩
    split
    · rename_i hs
      rw [hs] at a6
      exact ⟨a6.1, hk _ _ a6.2⟩
    · rename_i hs
      split at a6
      · rename_i hs'; exact absurd hs' (hs _ _ _ _ _ _)
      · exact a6
  | cpy sz d s => exact hx.elim
  | call f as => exact hx.elim
  | nil T sz x =>
    simp only [E.ods, List.mem_cons, List.not_mem_nil, or_false, forall_eq] at h
    simp only [xe, ← h] at *
    exact ⟨hx.1, hx.2.1, hk _ _ hx.2.2⟩
  | sl0 T sz x =>
    simp only [E.ods, List.mem_cons, List.not_mem_nil, or_false, forall_eq] at h
    simp only [xe, ← h] at *
    exact ⟨hx.1, hx.2.1, hk _ _ hx.2.2⟩
  | snil neg right x =>
    simp only [E.ods, List.mem_cons, List.not_mem_nil, or_false, forall_eq] at h
    simp only [xe, ← h] at *
    exact ⟨hx.1, hx.2.1, fun h0 => hk _ _ (hx.2.2.1 h0), fun h0 => ⟨hk _ _ (hx.2.2.2 h0).1, hk _ _ (hx.2.2.2 h0).2⟩⟩

theorem keep_get (e : Env) : ∀ (ks : List Nat) (t : Nat), t ∈ ks → (e.keep ks).get t = e.get t
  | [], t, h => by simp at h
  | k :: r, t, h => by
    simp only [Env.keep, List.map_cons, Env.get]
    by_cases hk : k = t
    · rw [if_pos hk, hk]
    · rw [if_neg hk]; exact keep_get e r t (by simp at h; rcases h with h | h; exact absurd h.symm hk; exact h)
theorem keep_get_not (e : Env) : ∀ (ks : List Nat) (t : Nat), t ∉ ks → (e.keep ks).get t = .any
  | [], t, h => rfl
  | k :: r, t, h => by
    simp only [List.mem_cons, not_or] at h
    simp only [Env.keep, List.map_cons, Env.get]
    rw [if_neg (fun e => h.1 e.symm)]; exact keep_get_not e r t h.2

theorem ev_congr {e e' : Env} {x : Od} (h : ∀ t ∈ x.slots, e'.get t = e.get t) : e'.ev x = e.ev x := by
  cases x with
  | t n => exact h n (by simp [Od.slots])
  | c s => rfl
theorem quietV_congr {P : Program} {o : Ins} {env env' : Env} {H : List AO} {v : SV} (h : quietV P o env H v) (hk : ∀ t ∈ o.slots, env'.get t = env.get t) : quietV P o env' H v := by
  have hg : ∀ s w, o.g = some (s, w) → env'.get s = env.get s := by
    intro s w hs
    exact hk s (by simp [Ins.slots, hs])
  have hp : ∀ i, o.j = .p i → pv i env'.ev H = pv i env.ev H := by
    intro i hi
    refine pv_congr i _ _ H fun x hx => ev_congr fun t ht => hk t ?_
    simp only [Ins.slots, hi, J.slots, List.mem_append, List.mem_flatMap]
    exact .inr ⟨x, hx, ht⟩
  have hq : ∀ f args, o.j = .q f args → env'.ev f = env.ev f ∧ args.map env'.ev = args.map env.ev := by
    intro f args hq
    constructor
    · refine ev_congr fun t ht => hk t ?_
      simp only [Ins.slots, hq, J.slots, List.mem_append, List.mem_flatMap]
      exact .inr ⟨f, by simp, ht⟩
    · refine List.map_congr_left fun x hx => ev_congr fun t ht => hk t ?_
      simp only [Ins.slots, hq, J.slots, List.mem_append, List.mem_flatMap]
      exact .inr ⟨x, by simp [hx], ht⟩
  unfold quietV at *
  cases hog : o.g with
  | none =>
    rw [hog] at h
    cases hoj : o.j with
    | p i => rw [hoj] at h; simp only at h ⊢; rw [hp i hoj]; exact h
    | q f args => rw [hoj] at h; simp only at h ⊢; rw [(hq f args hoj).1, (hq f args hoj).2]; exact h
    | e i => rw [hoj] at h; exact h.elim
  | some sw =>
    obtain ⟨s, want⟩ := sw
    rw [hog] at h
    simp only at h ⊢
    rw [hg s want hog]
    refine ⟨h.1, ?_⟩
    have h2 := h.2
    cases hoj : o.j with
    | p i => rw [hoj] at h2; simp only at h2 ⊢; rw [hp i hoj]; exact h2
    | q f args => rw [hoj] at h2; simp only at h2 ⊢; rw [(hq f args hoj).1, (hq f args hoj).2]; exact h2
    | e i => rw [hoj] at h2; exact h2.elim

theorem xo_of_quietV {P : Program} {o : Ins} {env : Env} {H : List AO} {v : SV} {K : XE → Env → List AO → Prop} (h : quietV P o env H v) (hk : K .normal (env.put o.d v) H) : xo P o env H K := by
  unfold quietV at h
  unfold xo
  cases hog : o.g with
  | none =>
    rw [hog] at h
    simp only
    unfold xj
    cases hoj : o.j with
    | p i => rw [hoj] at h; obtain ⟨h1, rfl⟩ := h; exact ⟨h1, hk⟩
    | q f args => rw [hoj] at h; exact ⟨v, h, hk⟩
    | e i => rw [hoj] at h; exact h.elim
  | some sw =>
    obtain ⟨s, want⟩ := sw
    rw [hog] at h
    simp only at h ⊢
    refine ⟨h.1, ?_⟩
    have h2 := h.2
    cases hoj : o.j with
    | p i => rw [hoj] at h2; obtain ⟨h3, rfl⟩ := h2; exact ⟨h3, hk⟩
    | q f args => rw [hoj] at h2; obtain ⟨r, h3, rfl⟩ := h2; exact ⟨r, h3, hk⟩
    | e i => rw [hoj] at h2; exact h2.elim

theorem quietV_of_xo {P : Program} {o : Ins} {env : Env} {H : List AO} {K : XE → Env → List AO → Prop} (hq : o.j.quiet = true) (h : xo P o env H K) : ∃ v, quietV P o env H v ∧ K .normal (env.put o.d v) H := by
  unfold xo at h
  unfold quietV
  cases hog : o.g with
  | none =>
    rw [hog] at h
    simp only at h ⊢
    unfold xj at h
    cases hoj : o.j with
    | p i => rw [hoj] at h; exact ⟨_, ⟨h.1, rfl⟩, h.2⟩
    | q f args => rw [hoj] at h; obtain ⟨r, h1, h2⟩ := h; exact ⟨r, h1, h2⟩
    | e i => rw [hoj] at hq; simp [J.quiet] at hq
  | some sw =>
    obtain ⟨s, want⟩ := sw
    rw [hog] at h
    simp only at h ⊢
    cases hoj : o.j with
    | p i => rw [hoj] at h; exact ⟨_, ⟨h.1, h.2.1, rfl⟩, h.2.2⟩
    | q f args => rw [hoj] at h; obtain ⟨h0, r, h1, h2⟩ := h; exact ⟨_, ⟨h0, r, h1, rfl⟩, h2⟩
    | e i => rw [hoj] at hq; simp [J.quiet] at hq

/-! The order of the operations -/
def maskOf (acc : List Nat) (o : Oper) : Nat := o.after.toList.foldl (fun s e => if Region.binds .any e then s ||| (2 ^ e.on ||| acc.getD e.on 0) else s) 0
def masks : List Oper → List Nat → List Nat
  | [], acc => acc
  | o :: r, acc => masks r (acc ++ [maskOf acc o])

theorem masks_length : ∀ (l : List Oper) (acc : List Nat), (masks l acc).length = acc.length + l.length
  | [], acc => by simp [masks]
  | o :: r, acc => by simp [masks, masks_length r]; omega
theorem masks_prefix : ∀ (l : List Oper) (acc : List Nat) (j : Nat), j < acc.length → (masks l acc)[j]? = acc[j]?
  | [], acc, j, _ => rfl
  | o :: r, acc, j, h => by
    rw [masks, masks_prefix r _ j (by simp; omega), List.getElem?_append_left h]
/-- Mask j is made of the masks before it. -/
theorem masks_at : ∀ (l : List Oper) (acc : List Nat) (j : Nat) (o : Oper), l[j]? = some o →
    ∃ pre : List Nat, pre.length = acc.length + j ∧ (masks l acc)[acc.length + j]? = some (maskOf pre o) ∧ ∀ k, k < acc.length + j → pre[k]? = (masks l acc)[k]?
  | [], acc, j, o, h => by simp at h
  | o' :: r, acc, 0, o, h => by
    simp at h; subst h
    refine ⟨acc, rfl, ?_, fun k hk => ?_⟩
    · rw [masks, masks_prefix r _ _ (by simp)]; simp
    · rw [masks_prefix _ _ _ (by omega)]
  | o' :: r, acc, j + 1, o, h => by
    obtain ⟨pre, h1, h2, h3⟩ := masks_at r (acc ++ [maskOf acc o']) j o (by simpa using h)
    refine ⟨pre, by rw [h1]; simp; omega, ?_, fun k hk => ?_⟩
    · rw [masks]; rw [← h2]; congr 1; simp; omega
    · rw [masks]; exact h3 k (by simp; omega)

theorem foldl_bits (acc : List Nat) (i : Nat) : ∀ (l : List Edge) (s : Nat), (l.foldl (fun s e => if Region.binds .any e then s ||| (2 ^ e.on ||| acc.getD e.on 0) else s) s).testBit i = true →
    s.testBit i = true ∨ ∃ e ∈ l, Region.binds .any e = true ∧ (i = e.on ∨ (acc.getD e.on 0).testBit i = true)
  | [], s, h => .inl h
  | e :: r, s, h => by
    simp only [List.foldl_cons] at h
    rcases foldl_bits acc i r _ h with h1 | ⟨e', h1, h2⟩
    · by_cases hb : Region.binds .any e = true
      · rw [if_pos hb] at h1
        simp only [Nat.testBit_or, Bool.or_eq_true] at h1
        rcases h1 with h1 | h1 | h1
        · exact .inl h1
        · refine .inr ⟨e, by simp, hb, .inl ?_⟩
          rw [Nat.testBit_two_pow] at h1
          simpa using (of_decide_eq_true h1).symm
        · exact .inr ⟨e, by simp, hb, .inr h1⟩
      · rw [if_neg hb] at h1; exact .inl h1
    · exact .inr ⟨e', by simp [h1], h2⟩

/-- Listed operations: with each, all that it waits for. -/
def Closed (ops : Array Oper) (L : Nat → Prop) : Prop := ∀ (j : Nat) (o : Oper), L j → ops[j]? = some o → ∀ e ∈ o.after.toList, Region.binds .any e = true → L e.on
def Waits (ops : Array Oper) (L : Nat → Prop) (j : Nat) : Prop := ∀ (o : Oper), ops[j]? = some o → ∀ e ∈ o.after.toList, Region.binds .any e = true → L e.on

theorem mask_listed {ops : Array Oper} {L : Nat → Prop} (hL : Closed ops L) : ∀ (j : Nat), Waits ops L j → ∀ i b, (masks ops.toList [])[j]? = some b → b.testBit i = true → L i := by
  intro j
  induction j using Nat.strongRecOn with
  | _ j ih =>
    intro hw i b hb hi
    have hj : j < ops.toList.length := by have := getElem?_lt hb; rw [masks_length] at this; simpa using this
    obtain ⟨pre, h1, h2, h3⟩ := masks_at ops.toList [] j ops.toList[j] (List.getElem?_eq_getElem hj)
    simp only [List.length_nil, Nat.zero_add] at h1 h2 h3
    rw [hb] at h2
    cases h2
    unfold maskOf at hi
    rcases foldl_bits pre i _ 0 hi with h | ⟨e, he, hbd, h⟩
    · simp at h
    · have ho : ops[j]? = some ops.toList[j] := by simp [Array.getElem?_eq_getElem (by simpa using hj)]
      have hon := hw _ ho e he hbd
      rcases h with h | h
      · rw [h]; exact hon
      · have hlt : e.on < pre.length := by
          rcases Nat.lt_or_ge e.on pre.length with h4 | h4
          · exact h4
          · rw [List.getD_eq_getElem?_getD, List.getElem?_eq_none h4] at h; simp at h
        rw [List.getD_eq_getElem?_getD, List.getElem?_eq_getElem hlt] at h
        have h5 := h3 e.on (by omega)
        rw [List.getElem?_eq_getElem hlt] at h5
        exact ih e.on (by omega) (fun o ho' e' he' hb' => hL e.on o hon ho' e' he' hb') i _ h5.symm h

def beforeB (B : List Nat) (i j : Nat) : Bool := (B.getD j 0).testBit i

/-- Each slot is written once and read behind its writer; what stands behind a write waits for it. -/
def drawB (ops : Array Oper) (ns : List Nat) (l : List Ins) : Bool :=
  let B := masks ops.toList []
  let n := l.length
  let L := ns.zip l
  (n == ops.size) && (ns.length == n) && ((List.range n).all fun i => ns.contains i) &&
  ((List.range n).all fun i => ((ops.getD i default).after.toList.all fun e => !Region.binds .any e || decide (e.on < i))) &&
  (L.zipIdx.all fun x => L.zipIdx.all fun y =>
    (match x.1.2.d with
      | none => true
      | some d => (x.2 == y.2 || y.1.2.d != some d) && (!y.1.2.slots.contains d || (beforeB B x.1.1 y.1.1 && decide (x.2 < y.2)))) &&
    (x.1.2.j.quiet || decide (y.2 ≤ x.2) || beforeB B x.1.1 y.1.1) && (x.2 == y.2 || x.1.1 != y.1.1))

end Go.Ab
