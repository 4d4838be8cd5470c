/-
  Code, and a function as a whole.
-/
import Derived.Test.YtffafdbipfadoaaAbD
set_option linter.all false
namespace Go.Ab

inductive IC where
  | skip
  | reg (l : List Ins)
  | drw (ns : List Nat) (l : List Ins)
  | seq (a b : IC)
  | cond (c : Od) (a b : IC)
  | blk (id : Nat) (a : IC)
  | loop (a : IC)
  | exit (id : Nat)
  | ret
  | keep (ks : List Nat) (a : IC)

def Env.keep (e : Env) (ks : List Nat) : Env := ks.map fun k => (k, e.get k)

theorem Env.get_keep (e : Env) (ks : List Nat) (t : Nat) : (e.keep ks).get t = e.get t ∨ (e.keep ks).get t = .any := by
  induction ks with
  | nil => right; rfl
  | cons k r ih =>
    simp only [Env.keep, List.map_cons, Env.get]
    by_cases h : k = t
    · rw [if_pos h, h]; left; rfl
    · rw [if_neg h]; exact ih

theorem EnvR.keep {S : St} {e : Env} {tmps : Array Value} (h : EnvR S e tmps) (ks : List Nat) : EnvR S (e.keep ks) tmps := by
  refine ⟨fun t => ?_⟩
  rcases e.get_keep ks t with h1 | h1 <;> rw [h1]
  · exact h.get t
  · exact .any _

def W (P : Program) (N : Nat) (c : Code) (env : Env) (H : List AO) (K : XE → Env → List AO → Prop) : Prop :=
  ∀ (S : St) (a : Act), S.H = H → Sim S → EnvR S env a.tmps → a.tmps.size = N → a.defers = [] → c.wp P (Post S N K) a S.w

/-- Operation by operation, in an order of our own. -/
def chkP (P : Program) (N : Nat) (ops : Array Oper) (ns : List Nat) (l : List Ins) : Bool :=
  (ns.zip l).all fun x => match ops[x.1]? with | some o => chkIns P N ops o x.2 | none => false
/-- Does it read memory? -/
def J.dep : J → Bool
  | .p (.ld1 _) | .p (.ldn _ _) | .q _ _ => true
  | _ => false
def J.quiet : J → Bool
  | .e _ => false
  | _ => true
/-- What a quiet operation gives, out of what it reads. -/
def quietV (P : Program) (o : Ins) (env : Env) (H : List AO) (v : SV) : Prop :=
  match o.g with
  | none =>
    match o.j with
    | .p i => (pv i env.ev H).1 ∧ v = (pv i env.ev H).2
    | .q f args => OkC P (env.ev f) (args.map env.ev) H (.ret v) H
    | .e _ => False
  | some (s, want) =>
    (env.get s).bish = true ∧
    match o.j with
    | .p i => ((env.get s).on want = true → (pv i env.ev H).1) ∧ v = .gd ((env.get s).on want) (pv i env.ev H).2
    | .q f args => ∃ r, ((env.get s).on want = true → OkC P (env.ev f) (args.map env.ev) H (.ret r) H) ∧ v = .gd ((env.get s).on want) r
    | .e _ => False
def Od.slots : Od → List Nat
  | .t n => [n]
  | .c _ => []
def I.ods : I → List Od
  | .eqf _ _ x y => [x, y]
  | .mov x => [x]
  | .pick c a b => [c, a, b]
  | .bin _ _ x y => [x, y]
  | .neg _ x => [x]
  | .not x => [x]
  | .cvi _ x => [x]
  | .ld1 p => [p]
  | .ldn _ p => [p]
  | .fa _ p => [p]
  | .fld1 _ x => [x]
  | .fldn _ _ x => [x]
  | .ia _ s i => [s, i]
  | .iap _ _ p i => [p, i]
  | .ixs s i => [s, i]
  | .ixa _ _ _ x i => [x, i]
  | .sl _ x lo hi => x :: (lo.toList ++ hi.toList)
  | .sls x lo hi => x :: (lo.toList ++ hi.toList)
  | .ext x _ => [x]
  | .len x => [x]
  | .lens x => [x]
  | .mm _ _ x y => [x, y]
  | .mkf _ a b => a ++ b
  | .mki _ x => [x]
  | .nck x => [x]
  | .bld _ ps => ps.map fun p => p.2.2

def E.ods : E → List Od
  | .alc _ _ => []
  | .box _ x => [x]
  | .bsl _ _ _ _ ps => ps.map fun p => p.2
  | .mks _ _ _ _ l c => [l, c]
  | .app _ _ _ s x => [s, x]
  | .st _ p x => [p, x]
  | .cpy _ d s => [d, s]
  | .call f as => f :: as
  | .nil _ _ x => [x]
  | .sl0 _ _ x => [x]
  | .snil _ _ x => [x]
def J.slots : J → List Nat
  | .p i => i.ods.flatMap Od.slots
  | .q f args => (f :: args).flatMap Od.slots
  | .e i => i.ods.flatMap Od.slots
def Ins.slots (o : Ins) : List Nat := (match o.g with | some (s, _) => [s] | none => []) ++ o.j.slots
def hasD (ts : List Nat) : Option Nat → Bool
  | some d => ts.contains d
  | none => false
/-- What an operation's slots lean on, down through the quiet operations before it (the last first). -/
def needed (ts : List Nat) : List (Ins × SV) → List Nat
  | [] => ts
  | (p, _) :: r => if hasD ts p.d = true then needed (p.slots ++ ts) r else needed ts r
/-- A read that a write does not lean on. -/
def loose (o : Ins) (pend : List (Ins × SV)) (p : Ins) : Bool := p.j.dep && !hasD (needed o.slots pend) p.d
/-- The operations of a region that draws its order, each write told to those reads that may come behind it. -/
def xd (P : Program) (pend : List (Ins × SV)) : List Ins → Env → List AO → (XE → Env → List AO → Prop) → Prop
  | [], env, H, K => K .normal env H
  | o :: r, env, H, K =>
    if o.j.quiet = true then
      match o.g, o.j with
      | none, .p i => (pv i env.ev H).1 ∧ xd P ((o, (pv i env.ev H).2) :: pend) r (env.put o.d (pv i env.ev H).2) H K
      | none, .q f args => ∃ v, OkC P (env.ev f) (args.map env.ev) H (.ret v) H ∧ xd P ((o, v) :: pend) r (env.put o.d v) H K
      | some (s, want), .p i => (env.get s).bish = true ∧ ((env.get s).on want = true → (pv i env.ev H).1) ∧
          xd P ((o, .gd ((env.get s).on want) (pv i env.ev H).2) :: pend) r (env.put o.d (.gd ((env.get s).on want) (pv i env.ev H).2)) H K
      | some (s, want), .q f args => (env.get s).bish = true ∧ ∃ v, ((env.get s).on want = true → OkC P (env.ev f) (args.map env.ev) H (.ret v) H) ∧
          xd P ((o, .gd ((env.get s).on want) v) :: pend) r (env.put o.d (.gd ((env.get s).on want) v)) H K
      | _, _ => False
    else xo P o env H fun x env' H' =>
      match x with
      | .normal => (∀ p ∈ pend, loose o pend p.1 = true → quietV P p.1 env' H' p.2) ∧ xd P pend r env' H' K
      | x => K x [] H'

/-- Which code the instructions stand for; 'D': what is asked of a region that draws its order. -/
def chkC (P : Program) (N : Nat) (D : Array Oper → List Nat → List Ins → Bool) : Code → IC → Bool
  | c, .keep _ a => chkC P N D c a
  | .skip, .skip => true
  | .region _ ops false, .reg l => chkL P N ops ops.toList l
  | .region _ ops true, .drw m l => chkP P N ops m l && D ops m l
  | .seq x y, .seq a b => chkC P N D x a && chkC P N D y b
  | .cond c x y, .cond c' a b => chkOd c c' && chkC P N D x a && chkC P N D y b
  | .block id x, .blk id' a => id == id' && chkC P N D x a
  | .loop x, .loop a => chkC P N D x a
  | .exit id, .exit id' => id == id'
  | .ret, .ret => true
  | _, _ => false

/-- What a region that draws its order is asked for makes its order idle. -/
def DOk (P : Program) (D : Array Oper → List Nat → List Ins → Bool) : Prop :=
  ∀ (N : Nat) (id : Nat) (ops : Array Oper) (m : List Nat) (l : List Ins) (env : Env) (H : List AO) (K : XE → Env → List AO → Prop), chkP P N ops m l = true → D ops m l = true → xd P [] l env H K →
    W P N (.region id ops true) env H K

def LoopIn (P : Program) (c : Code) (Q : Exit → Act → World → Prop) (a : Act) (w : World) : Prop :=
  ∀ (b : Frame) (k : List Item) (cs : List Frame), ∃ e a' w', Q e a' w' ∧ Arrives P (lone (b.at a (.code c :: .inLoop c :: k)) cs w) b k cs e a' w'
theorem loopIn_wp {P : Program} {c : Code} {Q : Exit → Act → World → Prop} {a : Act} {w : World} (h : LoopIn P c Q a w) : (Code.loop c).wp P Q a w := by
  intro b k cs
  obtain ⟨e, a', w', hq, harr⟩ := h b k cs
  exact ⟨e, a', w', hq, .of_steps (.one step_loop) harr⟩
theorem loopIn_round {P : Program} {c : Code} {Q : Exit → Act → World → Prop} {a : Act} {w : World} (h : c.wp P (Exit.then (LoopIn P c Q) Q) a w) : LoopIn P c Q a w := by
  intro b k cs
  obtain ⟨e, a₁, w₁, hq, harr⟩ := h b (.inLoop c :: k) cs
  cases e with
  | normal =>
    obtain ⟨e₂, a₂, w₂, hq₂, harr₂⟩ := hq b k cs
    exact ⟨e₂, a₂, w₂, hq₂, .of_steps (Steps.trans harr (.one step_inLoop)) harr₂⟩
  | exit id => exact ⟨_, a₁, w₁, hq, .pass (x := .inLoop c) rfl (fun _ _ => .inl (by simp)) harr⟩
  | goto l => exact ⟨_, a₁, w₁, hq, .pass (x := .inLoop c) rfl (fun _ _ => .inl (by simp)) harr⟩
  | ret => exact ⟨_, a₁, w₁, hq, .pass (x := .inLoop c) rfl (fun _ _ => .inl (by simp)) harr⟩
  | panic ch => exact ⟨_, a₁, w₁, hq, .pass (x := .inLoop c) rfl (fun _ _ => .inl (by simp)) harr⟩
  | outgrown => exact ⟨_, a₁, w₁, hq, .pass (x := .inLoop c) rfl (fun _ _ => .inl (by simp)) harr⟩
theorem loopIn_mono {P : Program} {c : Code} {Q Q' : Exit → Act → World → Prop} {a : Act} {w : World} (h : LoopIn P c Q a w) (hq : ∀ e a w, Q e a w → Q' e a w) : LoopIn P c Q' a w :=
  fun b k cs => let ⟨e, a', w', q, r⟩ := h b k cs; ⟨e, a', w', hq _ _ _ q, r⟩

/-- The head of a loop with this body. -/
def LI (P : Program) (N : Nat) (D : Array Oper → List Nat → List Ins → Bool) (i : IC) (env : Env) (H : List AO) (K : XE → Env → List AO → Prop) : Prop :=
  ∀ c, chkC P N D c i = true → ∀ (S : St) (a : Act), S.H = H → Sim S → EnvR S env a.tmps → a.tmps.size = N → a.defers = [] → LoopIn P c (Post S N K) a S.w

def WI (P : Program) (N : Nat) (D : Array Oper → List Nat → List Ins → Bool) (i : IC) (env : Env) (H : List AO) (K : XE → Env → List AO → Prop) : Prop :=
  ∀ c, chkC P N D c i = true → W P N c env H K

def X (P : Program) (N : Nat) (D : Array Oper → List Nat → List Ins → Bool) : IC → Env → List AO → (XE → Env → List AO → Prop) → Prop
  | .skip, env, H, K => K .normal env H
  | .reg l, env, H, K => xops P l env H K
  | .drw _ l, env, H, K => xd P [] l env H K
  | .seq a b, env, H, K => X P N D a env H fun x env H =>
    match x with
    | .normal => X P N D b env H K
    | x => K x env H
  | .cond c a b, env, H, K => (env.ev c).isB = true ∧ ((env.ev c).bool = true → X P N D a env H K) ∧ ((env.ev c).bool = false → X P N D b env H K)
  | .blk id a, env, H, K => X P N D a env H fun x env H =>
    match x with
    | .exit i => if i = id then K .normal env H else K (.exit i) env H
    | x => K x env H
  | .loop a, env, H, K => LI P N D a env H K
  | .exit id, env, H, K => K (.exit id) env H
  | .ret, env, H, K => K .ret env H
  | .keep ks a, env, H, K => X P N D a (env.keep ks) H K

section
variable {P : Program} {N : Nat} {D : Array Oper → List Nat → List Ins → Bool}

theorem W.mono {c : Code} {env : Env} {H : List AO} {K K' : XE → Env → List AO → Prop} (h : W P N c env H K) (hk : ∀ x env H, K x env H → K' x env H) : W P N c env H K' := by
  intro S a h1 h2 h3 h4 h5
  refine wp_mono (h S a h1 h2 h3 h4 h5) ?_
  rintro e a w ⟨x, env', ρ, H', g1, g2, g3, g4, g5, g6, g7⟩
  exact ⟨x, env', ρ, H', g1, g2, g3, g4, g5, g6, hk _ _ _ g7⟩

theorem W.keep {c : Code} {env : Env} {H : List AO} {K : XE → Env → List AO → Prop} (ks : List Nat) (h : W P N c (env.keep ks) H K) : W P N c env H K :=
  fun S a h1 h2 h3 h4 h5 => h S a h1 h2 (h3.keep ks) h4 h5
theorem WI.keep {i : IC} {env : Env} {H : List AO} {K : XE → Env → List AO → Prop} (ks : List Nat) (h : WI P N D i (env.keep ks) H K) : WI P N D i env H K :=
  fun c hc => (h c hc).keep ks
theorem WI.mono {i : IC} {env : Env} {H : List AO} {K K' : XE → Env → List AO → Prop} (h : WI P N D i env H K) (hk : ∀ x env H, K x env H → K' x env H) : WI P N D i env H K' :=
  fun c hc => (h c hc).mono hk

theorem W.seq {x y : Code} {env : Env} {H : List AO} {K : XE → Env → List AO → Prop}
    (h : W P N x env H fun e env H => match e with | .normal => W P N y env H K | e => K e env H) : W P N (.seq x y) env H K := by
  intro S a h1 h2 h3 h4 h5
  refine wp_seq (wp_mono (h S a h1 h2 h3 h4 h5) ?_)
  rintro e a' w ⟨xe, env', ρ, H', g1, g2, g3, g4, g5, g6, g7⟩
  cases xe <;> cases e <;> simp only [ER] at g1
  · exact wp_mono (g7 ⟨ρ, H', w⟩ a' rfl g3 g4 g5 g6) fun e a w h => Post.trans g2 h
  · exact ⟨.exit _, env', ρ, H', g1, g2, g3, g4, g5, g6, g7⟩
  · exact ⟨.goto _, env', ρ, H', g1, g2, g3, g4, g5, g6, g7⟩
  · exact ⟨.ret, env', ρ, H', g1, g2, g3, g4, g5, g6, g7⟩
  · exact ⟨.panic _, env', ρ, H', g1, g2, g3, g4, g5, g6, g7⟩

theorem W.cond {c : Operand} {c' : Od} {x y : Code} {env : Env} {H : List AO} {K : XE → Env → List AO → Prop} (hc : chkOd c c' = true) (hb : (env.ev c').isB = true)
    (ht : (env.ev c').bool = true → W P N x env H K) (hf : (env.ev c').bool = false → W P N y env H K) : W P N (.cond c x y) env H K := by
  intro S a h1 h2 h3 h4 h5
  have e1 := (chkOd_spec hc h3).isB hb
  exact wp_cond_split e1 (fun h => ht h S a h1 h2 h3 h4 h5) (fun h => hf h S a h1 h2 h3 h4 h5)

theorem W.block {id : Nat} {x : Code} {env : Env} {H : List AO} {K : XE → Env → List AO → Prop}
    (h : W P N x env H fun e env H => match e with | .exit i => if i = id then K .normal env H else K (.exit i) env H | e => K e env H) : W P N (.block id x) env H K := by
  intro S a h1 h2 h3 h4 h5
  refine wp_block (wp_mono (h S a h1 h2 h3 h4 h5) ?_)
  rintro e a' w ⟨xe, env', ρ, H', g1, g2, g3, g4, g5, g6, g7⟩
  cases xe <;> cases e <;> simp only [ER] at g1
  case exit.exit i j =>
    subst g1
    simp only [Exit.inBlock]
    simp only at g7
    by_cases hij : i = id
    · rw [if_pos hij] at g7 ⊢
      exact ⟨.normal, env', ρ, H', trivial, g2, g3, g4, g5, g6, g7⟩
    · rw [if_neg hij] at g7 ⊢
      exact ⟨.exit i, env', ρ, H', rfl, g2, g3, g4, g5, g6, g7⟩
  · exact ⟨.normal, env', ρ, H', g1, g2, g3, g4, g5, g6, g7⟩
  · exact ⟨.goto _, env', ρ, H', g1, g2, g3, g4, g5, g6, g7⟩
  · exact ⟨.ret, env', ρ, H', g1, g2, g3, g4, g5, g6, g7⟩
  · exact ⟨.panic _, env', ρ, H', g1, g2, g3, g4, g5, g6, g7⟩

theorem X_sound (hD : DOk P D) (i : IC) : ∀ {env : Env} {H : List AO} {K : XE → Env → List AO → Prop} {c : Code}, chkC P N D c i = true → X P N D i env H K → W P N c env H K := by
  induction i with
  | skip =>
    intro env H K c hc h
    cases c <;> simp only [chkC, Bool.false_eq_true] at hc
    intro S a h1 h2 h3 h4 h5
    subst h1
    exact wp_skip ⟨.normal, env, S.ρ, S.H, trivial, Ext.refl _ S, h2, h3, h4, h5, h⟩
  | reg l =>
    intro env H K c hc h
    obtain ⟨id, ops, rfl, hc⟩ : ∃ id ops, c = .region id ops false ∧ chkL P N ops ops.toList l = true := by
      cases c with
      | region id ops dr => cases dr <;> simp [chkC] at hc; exact ⟨id, ops, rfl, hc⟩
      | _ => simp [chkC] at hc
    intro S a h1 h2 h3 h4 h5
    subst h1
    exact wp_region_list (xops_sound _ _ h2 h3 h4 h5 hc h)
  | drw m l =>
    intro env H K c hc h
    obtain ⟨id, ops, rfl, hcc⟩ : ∃ id ops, c = .region id ops true ∧ (chkP P N ops m l = true ∧ D ops m l = true) := by
      cases c with
      | region id ops dr => cases dr <;> simp [chkC] at hc; exact ⟨id, ops, rfl, hc⟩
      | _ => simp [chkC] at hc
    exact hD N id ops m l env H K hcc.1 hcc.2 h
  | seq a b iha ihb =>
    intro env H K c hc h
    cases c <;> simp only [chkC, Bool.false_eq_true, Bool.and_eq_true] at hc
    refine W.seq ((iha hc.1 h).mono ?_)
    intro x env H hk
    cases x <;> first | exact hk | exact ihb hc.2 hk
  | cond c' a b iha ihb =>
    intro env H K c hc h
    cases c <;> simp only [chkC, Bool.false_eq_true, Bool.and_eq_true] at hc
    exact W.cond hc.1.1 h.1 (fun hb => iha hc.1.2 (h.2.1 hb)) (fun hb => ihb hc.2 (h.2.2 hb))
  | blk id a iha =>
    intro env H K c hc h
    cases c <;> simp only [chkC, Bool.false_eq_true, Bool.and_eq_true, beq_iff_eq] at hc
    obtain ⟨rfl, hc⟩ := hc
    exact W.block (iha hc h)
  | loop a iha =>
    intro env H K c hc h
    cases c <;> simp only [chkC, Bool.false_eq_true] at hc
    intro S a h1 h2 h3 h4 h5
    exact loopIn_wp (h _ hc S a h1 h2 h3 h4 h5)
  | exit id =>
    intro env H K c hc h
    cases c <;> simp only [chkC, Bool.false_eq_true, beq_iff_eq] at hc
    subst hc
    intro S a h1 h2 h3 h4 h5
    subst h1
    exact wp_exit ⟨.exit _, env, S.ρ, S.H, rfl, Ext.refl _ S, h2, h3, h4, h5, h⟩
  | ret =>
    intro env H K c hc h
    cases c <;> simp only [chkC, Bool.false_eq_true] at hc
    intro S a h1 h2 h3 h4 h5
    subst h1
    exact wp_ret ⟨.ret, env, S.ρ, S.H, trivial, Ext.refl _ S, h2, h3, h4, h5, h⟩
  | keep ks a iha =>
    intro env H K c hc h
    exact (iha (by simpa only [chkC] using hc) h).keep ks

/-- At a loop's head: one round, and again at the head. -/
theorem LI.round (hD : DOk P D) {i : IC} {env : Env} {H : List AO} {K : XE → Env → List AO → Prop}
    (h : X P N D i env H fun x env H => match x with | .normal => LI P N D i env H K | x => K x env H) : LI P N D i env H K := by
  intro c hc S a h1 h2 h3 h4 h5
  refine loopIn_round (wp_mono (X_sound hD i hc h S a h1 h2 h3 h4 h5) ?_)
  rintro e a' w ⟨xe, env', ρ, H', g1, g2, g3, g4, g5, g6, g7⟩
  cases xe <;> cases e <;> simp only [ER] at g1
  · exact loopIn_mono (g7 c hc ⟨ρ, H', w⟩ a' rfl g3 g4 g5 g6) fun e a w h => Post.trans g2 h
  · exact ⟨.exit _, env', ρ, H', g1, g2, g3, g4, g5, g6, g7⟩
  · exact ⟨.goto _, env', ρ, H', g1, g2, g3, g4, g5, g6, g7⟩
  · exact ⟨.ret, env', ρ, H', g1, g2, g3, g4, g5, g6, g7⟩
  · exact ⟨.panic _, env', ρ, H', g1, g2, g3, g4, g5, g6, g7⟩
theorem LI.keep {i : IC} {env : Env} {H : List AO} {K : XE → Env → List AO → Prop} (ks : List Nat) (h : LI P N D i (env.keep ks) H K) : LI P N D i env H K :=
  fun c hc S a h1 h2 h3 h4 h5 => h c hc S a h1 h2 (h3.keep ks) h4 h5

end
end Go.Ab
