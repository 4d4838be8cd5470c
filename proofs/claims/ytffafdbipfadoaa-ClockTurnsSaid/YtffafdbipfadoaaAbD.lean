/-
  A call; one operation of a region; a region in the order of its text.
-/
import Derived.Test.YtffafdbipfadoaaAbC
import Derived.Conc.MuLone
set_option linter.all false
namespace Go.Ab

inductive J where
  | p (i : I)
  | e (i : E)
  | q (f : Od) (args : List Od)

/-- One operation: where it writes, under which guard, what it does. -/
structure Ins where
  d : Option Nat
  g : Option (Nat × Bool)
  j : J

inductive XE where
  | normal
  | exit (id : Nat)
  | goto (l : Nat)
  | ret
  | panic (x : SV)

inductive Out where
  | ret (r : SV)
  | pan (x : SV)

/-- What a call of function f comes to: what it hands back (or panics with), and the objects behind it. -/
def Ok (P : Program) (f : FuncId) (args : List SV) (H : List AO) (out : Out) (H' : List AO) : Prop :=
  (∀ (vs : Array Value) (w : World), (callFunc f vs).run P w = .ok (.enter f vs) w) ∧
  ∀ (S : St) (vs : List Value), S.H = H → Sim S → VRs S args vs →
    Calls P f vs.toArray S.w fun e w' => ∃ (v : Value) (ρ' : Nat → Option Nat), Ext S.H.length S ⟨ρ', H', w'⟩ ∧ Sim ⟨ρ', H', w'⟩ ∧
      match out with
      | .ret r => e = .returned v ∧ VR ⟨ρ', H', w'⟩ r v
      | .pan x => e = .panicked [{ v := v, recovered := false }] ∧ VR ⟨ρ', H', w'⟩ x v

/-- A call of a function value. -/
def OkC (P : Program) (f : SV) (args : List SV) (H : List AO) (out : Out) (H' : List AO) : Prop :=
  f.vd = true ∧ match f.ug with
  | .fn (.func k) first cap => Ok P k (first ++ args ++ cap) H out H'
  | _ => False

/-- May an operation under this guard run? -/
def SV.on (want : Bool) : SV → Bool
  | .val (.bool b) => b == want
  | .gd b x => b && x.on want
  | _ => false
def SV.bish : SV → Bool
  | .val (.bool _) => true
  | .gd _ x => x.bish
  | _ => false

def xj (P : Program) (o : Ins) (env : Env) (H : List AO) (K : XE → Env → List AO → Prop) : Prop :=
  match o.j with
  | .p i => (pv i env.ev H).1 ∧ K .normal (env.put o.d (pv i env.ev H).2) H
  | .e (.call f args) => ∃ out H', OkC P (env.ev f) (args.map env.ev) H out H' ∧
      match out with
      | .ret r => K .normal (env.put o.d r) H'
      | .pan x => K (.panic x) env H'
  | .e i => xe i env.ev H fun v H' => K .normal (env.put o.d v) H'
  | .q f args => ∃ r, OkC P (env.ev f) (args.map env.ev) H (.ret r) H ∧ K .normal (env.put o.d r) H

def xo (P : Program) (o : Ins) (env : Env) (H : List AO) (K : XE → Env → List AO → Prop) : Prop :=
  match o.g with
  | none => xj P o env H K
  | some (s, want) =>
    (env.get s).bish = true ∧
    match o.j with
    | .p i => ((env.get s).on want = true → (pv i env.ev H).1) ∧ K .normal (env.put o.d (.gd ((env.get s).on want) (pv i env.ev H).2)) H
    | .q f args => ∃ r, ((env.get s).on want = true → OkC P (env.ev f) (args.map env.ev) H (.ret r) H) ∧ K .normal (env.put o.d (.gd ((env.get s).on want) r)) H
    | .e _ => ((env.get s).on want = true → xj P o env H K) ∧ ((env.get s).on want = false → K .normal (env.put o.d (.val undef)) H)

def xops (P : Program) : List Ins → Env → List AO → (XE → Env → List AO → Prop) → Prop
  | [], env, H, K => K .normal env H
  | o :: r, env, H, K => xo P o env H fun x env H =>
    match x with
    | .normal => xops P r env H K
    | x => K x env H

def ER (S : St) : XE → Exit → Prop
  | .normal, .normal => True
  | .exit i, .exit j => i = j
  | .goto i, .goto j => i = j
  | .ret, .ret => True
  | .panic x, .panic ch => ∃ v, ch = [{ v := v, recovered := false }] ∧ VR S x v
  | _, _ => False

/-- The state that a piece of code leaves, told of the abstract one. -/
def Post (S : St) (N : Nat) (K : XE → Env → List AO → Prop) : Exit → Act → World → Prop := fun e a w =>
  ∃ x env ρ H, ER ⟨ρ, H, w⟩ x e ∧ Ext S.H.length S ⟨ρ, H, w⟩ ∧ Sim ⟨ρ, H, w⟩ ∧ EnvR ⟨ρ, H, w⟩ env a.tmps ∧ a.tmps.size = N ∧ a.defers = [] ∧ K x env H

def chkJ (P : Program) (op : Op) (j : J) : Bool :=
  match j with
  | .p i => chkI P op i
  | .e i => chkE P op i
  | .q f args => chkE P op (.call f args)

def chkIns (P : Program) (N : Nat) (ops : Array Oper) (o : Oper) (o' : Ins) : Bool :=
  o.dst == o'.d && (match o.dst with | some d => decide (d < N) | none => true) &&
  (match o.guard, o'.g with
   | none, none => true
   | some (j, want), some (s, want') => want == want' && ((ops[j]?).bind (·.dst) == some s)
   | _, _ => false) && chkJ P o.op o'.j

section
variable {P : Program} {S : St} {env : Env} {a : Act} {N : Nat}

def boolOf : Value → Option Bool
  | .bool b => some b
  | _ => none
theorem on_spec {x : SV} {v : Value} {want : Bool} (h : VR S x v) (hb : x.bish = true) : (boolOf v == some want) = x.on want := by
  induction h with
  | val v => cases v <;> simp_all [SV.bish, SV.on, boolOf]
  | gd b x v h0 h ih =>
    simp only [SV.bish] at hb
    simp only [SV.on]
    cases b with
    | true => simpa using ih rfl hb
    | false => rw [h0 rfl]; simp [undef, boolOf]
  | _ => simp [SV.bish] at hb

theorem yielded_spec {ops : Array Oper} {j s : Nat} (hj : (ops[j]?).bind (·.dst) = some s) (tmps : Array Value) :
    yielded ops tmps j = boolOf (tmps.getD s undef) := by
  unfold yielded
  rw [hj]
  simp only [Option.bind_some, Array.getD_eq_getD_getElem?]
  cases h : tmps[s]? with
  | none => simp [undef, boolOf]
  | some v => simp only [Option.getD_some]; cases v <;> rfl

/-- One step, as the lists of operations ask it. -/
def StepOf (P : Program) (ops : Array Oper) (o : Oper) (a : Act) (w : World) (next : Act → World → Prop) (Q : Exit → Act → World → Prop) : Prop :=
  if Region.wanted o (yielded ops a.tmps) then o.wp P a w next Q else next (a.put o.dst undef) w

theorem okC_wp (hS : Sim S) (he : EnvR S env a.tmps) {o : Oper} {f : Od} {args : List Od} (hc : chkE P o.op (.call f args) = true) {out : Out} {H' : List AO}
    (hok : OkC P (env.ev f) (args.map env.ev) S.H out H') {next : Act → World → Prop} {Q : Exit → Act → World → Prop}
    (h1 : ∀ v ρ' w', Ext S.H.length S ⟨ρ', H', w'⟩ → Sim ⟨ρ', H', w'⟩ →
      (match out with
       | .ret r => VR ⟨ρ', H', w'⟩ r v → next (a.put o.dst v) w'
       | .pan x => VR ⟨ρ', H', w'⟩ x v → Q (.panic [{ v := v, recovered := false }]) a w')) : o.wp P a S.w next Q := by
  generalize hop : o.op = op at hc
  simp only [chkE] at hc
  split at hc
  · rename_i f' as ts
    simp only [Bool.and_eq_true] at hc
    have hf := chkOd_spec hc.1 he
    have has := chkOds_spec hc.2 he
    obtain ⟨hvd, hok⟩ := hok
    have hf' := hf.ug hvd
    split at hok
    · rename_i k first cap hug
      rw [hug] at hf'
      obtain ⟨us, vs, hv, hus, hvs⟩ := hf'.fn_inv
      obtain ⟨hent, hcall⟩ := hok
      have hcalls := hcall S (us ++ as.toList.map a.eval ++ vs) rfl hS ((hus.append has).append hvs)
      have hrun : (execOp a.eval o).run P S.w = .ok (.enter k (us ++ as.toList.map a.eval ++ vs).toArray) S.w := by
        have e1 : us.toArray ++ as.map a.eval ++ vs.toArray = (us ++ as.toList.map a.eval ++ vs).toArray := by apply Array.ext'; simp
        simp only [execOp, hop, resolve, hv, Deferred.ofValue, Sem.run_bind, Sem.run_pure, Result.andThen_ok, invoke]
        rw [e1, hent]
      unfold Oper.wp
      rw [hrun, Oper.upon_enter]
      refine hcalls.mono ?_
      rintro e w' ⟨v, ρ', hext, hsim, hout⟩
      cases out with
      | ret r => obtain ⟨rfl, hvr⟩ := hout; exact h1 v ρ' w' hext hsim hvr
      | pan x => obtain ⟨rfl, hvr⟩ := hout; exact h1 v ρ' w' hext hsim hvr
    · exact hok.elim
  · cases hc

theorem put_size (a : Act) (d : Option Nat) (v : Value) : (a.put d v).tmps.size = a.tmps.size := by cases d <;> simp [Act.put]
theorem put_defers (a : Act) (d : Option Nat) (v : Value) : (a.put d v).defers = a.defers := by cases d <;> rfl

theorem xj_sound (hS : Sim S) (he : EnvR S env a.tmps) (hN : a.tmps.size = N) (hd : a.defers = []) {o : Oper} {o' : Ins} (hdst : o.dst = o'.d) (hlt : ∀ t, o.dst = some t → t < N) (hc : chkJ P o.op o'.j = true)
    {K : XE → Env → List AO → Prop} (h : xj P o' env S.H K) {next : Act → World → Prop} {Q : Exit → Act → World → Prop}
    (hnext : ∀ a' w', Post S N K .normal a' w' → next a' w') (hQ : ∀ ch a' w', Post S N K (.panic ch) a' w' → Q (.panic ch) a' w') : o.wp P a S.w next Q := by
  have hlt' : ∀ t, o.dst = some t → t < a.tmps.size := by rw [hN]; exact hlt
  have fin : ∀ (v : Value) (s : SV) (ρ' : Nat → Option Nat) (H' : List AO) (w' : World), Ext S.H.length S ⟨ρ', H', w'⟩ → Sim ⟨ρ', H', w'⟩ → VR ⟨ρ', H', w'⟩ s v → K .normal (env.put o'.d s) H' → next (a.put o.dst v) w' := by
    intro v s ρ' H' w' h1 h2 h3 h4
    refine hnext _ _ ⟨.normal, env.put o'.d s, ρ', H', trivial, h1, h2, ?_, by rw [put_size, hN], by rw [put_defers, hd], h4⟩
    rw [← hdst]
    exact (he.ext h1).put hlt' h3
  unfold xj at h
  cases hj : o'.j with
  | p i =>
    rw [hj] at h hc
    obtain ⟨h1, h2⟩ := h
    obtain ⟨v, hrun, hv⟩ := pure_sound hS he hc h1
    unfold Oper.wp
    rw [hrun, Oper.upon_value]
    exact fin v _ S.ρ S.H S.w (Ext.refl _ S) hS hv h2
  | q f args =>
    rw [hj] at h hc
    obtain ⟨r, h1, h2⟩ := h
    refine okC_wp hS he hc h1 fun v ρ' w' hext hsim hv => ?_
    exact fin v r ρ' S.H w' hext hsim hv h2
  | e i =>
    rw [hj] at h hc
    by_cases hcall : i.isCall = true
    · cases i <;> simp [E.isCall] at hcall
      rename_i f args
      obtain ⟨out, H', h1, h2⟩ := h
      refine okC_wp hS he hc h1 fun v ρ' w' hext hsim => ?_
      cases out with
      | ret r => exact fun hv => fin v r ρ' H' w' hext hsim hv h2
      | pan x =>
        intro hv
        exact hQ _ _ _ ⟨.panic x, env, ρ', H', ⟨v, rfl, hv⟩, hext, hsim, he.ext hext, hN, hd, h2⟩
    · have hcall' : i.isCall = false := by simpa using hcall
      have h' : xe i env.ev S.H fun v H' => K .normal (env.put o'.d v) H' := by
        cases i <;> first | exact h | simp [E.isCall] at hcall'
      obtain ⟨nv, S', sv, hrun, hext, hsim, hvr, hK⟩ := eff_sound (o := o) hS he hc hcall' h'
      unfold Oper.wp
      rcases hrun with hrun | ⟨hrun, rfl⟩
      · rw [hrun, Oper.upon_value]; exact fin nv sv S'.ρ S'.H S'.w hext hsim hvr hK
      · rw [hrun, Oper.upon_skip]; exact fin _ sv S'.ρ S'.H S'.w hext hsim hvr hK

theorem xo_sound (hS : Sim S) (he : EnvR S env a.tmps) (hN : a.tmps.size = N) (hd : a.defers = []) {ops : Array Oper} {o : Oper} {o' : Ins} (hc : chkIns P N ops o o' = true)
    {K : XE → Env → List AO → Prop} (h : xo P o' env S.H K) {next : Act → World → Prop} {Q : Exit → Act → World → Prop}
    (hnext : ∀ a' w', Post S N K .normal a' w' → next a' w') (hQ : ∀ ch a' w', Post S N K (.panic ch) a' w' → Q (.panic ch) a' w') : StepOf P ops o a S.w next Q := by
  unfold chkIns at hc
  rw [Bool.and_eq_true, Bool.and_eq_true, Bool.and_eq_true, beq_iff_eq] at hc
  obtain ⟨⟨⟨hdst, hlt0⟩, hg⟩, hj⟩ := hc
  have hlt : ∀ t, o.dst = some t → t < N := by intro t ht; rw [ht] at hlt0; simpa using hlt0
  have hlt' : ∀ t, o.dst = some t → t < a.tmps.size := by rw [hN]; exact hlt
  unfold StepOf
  unfold xo at h
  cases hog : o.guard with
  | none =>
    rw [hog] at hg
    cases hog' : o'.g with
    | some x => rw [hog'] at hg; cases hg
    | none =>
      rw [hog'] at h
      rw [if_pos (by simp [Region.wanted, hog])]
      exact xj_sound hS he hN hd hdst hlt hj h hnext hQ
  | some jw =>
    obtain ⟨j, want⟩ := jw
    rw [hog] at hg
    cases hog' : o'.g with
    | none => rw [hog'] at hg; cases hg
    | some sw =>
      obtain ⟨s, want'⟩ := sw
      rw [hog'] at hg h
      simp only [Bool.and_eq_true, beq_iff_eq] at hg
      obtain ⟨rfl, hs⟩ := hg
      simp only at h
      obtain ⟨hb, h⟩ := h
      have hw : Region.wanted o (yielded ops a.tmps) = (env.get s).on want := by
        unfold Region.wanted
        rw [hog]
        simp only
        rw [yielded_spec hs]
        exact on_spec (he.get s) hb
      rw [hw]
      have skip : ∀ (sv : SV), (env.get s).on want = false → VR S sv undef → K .normal (env.put o'.d sv) S.H → next (a.put o.dst undef) S.w := by
        intro sv hoff hv hK
        refine hnext _ _ ⟨.normal, env.put o'.d sv, S.ρ, S.H, trivial, Ext.refl _ S, hS, ?_, by rw [put_size, hN], by rw [put_defers, hd], hK⟩
        rw [← hdst]
        exact he.put hlt' hv
      cases hoj : o'.j with
      | p i =>
        rw [hoj] at h hj
        obtain ⟨h1, h2⟩ := h
        cases hon : (env.get s).on want with
        | true =>
          rw [if_pos rfl]
          obtain ⟨v, hrun, hv⟩ := pure_sound hS he hj (h1 hon)
          unfold Oper.wp
          rw [hrun, Oper.upon_value]
          refine hnext _ _ ⟨.normal, _, S.ρ, S.H, trivial, Ext.refl _ S, hS, ?_, by rw [put_size, hN], by rw [put_defers, hd], h2⟩
          rw [← hdst]
          exact he.put hlt' (.gd _ _ _ (fun e => by rw [hon] at e; cases e) fun _ => hv)
        | false =>
          rw [if_neg (by simp)]
          exact skip _ hon (.gd _ _ _ (fun _ => rfl) fun e => by rw [hon] at e; cases e) h2
      | q f args =>
        rw [hoj] at h hj
        obtain ⟨r, h1, h2⟩ := h
        cases hon : (env.get s).on want with
        | true =>
          rw [if_pos rfl]
          refine okC_wp hS he hj (h1 hon) fun v ρ' w' hext hsim hv => ?_
          refine hnext _ _ ⟨.normal, _, ρ', S.H, trivial, hext, hsim, ?_, by rw [put_size, hN], by rw [put_defers, hd], h2⟩
          rw [← hdst]
          exact (he.ext hext).put hlt' (.gd _ _ _ (fun e => by rw [hon] at e; cases e) fun _ => hv)
        | false =>
          rw [if_neg (by simp)]
          exact skip _ hon (.gd _ _ _ (fun _ => rfl) fun e => by rw [hon] at e; cases e) h2
      | e i =>
        rw [hoj] at h
        simp only at h
        cases hon : (env.get s).on want with
        | true =>
          rw [if_pos rfl]
          exact xj_sound hS he hN hd hdst hlt hj (h.1 hon) hnext hQ
        | false =>
          rw [if_neg (by simp)]
          exact skip _ hon (.val _) (h.2 hon)

theorem Post.trans {S S' : St} {K : XE → Env → List AO → Prop} {e : Exit} {a : Act} {w : World} (he : Ext S.H.length S S') (h : Post S' N K e a w) : Post S N K e a w := by
  obtain ⟨x, env, ρ, H, h1, h2, h3⟩ := h
  exact ⟨x, env, ρ, H, h1, he.trans (h2.mono (he.len (Nat.le_refl _))), h3⟩

def chkL (P : Program) (N : Nat) (ops : Array Oper) : List Oper → List Ins → Bool
  | [], [] => true
  | o :: r, o' :: r' => chkIns P N ops o o' && chkL P N ops r r'
  | _, _ => false

theorem xops_sound {ops : Array Oper} {K : XE → Env → List AO → Prop} : ∀ (l : List Oper) (l' : List Ins) {S : St} {env : Env} {a : Act}, Sim S → EnvR S env a.tmps → a.tmps.size = N → a.defers = [] →
    chkL P N ops l l' = true → xops P l' env S.H K → wpList P ops (Post S N K) l a S.w
  | [], [], S, env, a, hS, he, hN, hd, _, h => ⟨.normal, env, S.ρ, S.H, trivial, Ext.refl _ S, hS, he, hN, hd, h⟩
  | [], _ :: _, S, env, a, hS, he, hN, hd, hc, h => by simp [chkL] at hc
  | _ :: _, [], S, env, a, hS, he, hN, hd, hc, h => by simp [chkL] at hc
  | o :: r, o' :: r', S, env, a, hS, he, hN, hd, hc, h => by
    simp only [chkL, Bool.and_eq_true] at hc
    refine wpList_step fun K' hK' => ?_
    have hstep := xo_sound (Q := Post S N K) hS he hN hd hc.1 (by simpa only [xops] using h) (next := K') (by
      rintro a' w' ⟨x, env', ρ', H', hx, hext, hsim, henv, hN', hd', hk⟩
      apply hK'
      cases x <;> simp only [ER] at hx
      simp only at hk
      have ih := xops_sound r r' (S := ⟨ρ', H', w'⟩) hsim henv hN' hd' hc.2 hk
      -- the post is told of the state behind the step
      have mono : ∀ (l : List Oper) (a : Act) (w : World), wpList P ops (Post ⟨ρ', H', w'⟩ N K) l a w → wpList P ops (Post S N K) l a w := by
        intro l
        induction l with
        | nil => intro a w h; exact Post.trans hext h
        | cons o l ih =>
          intro a w h
          simp only [wpList] at h ⊢
          split
          · rename_i hw
            rw [if_pos hw] at h
            rcases h with h | ⟨h1, h2⟩
            · left
              unfold Oper.wp at h ⊢
              revert h
              generalize (execOp a.eval o).run P w = r
              intro h
              cases r with
              | ok n w1 =>
                cases n <;> first | exact h.elim | exact ih _ _ h | skip
                · refine Calls.mono h ?_
                  intro e w2 h2
                  cases e with
                  | returned v => exact ih _ _ h2
                  | panicked ch => exact Post.trans hext h2
                  | outgrown => obtain ⟨a3, w3, h3⟩ := h2; exact ⟨a3, w3, Post.trans hext h3⟩
                · exact Rows.mono h fun v w2 h2 => ih _ _ h2
              | halt x w1 =>
                cases x <;> first | exact h.elim | exact Post.trans hext h
            · obtain ⟨a3, w3, h3⟩ := h2
              exact .inr ⟨h1, a3, w3, Post.trans hext h3⟩
          · rename_i hw
            rw [if_neg hw] at h
            exact ih _ _ h
      exact mono r a' w' ih) (by
      rintro ch a' w' ⟨x, env', ρ', H', hx, hrest⟩
      cases x <;> simp only [ER] at hx
      exact ⟨.panic _, env', ρ', H', hx, hrest⟩)
    exact hstep

end
end Go.Ab
