/-
  Steps of the proof: contracts of functions and plain facts that the statement rests on.
-/
import Derived.Test.YtjbhokoihamhiaaDoorCore3
import Derived.Below
import Derived.ChangeArms
import Derived.DataReads
import Derived.WideShapes
import Derived.RowKit
import Derived.WalkKit
import Derived.ProofKit
import Derived.OpenShut
import Derived.ShutString
import Derived.ChangeOld
import Derived.Carry
import Derived.KernelRfl
set_option linter.all false
/- AbL -/
namespace Go.Ab
variable [GlobEnv]

/-- A mark: to be reckoned. -/
def Ev {α : Type} (v : α) : α := v
@[simp] theorem Ev_eq {α : Type} (v : α) : Ev v = v := Eq.trans rfl rfl
theorem Ev_to {α : Type} {v w : α} (h : Ev v = w) : v = w := h
/-- Go on with a value (the rewriter reckons the value first). -/
def Kn (K : XE → Env → List AO → Prop) (x : XE) (env : Env) (d : Option Nat) (v : SV) (H : List AO) : Prop := K x (env.put d v) H
@[congr] theorem Kn_congr {K : XE → Env → List AO → Prop} {x : XE} {env : Env} {d : Option Nat} {v v' : SV} {H H' : List AO} (h1 : Ev v = v') (h2 : Ev H = H') : Kn K x env d v H = Kn K x env d v' H' := by rw [Ev_to h1, Ev_to h2]
@[simp] theorem Kn_some (K : XE → Env → List AO → Prop) (x : XE) (env : Env) (d : Nat) (v : SV) (H : List AO) : Kn K x env (some d) v H = K x ((d, v) :: env) H := rfl
@[simp] theorem Kn_none (K : XE → Env → List AO → Prop) (x : XE) (env : Env) (v : SV) (H : List AO) : Kn K x env none v H = K x env H := rfl
def Ke (K : SV → List AO → Prop) (v : SV) (H : List AO) : Prop := K v H
@[congr] theorem Ke_congr {K : SV → List AO → Prop} {v v' : SV} {H H' : List AO} (h1 : Ev v = v') (h2 : Ev H = H') : Ke K v H = Ke K v' H' := by rw [Ev_to h1, Ev_to h2]
@[simp] theorem Ke_go (K : SV → List AO → Prop) (v : SV) (H : List AO) : Ke K v H = K v H := rfl

section
variable {P : Program} {N : Nat} {D : Array Oper → List Nat → List Ins → Bool}

/-! Code -/
@[simp ↓] theorem X_skip (env : Env) (H : List AO) (K : XE → Env → List AO → Prop) : X P N D .skip env H K = K .normal env H := rfl
@[simp ↓] theorem X_reg (l : List Ins) (env : Env) (H : List AO) (K : XE → Env → List AO → Prop) : X P N D (.reg l) env H K = xops P l env H K := rfl
@[simp ↓] theorem X_drw (m : List Nat) (l : List Ins) (env : Env) (H : List AO) (K : XE → Env → List AO → Prop) : X P N D (.drw m l) env H K = xd P [] l env H fun x e H' =>
    match x with
    | .normal => K .normal e H'
    | x => K x (offE l env) H' := rfl
@[simp] theorem offE_nil (e : Env) : offE [] e = e := rfl
@[simp] theorem offE_cons (i : Ins) (r : List Ins) (e : Env) : offE (i :: r) e = (offE r e).put i.d .any := rfl
@[simp ↓] theorem X_drt (n0 : Nat) (m : List Nat) (l tl : List Ins) (env : Env) (H : List AO) (K : XE → Env → List AO → Prop) : X P N D (.drt n0 m l tl) env H K = xd P [] l env H fun x env H =>
    match x with
    | .normal => xops P tl env H K
    | x => K x env H := rfl
@[simp ↓] theorem X_dre (os : List (List Nat)) (l : List Ins) (env : Env) (H : List AO) (K : XE → Env → List AO → Prop) : X P N D (.dre os l) env H K = xre P l os env H fun x e H => K x (e.keep (dreK l env)) H := rfl
@[simp ↓] theorem xre_nil (l : List Ins) (env : Env) (H : List AO) (K : XE → Env → List AO → Prop) : xre P l [] env H K = True := rfl
@[simp ↓] theorem xre_cons (l : List Ins) (o : List Nat) (os : List (List Nat)) (env : Env) (H : List AO) (K : XE → Env → List AO → Prop) : xre P l (o :: os) env H K = (xops P (pickI l o) env H K ∧ xre P l os env H K) := rfl
@[simp ↓] theorem pickI_nil (l : List Ins) : pickI l [] = [] := rfl
@[simp ↓] theorem pickI_cons (l : List Ins) (i : Nat) (o : List Nat) : pickI l (i :: o) = (match l[i]? with | some x => x :: pickI l o | none => pickI l o) := by
  unfold pickI; rw [List.filterMap_cons]; cases l[i]? <;> rfl
@[simp ↓] theorem X_seq (a b : IC) (env : Env) (H : List AO) (K : XE → Env → List AO → Prop) : X P N D (.seq a b) env H K = X P N D a env H fun x env H =>
    match x with
    | .normal => X P N D b env H K
    | x => K x env H := rfl
@[simp ↓] theorem X_blk (id : Nat) (a : IC) (env : Env) (H : List AO) (K : XE → Env → List AO → Prop) : X P N D (.blk id a) env H K = X P N D a env H fun x env H =>
    match x with
    | .exit i => if i = id then K .normal env H else K (.exit i) env H
    | x => K x env H := rfl
@[simp ↓] theorem X_scp (a : IC) (env : Env) (H : List AO) (K : XE → Env → List AO → Prop) : X P N D (.scp a) env H K = X P N D a env H fun x env H =>
    match x with
    | .goto _ => False
    | x => K x env H := rfl
@[simp ↓] theorem X_lab (env : Env) (H : List AO) (K : XE → Env → List AO → Prop) : X P N D .lab env H K = K .normal env H := rfl
@[simp ↓] theorem X_exit (id : Nat) (env : Env) (H : List AO) (K : XE → Env → List AO → Prop) : X P N D (.exit id) env H K = K (.exit id) env H := rfl
@[simp ↓] theorem X_ret (env : Env) (H : List AO) (K : XE → Env → List AO → Prop) : X P N D .ret env H K = K .ret env H := rfl
@[simp ↓] theorem X_keep (ks : List Nat) (a : IC) (env : Env) (H : List AO) (K : XE → Env → List AO → Prop) : X P N D (.keep ks a) env H K = X P N D a (env.keep ks) H K := rfl
def sCond (c : SV) (a b : Prop) : Prop := c.isB = true ∧ if c.bool = true then a else b
@[congr] theorem sCond_congr {c c' : SV} {a b : Prop} (h : Ev c = c') : sCond c a b = sCond c' a b := by rw [Ev_to h]
@[simp] theorem sCond_go (c : SV) (a b : Prop) : sCond c a b = (c.isB = true ∧ if c.bool = true then a else b) := rfl
@[simp ↓] theorem X_cond (c : Od) (a b : IC) (env : Env) (H : List AO) (K : XE → Env → List AO → Prop) : X P N D (.cond c a b) env H K = sCond (env.ev c) (X P N D a env H K) (X P N D b env H K) := by
  apply propext
  simp only [X, sCond]
  cases (env.ev c).bool <;> simp
/-- A loop: from here on by hand. -/
def Lp (P : Program) (N : Nat) (D : Array Oper → List Nat → List Ins → Bool) (i : IC) (env : Env) (H : List AO) (K : XE → Env → List AO → Prop) : Prop := LI P N D i env H K
@[congr] theorem Lp_congr {i : IC} {env env' : Env} {H H' : List AO} {K : XE → Env → List AO → Prop} (h : Ev env = env') (h2 : Ev H = H') : Lp P N D i env H K = Lp P N D i env' H' K := by rw [Ev_to h, Ev_to h2]
@[simp ↓] theorem X_loop (i : IC) (env : Env) (H : List AO) (K : XE → Env → List AO → Prop) : X P N D (.loop i) env H K = Lp P N D i env H K := rfl

/-! Lists of operations -/
@[simp ↓] theorem xops_nil (env : Env) (H : List AO) (K : XE → Env → List AO → Prop) : xops P [] env H K = K .normal env H := rfl
@[simp ↓] theorem xops_cons (o : Ins) (r : List Ins) (env : Env) (H : List AO) (K : XE → Env → List AO → Prop) : xops P (o :: r) env H K = xo P o env H fun x env H =>
    match x with
    | .normal => xops P r env H K
    | x => K x env H := rfl

/-! Calls: from here on by hand -/
def CallTo (P : Program) (f : SV) (args : List SV) (H : List AO) (K : Out → List AO → Prop) : Prop := ∃ Pt : Out → List AO → Prop, OkCP P f args H Pt ∧ ∀ out H', Pt out H' → K out H'
@[congr] theorem CallTo_congr {f f' : SV} {args args' : List SV} {H H' : List AO} {K : Out → List AO → Prop} (h1 : Ev f = f') (h2 : Ev args = args') (h3 : Ev H = H') : CallTo P f args H K = CallTo P f' args' H' K := by rw [Ev_to h1, Ev_to h2, Ev_to h3]
theorem call_of {k : FuncId} {a b args : List SV} {H H' : List AO} {out : Out} {K : Out → List AO → Prop} (h : Ok P k (a ++ args ++ b) H out H') (hk : K out H') : CallTo P (.fn (.func k) a b) args H K :=
  ⟨_, ⟨rfl, h.toP⟩, fun o h' hp => by obtain ⟨rfl, rfl⟩ := hp; exact hk⟩
theorem call_ofP {k : FuncId} {a b args : List SV} {H : List AO} {Pt : Out → List AO → Prop} {K : Out → List AO → Prop} (h : OkP P k (a ++ args ++ b) H Pt) (hk : ∀ out H', Pt out H' → K out H') : CallTo P (.fn (.func k) a b) args H K :=
  ⟨_, ⟨rfl, h⟩, hk⟩
theorem call_goP {k : FuncId} {args : List SV} {H : List AO} {Pt : Out → List AO → Prop} {K : Out → List AO → Prop} (h : OkP P k args H Pt) (hk : ∀ out H', Pt out H' → K out H') : CallTo P (.fn (.func k) [] []) args H K :=
  call_ofP (by simpa using h) hk
theorem call_cP {f : SV} {args : List SV} {H : List AO} {Pt : Out → List AO → Prop} {K : Out → List AO → Prop} (h : OkCP P f args H Pt) (hk : ∀ out H', Pt out H' → K out H') : CallTo P f args H K := ⟨_, h, hk⟩
theorem okCP_of {k : FuncId} {a b args : List SV} {H : List AO} {Pt : Out → List AO → Prop} (h : OkP P k (a ++ args ++ b) H Pt) : OkCP P (.fn (.func k) a b) args H Pt := ⟨rfl, h⟩
theorem call_go {k : FuncId} {args : List SV} {H H' : List AO} {out : Out} {K : Out → List AO → Prop} (h : Ok P k args H out H') (hk : K out H') : CallTo P (.fn (.func k) [] []) args H K :=
  call_of (by simpa using h) hk
def CallQ (P : Program) (on : Bool) (f : SV) (args : List SV) (H : List AO) (K : SV → Prop) : Prop := ∃ r, (on = true → OkC P f args H (.ret r) H) ∧ K r
@[congr] theorem CallQ_congr {on on' : Bool} {f f' : SV} {args args' : List SV} {H H' : List AO} {K : SV → Prop} (h0 : Ev on = on') (h1 : Ev f = f') (h2 : Ev args = args') (h3 : Ev H = H') : CallQ P on f args H K = CallQ P on' f' args' H' K := by rw [Ev_to h0, Ev_to h1, Ev_to h2, Ev_to h3]
theorem callq_of {on : Bool} {k : FuncId} {a b args : List SV} {H : List AO} {r : SV} {K : SV → Prop} (h : on = true → Ok P k (a ++ args ++ b) H (.ret r) H) (hk : K r) : CallQ P on (.fn (.func k) a b) args H K :=
  ⟨r, fun ho => ⟨rfl, h ho⟩, hk⟩
theorem callq_go {on : Bool} {k : FuncId} {args : List SV} {H : List AO} {r : SV} {K : SV → Prop} (h : on = true → Ok P k args H (.ret r) H) (hk : K r) : CallQ P on (.fn (.func k) [] []) args H K :=
  callq_of (by simpa using h) hk
theorem callq_off (f : SV) (args : List SV) (H : List AO) (K : SV → Prop) (h : K .any) : CallQ P false f args H K := ⟨.any, fun h => by simp at h, h⟩
theorem okC_go {k : FuncId} {args : List SV} {H H' : List AO} {out : Out} (h : Ok P k args H out H') : OkC P (.fn (.func k) [] []) args H out H' := ⟨rfl, by show Ok P k ([] ++ args ++ []) H out H'; simpa using h⟩

@[simp ↓] theorem xo_p (d : Option Nat) (i : I) (env : Env) (H : List AO) (K : XE → Env → List AO → Prop) : xo P ⟨d, none, .p i⟩ env H K = ((pv i env.ev H).1 ∧ Kn K .normal env d (pv i env.ev H).2 H) := rfl
@[simp ↓] theorem xo_q (d : Option Nat) (f : Od) (args : List Od) (env : Env) (H : List AO) (K : XE → Env → List AO → Prop) : xo P ⟨d, none, .q f args⟩ env H K = CallQ P true (env.ev f) (args.map env.ev) H fun r => K .normal (env.put d r) H := by
  simp only [xo, xj, CallQ, true_implies]
@[simp ↓] theorem xo_call (d : Option Nat) (f : Od) (args : List Od) (env : Env) (H : List AO) (K : XE → Env → List AO → Prop) : xo P ⟨d, none, .e (.call f args)⟩ env H K = CallTo P (env.ev f) (args.map env.ev) H fun out H' =>
      match out with
      | .ret r => K .normal (env.put d r) H'
      | .pan x => K (.panic x) env H' := rfl
def sOn (c : SV) (want : Bool) (F : Bool → Prop) : Prop := c.bish = true ∧ F (c.on want)
@[congr] theorem sOn_congr {c c' : SV} {want : Bool} {F : Bool → Prop} (h : Ev c = c') : sOn c want F = sOn c' want F := by rw [Ev_to h]
/-- A guard that is reckoned before what hangs on it. -/
def sGo (b : Bool) (F : Bool → Prop) : Prop := F b
@[congr] theorem sGo_congr {b b' : Bool} {F : Bool → Prop} (h : Ev b = b') : sGo b F = sGo b' F := by rw [Ev_to h]
@[simp] theorem sGo_go (b : Bool) (F : Bool → Prop) : sGo b F = F b := rfl
@[simp] theorem sOn_go (c : SV) (want : Bool) (F : Bool → Prop) : sOn c want F = (c.bish = true ∧ sGo (c.on want) F) := rfl
@[simp ↓] theorem xo_gp (d : Option Nat) (s : Nat) (want : Bool) (i : I) (env : Env) (H : List AO) (K : XE → Env → List AO → Prop) : xo P ⟨d, some (s, want), .p i⟩ env H K = sOn (env.get s) want fun b => (b = true → (pv i env.ev H).1) ∧ Kn K .normal env d (.gd b (pv i env.ev H).2) H := rfl
@[simp ↓] theorem xo_gq (d : Option Nat) (s : Nat) (want : Bool) (f : Od) (args : List Od) (env : Env) (H : List AO) (K : XE → Env → List AO → Prop) : xo P ⟨d, some (s, want), .q f args⟩ env H K = sOn (env.get s) want fun b => CallQ P b (env.ev f) (args.map env.ev) H fun r => K .normal (env.put d (.gd b r)) H := rfl
@[simp ↓] theorem xo_ge (d : Option Nat) (s : Nat) (want : Bool) (i : E) (env : Env) (H : List AO) (K : XE → Env → List AO → Prop) : xo P ⟨d, some (s, want), .e i⟩ env H K = sOn (env.get s) want fun b => if b = true then xo P ⟨d, none, .e i⟩ env H K else K .normal (env.put d (.val undef)) H := by
  apply propext
  simp only [xo, sOn, xj]
  cases (env.get s).on want <;> simp

/-! Regions that draw their order -/
def xdn (P : Program) (pend : List (Ins × SV)) (o : Ins) (v : SV) (r : List Ins) (env : Env) (H : List AO) (K : XE → Env → List AO → Prop) : Prop := xd P ((o, v) :: pend) r (env.put o.d v) H K
@[congr] theorem xdn_congr {pend : List (Ins × SV)} {o : Ins} {v v' : SV} {r : List Ins} {env : Env} {H : List AO} {K : XE → Env → List AO → Prop} (h : Ev v = v') : xdn P pend o v r env H K = xdn P pend o v' r env H K := by rw [Ev_to h]

@[simp ↓] theorem xd_nil (pend : List (Ins × SV)) (env : Env) (H : List AO) (K : XE → Env → List AO → Prop) : xd P pend [] env H K = K .normal env H := rfl
@[simp ↓] theorem xd_p (pend : List (Ins × SV)) (d : Option Nat) (i : I) (r : List Ins) (env : Env) (H : List AO) (K : XE → Env → List AO → Prop) : xd P pend (⟨d, none, .p i⟩ :: r) env H K = ((pv i env.ev H).1 ∧ xdn P pend ⟨d, none, .p i⟩ (pv i env.ev H).2 r env H K) := rfl
@[simp ↓] theorem xd_q (pend : List (Ins × SV)) (d : Option Nat) (f : Od) (args : List Od) (r : List Ins) (env : Env) (H : List AO) (K : XE → Env → List AO → Prop) : xd P pend (⟨d, none, .q f args⟩ :: r) env H K = CallQ P true (env.ev f) (args.map env.ev) H fun v => xd P ((⟨d, none, .q f args⟩, v) :: pend) r (env.put d v) H K := by
  simp only [CallQ, true_implies]; rfl
@[simp ↓] theorem xd_gp (pend : List (Ins × SV)) (d : Option Nat) (s : Nat) (want : Bool) (i : I) (r : List Ins) (env : Env) (H : List AO) (K : XE → Env → List AO → Prop) : xd P pend (⟨d, some (s, want), .p i⟩ :: r) env H K = sOn (env.get s) want fun b => (b = true → (pv i env.ev H).1) ∧ xdn P pend ⟨d, some (s, want), .p i⟩ (.gd b (pv i env.ev H).2) r env H K := rfl
@[simp ↓] theorem xd_gq (pend : List (Ins × SV)) (d : Option Nat) (s : Nat) (want : Bool) (f : Od) (args : List Od) (r : List Ins) (env : Env) (H : List AO) (K : XE → Env → List AO → Prop) : xd P pend (⟨d, some (s, want), .q f args⟩ :: r) env H K = sOn (env.get s) want fun b => CallQ P b (env.ev f) (args.map env.ev) H fun v => xd P ((⟨d, some (s, want), .q f args⟩, .gd b v) :: pend) r (env.put d (.gd b v)) H K := rfl
/-- What reads must still give behind a write. -/
def owed (P : Program) (env : Env) (H : List AO) : List (Ins × SV) → Prop
  | [] => True
  | p :: r => quietV P p.1 env H p.2 ∧ owed P env H r
theorem owed_eq (env : Env) (H : List AO) : ∀ l, owed P env H l = ∀ p ∈ l, quietV P p.1 env H p.2
  | [] => by simp [owed]
  | p :: r => by simp only [owed, owed_eq env H r, List.forall_mem_cons]
attribute [simp] loose needed hasD Ins.slots J.slots I.ods E.ods Od.slots
@[simp] theorem owed_nil (env : Env) (H : List AO) : owed P env H [] = True := rfl
@[simp] theorem owed_cons (env : Env) (H : List AO) (o : Ins) (v : SV) (r : List (Ins × SV)) : owed P env H ((o, v) :: r) = (quietV P o env H v ∧ owed P env H r) := rfl
@[simp ↓] theorem xd_e (pend : List (Ins × SV)) (d : Option Nat) (g : Option (Nat × Bool)) (i : E) (r : List Ins) (env : Env) (H : List AO) (K : XE → Env → List AO → Prop) : xd P pend (⟨d, g, .e i⟩ :: r) env H K = xo P ⟨d, g, .e i⟩ env H fun x env' H' =>
      match x with
      | .normal => owed P env' H' (pend.filter fun p => loose ⟨d, g, .e i⟩ pend p.1) ∧ xd P pend r env' H' K
      | x => K x [] H' := by
  rw [xd, if_neg (by simp [J.quiet])]
  congr 1
  funext x env' H'
  cases x <;> try rfl
  simp only [owed_eq, List.mem_filter, and_imp]
@[simp ↓] theorem quietV_p (d : Option Nat) (i : I) (env : Env) (H : List AO) (v : SV) : quietV P ⟨d, none, .p i⟩ env H v = ((pv i env.ev H).1 ∧ v = (pv i env.ev H).2) := rfl
@[simp ↓] theorem quietV_q (d : Option Nat) (f : Od) (args : List Od) (env : Env) (H : List AO) (v : SV) : quietV P ⟨d, none, .q f args⟩ env H v = OkC P (env.ev f) (args.map env.ev) H (.ret v) H := rfl
@[simp ↓] theorem quietV_gp (d : Option Nat) (s : Nat) (want : Bool) (i : I) (env : Env) (H : List AO) (v : SV) : quietV P ⟨d, some (s, want), .p i⟩ env H v = sOn (env.get s) want fun b => (b = true → (pv i env.ev H).1) ∧ v = .gd b (pv i env.ev H).2 := rfl
@[simp] theorem dep_p (i : I) : J.dep (.p i) = (match i with | .ld1 _ | .ldn _ _ | .sla _ _ _ _ _ => true | _ => false) := by cases i <;> rfl
@[simp] theorem xdn_go (pend : List (Ins × SV)) (o : Ins) (v : SV) (r : List Ins) (env : Env) (H : List AO) (K : XE → Env → List AO → Prop) : xdn P pend o v r env H K = xd P ((o, v) :: pend) r (env.put o.d v) H K := rfl

def s_alc (T : TypeId) (z : List SV) (H : List AO) (K : SV → List AO → Prop) : Prop := K (.ptr (.own H.length 0 0 0 0) 0) (H ++ [⟨z, T, 0, true⟩])
@[congr] theorem s_alc_congr {T : TypeId} {z : List SV} {H H' : List AO} {K : SV → List AO → Prop} (h9 : Ev H = H') : s_alc T z H K = s_alc T z H' K := by rw [Ev_to h9]
@[simp ↓] theorem xo_alc (d : Option Nat) (T : TypeId) (z : List SV) (env : Env) (H : List AO) (K : XE → Env → List AO → Prop) : xo P ⟨d, none, .e (.alc T z)⟩ env H K = s_alc T z H fun v H' => K .normal (env.put d v) H' := rfl
@[simp] theorem s_alc_go (T : TypeId) (z : List SV) (H : List AO) (K : SV → List AO → Prop) : s_alc T z H K = (Ke K (.ptr (.own H.length 0 0 0 0) 0) (H ++ [⟨z, T, 0, true⟩])) := rfl
def s_box (T : TypeId) (x : SV) (H : List AO) (K : SV → List AO → Prop) : Prop := x.vd = true ∧ cellsOk x.ug.flat ∧ K (.ptr (.own H.length 0 0 0 0) 0) (H ++ [⟨x.ug.flat, T, 0, true⟩])
@[congr] theorem s_box_congr {T : TypeId} {x x' : SV} {H H' : List AO} {K : SV → List AO → Prop} (h0 : Ev x = x') (h9 : Ev H = H') : s_box T x H K = s_box T x' H' K := by rw [Ev_to h0, Ev_to h9]
@[simp ↓] theorem xo_box (d : Option Nat) (T : TypeId) (x : Od) (env : Env) (H : List AO) (K : XE → Env → List AO → Prop) : xo P ⟨d, none, .e (.box T x)⟩ env H K = s_box T (env.ev x) H fun v H' => K .normal (env.put d v) H' := rfl
@[simp] theorem s_box_go (T : TypeId) (x : SV) (H : List AO) (K : SV → List AO → Prop) : s_box T x H K = (x.vd = true ∧ cellsOk x.ug.flat ∧ Ke K (.ptr (.own H.length 0 0 0 0) 0) (H ++ [⟨x.ug.flat, T, 0, true⟩])) := rfl
def s_mks (T : TypeId) (sz : Nat) (bytes : Nat) (z : List SV) (len : SV) (cap : SV) (H : List AO) (K : SV → List AO → Prop) : Prop := len.isN = true ∧ cap.isN = true ∧ 0 ≤ len.int ∧ len.int ≤ cap.int ∧ bytes * cap.int ≤ 140737488355328 ∧ cap.int ≤ 140737488355328 ∧ K (.own H.length 0 len.int.toNat sz 0) (H ++ [⟨(List.replicate len.int.toNat z).flatten, T, 0, true⟩])
@[congr] theorem s_mks_congr {T : TypeId} {sz : Nat} {bytes : Nat} {z : List SV} {len len' : SV} {cap cap' : SV} {H H' : List AO} {K : SV → List AO → Prop} (h0 : Ev len = len') (h1 : Ev cap = cap') (h9 : Ev H = H') : s_mks T sz bytes z len cap H K = s_mks T sz bytes z len' cap' H' K := by rw [Ev_to h0, Ev_to h1, Ev_to h9]
@[simp ↓] theorem xo_mks (d : Option Nat) (T : TypeId) (sz : Nat) (bytes : Nat) (z : List SV) (len : Od) (cap : Od) (env : Env) (H : List AO) (K : XE → Env → List AO → Prop) : xo P ⟨d, none, .e (.mks T sz bytes z len cap)⟩ env H K = s_mks T sz bytes z (env.ev len) (env.ev cap) H fun v H' => K .normal (env.put d v) H' := rfl
@[simp] theorem s_mks_go (T : TypeId) (sz : Nat) (bytes : Nat) (z : List SV) (len : SV) (cap : SV) (H : List AO) (K : SV → List AO → Prop) : s_mks T sz bytes z len cap H K = (len.isN = true ∧ cap.isN = true ∧ 0 ≤ len.int ∧ len.int ≤ cap.int ∧ bytes * cap.int ≤ 140737488355328 ∧ cap.int ≤ 140737488355328 ∧ Ke K (.own H.length 0 len.int.toNat sz 0) (H ++ [⟨(List.replicate len.int.toNat z).flatten, T, 0, true⟩])) := rfl
def s_app (T : TypeId) (sz : Nat) (bytes : Nat) (s : SV) (x : SV) (H : List AO) (K : SV → List AO → Prop) : Prop := s.vd = true ∧ x.vd = true ∧ x.ug.isSl = true ∧ x.ug.slen * sz ≤ (x.ug.row H).length ∧ cellsOk (x.ug.els H sz) ∧
      (s.ug.slen + x.ug.slen) * bytes ≤ 140737488355328 ∧ s.ug.slen + x.ug.slen ≤ 140737488355328 ∧
      match s.ug with
      | .own i 0 n sz' ver =>
        sz' = sz ∧ (∃ o, H[i]? = some o ∧ o.live = true ∧ o.ver = ver ∧ o.ty = T ∧ o.cells.length = n * sz) ∧ K (.own i 0 (n + x.ug.slen) sz (ver + 1)) (setObj H i fun o => o.grow (x.ug.els H sz))
      | v => v.isNil = true ∧ K (.own H.length 0 x.ug.slen sz 1) (H ++ [⟨x.ug.els H sz, T, 1, true⟩])
@[congr] theorem s_app_congr {T : TypeId} {sz : Nat} {bytes : Nat} {s s' : SV} {x x' : SV} {H H' : List AO} {K : SV → List AO → Prop} (h0 : Ev s = s') (h1 : Ev x = x') (h9 : Ev H = H') : s_app T sz bytes s x H K = s_app T sz bytes s' x' H' K := by rw [Ev_to h0, Ev_to h1, Ev_to h9]
@[simp ↓] theorem xo_app (d : Option Nat) (T : TypeId) (sz : Nat) (bytes : Nat) (s : Od) (x : Od) (env : Env) (H : List AO) (K : XE → Env → List AO → Prop) : xo P ⟨d, none, .e (.app T sz bytes s x)⟩ env H K = s_app T sz bytes (env.ev s) (env.ev x) H fun v H' => K .normal (env.put d v) H' := rfl
def objIs (H : List AO) (i ver : Nat) (T : TypeId) (m : Nat) : Prop := ∃ o, H[i]? = some o ∧ o.live = true ∧ o.ver = ver ∧ o.ty = T ∧ o.cells.length = m
@[simp] theorem s_app_own (T : TypeId) (sz bytes i n sz' ver : Nat) (x : SV) (H : List AO) (K : SV → List AO → Prop) : s_app T sz bytes (.own i 0 n sz' ver) x H K = (x.vd = true ∧ x.ug.isSl = true ∧ x.ug.slen * sz ≤ (x.ug.row H).length ∧ cellsOk (x.ug.els H sz) ∧
      (n + x.ug.slen) * bytes ≤ 140737488355328 ∧ n + x.ug.slen ≤ 140737488355328 ∧ sz' = sz ∧ objIs H i ver T (n * sz) ∧ Ke K (.own i 0 (n + x.ug.slen) sz (ver + 1)) (setObj H i fun o => o.grow (x.ug.els H sz))) := by
  simp [s_app, SV.vd, SV.ug, SV.slen, objIs, Ke]
@[simp] theorem s_app_gd (T : TypeId) (sz bytes : Nat) (s x : SV) (H : List AO) (K : SV → List AO → Prop) : s_app T sz bytes (.gd true s) x H K = s_app T sz bytes s x H K := by simp [s_app, SV.vd, SV.ug]
def s_st (n : Nat) (p : SV) (x : SV) (H : List AO) (K : SV → List AO → Prop) : Prop := p.vd = true ∧ x.vd = true ∧ cellsOk x.ug.flat ∧ x.ug.flat.length = n ∧ 0 < n ∧
      match p.ug with
      | .ptr (.own i off _ _ ver) k => off + k + n ≤ (objCells H i ver).length ∧ K (.val undef) (setObj H i fun o => o.put (off + k) x.ug.flat)
      | _ => False
@[congr] theorem s_st_congr {n : Nat} {p p' : SV} {x x' : SV} {H H' : List AO} {K : SV → List AO → Prop} (h0 : Ev p = p') (h1 : Ev x = x') (h9 : Ev H = H') : s_st n p x H K = s_st n p' x' H' K := by rw [Ev_to h0, Ev_to h1, Ev_to h9]
@[simp ↓] theorem xo_st (d : Option Nat) (n : Nat) (p : Od) (x : Od) (env : Env) (H : List AO) (K : XE → Env → List AO → Prop) : xo P ⟨d, none, .e (.st n p x)⟩ env H K = s_st n (env.ev p) (env.ev x) H fun v H' => K .normal (env.put d v) H' := rfl
@[simp] theorem s_st_ptr (n i off len sz ver k : Nat) (x : SV) (H : List AO) (K : SV → List AO → Prop) : s_st n (.ptr (.own i off len sz ver) k) x H K = (x.vd = true ∧ cellsOk x.ug.flat ∧ x.ug.flat.length = n ∧ 0 < n ∧
      off + k + n ≤ (objCells H i ver).length ∧ Ke K (.val undef) (setObj H i fun o => o.put (off + k) x.ug.flat)) := by
  simp [s_st, SV.vd, SV.ug, Ke]
@[simp] theorem s_st_gd (n : Nat) (p x : SV) (H : List AO) (K : SV → List AO → Prop) : s_st n (.gd true p) x H K = s_st n p x H K := by simp [s_st, SV.vd, SV.ug]
def s_pan (x : SV) (K : SV → Prop) : Prop := x.vd = true ∧ match x.ug with
    | .ifc t y => K (.ifc t y)
    | _ => False
@[congr] theorem s_pan_congr {x x' : SV} {K : SV → Prop} (h : Ev x = x') : s_pan x K = s_pan x' K := by rw [Ev_to h]
@[simp] theorem s_pan_ifc (t : TypeId) (y : SV) (K : SV → Prop) : s_pan (.ifc t y) K = K (.ifc t y) := by simp [s_pan, SV.vd, SV.ug]
@[simp ↓] theorem xo_pan (d : Option Nat) (x : Od) (env : Env) (H : List AO) (K : XE → Env → List AO → Prop) : xo P ⟨d, none, .e (.pan x)⟩ env H K = s_pan (env.ev x) fun y => K (.panic y) env H := rfl
@[simp ↓] theorem xo_stw (d : Option Nat) (ws : List Nat) (n : Nat) (p x : Od) (env : Env) (H : List AO) (K : XE → Env → List AO → Prop) : xo P ⟨d, none, .e (.stw ws n p x)⟩ env H K = s_st n (env.ev p) (env.ev x) H fun v H' => K .normal (env.put d v) H' := rfl
def s_nil (T : TypeId) (sz : Nat) (x : SV) (H : List AO) (K : SV → List AO → Prop) : Prop := x.vd = true ∧ x.ug.isNil = true ∧ K (.own H.length 0 0 sz 0) (H ++ [⟨[], T, 0, true⟩])
@[congr] theorem s_nil_congr {T : TypeId} {sz : Nat} {x x' : SV} {H H' : List AO} {K : SV → List AO → Prop} (h0 : Ev x = x') (h9 : Ev H = H') : s_nil T sz x H K = s_nil T sz x' H' K := by rw [Ev_to h0, Ev_to h9]
@[simp ↓] theorem xo_nil (d : Option Nat) (T : TypeId) (sz : Nat) (x : Od) (env : Env) (H : List AO) (K : XE → Env → List AO → Prop) : xo P ⟨d, none, .e (.nil T sz x)⟩ env H K = s_nil T sz (env.ev x) H fun v H' => K .normal (env.put d v) H' := rfl
@[simp] theorem s_nil_go (T : TypeId) (sz : Nat) (x : SV) (H : List AO) (K : SV → List AO → Prop) : s_nil T sz x H K = (x.vd = true ∧ x.ug.isNil = true ∧ Ke K (.own H.length 0 0 sz 0) (H ++ [⟨[], T, 0, true⟩])) := rfl
def s_sl0 (T : TypeId) (sz : Nat) (x : SV) (H : List AO) (K : SV → List AO → Prop) : Prop := x.vd = true ∧ x.ug.isSl = true ∧ K (.own H.length 0 0 sz 0) (H ++ [⟨[], T, 0, true⟩])
@[congr] theorem s_sl0_congr {T : TypeId} {sz : Nat} {x x' : SV} {H H' : List AO} {K : SV → List AO → Prop} (h0 : Ev x = x') (h9 : Ev H = H') : s_sl0 T sz x H K = s_sl0 T sz x' H' K := by rw [Ev_to h0, Ev_to h9]
@[simp ↓] theorem xo_sl0 (d : Option Nat) (T : TypeId) (sz : Nat) (x : Od) (env : Env) (H : List AO) (K : XE → Env → List AO → Prop) : xo P ⟨d, none, .e (.sl0 T sz x)⟩ env H K = s_sl0 T sz (env.ev x) H fun v H' => K .normal (env.put d v) H' := rfl
@[simp] theorem s_sl0_go (T : TypeId) (sz : Nat) (x : SV) (H : List AO) (K : SV → List AO → Prop) : s_sl0 T sz x H K = (x.vd = true ∧ x.ug.isSl = true ∧ Ke K (.own H.length 0 0 sz 0) (H ++ [⟨[], T, 0, true⟩])) := rfl
def s_sby (x : SV) (H : List AO) (K : SV → List AO → Prop) : Prop := x.isS = true ∧ K (.slc (sbyts x.str) x.str.size) H
@[congr] theorem s_sby_congr {x x' : SV} {H H' : List AO} {K : SV → List AO → Prop} (h0 : Ev x = x') (h9 : Ev H = H') : s_sby x H K = s_sby x' H' K := by rw [Ev_to h0, Ev_to h9]
@[simp ↓] theorem xo_sby (d : Option Nat) (x : Od) (env : Env) (H : List AO) (K : XE → Env → List AO → Prop) : xo P ⟨d, none, .e (.sby x)⟩ env H K = s_sby (env.ev x) H fun v H' => K .normal (env.put d v) H' := rfl
@[simp] theorem s_sby_go (x : SV) (H : List AO) (K : SV → List AO → Prop) : s_sby x H K = (x.isS = true ∧ Ke K (.slc (sbyts x.str) x.str.size) H) := rfl
def s_snil (neg : Bool) (right : Bool) (x : SV) (H : List AO) (K : SV → List AO → Prop) : Prop := x.vd = true ∧ x.ug.isSl = true ∧ (x.ug.slen ≠ 0 → K (bl neg) H) ∧ (x.ug.slen = 0 → K (bl neg) H ∧ K (bl (!neg)) H)
@[congr] theorem s_snil_congr {neg : Bool} {right : Bool} {x x' : SV} {H H' : List AO} {K : SV → List AO → Prop} (h0 : Ev x = x') (h9 : Ev H = H') : s_snil neg right x H K = s_snil neg right x' H' K := by rw [Ev_to h0, Ev_to h9]
@[simp ↓] theorem xo_snil (d : Option Nat) (neg : Bool) (right : Bool) (x : Od) (env : Env) (H : List AO) (K : XE → Env → List AO → Prop) : xo P ⟨d, none, .e (.snil neg right x)⟩ env H K = s_snil neg right (env.ev x) H fun v H' => K .normal (env.put d v) H' := rfl
@[simp] theorem s_snil_go (neg : Bool) (right : Bool) (x : SV) (H : List AO) (K : SV → List AO → Prop) : s_snil neg right x H K = (x.vd = true ∧ x.ug.isSl = true ∧ (x.ug.slen ≠ 0 → Ke K (bl neg) H) ∧ (x.ug.slen = 0 → Ke K (bl neg) H ∧ Ke K (bl (!neg)) H)) := rfl
def s_bsl (T : TypeId) (sz len : Nat) (z : List SV) (parts : List (Nat × SV)) (H : List AO) (K : SV → List AO → Prop) : Prop :=
    (∀ p ∈ parts, partOk sz p.2 ∧ p.1 * sz + sz ≤ len * sz) ∧ cellsOk (fillS (List.replicate len z).flatten (parts.map fun p => (p.1 * sz, p.2))) ∧
      K (.own H.length 0 len sz 0) (H ++ [⟨fillS (List.replicate len z).flatten (parts.map fun p => (p.1 * sz, p.2)), T, 0, true⟩])
@[congr] theorem s_bsl_congr {T : TypeId} {sz len : Nat} {z : List SV} {parts parts' : List (Nat × SV)} {H H' : List AO} {K : SV → List AO → Prop} (h : Ev parts = parts') (h2 : Ev H = H') : s_bsl T sz len z parts H K = s_bsl T sz len z parts' H' K := by rw [Ev_to h, Ev_to h2]
@[simp ↓] theorem xo_bsl (d : Option Nat) (T : TypeId) (sz len : Nat) (z : List SV) (parts : List (Nat × Od)) (env : Env) (H : List AO) (K : XE → Env → List AO → Prop) :
    xo P ⟨d, none, .e (.bsl T sz len z parts)⟩ env H K = s_bsl T sz len z (parts.map fun p => (p.1, env.ev p.2)) H fun v H' => K .normal (env.put d v) H' := by
  simp only [xo, xj, xe, s_bsl, List.map_map, Function.comp_def, List.forall_mem_map]
@[simp] theorem s_bsl_go (T : TypeId) (sz len : Nat) (z : List SV) (parts : List (Nat × SV)) (H : List AO) (K : SV → List AO → Prop) : s_bsl T sz len z parts H K = (
    (∀ p ∈ parts, partOk sz p.2 ∧ p.1 * sz + sz ≤ len * sz) ∧ cellsOk (fillS (List.replicate len z).flatten (parts.map fun p => (p.1 * sz, p.2))) ∧
      Ke K (.own H.length 0 len sz 0) (H ++ [⟨fillS (List.replicate len z).flatten (parts.map fun p => (p.1 * sz, p.2)), T, 0, true⟩])) := rfl


/-! Values -/
/-- What a load of one cell gives; of several; when it may be done. -/
def ldv (H : List AO) (p : SV) : SV := (p.at H).headD .any
def ldvs (H : List AO) (p : SV) (n : Nat) : List SV := (p.at H).take n
def ldok (H : List AO) (p : SV) (n : Nat) : Prop := n ≤ (p.at H).length
@[simp] theorem ldv_own (H : List AO) (i off len sz ver k : Nat) : ldv H (.ptr (.own i off len sz ver) k) = (((objCells H i ver).drop off).drop k).headD .any := rfl
@[simp] theorem ldv_slc (H : List AO) (c : List SV) (n k : Nat) : ldv H (.ptr (.slc c n) k) = (c.drop k).headD .any := rfl
@[simp] theorem ldvs_own (H : List AO) (i off len sz ver k n : Nat) : ldvs H (.ptr (.own i off len sz ver) k) n = (((objCells H i ver).drop off).drop k).take n := rfl
@[simp] theorem ldvs_slc (H : List AO) (c : List SV) (m k n : Nat) : ldvs H (.ptr (.slc c m) k) n = (c.drop k).take n := rfl
@[simp] theorem ldok_own (H : List AO) (i off len sz ver k n : Nat) : ldok H (.ptr (.own i off len sz ver) k) n = (n ≤ (((objCells H i ver).drop off).drop k).length) := rfl
@[simp] theorem ldok_slc (H : List AO) (c : List SV) (m k n : Nat) : ldok H (.ptr (.slc c m) k) n = (n ≤ (c.drop k).length) := rfl
variable (g : Od → SV) (H : List AO)

@[simp ↓] theorem pv1_mov (x : Od) : (pv (.mov x) g H).1 = (True) := rfl
@[simp ↓] theorem pv2_mov (x : Od) : (pv (.mov x) g H).2 = g x := rfl
@[simp ↓] theorem pv1_pick (c : Od) (a : Od) (b : Od) : (pv (.pick c a b) g H).1 = ((g c).isB = true ∧ (if (g c).bool = true then (g a).isB = true else (g b).isB = true)) := by
  first
  | rfl
  | (apply propext; simp only [pv]; cases (g c).bool <;> simp)
@[simp ↓] theorem pv2_pick (c : Od) (a : Od) (b : Od) : (pv (.pick c a b) g H).2 = bl (cond (g c).bool (g a).bool (g b).bool) := by
  first
  | rfl
  | (apply propext; simp only [pv]; cases (g c).bool <;> simp)
@[simp ↓] theorem pv1_neg (k : IntKind) (x : Od) : (pv (.neg k x) g H).1 = ((g x).isI k = true) := rfl
@[simp ↓] theorem pv2_neg (k : IntKind) (x : Od) : (pv (.neg k x) g H).2 = .val (.int k (k.wrap (0 - (g x).int))) := rfl
@[simp ↓] theorem pv1_not (x : Od) : (pv (.not x) g H).1 = ((g x).isB = true) := rfl
@[simp ↓] theorem pv2_not (x : Od) : (pv (.not x) g H).2 = bl (!(g x).bool) := rfl
@[simp ↓] theorem pv1_cvi (k : IntKind) (x : Od) : (pv (.cvi k x) g H).1 = ((g x).isN = true) := rfl
@[simp ↓] theorem pv2_cvi (k : IntKind) (x : Od) : (pv (.cvi k x) g H).2 = .val (.int k (k.wrap (g x).int)) := rfl
@[simp ↓] theorem pv1_ld1 (p : Od) : (pv (.ld1 p) g H).1 = ((g p).vd = true ∧ ldok H (g p).ug 1) := rfl
@[simp ↓] theorem pv2_ld1 (p : Od) : (pv (.ld1 p) g H).2 = ldv H (g p).ug := rfl
@[simp ↓] theorem pv1_ldn (n : Nat) (p : Od) : (pv (.ldn n p) g H).1 = ((g p).vd = true ∧ ldok H (g p).ug n ∧ 0 < n) := rfl
@[simp ↓] theorem pv2_ldn (n : Nat) (p : Od) : (pv (.ldn n p) g H).2 = .agg (ldvs H (g p).ug n) := rfl
@[simp ↓] theorem pv1_ia (sz : Nat) (s : Od) (j : Od) : (pv (.ia sz s j) g H).1 = ((g s).vd = true ∧ (g s).ug.isSl = true ∧ (g j).isN = true ∧ 0 ≤ (g j).int ∧ (g j).int < (g s).ug.slen) := rfl
@[simp ↓] theorem pv2_ia (sz : Nat) (s : Od) (j : Od) : (pv (.ia sz s j) g H).2 = .ptr (g s).ug ((g j).int.toNat * sz) := rfl
@[simp ↓] theorem pv1_ixs (s : Od) (j : Od) : (pv (.ixs s j) g H).1 = ((g s).isS = true ∧ (g j).isN = true ∧ 0 ≤ (g j).int ∧ (g j).int < (g s).str.size) := rfl
@[simp ↓] theorem pv2_ixs (s : Od) (j : Od) : (pv (.ixs s j) g H).2 = .val (.int .u8 ((g s).str.data.toList.getD (g j).int.toNat 0).toNat) := rfl
@[simp ↓] theorem pv1_sl (sz : Nat) (x : Od) (lo : Option Od) (hi : Option Od) : (pv (.sl sz x lo hi) g H).1 = ((g x).vd = true ∧ (g x).ug.isSl = true ∧ (g x).ug.szIs sz = true ∧ bdOf (lo.map g) ∧ bdOf (hi.map g) ∧ loOf (lo.map g) ≤ hiOf (g x).ug.slen (hi.map g) ∧ hiOf (g x).ug.slen (hi.map g) ≤ (g x).ug.slen) := rfl
@[simp ↓] theorem pv2_sl (sz : Nat) (x : Od) (lo : Option Od) (hi : Option Od) : (pv (.sl sz x lo hi) g H).2 = (g x).ug.cut sz (loOf (lo.map g)) (hiOf (g x).ug.slen (hi.map g)) := rfl
@[simp ↓] theorem pv1_sls (x : Od) (lo : Option Od) (hi : Option Od) : (pv (.sls x lo hi) g H).1 = ((g x).isS = true ∧ bdOf (lo.map g) ∧ bdOf (hi.map g) ∧ loOf (lo.map g) ≤ hiOf (g x).str.size (hi.map g) ∧ hiOf (g x).str.size (hi.map g) ≤ (g x).str.size) := rfl
@[simp ↓] theorem pv2_sls (x : Od) (lo : Option Od) (hi : Option Od) : (pv (.sls x lo hi) g H).2 = st ((g x).str.extract (loOf (lo.map g)) (hiOf (g x).str.size (hi.map g))) := rfl
@[simp ↓] theorem pv1_sla (n : Nat) (sz : Nat) (p : Od) (lo : Option Od) (hi : Option Od) : (pv (.sla n sz p lo hi) g H).1 = ((g p).vd = true ∧ ldok H (g p).ug (n * sz) ∧ 0 < n * sz ∧ bdOf (lo.map g) ∧ bdOf (hi.map g) ∧ loOf (lo.map g) ≤ hiOf n (hi.map g) ∧ hiOf n (hi.map g) ≤ n) := rfl
@[simp ↓] theorem pv2_sla (n : Nat) (sz : Nat) (p : Od) (lo : Option Od) (hi : Option Od) : (pv (.sla n sz p lo hi) g H).2 = (g p).ug.cutA sz (loOf (lo.map g)) (hiOf n (hi.map g)) := rfl
@[simp ↓] theorem pv1_len (x : Od) : (pv (.len x) g H).1 = ((g x).vd = true ∧ (g x).ug.isSl = true) := rfl
@[simp ↓] theorem pv2_len (x : Od) : (pv (.len x) g H).2 = i64 (g x).ug.slen := rfl
@[simp ↓] theorem pv1_lens (x : Od) : (pv (.lens x) g H).1 = ((g x).isS = true) := rfl
@[simp ↓] theorem pv2_lens (x : Od) : (pv (.lens x) g H).2 = i64 (g x).str.size := rfl
@[simp ↓] theorem pv1_mm (mx : Bool) (k : IntKind) (x : Od) (y : Od) : (pv (.mm mx k x y) g H).1 = ((g x).isI k = true ∧ (g y).isI k = true) := rfl
@[simp ↓] theorem pv2_mm (mx : Bool) (k : IntKind) (x : Od) (y : Od) : (pv (.mm mx k x y) g H).2 = .val (.int k (if mx = true then max (g x).int (g y).int else min (g x).int (g y).int)) := rfl
@[simp ↓] theorem pv1_mkf (f : Fn) (first : List Od) (cap : List Od) : (pv (.mkf f first cap) g H).1 = (True) := rfl
@[simp ↓] theorem pv2_mkf (f : Fn) (first : List Od) (cap : List Od) : (pv (.mkf f first cap) g H).2 = .fn f (first.map g) (cap.map g) := rfl
@[simp ↓] theorem pv1_mki (t : TypeId) (x : Od) : (pv (.mki t x) g H).1 = (True) := rfl
@[simp ↓] theorem pv2_mki (t : TypeId) (x : Od) : (pv (.mki t x) g H).2 = .ifc t (g x) := rfl
@[simp ↓] theorem pv1_bld (z : List SV) (parts : List (Nat × Nat × Od)) : (pv (.bld z parts) g H).1 = (∀ p ∈ parts.map (fun p => (p.1, p.2.1, g p.2.2)), partOk p.2.1 p.2.2 ∧ p.1 + p.2.1 ≤ z.length) := by
  first
  | rfl
  | (apply propext; simp only [pv, List.forall_mem_map])
@[simp ↓] theorem pv2_bld (z : List SV) (parts : List (Nat × Nat × Od)) : (pv (.bld z parts) g H).2 = .agg (fillS z (parts.map fun p => (p.1, g p.2.2))) := by
  first
  | rfl
  | (apply propext; simp only [pv, List.forall_mem_map])

def SV.isPt : SV → Bool
  | .ptr _ _ => true
  | _ => false
def SV.isAg : SV → Bool
  | .agg _ => true
  | _ => false
def SV.isTu : SV → Bool
  | .tup _ => true
  | _ => false
def SV.isNc : SV → Bool
  | .ptr _ _ => true
  | .fn (.func _) _ _ => true
  | _ => false
/-- The parts. -/
def SV.els' : SV → List SV
  | .agg l => l
  | .tup l => l
  | _ => []
def SV.mv (off : Nat) : SV → SV
  | .ptr s k => .ptr s (k + off)
  | _ => .any

@[simp ↓] theorem pv1_fa (off : Nat) (p : Od) : (pv (.fa off p) g H).1 = ((g p).ug.isPt = true ∧ (g p).vd = true) := by
  cases hu : (g p).ug <;> simp [pv, hu, SV.isPt, SV.isAg, SV.isTu, SV.els', SV.mv]
@[simp ↓] theorem pv2_fa (off : Nat) (p : Od) (h : (g p).ug.isPt = true) : (pv (.fa off p) g H).2 = (g p).ug.mv off := by
  cases hu : (g p).ug <;> simp [pv, hu, SV.isPt, SV.isAg, SV.isTu, SV.els', SV.mv] at h ⊢
@[simp ↓] theorem pv1_fld1 (off : Nat) (x : Od) : (pv (.fld1 off x) g H).1 = ((g x).ug.isAg = true ∧ (g x).vd = true ∧ off < (g x).ug.els'.length) := by
  cases hu : (g x).ug <;> simp [pv, hu, SV.isPt, SV.isAg, SV.isTu, SV.els', SV.mv]
@[simp ↓] theorem pv2_fld1 (off : Nat) (x : Od) (h : (g x).ug.isAg = true) : (pv (.fld1 off x) g H).2 = (g x).ug.els'.getD off .any := by
  cases hu : (g x).ug <;> simp [pv, hu, SV.isPt, SV.isAg, SV.isTu, SV.els', SV.mv] at h ⊢
@[simp ↓] theorem pv1_fldn (off : Nat) (n : Nat) (x : Od) : (pv (.fldn off n x) g H).1 = ((g x).ug.isAg = true ∧ (g x).vd = true ∧ off + n ≤ (g x).ug.els'.length) := by
  cases hu : (g x).ug <;> simp [pv, hu, SV.isPt, SV.isAg, SV.isTu, SV.els', SV.mv]
@[simp ↓] theorem pv2_fldn (off : Nat) (n : Nat) (x : Od) (h : (g x).ug.isAg = true) : (pv (.fldn off n x) g H).2 = .agg (((g x).ug.els'.drop off).take n) := by
  cases hu : (g x).ug <;> simp [pv, hu, SV.isPt, SV.isAg, SV.isTu, SV.els', SV.mv] at h ⊢
@[simp ↓] theorem pv1_iap (len : Nat) (sz : Nat) (p : Od) (j : Od) : (pv (.iap len sz p j) g H).1 = ((g p).ug.isPt = true ∧ (g p).vd = true ∧ (g j).isN = true ∧ 0 ≤ (g j).int ∧ (g j).int < len) := by
  cases hu : (g p).ug <;> simp [pv, hu, SV.isPt, SV.isAg, SV.isTu, SV.els', SV.mv]
@[simp ↓] theorem pv2_iap (len : Nat) (sz : Nat) (p : Od) (j : Od) (h : (g p).ug.isPt = true) : (pv (.iap len sz p j) g H).2 = (g p).ug.mv ((g j).int.toNat * sz) := by
  cases hu : (g p).ug <;> simp [pv, hu, SV.isPt, SV.isAg, SV.isTu, SV.els', SV.mv] at h ⊢
@[simp ↓] theorem pv1_ixa (len : Nat) (sz : Nat) (one : Bool) (x : Od) (j : Od) : (pv (.ixa len sz one x j) g H).1 = ((g x).ug.isAg = true ∧ (g x).vd = true ∧ (g j).isN = true ∧ 0 ≤ (g j).int ∧ (g j).int < len ∧ (g x).ug.els'.length = len * sz ∧ (one = true → sz = 1)) := by
  cases hu : (g x).ug <;> simp [pv, hu, SV.isPt, SV.isAg, SV.isTu, SV.els', SV.mv]
@[simp ↓] theorem pv2_ixa (len : Nat) (sz : Nat) (one : Bool) (x : Od) (j : Od) (h : (g x).ug.isAg = true) : (pv (.ixa len sz one x j) g H).2 = if one = true then (g x).ug.els'.getD (g j).int.toNat .any else .agg (((g x).ug.els'.drop ((g j).int.toNat * sz)).take sz) := by
  cases hu : (g x).ug <;> simp [pv, hu, SV.isPt, SV.isAg, SV.isTu, SV.els', SV.mv] at h ⊢
@[simp ↓] theorem pv1_ext (x : Od) (j : Nat) : (pv (.ext x j) g H).1 = ((g x).ug.isTu = true ∧ (g x).vd = true ∧ j < (g x).ug.els'.length) := by
  cases hu : (g x).ug <;> simp [pv, hu, SV.isPt, SV.isAg, SV.isTu, SV.els', SV.mv]
@[simp ↓] theorem pv2_ext (x : Od) (j : Nat) (h : (g x).ug.isTu = true) : (pv (.ext x j) g H).2 = (g x).ug.els'.getD j .any := by
  cases hu : (g x).ug <;> simp [pv, hu, SV.isPt, SV.isAg, SV.isTu, SV.els', SV.mv] at h ⊢
@[simp ↓] theorem pv1_nck (x : Od) : (pv (.nck x) g H).1 = ((g x).ug.isNc = true ∧ (g x).vd = true) := by
  cases hu : (g x).ug with
  | fn f a b => cases f <;> simp [pv, hu, SV.isNc]
  | _ => simp [pv, hu, SV.isNc]
@[simp ↓] theorem pv2_nck (x : Od) (h : (g x).ug.isNc = true) : (pv (.nck x) g H).2 = (g x).ug := by
  cases hu : (g x).ug with
  | fn f a b => rw [hu] at h; cases f <;> simp [pv, hu, SV.isNc] at h ⊢
  | _ => simp [hu, SV.isNc] at h ⊢ <;> simp [pv, hu]
@[simp ↓] theorem pv1_eqf (neg : Bool) (ks : List CK) (x y : Od) : (pv (.eqf neg ks x y) g H).1 = ((g x).ug.isAg = true ∧ (g y).ug.isAg = true ∧ (g x).vd = true ∧ (g y).vd = true ∧ eqSide ks (g x).ug.els' (g y).ug.els') := by
  cases hu : (g x).ug <;> cases hv : (g y).ug <;> simp [pv, hu, hv, SV.isAg, SV.els']
@[simp ↓] theorem pv2_eqf (neg : Bool) (ks : List CK) (x y : Od) (h : ((g x).ug.isAg && (g y).ug.isAg) = true) : (pv (.eqf neg ks x y) g H).2 = bl (if neg = true then !eqAll ks (g x).ug.els' (g y).ug.els' else eqAll ks (g x).ug.els' (g y).ug.els') := by
  cases hu : (g x).ug <;> cases hv : (g y).ug <;> simp [pv, hu, hv, SV.isAg, SV.els'] at h ⊢

@[simp ↓] theorem pv1_bin_add_i (k : IntKind) (x y : Od) : (pv (.bin .add (.i k) x y) g H).1 = ((g x).isI k = true ∧ (g y).isI k = true) := rfl
@[simp ↓] theorem pv2_bin_add_i (k : IntKind) (x y : Od) : (pv (.bin .add (.i k) x y) g H).2 = .val (.int k (k.wrap ((g x).int + (g y).int))) := rfl
@[simp ↓] theorem pv1_bin_sub_i (k : IntKind) (x y : Od) : (pv (.bin .sub (.i k) x y) g H).1 = ((g x).isI k = true ∧ (g y).isI k = true) := rfl
@[simp ↓] theorem pv2_bin_sub_i (k : IntKind) (x y : Od) : (pv (.bin .sub (.i k) x y) g H).2 = .val (.int k (k.wrap ((g x).int - (g y).int))) := rfl
@[simp ↓] theorem pv1_bin_mul_i (k : IntKind) (x y : Od) : (pv (.bin .mul (.i k) x y) g H).1 = ((g x).isI k = true ∧ (g y).isI k = true) := rfl
@[simp ↓] theorem pv2_bin_mul_i (k : IntKind) (x y : Od) : (pv (.bin .mul (.i k) x y) g H).2 = .val (.int k (k.wrap ((g x).int * (g y).int))) := rfl
@[simp ↓] theorem pv1_bin_quo_i (k : IntKind) (x y : Od) : (pv (.bin .quo (.i k) x y) g H).1 = ((g x).isI k = true ∧ (g y).isI k = true ∧ (g y).int ≠ 0) := rfl
@[simp ↓] theorem pv2_bin_quo_i (k : IntKind) (x y : Od) : (pv (.bin .quo (.i k) x y) g H).2 = .val (.int k (k.wrap ((g x).int.tdiv (g y).int))) := rfl
@[simp ↓] theorem pv1_bin_rem_i (k : IntKind) (x y : Od) : (pv (.bin .rem (.i k) x y) g H).1 = ((g x).isI k = true ∧ (g y).isI k = true ∧ (g y).int ≠ 0) := rfl
@[simp ↓] theorem pv2_bin_rem_i (k : IntKind) (x y : Od) : (pv (.bin .rem (.i k) x y) g H).2 = .val (.int k ((g x).int.tmod (g y).int)) := rfl
@[simp ↓] theorem pv1_bin_and_i (k : IntKind) (x y : Od) : (pv (.bin .and (.i k) x y) g H).1 = ((g x).isI k = true ∧ (g y).isI k = true) := rfl
@[simp ↓] theorem pv2_bin_and_i (k : IntKind) (x y : Od) : (pv (.bin .and (.i k) x y) g H).2 = .val (.int k (bitsI .and k (g x).int (g y).int)) := rfl
@[simp ↓] theorem pv1_bin_or_i (k : IntKind) (x y : Od) : (pv (.bin .or (.i k) x y) g H).1 = ((g x).isI k = true ∧ (g y).isI k = true) := rfl
@[simp ↓] theorem pv2_bin_or_i (k : IntKind) (x y : Od) : (pv (.bin .or (.i k) x y) g H).2 = .val (.int k (bitsI .or k (g x).int (g y).int)) := rfl
@[simp ↓] theorem pv1_bin_xor_i (k : IntKind) (x y : Od) : (pv (.bin .xor (.i k) x y) g H).1 = ((g x).isI k = true ∧ (g y).isI k = true) := rfl
@[simp ↓] theorem pv2_bin_xor_i (k : IntKind) (x y : Od) : (pv (.bin .xor (.i k) x y) g H).2 = .val (.int k (bitsI .xor k (g x).int (g y).int)) := rfl
@[simp ↓] theorem pv1_bin_andNot_i (k : IntKind) (x y : Od) : (pv (.bin .andNot (.i k) x y) g H).1 = ((g x).isI k = true ∧ (g y).isI k = true) := rfl
@[simp ↓] theorem pv2_bin_andNot_i (k : IntKind) (x y : Od) : (pv (.bin .andNot (.i k) x y) g H).2 = .val (.int k (bitsI .andNot k (g x).int (g y).int)) := rfl
@[simp ↓] theorem pv1_bin_eql_i (k : IntKind) (x y : Od) : (pv (.bin .eql (.i k) x y) g H).1 = ((g x).isI k = true ∧ (g y).isI k = true) := rfl
@[simp ↓] theorem pv2_bin_eql_i (k : IntKind) (x y : Od) : (pv (.bin .eql (.i k) x y) g H).2 = bl (decide ((g x).int = (g y).int)) := rfl
@[simp ↓] theorem pv1_bin_neq_i (k : IntKind) (x y : Od) : (pv (.bin .neq (.i k) x y) g H).1 = ((g x).isI k = true ∧ (g y).isI k = true) := rfl
@[simp ↓] theorem pv2_bin_neq_i (k : IntKind) (x y : Od) : (pv (.bin .neq (.i k) x y) g H).2 = bl (!decide ((g x).int = (g y).int)) := rfl
@[simp ↓] theorem pv1_bin_lss_i (k : IntKind) (x y : Od) : (pv (.bin .lss (.i k) x y) g H).1 = ((g x).isI k = true ∧ (g y).isI k = true) := rfl
@[simp ↓] theorem pv2_bin_lss_i (k : IntKind) (x y : Od) : (pv (.bin .lss (.i k) x y) g H).2 = bl (decide ((g x).int < (g y).int)) := rfl
@[simp ↓] theorem pv1_bin_leq_i (k : IntKind) (x y : Od) : (pv (.bin .leq (.i k) x y) g H).1 = ((g x).isI k = true ∧ (g y).isI k = true) := rfl
@[simp ↓] theorem pv2_bin_leq_i (k : IntKind) (x y : Od) : (pv (.bin .leq (.i k) x y) g H).2 = bl (decide ((g x).int ≤ (g y).int)) := rfl
@[simp ↓] theorem pv1_bin_gtr_i (k : IntKind) (x y : Od) : (pv (.bin .gtr (.i k) x y) g H).1 = ((g x).isI k = true ∧ (g y).isI k = true) := rfl
@[simp ↓] theorem pv2_bin_gtr_i (k : IntKind) (x y : Od) : (pv (.bin .gtr (.i k) x y) g H).2 = bl (decide ((g y).int < (g x).int)) := rfl
@[simp ↓] theorem pv1_bin_geq_i (k : IntKind) (x y : Od) : (pv (.bin .geq (.i k) x y) g H).1 = ((g x).isI k = true ∧ (g y).isI k = true) := rfl
@[simp ↓] theorem pv2_bin_geq_i (k : IntKind) (x y : Od) : (pv (.bin .geq (.i k) x y) g H).2 = bl (decide ((g y).int ≤ (g x).int)) := rfl
@[simp ↓] theorem pv1_bin_eql_s (x y : Od) : (pv (.bin .eql .s x y) g H).1 = ((g x).isS = true ∧ (g y).isS = true) := rfl
@[simp ↓] theorem pv2_bin_eql_s (x y : Od) : (pv (.bin .eql .s x y) g H).2 = bl (decide ((g x).str.data.toList = (g y).str.data.toList)) := rfl
@[simp ↓] theorem pv1_bin_neq_s (x y : Od) : (pv (.bin .neq .s x y) g H).1 = ((g x).isS = true ∧ (g y).isS = true) := rfl
@[simp ↓] theorem pv2_bin_neq_s (x y : Od) : (pv (.bin .neq .s x y) g H).2 = bl (!decide ((g x).str.data.toList = (g y).str.data.toList)) := rfl
@[simp ↓] theorem pv1_bin_add_s (x y : Od) : (pv (.bin .add .s x y) g H).1 = ((g x).isS = true ∧ (g y).isS = true ∧ (g x).str.size + (g y).str.size ≤ 9223372036854775807) := rfl
@[simp ↓] theorem pv2_bin_add_s (x y : Od) : (pv (.bin .add .s x y) g H).2 = st ((g x).str ++ (g y).str) := rfl
@[simp ↓] theorem pv1_bin_eql_b (x y : Od) : (pv (.bin .eql .b x y) g H).1 = ((g x).isB = true ∧ (g y).isB = true) := rfl
@[simp ↓] theorem pv2_bin_eql_b (x y : Od) : (pv (.bin .eql .b x y) g H).2 = bl ((g x).bool == (g y).bool) := rfl
@[simp ↓] theorem pv1_bin_neq_b (x y : Od) : (pv (.bin .neq .b x y) g H).1 = ((g x).isB = true ∧ (g y).isB = true) := rfl
@[simp ↓] theorem pv2_bin_neq_b (x y : Od) : (pv (.bin .neq .b x y) g H).2 = bl ((g x).bool != (g y).bool) := rfl
@[simp ↓] theorem pv1_gix (k len sz : Nat) (cs : List SV) (j : Od) : (pv (.gix k len sz cs j) g H).1 = ((g j).isN = true ∧ 0 ≤ (g j).int ∧ (g j).int < len) := rfl
@[simp ↓] theorem pv2_gix (k len sz : Nat) (cs : List SV) (j : Od) : (pv (.gix k len sz cs j) g H).2 = .ptr (.slc cs cs.length) ((g j).int.toNat * sz) := rfl
@[simp ↓] theorem pv1_ifn (neg right : Bool) (x : Od) : (pv (.ifn neg right x) g H).1 = ((g x).vd = true ∧ (g x).ug.isIf = true) := rfl
@[simp ↓] theorem pv2_ifn (neg right : Bool) (x : Od) : (pv (.ifn neg right x) g H).2 = bl (if (g x).ug.ifNil = true then !neg else neg) := rfl
@[simp ↓] theorem pv1_tas (t : TypeId) (ok : Bool) (z : SV) (x : Od) : (pv (.tas t ok z x) g H).1 = ((g x).vd = true ∧ (g x).ug.isIf = true ∧ (ok = true ∨ (g x).ug.ifIs t = true)) := rfl
@[simp ↓] theorem pv2_tas (t : TypeId) (ok : Bool) (z : SV) (x : Od) : (pv (.tas t ok z x) g H).2 = if ok = true then (if (g x).ug.ifIs t = true then .tup [(g x).ug.ifVal, bl true] else .tup [z, bl false]) else (g x).ug.ifVal := rfl
@[simp ↓] theorem pv1_no : (pv .no g H).1 = False := rfl
@[simp ↓] theorem pv2_no : (pv .no g H).2 = .any := rfl
@[simp ↓] theorem pv_bin_sh (op : BinOp) (k yk : IntKind) (x y : Od) : pv (.bin op (.sh k yk) x y) g H = pbin op (.sh k yk) (g x) (g y) := rfl
@[simp ↓] theorem pv_bin_pnil (op : BinOp) (r : Bool) (x y : Od) : pv (.bin op (.pnil r) x y) g H = pbin op (.pnil r) (g x) (g y) := rfl
@[simp] theorem pbin_shl (k yk : IntKind) (x y : SV) : pbin .shl (.sh k yk) x y = (x.isI k = true ∧ y.isI yk = true ∧ 0 ≤ y.int, .val (.int k (k.wrap (x.int * 2 ^ (min y.int.toNat k.bits))))) := rfl
@[simp] theorem pbin_shr (k yk : IntKind) (x y : SV) : pbin .shr (.sh k yk) x y = (x.isI k = true ∧ y.isI yk = true ∧ 0 ≤ y.int, .val (.int k (x.int.fdiv (2 ^ (min y.int.toNat k.bits))))) := rfl
@[simp] theorem pbin_pnil (op : BinOp) (r : Bool) (x y : SV) : pbin op (.pnil r) x y = (match op, (if r = true then x else y).ug with
    | .eql, .ptr _ _ => ((if r = true then x else y).vd = true, bl false)
    | .neq, .ptr _ _ => ((if r = true then x else y).vd = true, bl true)
    | .eql, .val (.pointer none) => ((if r = true then x else y).vd = true, bl true)
    | .neq, .val (.pointer none) => ((if r = true then x else y).vd = true, bl false)
    | _, _ => (False, .any)) := rfl
end

/-! Values read -/
@[simp] theorem env_get_cons (e : Env) (k t : Nat) (v : SV) : Env.get ((k, v) :: e) t = if k = t then v else Env.get e t := rfl
@[simp] theorem env_get_nil (t : Nat) : Env.get [] t = .any := rfl
@[simp] theorem env_ev_t (e : Env) (n : Nat) : Env.ev e (.t n) = e.get n := rfl
@[simp] theorem env_ev_c (e : Env) (s : SV) : Env.ev e (.c s) = s := rfl
@[simp] theorem env_put_some (e : Env) (d : Nat) (v : SV) : Env.put e (some d) v = (d, v) :: e := rfl
@[simp] theorem env_put_none (e : Env) (v : SV) : Env.put e none v = e := rfl
@[simp] theorem env_keep_nil (e : Env) : Env.keep e [] = [] := rfl
@[simp] theorem env_keep_cons (e : Env) (k : Nat) (r : List Nat) : Env.keep e (k :: r) = (k, e.get k) :: Env.keep e r := rfl
@[simp] theorem argsEnv_eq (l : List SV) : argsEnv l = (List.range l.length).zip l := rfl
attribute [simp] List.range_succ val_i64 isI_i64 int_i64 isN_i64 isB_bl bool_bl ug_i64 vd_i64 ug_bl vd_bl

@[simp] theorem vd_any  : SV.vd .any = true := rfl
@[simp] theorem ug_any  : SV.ug .any = .any := rfl
@[simp] theorem isCell_any  : SV.isCell .any = false := rfl
@[simp] theorem flat_any  : SV.flat .any = [.any] := rfl
@[simp] theorem isPt_any  : SV.isPt .any = false := rfl
@[simp] theorem isAg_any  : SV.isAg .any = false := rfl
@[simp] theorem isTu_any  : SV.isTu .any = false := rfl
@[simp] theorem vd_val (v : Value) : SV.vd (.val v) = true := rfl
@[simp] theorem ug_val (v : Value) : SV.ug (.val v) = (.val v) := rfl
@[simp] theorem flat_val (v : Value) : SV.flat (.val v) = [(.val v)] := rfl
@[simp] theorem isPt_val (v : Value) : SV.isPt (.val v) = false := rfl
@[simp] theorem isAg_val (v : Value) : SV.isAg (.val v) = false := rfl
@[simp] theorem isTu_val (v : Value) : SV.isTu (.val v) = false := rfl
@[simp] theorem isCell_i64 (n : Int) : SV.isCell (i64 n) = true := rfl
@[simp] theorem flat_i64 (n : Int) : SV.flat (i64 n) = [(i64 n)] := rfl
@[simp] theorem isPt_i64 (n : Int) : SV.isPt (i64 n) = false := rfl
@[simp] theorem isAg_i64 (n : Int) : SV.isAg (i64 n) = false := rfl
@[simp] theorem isTu_i64 (n : Int) : SV.isTu (i64 n) = false := rfl
@[simp] theorem isCell_bl (b : Bool) : SV.isCell (bl b) = true := rfl
@[simp] theorem flat_bl (b : Bool) : SV.flat (bl b) = [(bl b)] := rfl
@[simp] theorem isPt_bl (b : Bool) : SV.isPt (bl b) = false := rfl
@[simp] theorem isAg_bl (b : Bool) : SV.isAg (bl b) = false := rfl
@[simp] theorem isTu_bl (b : Bool) : SV.isTu (bl b) = false := rfl
@[simp] theorem vd_st (s : ByteArray) : SV.vd (st s) = true := rfl
@[simp] theorem ug_st (s : ByteArray) : SV.ug (st s) = (st s) := rfl
@[simp] theorem isCell_st (s : ByteArray) : SV.isCell (st s) = true := rfl
@[simp] theorem flat_st (s : ByteArray) : SV.flat (st s) = [(st s)] := rfl
@[simp] theorem isPt_st (s : ByteArray) : SV.isPt (st s) = false := rfl
@[simp] theorem isAg_st (s : ByteArray) : SV.isAg (st s) = false := rfl
@[simp] theorem isTu_st (s : ByteArray) : SV.isTu (st s) = false := rfl
@[simp] theorem vd_slc (c : List SV) (n : Nat) : SV.vd (.slc c n) = true := rfl
@[simp] theorem ug_slc (c : List SV) (n : Nat) : SV.ug (.slc c n) = (.slc c n) := rfl
@[simp] theorem isCell_slc (c : List SV) (n : Nat) : SV.isCell (.slc c n) = true := rfl
@[simp] theorem flat_slc (c : List SV) (n : Nat) : SV.flat (.slc c n) = [(.slc c n)] := rfl
@[simp] theorem isPt_slc (c : List SV) (n : Nat) : SV.isPt (.slc c n) = false := rfl
@[simp] theorem isAg_slc (c : List SV) (n : Nat) : SV.isAg (.slc c n) = false := rfl
@[simp] theorem isTu_slc (c : List SV) (n : Nat) : SV.isTu (.slc c n) = false := rfl
@[simp] theorem vd_own (i off len sz ver : Nat) : SV.vd (.own i off len sz ver) = true := rfl
@[simp] theorem ug_own (i off len sz ver : Nat) : SV.ug (.own i off len sz ver) = (.own i off len sz ver) := rfl
@[simp] theorem isCell_own (i off len sz ver : Nat) : SV.isCell (.own i off len sz ver) = true := rfl
@[simp] theorem flat_own (i off len sz ver : Nat) : SV.flat (.own i off len sz ver) = [(.own i off len sz ver)] := rfl
@[simp] theorem isPt_own (i off len sz ver : Nat) : SV.isPt (.own i off len sz ver) = false := rfl
@[simp] theorem isAg_own (i off len sz ver : Nat) : SV.isAg (.own i off len sz ver) = false := rfl
@[simp] theorem isTu_own (i off len sz ver : Nat) : SV.isTu (.own i off len sz ver) = false := rfl
@[simp] theorem vd_ptr (s : SV) (k : Nat) : SV.vd (.ptr s k) = true := rfl
@[simp] theorem ug_ptr (s : SV) (k : Nat) : SV.ug (.ptr s k) = (.ptr s k) := rfl
@[simp] theorem isCell_ptr (s : SV) (k : Nat) : SV.isCell (.ptr s k) = true := rfl
@[simp] theorem flat_ptr (s : SV) (k : Nat) : SV.flat (.ptr s k) = [(.ptr s k)] := rfl
@[simp] theorem isPt_ptr (s : SV) (k : Nat) : SV.isPt (.ptr s k) = true := rfl
@[simp] theorem isAg_ptr (s : SV) (k : Nat) : SV.isAg (.ptr s k) = false := rfl
@[simp] theorem isTu_ptr (s : SV) (k : Nat) : SV.isTu (.ptr s k) = false := rfl
@[simp] theorem vd_agg (l : List SV) : SV.vd (.agg l) = true := rfl
@[simp] theorem ug_agg (l : List SV) : SV.ug (.agg l) = (.agg l) := rfl
@[simp] theorem isCell_agg (l : List SV) : SV.isCell (.agg l) = false := rfl
@[simp] theorem isPt_agg (l : List SV) : SV.isPt (.agg l) = false := rfl
@[simp] theorem isAg_agg (l : List SV) : SV.isAg (.agg l) = true := rfl
@[simp] theorem isTu_agg (l : List SV) : SV.isTu (.agg l) = false := rfl
@[simp] theorem vd_tup (l : List SV) : SV.vd (.tup l) = true := rfl
@[simp] theorem ug_tup (l : List SV) : SV.ug (.tup l) = (.tup l) := rfl
@[simp] theorem isCell_tup (l : List SV) : SV.isCell (.tup l) = false := rfl
@[simp] theorem flat_tup (l : List SV) : SV.flat (.tup l) = [(.tup l)] := rfl
@[simp] theorem isPt_tup (l : List SV) : SV.isPt (.tup l) = false := rfl
@[simp] theorem isAg_tup (l : List SV) : SV.isAg (.tup l) = false := rfl
@[simp] theorem isTu_tup (l : List SV) : SV.isTu (.tup l) = true := rfl
@[simp] theorem vd_fn (f : Fn) (a b : List SV) : SV.vd (.fn f a b) = true := rfl
@[simp] theorem ug_fn (f : Fn) (a b : List SV) : SV.ug (.fn f a b) = (.fn f a b) := rfl
@[simp] theorem isCell_fn (f : Fn) (a b : List SV) : SV.isCell (.fn f a b) = true := rfl
@[simp] theorem flat_fn (f : Fn) (a b : List SV) : SV.flat (.fn f a b) = [(.fn f a b)] := rfl
@[simp] theorem isPt_fn (f : Fn) (a b : List SV) : SV.isPt (.fn f a b) = false := rfl
@[simp] theorem isAg_fn (f : Fn) (a b : List SV) : SV.isAg (.fn f a b) = false := rfl
@[simp] theorem isTu_fn (f : Fn) (a b : List SV) : SV.isTu (.fn f a b) = false := rfl
@[simp] theorem vd_ifc (t : TypeId) (x : SV) : SV.vd (.ifc t x) = true := rfl
@[simp] theorem ug_ifc (t : TypeId) (x : SV) : SV.ug (.ifc t x) = (.ifc t x) := rfl
@[simp] theorem isCell_ifc (t : TypeId) (x : SV) : SV.isCell (.ifc t x) = true := rfl
@[simp] theorem flat_ifc (t : TypeId) (x : SV) : SV.flat (.ifc t x) = [(.ifc t x)] := rfl
@[simp] theorem isPt_ifc (t : TypeId) (x : SV) : SV.isPt (.ifc t x) = false := rfl
@[simp] theorem isAg_ifc (t : TypeId) (x : SV) : SV.isAg (.ifc t x) = false := rfl
@[simp] theorem isTu_ifc (t : TypeId) (x : SV) : SV.isTu (.ifc t x) = false := rfl
@[simp] theorem isCell_val (v : Value) : SV.isCell (.val v) = v.oneCell' := rfl
@[simp] theorem flat_agg (l : List SV) : SV.flat (.agg l) = l := rfl
@[simp] theorem vd_gd (b : Bool) (x : SV) : SV.vd (.gd b x) = (b && x.vd) := rfl
@[simp] theorem ug_gd (b : Bool) (x : SV) : SV.ug (.gd b x) = x.ug := rfl
@[simp] theorem isI_gd (k : IntKind) (b : Bool) (x : SV) : SV.isI k (.gd b x) = (b && x.isI k) := rfl
@[simp] theorem isN_gd (b : Bool) (x : SV) : SV.isN (.gd b x) = (b && x.isN) := rfl
@[simp] theorem isB_gd (b : Bool) (x : SV) : SV.isB (.gd b x) = (b && x.isB) := rfl
@[simp] theorem isS_gd (b : Bool) (x : SV) : SV.isS (.gd b x) = (b && x.isS) := rfl
@[simp] theorem int_gd (b : Bool) (x : SV) : SV.int (.gd b x) = x.int := rfl
@[simp] theorem bool_gd (b : Bool) (x : SV) : SV.bool (.gd b x) = x.bool := rfl
@[simp] theorem str_gd (b : Bool) (x : SV) : SV.str (.gd b x) = x.str := rfl
@[simp] theorem isI_val' (k k' : IntKind) (n : Int) : SV.isI k (.val (.int k' n)) = decide (k' = k) := rfl
@[simp] theorem isN_val' (k' : IntKind) (n : Int) : SV.isN (.val (.int k' n)) = true := rfl
@[simp] theorem int_val' (k' : IntKind) (n : Int) : SV.int (.val (.int k' n)) = n := rfl
@[simp] theorem isB_val' (b : Bool) : SV.isB (.val (.bool b)) = true := rfl
@[simp] theorem bool_val' (b : Bool) : SV.bool (.val (.bool b)) = b := rfl
@[simp] theorem isS_st (s : ByteArray) : SV.isS (st s) = true := rfl
@[simp] theorem str_st (s : ByteArray) : SV.str (st s) = s := rfl
@[simp] theorem on_bl (want b : Bool) : SV.on want (bl b) = (b == want) := rfl
@[simp] theorem on_gd (want b : Bool) (x : SV) : SV.on want (.gd b x) = (b && x.on want) := rfl
@[simp] theorem bish_bl (b : Bool) : SV.bish (bl b) = true := rfl
@[simp] theorem bish_gd (b : Bool) (x : SV) : SV.bish (.gd b x) = x.bish := rfl
@[simp] theorem mv_ptr (off : Nat) (s : SV) (k : Nat) : SV.mv off (.ptr s k) = .ptr s (k + off) := rfl
@[simp] theorem els_agg (l : List SV) : SV.els' (.agg l) = l := rfl
@[simp] theorem els_tup (l : List SV) : SV.els' (.tup l) = l := rfl
@[simp] theorem isNc_ptr (s : SV) (k : Nat) : SV.isNc (.ptr s k) = true := rfl
@[simp] theorem isNc_fn (f : FuncId) (a b : List SV) : SV.isNc (.fn (.func f) a b) = true := rfl
@[simp] theorem slen_slc (c : List SV) (n : Nat) : SV.slen (.slc c n) = n := rfl
@[simp] theorem slen_own (i off len sz ver : Nat) : SV.slen (.own i off len sz ver) = len := rfl
@[simp] theorem isSl_slc (c : List SV) (n : Nat) : SV.isSl (.slc c n) = true := rfl
@[simp] theorem isSl_own (i off len sz ver : Nat) : SV.isSl (.own i off len sz ver) = true := rfl
@[simp] theorem row_slc (H : List AO) (c : List SV) (n : Nat) : SV.row H (.slc c n) = c := rfl
@[simp] theorem row_own (H : List AO) (i off len sz ver : Nat) : SV.row H (.own i off len sz ver) = (objCells H i ver).drop off := rfl
@[simp] theorem at_ptr (H : List AO) (s : SV) (k : Nat) : SV.at H (.ptr s k) = (s.row H).drop k := rfl
@[simp] theorem els_eq (H : List AO) (sz : Nat) (s : SV) : SV.els H sz s = (s.row H).take (s.slen * sz) := rfl
@[simp] theorem isNil_val : SV.isNil (.val (.slice none 0 0)) = true := rfl
@[simp] theorem szIs_own (sz i off len s ver : Nat) : SV.szIs sz (.own i off len s ver) = (s == sz) := rfl
@[simp] theorem szIs_slc (sz : Nat) (c : List SV) (n : Nat) : SV.szIs sz (.slc c n) = true := rfl
@[simp] theorem cut_slc (sz l h : Nat) (cs : List SV) (n : Nat) : SV.cut sz l h (.slc cs n) = .slc ((cs.drop (l * sz)).take ((h - l) * sz)) (h - l) := rfl
@[simp] theorem cut_own (sz l h i off n s ver : Nat) : SV.cut sz l h (.own i off n s ver) = .own i (off + l * sz) (h - l) s ver := rfl
@[simp] theorem loOf_some (x : SV) : loOf (some x) = x.int.toNat := rfl
@[simp] theorem loOf_none : loOf none = 0 := rfl
@[simp] theorem hiOf_some (n : Nat) (x : SV) : hiOf n (some x) = x.int.toNat := rfl
@[simp] theorem hiOf_none (n : Nat) : hiOf n none = n := rfl
@[simp] theorem bdOf_some (x : SV) : bdOf (some x) = (x.isN = true ∧ 0 ≤ x.int) := rfl
@[simp] theorem bdOf_none : bdOf none = True := rfl
@[simp] theorem partOk_agg (n : Nat) (l : List SV) : partOk n (.agg l) = (l.length = n) := by simp [partOk]
@[simp] theorem partOk_i64 (n : Nat) (k : Int) : partOk n (i64 k) = (n = 1) := by
  show (n = 1 ∧ (i64 k).isCell = true ∧ true = true) = _
  simp
@[simp] theorem partOk_bl (n : Nat) (k : Bool) : partOk n (bl k) = (n = 1) := by
  show (n = 1 ∧ (bl k).isCell = true ∧ true = true) = _
  simp
@[simp] theorem partOk_st (n : Nat) (k : ByteArray) : partOk n (st k) = (n = 1) := by
  show (n = 1 ∧ (st k).isCell = true ∧ true = true) = _
  simp
@[simp] theorem partOk_slc (n : Nat) (c : List SV) (k : Nat) : partOk n (.slc c k) = (n = 1) := by simp [partOk, SV.ug, SV.vd, SV.isCell]
@[simp] theorem partOk_own (n i off len sz ver : Nat) : partOk n (.own i off len sz ver) = (n = 1) := by simp [partOk, SV.ug, SV.vd, SV.isCell]
@[simp] theorem partOk_ptr (n : Nat) (s : SV) (k : Nat) : partOk n (.ptr s k) = (n = 1) := by simp [partOk, SV.ug, SV.vd, SV.isCell]
@[simp] theorem partOk_fn (n : Nat) (f : Fn) (a b : List SV) : partOk n (.fn f a b) = (n = 1) := by simp [partOk, SV.ug, SV.vd, SV.isCell]
@[simp] theorem partOk_gd (n : Nat) (x : SV) : partOk n (.gd true x) = partOk n x := by simp [partOk, SV.ug, SV.vd]
@[simp] theorem fillS_nil (z : List SV) : fillS z [] = z := rfl
@[simp] theorem fillS_cons (z : List SV) (off : Nat) (v : SV) (r : List (Nat × SV)) : fillS z ((off, v) :: r) = fillS (z.take off ++ v.ug.flat ++ z.drop (off + v.ug.flat.length)) r := rfl
@[simp] theorem cellsOk_nil : cellsOk [] = True := by simp [cellsOk]
@[simp] theorem cellsOk_cons (s : SV) (l : List SV) : cellsOk (s :: l) = (s.isCell = true ∧ cellsOk l) := by simp [cellsOk]
@[simp] theorem cellsOk_append (a b : List SV) : cellsOk (a ++ b) = (cellsOk a ∧ cellsOk b) := by
  apply propext; constructor
  · intro h; exact ⟨fun s hs => h s (by simp [hs]), fun s hs => h s (by simp [hs])⟩
  · rintro ⟨h1, h2⟩ s hs; rcases List.mem_append.1 hs with h | h
    · exact h1 s h
    · exact h2 s h
/-- Rows of integers. -/
def ints (l : List Int) : List SV := l.map i64
@[simp] theorem cellsOk_ints (l : List Int) : cellsOk (ints l) = True := by
  simp only [cellsOk, ints, List.mem_map, eq_iff_iff, iff_true]; rintro s ⟨n, _, rfl⟩; rfl
@[simp] theorem ints_length (l : List Int) : (ints l).length = l.length := by simp [ints]
theorem ints_take (l : List Int) (n : Nat) : (ints l).take n = ints (l.take n) := by simp [ints]
theorem ints_drop (l : List Int) (n : Nat) : (ints l).drop n = ints (l.drop n) := by simp [ints]
theorem ints_append (a b : List Int) : ints a ++ ints b = ints (a ++ b) := by simp [ints]
@[simp] theorem take_ints (l : List Int) : (ints l).take l.length = ints l := by rw [ints_take, List.take_length]
theorem headD_ints_drop {l : List Int} {n : Nat} (h : n < l.length) : ((ints l).drop n).headD .any = i64 (l.getD n 0) := by
  rw [ints_drop, List.drop_eq_getElem_cons h]; simp [ints, h]
attribute [simp] objCells_new objCells_new0 setObj_new setObj_new0
@[simp] theorem objCells_hit (o : AO) (r : List AO) (ver : Nat) : objCells (o :: r) 0 ver = if (o.live && o.ver == ver) = true then o.cells else [] := by simp [objCells]
@[simp] theorem objCells_next (o : AO) (r : List AO) (k ver : Nat) : objCells (o :: r) (k + 1) ver = objCells r k ver := by simp [objCells]
@[simp] theorem setObj_hit (o : AO) (r : List AO) (f : AO → AO) : setObj (o :: r) 0 f = f o :: r := by simp [setObj]
@[simp] theorem setObj_next (o : AO) (r : List AO) (k : Nat) (f : AO → AO) : setObj (o :: r) (k + 1) f = o :: setObj r k f := by
  simp only [setObj, List.getElem?_cons_succ]; cases r[k]? <;> simp
@[simp] theorem objIs_new (H L : List AO) (k ver : Nat) (T : TypeId) (m : Nat) : objIs (H ++ L) (H.length + k) ver T m = objIs L k ver T m := by
  unfold objIs; rw [List.getElem?_append_right (by omega)]; simp
@[simp] theorem objIs_new0 (H L : List AO) (ver : Nat) (T : TypeId) (m : Nat) : objIs (H ++ L) H.length ver T m = objIs L 0 ver T m := objIs_new H L 0 ver T m
@[simp] theorem objIs_hit (o : AO) (r : List AO) (ver : Nat) (T : TypeId) (m : Nat) : objIs (o :: r) 0 ver T m = (o.live = true ∧ o.ver = ver ∧ o.ty = T ∧ o.cells.length = m) := by simp [objIs]
@[simp] theorem objIs_next (o : AO) (r : List AO) (k ver : Nat) (T : TypeId) (m : Nat) : objIs (o :: r) (k + 1) ver T m = objIs r k ver T m := by simp [objIs]
attribute [simp] AO.put AO.grow eqSide eqAll SV.under SV.underL keptO keptOk placeOf
@[simp] theorem under_i64 (n : Nat) (k : Int) : SV.under n (i64 k) = true := rfl
@[simp] theorem under_bl (n : Nat) (b : Bool) : SV.under n (bl b) = true := rfl
@[simp] theorem under_st (n : Nat) (s : ByteArray) : SV.under n (st s) = true := rfl
@[simp] theorem underL_ints (n : Nat) (l : List Int) : SV.underL n (ints l) = true := by
  rw [SV.underL_iff]; simp only [ints, List.mem_map]; rintro s ⟨k, _, rfl⟩; rfl

/-! The end -/
@[simp] theorem fin_normal (n0 : Nat) (rs : List RS) (r : SV) (H' : List AO) (env : Env) (H1 : List AO) : Ab.Fin n0 rs (.ret r) H' .normal env H1 = ((∀ s ∈ rs, s.side env H1) ∧ Cv n0 (resV env H1 rs) H1 r H') := rfl
@[simp] theorem fin_ret (n0 : Nat) (rs : List RS) (r : SV) (H' : List AO) (env : Env) (H1 : List AO) : Ab.Fin n0 rs (.ret r) H' .ret env H1 = ((∀ s ∈ rs, s.side env H1) ∧ Cv n0 (resV env H1 rs) H1 r H') := rfl
@[simp] theorem finP_normal (n0 : Nat) (rs : List RS) (Pt : Out → List AO → Prop) (env : Env) (H1 : List AO) : Ab.FinP n0 rs Pt .normal env H1 = ((∀ s ∈ rs, s.side env H1) ∧ FinQ n0 Pt (resV env H1 rs) H1) := rfl
@[simp] theorem finP_ret (n0 : Nat) (rs : List RS) (Pt : Out → List AO → Prop) (env : Env) (H1 : List AO) : Ab.FinP n0 rs Pt .ret env H1 = ((∀ s ∈ rs, s.side env H1) ∧ FinQ n0 Pt (resV env H1 rs) H1) := rfl
@[congr] theorem FinQ_congr {n0 : Nat} {Pt : Out → List AO → Prop} {v v' : SV} {H H' : List AO} (h : Ev v = v') (h1 : Ev H = H') : FinQ n0 Pt v H = FinQ n0 Pt v' H' := by rw [Ev_to h, Ev_to h1]
@[simp] theorem fin_pan (n0 : Nat) (rs : List RS) (x y : SV) (H' : List AO) (env : Env) (H1 : List AO) : Ab.Fin n0 rs (.pan y) H' (.panic x) env H1 = Cv n0 x H1 y H' := rfl
attribute [simp] RS.side RS.ev resV
theorem cv_fz {n0 : Nat} {H L : List AO} {r r1 : SV} (d : Nat) (hcl : closed H) (hn : n0 = H.length) (h : r1.fz H.length [] L d = r) : Cv n0 r1 (H ++ L) r H := by
  subst h; exact cv_none d rfl (by omega) hcl
theorem cv_id {n0 : Nat} {H : List AO} {r : SV} : Cv n0 r H r H := fun S v hS hsim hv => ⟨S.ρ, by subst hS; exact Ext.refl _ _, by subst hS; exact hsim, by subst hS; exact hv⟩
theorem cv_kp {n0 : Nat} {H L H' : List AO} {r r1 : SV} (d : Nat) (ks : List Nat) (hcl : closed H) (hn : n0 = H.length) (h : r1.fz H.length ks L d = r) (hk : keptOk H.length ks L d ks) (hh : keptO H.length ks L d = H') : Cv n0 r1 (H ++ L) r (H ++ H') := by
  subst h hh; exact cv_keep d ks rfl (by omega) hcl hk
theorem fz_under {n : Nat} {ks : List Nat} {L : List AO} {d : Nat} {s : SV} (h : s.under n = true) : SV.fz n ks L (d + 1) s = s := by unfold SV.fz; rw [if_pos h]
@[simp] theorem fz_i64 (n : Nat) (ks : List Nat) (L : List AO) (d : Nat) (k : Int) : SV.fz n ks L (d + 1) (i64 k) = i64 k := fz_under rfl
@[simp] theorem fz_bl (n : Nat) (ks : List Nat) (L : List AO) (d : Nat) (k : Bool) : SV.fz n ks L (d + 1) (bl k) = bl k := fz_under rfl
@[simp] theorem fz_ints (n : Nat) (ks : List Nat) (L : List AO) (d : Nat) (l : List Int) : (ints l).map (SV.fz n ks L (d + 1)) = ints l := by
  simp only [ints, List.map_map]; apply List.map_congr_left; intro k _; exact fz_i64 n ks L d k

end Go.Ab
/- AbM -/
namespace Go.Ab
variable [GlobEnv]

/-- x is a slice that holds these integers. -/
structure IsI (H : List AO) (x : SV) (l : List Int) : Prop where
  vd : x.vd = true
  ug : x.ug = x
  sl : x.isSl = true
  cell : x.isCell = true
  sz : x.szIs 1 = true
  len : x.slen = l.length
  und : x.under H.length = true
  row : (x.row H).take l.length = ints l
  flat : x.flat = [x]

theorem objCells_app {H : List AO} {i ver : Nat} (L : List AO) (h : i < H.length) : objCells (H ++ L) i ver = objCells H i ver := by
  unfold objCells; rw [List.getElem?_append_left h]
theorem row_app {H : List AO} {x : SV} (L : List AO) (h : x.under H.length = true) : x.row (H ++ L) = x.row H := by
  cases x <;> try rfl
  rename_i i off len sz ver
  simp only [SV.row]; rw [objCells_app L (by simpa [SV.under] using h)]

namespace IsI
variable {H : List AO} {x : SV} {l : List Int}
theorem app (h : IsI H x l) (L : List AO) : IsI (H ++ L) x l :=
  ⟨h.vd, h.ug, h.sl, h.cell, h.sz, h.len, SV.under_mono (by simp) x h.und, by rw [row_app L h.und]; exact h.row, h.flat⟩
theorem slc (H : List AO) (l : List Int) : IsI H (.slc (ints l) l.length) l :=
  ⟨rfl, rfl, rfl, rfl, rfl, rfl, by simp, by simp, rfl⟩
theorem rowlen (h : IsI H x l) : l.length ≤ (x.row H).length := by
  have := congrArg List.length h.row
  simp at this; omega
theorem ldlen (h : IsI H x l) {k : Nat} (hk : k < l.length) : k < (x.row H).length := Nat.lt_of_lt_of_le hk h.rowlen
theorem ld (h : IsI H x l) {k : Nat} (hk : k < l.length) : ((x.row H).drop k).headD .any = i64 (l.getD k 0) := by
  have h1 := h.ldlen hk
  have h2 : ((x.row H).take l.length)[k]? = (ints l)[k]? := by rw [h.row]
  rw [List.getElem?_take_of_lt hk] at h2
  rw [List.headD_eq_head?_getD, List.head?_drop, h2]
  simp [ints, hk]
theorem ldA (h : IsI H x l) (L : List AO) {k : Nat} (hk : k < l.length) : ((x.row (H ++ L)).drop k).headD .any = i64 (l.getD k 0) := (h.app L).ld hk
theorem ld? (h : IsI H x l) {k : Nat} (hk : k < l.length) : (x.row H)[k]? = some (i64 (l.getD k 0)) := by
  have h2 : ((x.row H).take l.length)[k]? = (ints l)[k]? := by rw [h.row]
  rw [List.getElem?_take_of_lt hk] at h2
  rw [h2]; simp [ints, hk]
theorem ld?A (h : IsI H x l) (L : List AO) {k : Nat} (hk : k < l.length) : (x.row (H ++ L))[k]? = some (i64 (l.getD k 0)) := (h.app L).ld? hk
theorem ldlenA (h : IsI H x l) (L : List AO) {k : Nat} (hk : k < l.length) : k < (x.row (H ++ L)).length := (h.app L).ldlen hk
theorem ldsub (h : IsI H x l) {k : Nat} (hk : k < l.length) : 0 < (x.row H).length - k := by have := h.ldlen hk; omega
theorem ldsubA (h : IsI H x l) (L : List AO) {k : Nat} (hk : k < l.length) : 0 < (x.row (H ++ L)).length - k := (h.app L).ldsub hk
theorem ok (h : IsI H x l) {k : Nat} (hk : k < l.length) : ldok H (.ptr x k) 1 := by
  have := h.ldlen hk
  simp only [ldok, at_ptr, List.length_drop]; omega
theorem okA (h : IsI H x l) (L : List AO) {k : Nat} (hk : k < l.length) : ldok (H ++ L) (.ptr x k) 1 := (h.app L).ok hk
theorem v (h : IsI H x l) {k : Nat} (hk : k < l.length) : ldv H (.ptr x k) = i64 (l[k]'hk) := by
  have := h.ld hk
  simp only [ldv, at_ptr, this, List.getD_eq_getElem?_getD, List.getElem?_eq_getElem hk, Option.getD_some]
theorem vA (h : IsI H x l) (L : List AO) {k : Nat} (hk : k < l.length) : ldv (H ++ L) (.ptr x k) = i64 (l[k]'hk) := (h.app L).v hk
theorem ldG (h : IsI H x l) {k : Nat} (hk : k < l.length) (h' : k < (x.row H).length) : (x.row H)[k]'(h') = i64 (l[k]'hk) := by
  have := h.ld? hk
  rw [List.getElem?_eq_getElem h'] at this
  simpa [hk] using this
theorem ldGA (h : IsI H x l) (L : List AO) {k : Nat} (hk : k < l.length) (h' : k < (x.row (H ++ L)).length) : (x.row (H ++ L))[k]'(h') = i64 (l[k]'hk) := (h.app L).ldG hk h'
theorem rowlenA (h : IsI H x l) (L : List AO) : l.length ≤ (x.row (H ++ L)).length := (h.app L).rowlen
theorem rowA (h : IsI H x l) (L : List AO) : (x.row (H ++ L)).take l.length = ints l := (h.app L).row
theorem part (h : IsI H x l) (n : Nat) : partOk n x = (n = 1) := by
  have h1 := h.sl
  have h2 := h.cell
  have h3 := h.vd
  unfold partOk; rw [h.ug]
  cases x <;> simp_all [SV.isSl]
theorem own0 (H : List AO) (L : List AO) (k ver : Nat) (l m : List Int) (T : TypeId) (h : L[k]? = some ⟨ints (l ++ m), T, ver, true⟩) : IsI (H ++ L) (.own (H.length + k) 0 l.length 1 ver) l := by
  refine ⟨rfl, rfl, rfl, rfl, rfl, rfl, ?_, ?_, rfl⟩
  · have : k < L.length := getElem?_lt h
    simp; omega
  · simp only [SV.row, objCells_new, List.drop_zero]
    unfold objCells
    rw [h]
    simp [ints]
end IsI

/-- A round of a loop whose body has a name. -/
theorem li_go {P : Program} (hm : P.follows .mixedOrders = true) {N : Nat} {i j : IC} (e : i = j) {env : Env} {H : List AO} {K : XE → Env → List AO → Prop}
    (h : X P N drawB j env H fun x env H => match x with | .normal => LI P N drawB i env H K | x => K x env H) : LI P N drawB i env H K := by
  subst e; exact li_round hm h
@[congr] theorem LI_congr {P : Program} {N : Nat} {D : Array Oper → List Nat → List Ins → Bool} {i : IC} {env env' : Env} {H H' : List AO} {K : XE → Env → List AO → Prop} (h : Ev env = env') (h2 : Ev H = H') : LI P N D i env H K = LI P N D i env' H' K := by rw [Ev_to h, Ev_to h2]
@[simp] theorem add_lt_left' (n k : Nat) : (n + k < n) = False := by simp
theorem wrap_nat {n : Nat} (h : n ≤ 9223372036854775807) : IntKind.i64.wrap (n : Int) = n := wrap_id (by omega) (by omega)
theorem wrap_suc {n : Nat} (h : n < 9223372036854775807) : IntKind.i64.wrap ((n : Int) + 1) = (n : Int) + 1 := wrap_id (by omega) (by omega)
theorem wrap_succ {n : Nat} (h : n < 9223372036854775807) : IntKind.i64.wrap ((n : Int) + 1) = ((n + 1 : Nat) : Int) := by rw [wrap_id (by omega) (by omega)]; rfl

@[simp] theorem ints_G {l : List Int} {k : Nat} (h : k < (ints l).length) : (ints l)[k] = i64 (l[k]'(by simpa using h)) := by simp [ints]
@[simp] theorem take_ints_le {l : List Int} {n : Nat} (h : l.length ≤ n) : (ints l).take n = ints l := List.take_of_length_le (by simpa using h)
theorem ints_set {l : List Int} {k : Nat} (h : k < l.length) (v : Int) : (ints l).take k ++ i64 v :: (ints l).drop (k + 1) = ints (l.set k v) := by
  rw [List.set_eq_take_append_cons_drop, if_pos h]
  simp [ints]
/-- Without open guards. -/
def SV.strip : SV → SV
  | .gd true x => x.strip
  | x => x
theorem vr_strip {S : St} {s : SV} {v : Value} (h : VR S s v) : VR S s.strip v := by
  induction h with
  | gd b x v h0 h ih =>
    cases b with
    | true => exact ih rfl
    | false => exact .gd false x v h0 h
  | any v => exact .any v
  | val v => exact .val v
  | nilslc => exact .nilslc
  | slc cells len a cap us hc hl hi h ih => exact .slc cells len a cap us hc hl hi h
  | own i off len sz ver a cap o ho hv hc hz h => exact .own i off len sz ver a cap o ho hv hc hz h
  | ptrI cells len k a us hl hi h ih => exact .ptrI cells len k a us hl hi h
  | ptrO i off len sz ver k a o ho hv h => exact .ptrO i off len sz ver k a o ho hv h
  | agg l us hl h ih => exact .agg l us hl h
  | tup l us hl h ih => exact .tup l us hl h
  | fn f x y us vs hl h hl' h' ih ih' => exact .fn f x y us vs hl h hl' h'
  | ifc t x v h ih => exact .ifc t x v h
  | yl i l o ho h => exact .yl i l o ho h
theorem Ok.strip {P : Program} {f : FuncId} {args : List SV} {H H' : List AO} {out : Out} (h : Ok P f (args.map SV.strip) H out H') : Ok P f args H out H' :=
  ⟨h.1, fun S vs hH hS hv => h.2 S vs hH hS (hv.map fun s v hs => vr_strip hs)⟩
theorem callq_st {P : Program} {on : Bool} {k : FuncId} {args : List SV} {H : List AO} {r : SV} {K : SV → Prop} (h : on = true → Ok P k (args.map SV.strip) H (.ret r) H) (hk : K r) : CallQ P on (.fn (.func k) [] []) args H K :=
  callq_go (fun ho => (h ho).strip) hk
theorem call_st {P : Program} {k : FuncId} {args : List SV} {H H' : List AO} {out : Out} {K : Out → List AO → Prop} (h : Ok P k (args.map SV.strip) H out H') (hk : K out H') : CallTo P (.fn (.func k) [] []) args H K :=
  call_go h.strip hk

theorem IsI.strip {H : List AO} {x : SV} {l : List Int} (h : IsI H x l) : x.strip = x := by
  have h1 := h.sl
  cases x <;> first | rfl | simp [SV.isSl] at h1
/-- An own row that is whole. -/
theorem IsI.whole {H L : List AO} {T : TypeId} {l : List Int} {k n ver : Nat} (h : L[k]? = some ⟨ints l, T, ver, true⟩) (hn : n = l.length) : IsI (H ++ L) (.own (H.length + k) 0 n 1 ver) l := by
  subst hn; exact IsI.own0 H L k ver l [] T (by simpa using h)

theorem ints_get {l : List Int} {k : Nat} (h : k < l.length) : (ints l)[k]? = some (i64 (l.getD k 0)) := by simp [ints, h]

section
variable (n : Nat) (ks : List Nat) (L : List AO) (d : Nat)
theorem map_fz_under {l : List SV} (h : SV.underL n l = true) : l.map (SV.fz n ks L (d + 1)) = l := by
  rw [SV.underL_iff] at h
  have : l.map (SV.fz n ks L (d + 1)) = l.map id := List.map_congr_left fun s hs => fz_under (h s hs)
  simpa using this
@[simp] theorem fz_agg (l : List SV) : SV.fz n ks L (d + 2) (.agg l) = .agg (l.map (SV.fz n ks L (d + 1))) := by
  by_cases h : (SV.agg l).under n = true
  · rw [fz_under h]; rw [map_fz_under n ks L d (by simpa [SV.under] using h)]
  · conv => lhs; unfold SV.fz
    rw [if_neg h]
@[simp] theorem fz_tup (l : List SV) : SV.fz n ks L (d + 2) (.tup l) = .tup (l.map (SV.fz n ks L (d + 1))) := by
  by_cases h : (SV.tup l).under n = true
  · rw [fz_under h]; rw [map_fz_under n ks L d (by simpa [SV.under] using h)]
  · conv => lhs; unfold SV.fz
    rw [if_neg h]
@[simp] theorem fz_slc (l : List SV) (m : Nat) : SV.fz n ks L (d + 2) (.slc l m) = .slc (l.map (SV.fz n ks L (d + 1))) m := by
  by_cases h : (SV.slc l m).under n = true
  · rw [fz_under h]; rw [map_fz_under n ks L d (by simpa [SV.under] using h)]
  · conv => lhs; unfold SV.fz
    rw [if_neg h]
@[simp] theorem fz_nil (m : Nat) : SV.fz n ks L (d + 1) (.slc [] m) = .slc [] m := fz_under rfl
@[simp] theorem fz_st (s : ByteArray) : SV.fz n ks L (d + 1) (st s) = st s := fz_under rfl
@[simp] theorem fz_val (v : Value) : SV.fz n ks L (d + 1) (.val v) = .val v := fz_under rfl
@[simp] theorem fz_fn0 (f : Fn) : SV.fz n ks L (d + 1) (.fn f [] []) = .fn f [] [] := fz_under rfl
@[simp] theorem fz_own (k off len sz ver : Nat) : SV.fz n ks L (d + 1) (.own (n + k) off len sz ver) = (match L[k]? with
      | some o =>
        match placeOf ks k with
        | some p => if o.ver = ver then .own (n + p) off len sz 0 else .any
        | none => if o.live = true ∧ o.ver = ver ∧ off + len * sz ≤ o.cells.length then .slc (((o.cells.drop off).take (len * sz)).map (SV.fz n ks L d)) len else .any
      | none => .any) := by
  conv => lhs; unfold SV.fz
  rw [if_neg (by simp [SV.under])]
  have e : n + k - n = k := by omega
  simp only [e]
  cases L[k]? with
  | none => rfl
  | some o => cases placeOf ks k <;> rfl
@[simp] theorem fz_own0 (off len sz ver : Nat) : SV.fz n ks L (d + 1) (.own n off len sz ver) = (match L[0]? with
      | some o =>
        match placeOf ks 0 with
        | some p => if o.ver = ver then .own (n + p) off len sz 0 else .any
        | none => if o.live = true ∧ o.ver = ver ∧ off + len * sz ≤ o.cells.length then .slc (((o.cells.drop off).take (len * sz)).map (SV.fz n ks L d)) len else .any
      | none => .any) := fz_own n ks L d 0 off len sz ver
end

end Go.Ab
/- AbN -/
namespace Go.Ab
variable [GlobEnv]
open Go.RowKit

/-- The state at a call from outside: all that is there is only read. -/
def st0 (W : World) : St := ⟨fun _ => none, [], W⟩
theorem sim0 (W : World) (hg : (st0 W).GL) : Sim (st0 W) :=
  ⟨fun i o h => by simp [st0] at h, fun i o h => by simp [st0] at h, fun i j o o' b h => by simp [st0] at h, fun i o h => by simp [st0] at h, hg⟩
theorem rw0 (W : World) (k : Nat) : ¬ (st0 W).rw k := by
  rintro ⟨i, o, h, _⟩; simp [st0] at h
theorem below_of_ext {W W' : World} {ρ : Nat → Option Nat} {H : List AO} (h : Ext 0 (st0 W) ⟨ρ, H, W'⟩) : Below W.heap.size W W' :=
  ⟨h.os, h.tape, h.output, h.size, fun k hk => (h.imm k hk (rw0 W k)).1⟩
theorem ok_calls {P : Program} {f : FuncId} {args : List SV} (h : Ok P f args [] (.ret (bl true)) []) {W : World} (hg : (st0 W).GL) {vs : List Value} (hv : VRs (st0 W) args vs) :
    Calls P f vs.toArray W fun e W' => e = .returned (.bool true) ∧ Below W.heap.size W W' := by
  refine (h.2 (st0 W) vs rfl (sim0 W hg) hv).mono ?_
  rintro e W' ⟨v, ρ', hext, _, rfl, hv⟩
  refine ⟨?_, below_of_ext hext⟩
  have := hv.isB rfl
  rw [this]; rfl
/-- A slice of integers that came in. -/
theorem vr_ints {W : World} {x : Addr} {len cap : Nat} {zs : List Int} (hl : len ≤ cap) (hz : cap ≤ zs.length) (hc : ∀ i, i < zs.length → W.cell? (x.add i) = some (.int .i64 (zs.getD i 0))) :
    VR (st0 W) (.slc (ints (zs.take len)) (zs.take len).length) (.slice (some x) len cap) := by
  have e : (zs.take len).length = len := by simp; omega
  rw [e]
  refine .slc _ len x cap ((zs.take len).map fun n => .int .i64 n) hl (by simp) ⟨?_, fun _ => rw0 W _⟩ ?_
  · intro j u hj
    rw [List.getElem?_map, Option.map_eq_some_iff] at hj
    obtain ⟨n, hn, rfl⟩ := hj
    rw [List.getElem?_take] at hn
    split at hn
    · have hlt := getElem?_lt hn
      have := hc j hlt
      rw [List.getD_eq_getElem?_getD, hn] at this
      exact this
    · cases hn
  · intro j s u hs hu
    simp only [ints, List.getElem?_map, Option.map_eq_some_iff] at hs hu
    obtain ⟨n, hn, rfl⟩ := hs
    obtain ⟨m, hm, rfl⟩ := hu
    rw [hn] at hm; cases hm
    exact .val _
end Go.Ab
/- AbO -/
namespace Go.Ab
variable [GlobEnv]
open Go.ChangeShapes Go.WideShapes Go.RowKit

/-- What types are made of. -/
inductive Sh where
  | int (k : IntKind)
  | bool
  | str
  | sl (e : Sh)
  | st (l : List Sh)
/-- What lies there. -/
inductive Dt where
  | int (k : IntKind) (n : Int)
  | bool (b : Bool)
  | str (s : ByteArray)
  | sl (l : List Dt)
  | agg (l : List Dt)
  deriving Inhabited

mutual
def Dt.cells : Dt → List SV
  | .int k n => [.val (.int k n)]
  | .bool b => [bl b]
  | .str s => [Ab.st s]
  | .sl l => [.slc (Dt.cellsL l) l.length]
  | .agg l => Dt.cellsL l
def Dt.cellsL : List Dt → List SV
  | [] => []
  | d :: r => d.cells ++ Dt.cellsL r
end
/-- The value as a whole. -/
def Dt.sv : Dt → SV
  | .agg l => .agg (Dt.cellsL l)
  | d => d.cells.headD .any
mutual
def Sh.has : Sh → Dt → Prop
  | .int k, d => ∃ n, d = .int k n ∧ (Lit.int k n).wf = true
  | .bool, d => ∃ b, d = .bool b
  | .str, d => ∃ s, d = .str s ∧ s.size ≤ maxLen
  | .sl e, d => ∃ l, d = .sl l ∧ l.length ≤ maxLen ∧ ∀ x ∈ l, e.has x
  | .st l, d => ∃ m, d = .agg m ∧ Sh.hasL l m
def Sh.hasL : List Sh → List Dt → Prop
  | [], m => m = []
  | s :: r, m => ∃ d m', m = d :: m' ∧ s.has d ∧ Sh.hasL r m'
end
mutual
def Sh.chk (P : Program) : Sh → TypeId → Bool
  | .int k, t => match P.underlying t with | some (.int k') => decide (k' = k) | _ => false
  | .bool, t => match P.underlying t with | some .bool => true | _ => false
  | .str, t => match P.underlying t with | some .string => true | _ => false
  | .sl e, t => match P.underlying t with | some (.slice e') => e.chk P e' | _ => false
  | .st l, t => match P.underlying t with | some (.struct fs) => Sh.chkL P l fs.toList 0 (P.cellsOf t) | _ => false
def Sh.chkL (P : Program) : List Sh → List Field → Nat → Nat → Bool
  | [], fs, off, tot => fs.isEmpty && off == tot
  | s :: r, fs, off, tot => match fs with | [] => false | f :: fs => f.offset == off && s.chk P f.type && Sh.chkL P r fs (off + P.cellsOf f.type) tot
end

section
variable {H : Type} {enc : TypeId × Value → H} {P : Program} {W : World} {base : Nat} {spare : Nat → Bool} {held : Bool}

theorem cellsL_append (a b : List Dt) : Dt.cellsL (a ++ b) = Dt.cellsL a ++ Dt.cellsL b := by
  induction a with
  | nil => rfl
  | cons x r ih => simp [Dt.cellsL, ih]

/-- Elements read one by one. -/
theorem read_row {e : TypeId} {sh : Sh} {n : Nat} {a : Addr} {elems : List (DataW H × List MemPlace)}
    (ih : ∀ cs x, DataW.trod enc P W base spare held n e cs = some x → ∃ d, sh.has d ∧ VRs (st0 W) d.cells cs) :
    ∀ k, k ≤ elems.length → (∀ i, i < k → (W.cells? base (a.add (i * P.cellsOf e)) (P.cellsOf e)).bind (DataW.trod enc P W base spare held n e) = elems[i]?) →
      ∃ (ds : List Dt) (us : List Value), ds.length = k ∧ (∀ x ∈ ds, sh.has x) ∧ VRs (st0 W) (Dt.cellsL ds) us ∧ us.length = k * P.cellsOf e ∧ ∀ j u, us[j]? = some u → W.cell? (a.add j) = some u := by
  intro k
  induction k with
  | zero => intro _ _; exact ⟨[], [], rfl, by simp, VRs.nil _, by simp, by simp⟩
  | succ k ihk =>
    intro hk hel
    obtain ⟨ds, us, h1, h2, h3, h4, h5⟩ := ihk (by omega) (fun i hi => hel i (by omega))
    have h6 := hel k (by omega)
    rw [List.getElem?_eq_getElem (by omega), Option.bind_eq_some_iff] at h6
    obtain ⟨cs, hcs, ht⟩ := h6
    obtain ⟨d, hd, hv⟩ := ih cs _ ht
    obtain ⟨_, hlen, hc⟩ := World.cells?_some hcs
    refine ⟨ds ++ [d], us ++ cs, by simp [h1], ?_, ?_, ?_, ?_⟩
    · intro x hx
      rcases List.mem_append.1 hx with hx | hx
      · exact h2 x hx
      · simp at hx; subst hx; exact hd
    · rw [cellsL_append]; simpa [Dt.cellsL] using h3.append hv
    · simp [h4, hlen, Nat.add_mul]
    · intro j u hj
      by_cases hlt : j < us.length
      · rw [List.getElem?_append_left hlt] at hj; exact h5 j u hj
      · rw [List.getElem?_append_right (by omega)] at hj
        have hj' : j - us.length < cs.length := getElem?_lt hj
        have := hc (j - us.length) (by omega)
        rw [hj, add_add] at this
        rw [← this]; congr 2; omega

mutual
theorem read (sh : Sh) : ∀ {t : TypeId} {fuel : Nat} {cs : List Value} {x : DataW H × List MemPlace}, sh.chk P t = true → DataW.trod enc P W base spare held fuel t cs = some x →
    ∃ d, sh.has d ∧ VRs (st0 W) d.cells cs := by
  intro t fuel cs x hc h
  cases sh with
  | int k =>
    simp only [Sh.chk] at hc
    split at hc
    · rename_i k' ht
      have : k' = k := by simpa using hc
      subst this
      obtain ⟨n, rfl, _, hw⟩ := DataW.trod_int ht h
      exact ⟨.int k' n, ⟨n, rfl, hw⟩, VRs.cons (.val _) (VRs.nil _)⟩
    · cases hc
  | bool =>
    simp only [Sh.chk] at hc
    split at hc
    · rename_i ht
      obtain ⟨b, rfl⟩ : ∃ b, cs = [.bool b] := by
        cases fuel with
        | zero => simp [DataW.trod] at h
        | succ n =>
          unfold DataW.trod at h
          rw [ht] at h
          split at h <;> simp_all
      exact ⟨.bool b, ⟨b, rfl⟩, VRs.cons (.val _) (VRs.nil _)⟩
    · cases hc
  | str =>
    simp only [Sh.chk] at hc
    split at hc
    · rename_i ht
      obtain ⟨s, rfl, _, hs⟩ := DataW.trod_string ht h
      exact ⟨.str s, ⟨s, rfl, hs⟩, VRs.cons (.val _) (VRs.nil _)⟩
    · cases hc
  | sl e =>
    simp only [Sh.chk] at hc
    split at hc
    · rename_i e' ht
      rcases DataW.trod_slice ht h with ⟨rfl, _⟩ | ⟨a, len, cap, elems, rest, n, _, rfl, _, hb, hl, hm, hlen, hel, _, _⟩
      · exact ⟨.sl [], ⟨[], rfl, by simp, by simp⟩, VRs.cons .nilslc (VRs.nil _)⟩
      · obtain ⟨ds, us, h1, h2, h3, h4, h5⟩ := read_row (sh := e) (fun cs x hx => read e hc hx) len (by omega) hel
        refine ⟨.sl ds, ⟨ds, rfl, by omega, h2⟩, VRs.cons ?_ (VRs.nil _)⟩
        have : ds.length = len := h1
        subst this
        exact .slc _ _ a cap us hl h3.1 ⟨h5, fun _ => rw0 W _⟩ h3.2
    · cases hc
  | st l =>
    simp only [Sh.chk] at hc
    split at hc
    · rename_i fs ht
      obtain ⟨xs, n, _, _, hl, hlen, hf⟩ := DataW.trod_struct ht h
      obtain ⟨m, hm, hv⟩ := readL l (n := n) (cs := cs) (fs := fs.toList) (off := 0) (xs := xs) hc (fun i f hi => by
        have hlt : i < xs.length := by rw [hlen]; simpa using getElem?_lt hi
        refine ⟨xs[i], ?_⟩
        rw [hf i f (by simpa using hi), List.getElem?_eq_getElem hlt]) hl
      exact ⟨.agg m, ⟨m, rfl, hm⟩, by rw [Dt.cells]; simpa using hv⟩
    · cases hc
theorem readL (l : List Sh) : ∀ {n : Nat} {cs : List Value} {fs : List Field} {off tot : Nat} {xs : List (DataW H × List MemPlace)}, Sh.chkL P l fs off tot = true →
    (∀ (i : Nat) (f : Field), fs[i]? = some f → ∃ x, DataW.trod enc P W base spare held n f.type ((cs.drop f.offset).take (P.cellsOf f.type)) = some x) → cs.length = tot →
    ∃ m, Sh.hasL l m ∧ VRs (st0 W) (Dt.cellsL m) (cs.drop off) := by
  intro n cs fs off tot xs hc hf hl
  cases l with
  | nil =>
    simp only [Sh.chkL, Bool.and_eq_true, List.isEmpty_iff, beq_iff_eq] at hc
    refine ⟨[], rfl, ?_⟩
    rw [List.drop_of_length_le (by omega)]
    exact VRs.nil _
  | cons s r =>
    simp only [Sh.chkL] at hc
    split at hc
    · cases hc
    · rename_i f fs'
      simp only [Bool.and_eq_true, beq_iff_eq] at hc
      obtain ⟨⟨h1, h2⟩, h3⟩ := hc
      obtain ⟨x, hx⟩ := hf 0 f rfl
      obtain ⟨d, hd, hv⟩ := read s h2 hx
      obtain ⟨m, hm, hv'⟩ := readL r (n := n) (cs := cs) (fs := fs') (xs := xs) h3 (fun i f hi => hf (i + 1) f (by simpa using hi)) hl
      refine ⟨d :: m, ⟨d, m, rfl, hd, hm⟩, ?_⟩
      have := hv.append hv'
      rw [h1, ← List.drop_drop, List.take_append_drop] at this
      simpa [Dt.cellsL] using this
end
end
end Go.Ab
/- AbP -/
namespace Go.Ab
variable [GlobEnv]
open Go.ChangeShapes Go.WideShapes Go.ChangeAt Go.RowKit

def Sh.chkAll (P : Program) : List Sh → List TypeId → Bool
  | [], [] => true
  | s :: r, t :: ts => s.chk P t && Sh.chkAll P r ts
  | _, _ => false

section
variable {H : Type} {enc : TypeId × Value → H} {P : Program} {W : World} {base b0 : Nat} {spare : Nat → Bool} {held : Bool} {r : Reach}

theorem read_one {sh : Sh} {t : TypeId} {v : Value} {d : DataW H} {p : List MemPlace} (hc : sh.chk P t = true) (hval : Value.okWide P W r b0 t v) (hd : DataW.Trod enc P W base spare held t v d p) :
    ∃ dt, sh.has dt ∧ VR (st0 W) dt.sv v := by
  obtain ⟨fuel, hf⟩ := hd
  obtain ⟨dt, hh, hv⟩ := read sh hc hf
  refine ⟨dt, hh, ?_⟩
  cases sh with
  | int k =>
    simp only [Sh.chk] at hc
    split at hc
    · rename_i k' ht
      obtain ⟨n, rfl⟩ := okWide_int ht hval
      obtain ⟨m, rfl, _⟩ := hh
      exact hv.2 0 _ _ rfl (by simp [Value.cells])
    · cases hc
  | bool =>
    simp only [Sh.chk] at hc
    split at hc
    · rename_i ht
      obtain ⟨n, rfl⟩ := okWide_bool ht hval
      obtain ⟨m, rfl⟩ := hh
      exact hv.2 0 _ _ rfl (by simp [Value.cells])
    · cases hc
  | str =>
    simp only [Sh.chk] at hc
    split at hc
    · rename_i ht
      obtain ⟨n, rfl⟩ := okWide_string ht hval
      obtain ⟨m, rfl, _⟩ := hh
      exact hv.2 0 _ _ rfl (by simp [Value.cells])
    · cases hc
  | sl e =>
    simp only [Sh.chk] at hc
    split at hc
    · rename_i e' ht
      obtain ⟨a, len, cap, rfl⟩ := okWide_slice ht hval
      obtain ⟨m, rfl, _⟩ := hh
      exact hv.2 0 _ _ rfl (by simp [Value.cells])
    · cases hc
  | st l =>
    simp only [Sh.chk] at hc
    split at hc
    · rename_i fs ht
      obtain ⟨cs, rfl, _⟩ := okWide_struct ht hval
      obtain ⟨m, rfl, _⟩ := hh
      have : VR (st0 W) (.agg (Dt.cellsL m)) (.agg cs.toList.toArray) := VR.of_agg (by rw [Dt.cells] at hv; simpa [Value.cells] using hv)
      simpa [Dt.sv] using this
    · cases hc

theorem read_args : ∀ (shs : List Sh) {ts : List TypeId} {vs : List Value} {ds : List (DataW H)} {p : List MemPlace}, Sh.chkAll P shs ts = true →
    (∀ (j : Nat) t v, ts[j]? = some t → vs[j]? = some v → Value.okWide P W r b0 t v) → DataW.TrodAll enc P W base spare held ts vs ds p →
    ∃ dts, Sh.hasL shs dts ∧ VRs (st0 W) (dts.map Dt.sv) vs
  | [], ts, vs, ds, p, hc, hval, h => by
    cases ts with
    | nil => obtain ⟨rfl, _, _⟩ := trodAll_nil h; exact ⟨[], rfl, VRs.nil _⟩
    | cons t ts => simp [Sh.chkAll] at hc
  | s :: shs, ts, vs, ds, p, hc, hval, h => by
    cases ts with
    | nil => simp [Sh.chkAll] at hc
    | cons t ts =>
      simp only [Sh.chkAll, Bool.and_eq_true] at hc
      obtain ⟨v, vs', d, ds', p, q, rfl, rfl, rfl, h1, h2⟩ := trodAll_cons h
      obtain ⟨dt, g1, g2⟩ := read_one hc.1 (hval 0 t v rfl rfl) h1
      obtain ⟨dts, g3, g4⟩ := read_args shs hc.2 (fun j t v ht hv => hval (j + 1) t v (by simpa using ht) (by simpa using hv)) h2
      exact ⟨dt :: dts, ⟨dt, dts, rfl, g1, g3⟩, VRs.cons g2 g4⟩

theorem below_all (hl : laidOutB P = true) {W' : World} (hb : Below W.heap.size W W') : ∀ {ts : List TypeId} {vs : List Value} {ds : List (DataW H)} {p : List MemPlace},
    (∀ t ∈ ts, P.readableRec t = true ∧ t < P.types.size) → DataW.TrodAll enc P W 0 (fun _ => true) true ts vs ds p → DataW.TrodAll enc P W' 0 (fun b => decide (b < W.heap.size)) true ts vs ds p
  | [], vs, ds, p, _, h => by obtain ⟨rfl, rfl, rfl⟩ := trodAll_nil h; exact trodAll_mk0
  | t :: ts, vs, ds, p, hr, h => by
    obtain ⟨v, vs', d, ds', p, q, rfl, rfl, rfl, h1, h2⟩ := trodAll_cons h
    have hlt : ∀ x ∈ p, x.block < W.heap.size := by obtain ⟨m, hm⟩ := h1; exact DataW.trod_lt m _ _ _ hm
    exact trodAll_cons_mk (Below.trod hl (hr t (by simp)).1 (hr t (by simp)).2 h1 hb hlt) (below_all hl hb (fun t ht => hr t (by simp [ht])) h2)
theorem trodAll_len : ∀ {ts : List TypeId} {vs : List Value} {ds : List (DataW H)} {p : List MemPlace}, DataW.TrodAll enc P W base spare held ts vs ds p → ds.length = ts.length
  | [], vs, ds, p, h => by obtain ⟨rfl, rfl, rfl⟩ := trodAll_nil h; rfl
  | t :: ts, vs, ds, p, h => by
    obtain ⟨v, vs', d, ds', p, q, rfl, rfl, rfl, h1, h2⟩ := trodAll_cons h
    simp [trodAll_len h2]

/-- THE CONTRACT that a row asks of a law. -/
theorem law_contract {f : FuncId} {fn : Func} {s : ChangeSpec} (shs : List Sh) (hg : (st0 W).GL) (hl : laidOutB P = true) (hc : Sh.chkAll P shs fn.params.toList = true) (hr : ∀ t ∈ fn.params.toList, P.readableRec t = true ∧ t < P.types.size)
    (hvars : s.vars = []) (hfn : ∀ ds : List (DataW H), ds.length = fn.params.size → s.fn H ds = { results := [.lit (.bool true)], args := ds }) {tb : TypeId} (hres : fn.resultTypes = #[tb]) (htb : P.underlying tb = some .bool)
    (hok : ∀ dts, Sh.hasL shs dts → Ok P f (dts.map Dt.sv) [] (.ret (bl true)) [])
    (args : Array Value) (ds gs : List (DataW H)) (before : List MemPlace)
    (hval : ∀ (j : Nat) t v, fn.params[j]? = some t → args[j]? = some v → Value.okWide P W r b0 t v) (hW : DataW.Whole enc P fn.params.toList s.vars false W args.toList ds gs before) :
    Calls P f args W fun e W' => ∃ v, e = .returned v ∧ s.post enc P fn false true false false W args v W' := by
  have hW' := hW
  obtain ⟨p, q, hA, hV, rfl, hfz, hnd⟩ := hW
  rw [hvars] at hV
  obtain ⟨rfl, rfl⟩ := trodVars_none hV
  obtain ⟨dts, h1, h2⟩ := read_args shs hc (fun j t v ht hv => hval j t v (by simpa using ht) (by simpa using hv)) hA
  have h3 := ok_calls (hok dts h1) hg h2
  refine h3.mono fun e W' ⟨he, bel⟩ => ?_
  subst he
  have hlen : ds.length = fn.params.size := by rw [trodAll_len hA]; simp
  have hf2 := hfn (ds ++ []) (by simpa using hlen)
  refine ⟨_, rfl, ds, [], _, [], p, [], hW', ?_, ?_, ?_, bel.frame _, fun h => by cases h⟩
  · rw [hres, hf2]
    exact trodAll_mk1 (shut_bool htb true)
  · rw [hf2]
    simpa using below_all hl bel hr hA
  · rw [hf2, hvars]; rfl
end
end Go.Ab
