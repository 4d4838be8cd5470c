/-
  Steps of the proof: contracts of functions and plain facts that the statement rests on.
-/
import Derived.Test.YtjbhokoihamhiaaDoorCore5
import Derived.RecoverIn
import Derived.Test.YtjbhokoihamhiaaDoorCore4
import Derived.SizedLaws
set_option linter.all false
/- AbZe -/
namespace Go.Ab
variable [GlobEnv]
section
variable {P : Program}
theorem turned_mark {n0 D : Nat} {w w' : World} (h1 : n0 ≤ D) (h2 : w.heap[D]? = some (Obj.deferred (some []))) (ht : Turned n0 (w.putObj D (.deferred none)) w') : Turned n0 w w' := by
  refine ⟨by rw [ht.size]; simp, fun k => ?_, ht.os, ht.tape, ht.output⟩
  by_cases hk : k = D
  · subst hk
    right
    refine ⟨h1, h2, ?_⟩
    rcases ht.at_ k with h3 | ⟨_, h3, h4⟩
    · exact h3.trans (World.putObj_heap_same (lt_heap h2))
    · exact h4
  · rcases ht.at_ k with h3 | ⟨h3, h4, h5⟩
    · exact .inl (h3.trans (World.putObj_heap_other hk))
    · exact .inr ⟨h3, (World.putObj_heap_other hk).symm.trans h4, h5⟩
theorem turned_refl (n0 : Nat) (w : World) : Turned n0 w w := ⟨rfl, fun _ => .inl rfl, rfl, rfl, rfl⟩
/-- A frame of any kind on its way out takes its marks. -/
theorem marks_steps {n0 : Nat} : ∀ (ms : List Nat) (w : World) (fr : Frame) (cs : List Frame), fr.mode ≠ .run → fr.defers = ms.map mark → ms.Nodup → (∀ D ∈ ms, n0 ≤ D ∧ w.heap[D]? = some (Obj.deferred (some []))) →
    ∃ w', Turned n0 w w' ∧ StepsIn (Machine.fenced P (Fr none)) P (lone fr cs w) (lone { fr with defers := [] } cs w')
  | [], w, fr, cs, hm, hd, _, _ => by
    refine ⟨w, turned_refl _ _, ?_⟩
    have : ({ fr with defers := [] } : Frame) = fr := by cases fr; simp_all
    rw [this]
    exact StepsIn.refl _
  | D :: ms, w, fr, cs, hm, hd, hnd, hms => by
    rw [List.nodup_cons] at hnd
    obtain ⟨h1, h2⟩ := hms D (by simp)
    have hs := step_collected (P := P) (cs := cs) (d := mark D) (ds := ms.map mark) hm hd rfl (run_takeDeferred h2)
    have i1 : (lone fr cs w).fenced P (Fr none) := fenced_out (n := 0) trivial (fr_room _ _) hm hd (fun g hg => trivial)
    obtain ⟨w', ht, hst⟩ := marks_steps ms (w.putObj D (.deferred none)) { fr with defers := ms.map mark } cs hm rfl hnd.2 (fun D' hD' => by
      refine ⟨(hms D' (by simp [hD'])).1, ?_⟩
      have hne : D' ≠ D := fun e => hnd.1 (e ▸ hD')
      exact (World.putObj_heap_other hne).trans (hms D' (by simp [hD'])).2)
    exact ⟨w', turned_mark h1 h2 ht, .head i1 hs hst⟩

/-- What a frame below is like: it returns, or it panics. -/
def MD (S : St) : Option SV → FrameMode → Prop
  | none, u => u = .returning
  | some x, u => ∃ v, u = .panicking [{ v := v, recovered := false }] ∧ VR S x v
/-- What recover gives. -/
def rvD : Option SV → SV
  | none => .val .nilIface
  | some x => x
/-- A deferred call that recovers, if there is something to recover from. -/
def OkD (P : Program) (f : FuncId) (args : List SV) (H : List AO) (m : Option SV) (Pt : List AO → Prop) : Prop :=
  (∀ (vs : Array Value) (w : World), (callFunc f vs).run P w = .ok (.enter f vs) w) ∧
  ∀ (S : St) (vs : List Value) (u : FrameMode), S.H = H → Sim S → VRs S args vs → MD S m u →
    CallsDIn (Fr none) 0 P f vs.toArray u S.w fun e u' w' => ∃ (v : Value) (H' : List AO) (ρ' : Nat → Option Nat), e = .returned v ∧ settle u' = .returning ∧ Pt H' ∧ Ext S.H.length S ⟨ρ', H', w'⟩ ∧ Sim ⟨ρ', H', w'⟩

theorem run_recover {o : Oper} (ho : o.op = .call { callee := .builtin .recover, args := #[], argTypes := #[] }) (ρ : Operand → Value) (w : World) : (execOp ρ o).run P w = .ok .recover w := by
  simp [execOp, ho, resolve, invoke, builtin]

variable {D : Array Oper → List Nat → List Ins → Bool}
theorem okD_of (hD : DOk P D) {f : FuncId} {fn : Func} {rid d : Nat} {ops : Array Oper} {o : Oper} {c2 : Code} {insR : List Ins} {i2 : IC} {args : List SV} {H : List AO} {m : Option SV} {Pt : List AO → Prop}
    (hf : P.funcs[f]? = some fn) (hb : fn.body = some (.seq (.region rid ops false) c2)) (hname : (fn.name == "runtime.NumGoroutine") = false) (hn : args.length ≤ fn.ntmps) (hr : chkRes P fn.results.toList [] = true)
    (hop : ops[0]? = some o) (ho : o.op = .call { callee := .builtin .recover, args := #[], argTypes := #[] }) (hg : o.guard = none) (hdst : o.dst = some d) (hd : d < fn.ntmps) (hnd : ndB ops = true)
    (hl : chkL P fn.ntmps ops (ops.toList.drop 1) insR = true) (hc : chkC P fn.ntmps D c2 i2 = true)
    (hx : closed H → xops P insR ((argsEnv args).put (some d) (rvD m)) H fun x env H1 => x = .normal ∧ X P fn.ntmps D i2 env H1 fun x _ H2 => (x = .normal ∨ x = .ret) ∧ ∃ H', Pt H' ∧ Cv H.length (.tup []) H2 (.tup []) H') : OkD P f args H m Pt := by
  refine ⟨fun vs w => Go.MuLone.run_callFunc_enter hf hname hb vs w, ?_⟩
  intro S vs u hH hS hvs hmd
  subst hH
  refine ⟨trivial, fun c₀ cs hu hroom => ?_⟩
  obtain ⟨b, hbk, hbr, hbf, henter⟩ : ∃ b : Frame, b.kind = .deferred ∧ b.roundOf = none ∧ b.fn = f ∧ Frame.enter P f vs.toArray .deferred = b.atR { tmps := vs.toArray ++ Array.replicate (fn.ntmps - vs.toArray.size) undef, defers := [] } [.code (.seq (.region rid ops false) c2)] :=
    ⟨{ (default : Frame) with fn := f, kind := .deferred, roundOf := none }, rfl, rfl, rfl, by simp [Frame.enter, Frame.atR, hf, hb]⟩
  rw [henter]
  have hlen : vs.length = args.length := hvs.1
  generalize ha0 : ({ tmps := vs.toArray ++ Array.replicate (fn.ntmps - vs.toArray.size) undef, defers := [] } : Act) = a0
  have hN0 : a0.tmps.size = fn.ntmps := by subst ha0; simp; omega
  have hd0 : a0.defers = [] := by subst ha0; rfl
  have he0 : EnvR S (argsEnv args) a0.tmps := by subst ha0; exact argsEnv_rel hvs _
  have t1 : StepsIn (Machine.fenced P (Fr none)) P (lone (b.atR a0 [.code (.seq (.region rid ops false) c2)]) (c₀ :: cs) S.w) (lone (b.atR a0 (.inRegion ops (List.range ops.size) :: [.code c2])) (c₀ :: cs) S.w) :=
    .head (fr_calm rfl) stepR_seq (.one (fr_calm rfl) stepR_region)
  have hsz : 0 < ops.size := by
    rcases Nat.lt_or_ge 0 ops.size with h | h
    · exact h
    · rw [Array.getElem?_eq_none h] at hop; cases hop
  have hrange : List.range ops.size = 0 :: List.range' 1 (ops.size - 1) := by
    rw [List.range_eq_range']
    obtain ⟨k, hk⟩ : ∃ k, ops.size = k + 1 := ⟨ops.size - 1, by omega⟩
    rw [hk, List.range'_succ]; simp
  rw [hrange] at t1
  -- recover
  obtain ⟨rv, u1, hstep, hset, hvr⟩ : ∃ (rv : Value) (u1 : FrameMode), step P (lone (b.atR a0 (.inRegion ops (0 :: List.range' 1 (ops.size - 1)) :: [.code c2])) (c₀ :: cs) S.w) =
      .next (lone (b.atR (a0.put o.dst rv) (.inRegion ops (List.range' 1 (ops.size - 1)) :: [.code c2])) ({ c₀ with mode := u1 } :: cs) S.w) ∧ settle u1 = .returning ∧ VR S (rvD m) rv := by
    have hw : Region.wanted o (yielded ops a0.tmps) = true := by simp [Region.wanted, hg]
    have hgs := stepGR_op (P := P) (b := b) (a := a0) (k := [.code c2]) (cs := c₀ :: cs) (w := S.w) (rest := List.range' 1 (ops.size - 1)) hop hw
    rw [hbr, Oper.semAt_none] at hgs
    have hfin : ∀ v, (b.atR a0 (.inRegion ops (0 :: List.range' 1 (ops.size - 1)) :: [.code c2])).finish v = b.atR (a0.put o.dst v) (.inRegion ops (List.range' 1 (ops.size - 1)) :: [.code c2]) := by
      intro v; rw [Frame.finish_atR, hop]; rfl
    have hk : (b.atR a0 (.inRegion ops (0 :: List.range' 1 (ops.size - 1)) :: [.code c2])).kind = .deferred := hbk
    have htr := tryRecover_deferred hk (c₀ :: cs)
    have hrun := run_recover (P := P) ho a0.eval S.w
    cases m with
    | none =>
      have hu' : u = .returning := hmd
      subst hu'
      refine ⟨.nilIface, .returning, ?_, rfl, .val _⟩
      have hc0 : ({ c₀ with mode := .returning } : Frame) = c₀ := by cases c₀; simp_all
      rw [hc0]
      have hrec : recoverD (c₀ :: cs) = none := by simp [recoverD, hu]
      refine step_lone_go ?_
      rw [hgs, ← hfin]
      simp only [Frame.atR, hbr] at htr ⊢
      simp [stepG.apply, hrun, htr, hrec]
    | some x =>
      obtain ⟨v, rfl, hv⟩ := hmd
      refine ⟨v, .panicking [{ v := v, recovered := true }], ?_, rfl, hv⟩
      have hrec : recoverD (c₀ :: cs) = some (v, { c₀ with mode := .panicking [{ v := v, recovered := true }] } :: cs) := by simp [recoverD, hu]
      refine step_lone_go ?_
      rw [hgs, ← hfin]
      simp only [Frame.atR, hbr] at htr ⊢
      simp [stepG.apply, hrun, htr, hrec]
  have t2 := t1.trans (.one (fenced_oper (n := 0) trivial (fr_room _ _) hop (fun f _ => trivial)) hstep)
  generalize hcc : ({ c₀ with mode := u1 } :: cs : List Frame) = cc at t2
  -- the region's rest
  have hlt' : ∀ t, o.dst = some t → t < a0.tmps.size := by intro t ht; rw [hdst] at ht; cases ht; rw [hN0]; exact hd
  have he1 : EnvR S ((argsEnv args).put (some d) (rvD m)) (a0.put o.dst rv).tmps := by
    have := he0.put hlt' hvr
    rwa [hdst] at this ⊢
  have hdb : (⟨S.w.heap.size, [], none⟩ : DB).Ok S.w (a0.put o.dst rv).defers := by
    rw [put_defers, hd0]
    exact ⟨Nat.le_refl _, ⟨[], rfl, List.nodup_nil, fun D hD => by simp at hD⟩, fun l h => by cases h⟩
  have hwl := xops_sound (d := ⟨S.w.heap.size, [], none⟩) (ops := ops) (ops.toList.drop 1) insR hS he1 (by rw [put_size, hN0]) hdb hl (hx hS.closed)
  have hlen2 : (ops.toList.drop 1).length = ops.size - 1 := by simp
  have heq := wpOps_eq_wpList (P := P) (ops := ops) (Q := Post S fn.ntmps ⟨S.w.heap.size, [], none⟩ fun x env H1 => x = .normal ∧ X P fn.ntmps D i2 env H1 fun x _ H2 => (x = .normal ∨ x = .ret) ∧ ∃ H', Pt H' ∧ Cv S.H.length (.tup []) H2 (.tup []) H') (ops.toList.drop 1) 1 (fun j => by rw [List.getElem?_drop]; simp)
  rw [← heq, hlen2] at hwl
  obtain ⟨e1, a1, w1, hq1, harr1⟩ := wp_opsIn _ _ _ (opsIn_of hnd none _ _ _ hwl) b [.code c2] cc hbr trivial (fr_room _ _)
  obtain ⟨x1, env1, ρ1, H1, g1, g2, g3, g4, g5, g6, hx1, g7⟩ := hq1
  subst hx1
  cases e1 <;> simp only [ER] at g1
  have t3 := t2.trans harr1
  -- the rest of the code
  obtain ⟨e2, a2, w2, hq2, harr2⟩ := X_sound hD i2 hc g7 ⟨S.w.heap.size, [], none⟩ ⟨ρ1, H1, w1⟩ a1 rfl g3 g4 g5 g6 b [] cc hbr trivial (fr_room _ _)
  obtain ⟨x2, env2, ρ2, H2, k1, k2, k3, k4, k5, k6, hx2, H', hpt, hcv⟩ := hq2
  obtain ⟨ms, m1, m2, m3⟩ := k6.ms
  simp only [List.append_nil] at m1
  have hfinal : ∃ todo, StepsIn (Machine.fenced P (Fr none)) P (lone (b.atR a0 [.code (.seq (.region rid ops false) c2)]) (c₀ :: cs) S.w) (lone { b.atR a2 todo with mode := .returning } cc w2) := by
    rcases hx2 with rfl | rfl
    · cases e2 <;> simp only [ER] at k1
      exact ⟨[], t3.trans (StepsIn.trans harr2 (.one (fr_calm rfl) (stepR_end hbr)))⟩
    · cases e2 <;> simp only [ER] at k1
      obtain ⟨todo, hs⟩ := harr2.1 hbr
      exact ⟨todo, t3.trans hs⟩
  obtain ⟨todo, t4⟩ := hfinal
  obtain ⟨w3, ht, t5⟩ := marks_steps (P := P) (n0 := S.w.heap.size) ms w2 { b.atR a2 todo with mode := .returning } cc (by simp) m1 m2 m3
  have hS2 := turned_sim ht k3
  have hE2 : EnvR ⟨ρ2, H2, w3⟩ env2 a2.tmps := ⟨fun t => (k4.get t).extV (turned_extV ht) (.inl rfl)⟩
  obtain ⟨v, h3, h4⟩ := run_results (P := P) (S := ⟨ρ2, H2, w3⟩) (rs := []) hS2 hE2 hr (fun s hs => by simp at hs)
  obtain ⟨ρ', h5, h6, _⟩ := hcv ⟨ρ2, H2, w3⟩ v rfl hS2 h4
  subst hcc
  refine ⟨.returned v, u1, w3, _, ⟨v, H', ρ', rfl, hset, hpt, ?_, h6⟩, t4.trans t5, hbk, hbf, rfl, rfl, fn, by rw [show ({ b.atR a2 todo with mode := .returning, defers := [] } : Frame).fn = f from hbf]; exact hf, h3⟩
  exact (turned_ext ht (g2.trans (k2.mono (g2.len (Nat.le_refl _)))) (Nat.le_refl _)).trans h5
theorem marks_leave2 {fn : Func} {tmps : Array Value} {R : Ending → World → Prop} {n0 : Nat} {u : FrameMode} {ds : List Deferred} (hu : u ≠ .run) : ∀ (ms : List Nat) (w : World), ms.Nodup → (∀ D ∈ ms, n0 ≤ D ∧ w.heap[D]? = some (Obj.deferred (some []))) →
    (∀ w', Turned n0 w w' → LeavesInM (Fr none) 0 P fn tmps R ds u w') → LeavesInM (Fr none) 0 P fn tmps R (ms.map mark ++ ds) u w
  | [], w, _, _, h => h w (turned_refl _ _)
  | D :: ms, w, hnd, hms, h => by
    rw [List.nodup_cons] at hnd
    obtain ⟨h1, h2⟩ := hms D (by simp)
    refine ⟨hu, .inl ⟨D, _, rfl, run_takeDeferred h2, ?_⟩⟩
    refine marks_leave2 hu ms _ hnd.2 (fun D' hD' => ⟨(hms D' (by simp [hD'])).1, ?_⟩) fun w' ht => h w' (turned_mark h1 h2 ht)
    have hne : D' ≠ D := fun e => hnd.1 (e ▸ hD')
    exact (World.putObj_heap_other hne).trans (hms D' (by simp [hD'])).2

/-- The end of a function that has deferred function k. -/
def FinD (P : Program) (n0 : Nat) (rs : List RS) (Pt : Out → List AO → Prop) (k : FuncId) (cap : List SV) (x : XE) (env : Env) (H1 : List AO) : Prop :=
  match x with
  | .normal => ∃ Pd, OkD P k cap H1 none Pd ∧ ∀ H4, Pd H4 → (∀ s ∈ rs, s.side env H4) ∧ FinQ n0 Pt (resV env H4 rs) H4
  | .ret => ∃ Pd, OkD P k cap H1 none Pd ∧ ∀ H4, Pd H4 → (∀ s ∈ rs, s.side env H4) ∧ FinQ n0 Pt (resV env H4 rs) H4
  | .panic y => ∃ Pd, OkD P k cap H1 (some y) Pd ∧ ∀ H4, Pd H4 → (∀ s ∈ rs, s.side env H4) ∧ FinQ n0 Pt (resV env H4 rs) H4
  | _ => False

theorem okP_defer (hD : DOk P D) {f : FuncId} {fn : Func} {ca cb : Code} {rid : Nat} {o1 od : Oper} {f' : Operand} {fo : Od} {ia ib : IC} {ins1 : Ins} {rs : List RS} {args : List SV} {H : List AO} {Pt : Out → List AO → Prop}
    (hf : P.funcs[f]? = some fn) (hb : fn.body = some (.seq ca (.seq (.region rid #[o1, od] false) cb))) (hname : (fn.name == "runtime.NumGoroutine") = false) (hn : args.length ≤ fn.ntmps) (hr : chkRes P fn.results.toList rs = true)
    (hca : chkC P fn.ntmps D ca ia = true) (ho1 : chkIns P fn.ntmps #[o1, od] o1 ins1 = true) (hnd1 : ∀ c, o1.op ≠ .defer c) (hod : od.op = .defer { callee := .value f', args := #[], argTypes := #[] }) (hog : od.guard = none) (hdst : od.dst = none) (hfo : chkOd f' fo = true)
    (hcb : chkC P fn.ntmps D cb ib = true)
    (hx : closed H → X P fn.ntmps D ia (argsEnv args) H fun x env1 H1 => x = .normal ∧ xo P ins1 env1 H1 fun x env2 H2 => x = .normal ∧ (env2.ev fo).vd = true ∧ ∃ k cap, (env2.ev fo).ug = .fn (.func k) [] cap ∧ X P fn.ntmps D ib env2 H2 (FinD P H.length rs Pt k cap)) : OkP P f args H Pt := by
  refine ⟨fun vs w => Go.MuLone.run_callFunc_enter hf hname hb vs w, ?_⟩
  intro S vs hH hS hvs
  subst hH
  refine callsIn_wide.1 (callsIn_of_wp_marks (F := Fr none) (n := 0) hf hb trivial ?_)
  have hl : vs.length = args.length := hvs.1
  have hwa := X_sound hD ia hca (hx hS.closed) ⟨S.w.heap.size, [], none⟩ S ⟨vs.toArray ++ Array.replicate (fn.ntmps - vs.toArray.size) undef, []⟩ rfl hS (argsEnv_rel hvs _) (by simp; omega) ⟨Nat.le_refl _, ⟨[], rfl, List.nodup_nil, fun D hD => by simp at hD⟩, fun l h => by cases h⟩
  refine wpIn_seq (wq_mono hwa ?_)
  rintro e1 a1 w1 ⟨x, env1, ρ1, H1, g1, g2, g3, g4, g5, g6, hx1, g7⟩
  subst hx1
  cases e1 <;> simp only [ER] at g1
  refine wpIn_seq ?_
  refine wpIn_region ?_
  have hstep := xo_sound (d := ⟨S.w.heap.size, [], none⟩) (N := fn.ntmps) g3 g4 g5 g6 (ops := #[o1, od]) ho1 g7
    (next := wpOpsIn (Fr none) 0 P #[o1, od] (Exit.then (cb.wpIn (Fr none) 0 P (bodyPostM (Fr none) 0 P fn fun e w' => ∃ (out : Out) (H' : List AO) (v : Value) (ρ' : Nat → Option Nat), Pt out H' ∧ Ext S.H.length S ⟨ρ', H', w'⟩ ∧ Sim ⟨ρ', H', w'⟩ ∧
      match out with
      | .ret r => e = .returned v ∧ VR ⟨ρ', H', w'⟩ r v
      | .pan x => e = .panicked [{ v := v, recovered := false }] ∧ VR ⟨ρ', H', w'⟩ x v)) (bodyPostM (Fr none) 0 P fn fun e w' => ∃ (out : Out) (H' : List AO) (v : Value) (ρ' : Nat → Option Nat), Pt out H' ∧ Ext S.H.length S ⟨ρ', H', w'⟩ ∧ Sim ⟨ρ', H', w'⟩ ∧
      match out with
      | .ret r => e = .returned v ∧ VR ⟨ρ', H', w'⟩ r v
      | .pan x => e = .panicked [{ v := v, recovered := false }] ∧ VR ⟨ρ', H', w'⟩ x v)) [1])
    (Q := Exit.then (cb.wpIn (Fr none) 0 P (bodyPostM (Fr none) 0 P fn fun e w' => ∃ (out : Out) (H' : List AO) (v : Value) (ρ' : Nat → Option Nat), Pt out H' ∧ Ext S.H.length S ⟨ρ', H', w'⟩ ∧ Sim ⟨ρ', H', w'⟩ ∧
      match out with
      | .ret r => e = .returned v ∧ VR ⟨ρ', H', w'⟩ r v
      | .pan x => e = .panicked [{ v := v, recovered := false }] ∧ VR ⟨ρ', H', w'⟩ x v)) (bodyPostM (Fr none) 0 P fn fun e w' => ∃ (out : Out) (H' : List AO) (v : Value) (ρ' : Nat → Option Nat), Pt out H' ∧ Ext S.H.length S ⟨ρ', H', w'⟩ ∧ Sim ⟨ρ', H', w'⟩ ∧
      match out with
      | .ret r => e = .returned v ∧ VR ⟨ρ', H', w'⟩ r v
      | .pan x => e = .panicked [{ v := v, recovered := false }] ∧ VR ⟨ρ', H', w'⟩ x v)) ?_ ?_
  · -- the two operations
    show wpOpsIn (Fr none) 0 P #[o1, od] _ [0, 1] a1 w1
    simp only [wpOpsIn]
    have e0 : (#[o1, od] : Array Oper)[0]? = some o1 := rfl
    simp only [e0]
    unfold StepOf at hstep
    split
    · rename_i hw
      rw [if_pos hw] at hstep
      exact ⟨fun _ _ => trivial, hstep⟩
    · rename_i hw
      rw [if_neg hw] at hstep
      exact ⟨fun _ _ => trivial, hstep⟩
  · -- the deferred call is laid down; the rest
    rintro a2 w2 ⟨x2, env2, ρ2, H2, k1, k2, k3, k4, k5, k6, hx2, hvd, k, cap, hug, k7⟩
    subst hx2
    have hfv := (chkOd_spec hfo k4).ug hvd
    rw [hug] at hfv
    obtain ⟨us, cs, hv, hus, hcs⟩ := hfv.fn_inv
    have hus0 : us = [] := by have := hus.1; simpa using this
    subst hus0
    obtain ⟨ms1, m1, m2, m3⟩ := k6.ms
    simp only [List.append_nil] at m1
    simp only [wpOpsIn]
    have e1 : (#[o1, od] : Array Oper)[1]? = some od := rfl
    simp only [e1]
    have hw : Region.wanted od (yielded #[o1, od] a2.tmps) = true := by simp [Region.wanted, hog]
    rw [if_pos hw]
    refine ⟨fun _ _ => trivial, ?_⟩
    have hrun : (od.semAt (Fr none).round a2.eval).run P w2 = .ok (.defer { target := .fn (.func k) cs.toArray, args := #[] }) w2 := by
      show (od.semAt none a2.eval).run P w2 = _
      rw [Oper.semAt_none]
      simp [execOp, hod, resolve, hv, Deferred.ofValue]
    rw [hrun, Oper.uponIn_defer]
    have hput : ({ a2 with defers := { target := .fn (.func k) cs.toArray, args := #[] } :: a2.defers } : Act).put od.dst undef = { a2 with defers := { target := .fn (.func k) cs.toArray, args := #[] } :: a2.defers } := by rw [hdst]; rfl
    rw [hput]
    show cb.wpIn _ _ _ _ _ _
    have hwb := X_sound hD ib hcb k7 ⟨w2.heap.size, { target := .fn (.func k) cs.toArray, args := #[] } :: ms1.map mark, none⟩ ⟨ρ2, H2, w2⟩ { a2 with defers := { target := .fn (.func k) cs.toArray, args := #[] } :: a2.defers } rfl k3 k4 k5 ⟨Nat.le_refl _, ⟨[], by simp [m1], List.nodup_nil, fun D hD => by simp at hD⟩, fun l h => by cases h⟩
    refine wq_mono hwb ?_
    rintro e3 a3 w3 ⟨x3, env3, ρ3, H3, q1, q2, q3, q4, q5, q6, q7⟩
    obtain ⟨ms3, n1, n2, n3⟩ := q6.ms
    have hE0 : Ext S.H.length S ⟨ρ3, H3, w3⟩ := (g2.trans (k2.mono (g2.len (Nat.le_refl _)))).trans (q2.mono ((g2.trans (k2.mono (g2.len (Nat.le_refl _)))).len (Nat.le_refl _)))
    have hdb1 : (⟨S.w.heap.size, [], none⟩ : DB).Ok w2 (ms1.map mark) := ⟨k6.le, ⟨ms1, by simp, m2, m3⟩, fun l h => by cases h⟩
    -- what the deferred call leaves, and the results
    have main : ∀ (m : Option SV) (u : FrameMode) (Pd : List AO → Prop), u ≠ .run → MD ⟨ρ3, H3, w3⟩ m u → OkD P k cap H3 m Pd → (∀ H4, Pd H4 → (∀ s ∈ rs, s.side env3 H4) ∧ FinQ S.H.length Pt (resV env3 H4 rs) H4) →
        LeavesInM (Fr none) 0 P fn a3.tmps (fun e w' => ∃ (out : Out) (H' : List AO) (v : Value) (ρ' : Nat → Option Nat), Pt out H' ∧ Ext S.H.length S ⟨ρ', H', w'⟩ ∧ Sim ⟨ρ', H', w'⟩ ∧
          match out with
          | .ret r => e = .returned v ∧ VR ⟨ρ', H', w'⟩ r v
          | .pan x => e = .panicked [{ v := v, recovered := false }] ∧ VR ⟨ρ', H', w'⟩ x v) a3.defers u w3 := by
      intro m u Pd hu hmd hok hres
      rw [n1]
      refine marks_leave2 hu ms3 w3 n2 n3 fun w4 ht => ?_
      have hS4 := turned_sim ht q3
      have hE4 := turned_ext ht hE0 (g2.trans (k2.mono (g2.len (Nat.le_refl _)))).size
      have hcs4 : VRs ⟨ρ3, H3, w4⟩ cap cs := ⟨hcs.1, fun j s u h1 h2 => ((hcs.2 j s u h1 h2).extV q2.v (.inl rfl)).extV (turned_extV ht) (.inl rfl)⟩
      have hmd4 : MD ⟨ρ3, H3, w4⟩ m u := by
        cases m with
        | none => exact hmd
        | some y => obtain ⟨v, h1, h2⟩ := hmd; exact ⟨v, h1, h2.extV (turned_extV ht) (.inl rfl)⟩
      refine ⟨hu, .inr ⟨fr_one, .func k, cs.toArray, k, cs.toArray, rfl, ?_, fun g hg => trivial, ?_⟩⟩
      · simp only [invoke]
        have := hok.1 cs.toArray w4
        simpa using this
      · refine (hok.2 ⟨ρ3, H3, w4⟩ cs u rfl hS4 hcs4 hmd4).mono ?_
        rintro e5 u5 w5 ⟨v5, H5, ρ5, rfl, hset, hpd, hext5, hsim5⟩
        obtain ⟨r1, r2⟩ := hres H5 hpd
        show LeavesInM _ _ _ _ _ _ (ms1.map mark) (settle u5) w5
        rw [hset]
        have hdb3 := hdb1.ext (S := ⟨ρ2, H2, w2⟩) (S' := ⟨ρ3, H3, w3⟩) k3 q2
        have hdb4 : (⟨S.w.heap.size, [], none⟩ : DB).Ok w4 (ms1.map mark) := by
          refine ⟨by rw [ht.size]; exact hdb3.le, ⟨ms1, by simp, m2, fun D hD => ⟨(m3 D hD).1, ?_⟩⟩, fun l h => by cases h⟩
          have h1 := lt_heap (m3 D hD).2
          have h2 : w3.heap[D]? = some (Obj.deferred (some [])) := by
            have h4 := (m3 D hD).2
            refine ((q2.imm D (lt_heap h4) ?_).1).trans h4
            rintro ⟨i, o, ho, hl, hρ⟩
            rcases k3.own ho hl hρ with ⟨c, h5⟩ | ⟨r, h5⟩ <;> (rw [h4] at h5; cases h5)
          rcases ht.at_ D with h3 | ⟨h3, _, _⟩
          · exact h3.trans h2
          · exact absurd (Nat.lt_of_lt_of_le h1 h3) (Nat.lt_irrefl _)
        have hdb5 := hdb4.ext (S := ⟨ρ3, H3, w4⟩) (S' := ⟨ρ5, H5, w5⟩) hS4 hext5
        obtain ⟨ms5, j1, j2, j3⟩ := hdb5.ms
        have hE5 : Ext S.H.length S ⟨ρ5, H5, w5⟩ := hE4.trans (hext5.mono (hE4.len (Nat.le_refl _)))
        have hEnv5 : EnvR ⟨ρ5, H5, w5⟩ env3 a3.tmps := EnvR.ext (S := ⟨ρ3, H3, w4⟩) ⟨fun t => (q4.get t).extV (turned_extV ht) (.inl rfl)⟩ hext5
        rw [j1]
        simp only [List.append_nil]
        refine marks_leave (by simp) ms5 w5 j2 j3 fun w6 ht6 => ?_
        obtain ⟨v, h3, h4⟩ := run_results (P := P) (S := ⟨ρ5, H5, w6⟩) (turned_sim ht6 hsim5) ⟨fun t => (hEnv5.get t).extV (turned_extV ht6) (.inl rfl)⟩ hr r1
        obtain ⟨r, H', hp, h2⟩ := r2
        obtain ⟨ρ', h5, h6, h7⟩ := h2 ⟨ρ5, H5, w6⟩ v rfl (turned_sim ht6 hsim5) h4
        exact ⟨v, h3, .ret r, H', v, ρ', hp, (turned_ext ht6 hE5 (Nat.le_refl _)).trans h5, h6, rfl, h7⟩
    cases x3 <;> cases e3 <;> simp only [ER] at q1
    · obtain ⟨Pd, y1, y2⟩ := q7
      exact main none .returning Pd (by simp) rfl y1 y2
    · exact q7.elim
    · exact q7.elim
    · obtain ⟨Pd, y1, y2⟩ := q7
      exact main none .returning Pd (by simp) rfl y1 y2
    · obtain ⟨Pd, y1, y2⟩ := q7
      obtain ⟨v, rfl, hv⟩ := q1
      exact main (some _) (.panicking [{ v := v, recovered := false }]) Pd (by simp) ⟨v, rfl, hv⟩ y1 y2
  · rintro ch a' w' ⟨x2, env2, ρ2, H2, k1, k2, k3, k4, k5, k6, hx2, _⟩
    subst hx2
    simp [ER] at k1
end
/-- A function that defers a call, piece by piece. -/
def chkDf (P : Program) (D : Array Oper → List Nat → List Ins → Bool) (fn : Func) (ia : IC) (ins1 : Ins) (fo : Od) (ib : IC) (rs : List RS) : Bool :=
  (match fn.body with
   | some (.seq ca (.seq (.region _ ops false) cb)) =>
     (match ops.toList with
      | [o1, od] => chkC P fn.ntmps D ca ia && (chkIns P fn.ntmps ops o1 ins1 && ((match o1.op with | .defer _ => false | _ => true) && ((match od.op with | .defer { callee := .value f', args := as, argTypes := ts } => as.isEmpty && (ts.isEmpty && chkOd f' fo) | _ => false) &&
          (od.guard.isNone && (od.dst.isNone && chkC P fn.ntmps D cb ib)))))
      | _ => false)
   | _ => false) && !(fn.name == "runtime.NumGoroutine") && chkRes P fn.results.toList rs && decide (fn.params.size + fn.nfree ≤ fn.ntmps)
theorem okP_df {P : Program} (hm : P.follows .mixedOrders = true) {f : FuncId} {fn : Func} {ia ib : IC} {ins1 : Ins} {fo : Od} {rs : List RS} (hf : P.funcs[f]? = some fn) (hc : chkDf P drawB fn ia ins1 fo ib rs = true)
    {args : List SV} {H : List AO} {Pt : Out → List AO → Prop} (hn : args.length = fn.params.size + fn.nfree)
    (hx : closed H → X P fn.ntmps drawB ia (argsEnv args) H fun x env1 H1 => x = .normal ∧ xo P ins1 env1 H1 fun x env2 H2 => x = .normal ∧ (env2.ev fo).vd = true ∧ ∃ k cap, (env2.ev fo).ug = .fn (.func k) [] cap ∧ X P fn.ntmps drawB ib env2 H2 (FinD P H.length rs Pt k cap)) : OkP P f args H Pt := by
  unfold chkDf at hc
  rw [Bool.and_eq_true, Bool.and_eq_true, Bool.and_eq_true] at hc
  obtain ⟨⟨⟨h1, h2⟩, h3⟩, h4⟩ := hc
  split at h1
  · rename_i ca rid ops cb hb
    split at h1
    · rename_i o1 od hops
      simp only [Bool.and_eq_true] at h1
      obtain ⟨k1, k2, k3, k4, k5, k6, k7⟩ := h1
      have e : ops = #[o1, od] := by apply Array.ext'; simpa using hops
      subst e
      split at k4
      · rename_i f' as ts hod
        simp only [Bool.and_eq_true, Array.isEmpty_iff] at k4
        obtain ⟨rfl, rfl, k4⟩ := k4
        refine okP_defer (draw_ok hm) hf hb (by simpa using h2) (by rw [hn]; simpa using h4) h3 k1 k2 (fun c e => by rw [e] at k3; cases k3) hod (by simpa using k5) (by simpa using k6) k4 k7 hx
      · cases k4
    · cases h1
  · cases h1
/-- A function that recovers first of all. -/
def chkRc (P : Program) (D : Array Oper → List Nat → List Ins → Bool) (fn : Func) (d : Nat) (insR : List Ins) (i2 : IC) : Bool :=
  (match fn.body with
   | some (.seq (.region _ ops false) c2) =>
     (match ops.toList with
      | o :: r => (match o.op with | .call { callee := .builtin .recover, args := as, argTypes := ts } => as.isEmpty && ts.isEmpty | _ => false) && (o.guard.isNone && (o.dst == some d && (decide (d < fn.ntmps) && (ndB ops && (chkL P fn.ntmps ops r insR && chkC P fn.ntmps D c2 i2)))))
      | _ => false)
   | _ => false) && !(fn.name == "runtime.NumGoroutine") && chkRes P fn.results.toList [] && decide (fn.params.size + fn.nfree ≤ fn.ntmps)
theorem okD_rc {P : Program} (hm : P.follows .mixedOrders = true) {f : FuncId} {fn : Func} {d : Nat} {insR : List Ins} {i2 : IC} (hf : P.funcs[f]? = some fn) (hc : chkRc P drawB fn d insR i2 = true)
    {args : List SV} {H : List AO} {m : Option SV} {Pt : List AO → Prop} (hn : args.length = fn.params.size + fn.nfree)
    (hx : closed H → xops P insR ((argsEnv args).put (some d) (rvD m)) H fun x env H1 => x = .normal ∧ X P fn.ntmps drawB i2 env H1 fun x _ H2 => (x = .normal ∨ x = .ret) ∧ ∃ H', Pt H' ∧ Cv H.length (.tup []) H2 (.tup []) H') : OkD P f args H m Pt := by
  unfold chkRc at hc
  rw [Bool.and_eq_true, Bool.and_eq_true, Bool.and_eq_true] at hc
  obtain ⟨⟨⟨h1, h2⟩, h3⟩, h4⟩ := hc
  split at h1
  · rename_i rid ops c2 hb
    split at h1
    · rename_i o r hops
      simp only [Bool.and_eq_true, beq_iff_eq, decide_eq_true_eq] at h1
      obtain ⟨k1, k2, k3, k4, k5, k6, k7⟩ := h1
      split at k1
      · rename_i as ts ho
        simp only [Bool.and_eq_true, Array.isEmpty_iff] at k1
        obtain ⟨rfl, rfl⟩ := k1
        have h0 : ops[0]? = some o := by rw [← Array.getElem?_toList, hops]; rfl
        refine okD_of (draw_ok hm) hf hb (by simpa using h2) (by rw [hn]; simpa using h4) h3 h0 ho (by simpa using k2) k3 k4 k5 ?_ k7 hx
        rw [hops]; exact k6
      · cases k1
    · cases h1
  · cases h1
end Go.Ab
/- AbZf -/
namespace Go.Ab
variable [GlobEnv]
set_option linter.unusedSectionVars false
section
variable {P : Program} {ops : Array Oper} {Q : Exit → Act → World → Prop} {a0 : Act}
theorem wpOps_off : ∀ (is : List Nat) (a : Act) (w : World), wpOps P ops Q is a w → offA ops a0 a → wpOps P ops (offQ ops a0 Q) is a w
  | [], _, _, h, ha => ⟨h, fun _ => ha⟩
  | _ :: r, _, _, h, ha => wpOp_off h ha fun a' w' ha' h' => wpOps_off r a' w' h' ha'
theorem wpList_off {a : Act} {w : World} (h : wpList P ops Q ops.toList a w) (ha : offA ops a0 a) : wpList P ops (offQ ops a0 Q) ops.toList a w := by
  have e := fun Q => wpOps_eq_wpList (P := P) (ops := ops) (Q := Q) ops.toList 0 (fun j => by simp)
  rw [← e] at h ⊢
  exact wpOps_off _ _ _ h ha
end
/-- No instruction writes one of the slots. -/
def frI (ts : List Nat) : IC → Bool
  | .skip => true
  | .ret => true
  | .reg l => l.all fun i => ts.all fun t => i.d != some t
  | .seq a b => frI ts a && frI ts b
  | .cond _ a b => frI ts a && frI ts b
  | .keep _ a => frI ts a
  | _ => false
def WF (P : Program) (N : Nat) (c : Code) (ts : List Nat) (env : Env) (H : List AO) (K : XE → Env → List AO → Prop) : Prop :=
  ∀ (db : DB) (S : St) (a : Act), S.H = H → Sim S → EnvR S env a.tmps → a.tmps.size = N → db.Ok S.w a.defers →
    c.wq db.ro P (fun e a' w => Post S N db K e a' w ∧ ∀ t ∈ ts, a'.tmps.getD t undef = a.tmps.getD t undef) a S.w
section
variable {P : Program} {N : Nat} {D : Array Oper → List Nat → List Ins → Bool} {ts : List Nat}
theorem chkL_dst {ops : Array Oper} : ∀ {l : List Oper} {l' : List Ins}, chkL P N ops l l' = true → ∀ o ∈ l, ∃ i ∈ l', i.d = o.dst
  | [], _, _, o, ho => by simp at ho
  | o :: r, [], h, _, _ => by simp [chkL] at h
  | o :: r, o' :: r', h, q, hq => by
    simp only [chkL, Bool.and_eq_true] at h
    rcases List.mem_cons.1 hq with rfl | hq
    · refine ⟨o', by simp, ?_⟩
      have := h.1
      unfold chkIns at this
      simp only [Bool.and_eq_true, beq_iff_eq] at this
      exact this.1.1.1.symm
    · obtain ⟨i, hi, e⟩ := chkL_dst h.2 q hq
      exact ⟨i, by simp [hi], e⟩
theorem wf_sound (hD : DOk P D) : ∀ (i : IC) {env : Env} {H : List AO} {K : XE → Env → List AO → Prop} (c : Code), chkC P N D c i = true → frI ts i = true → X P N D i env H K → WF P N c ts env H K := by
  intro i
  induction i with
  | skip =>
    intro env H K c hc _ h db S a h1 h2 h3 h4 h5
    have hX := X_sound hD .skip hc h
    cases c <;> simp only [chkC, Bool.false_eq_true] at hc
    subst h1
    exact wpIn_skip ⟨⟨.normal, env, S.ρ, S.H, trivial, Ext.refl _ S, h2, h3, h4, h5, h⟩, fun _ _ => rfl⟩
  | ret =>
    intro env H K c hc _ h db S a h1 h2 h3 h4 h5
    cases c <;> simp only [chkC, Bool.false_eq_true] at hc
    subst h1
    exact wpIn_ret ⟨⟨.ret, env, S.ρ, S.H, trivial, Ext.refl _ S, h2, h3, h4, h5, h⟩, fun _ _ => rfl⟩
  | reg l =>
    intro env H K c hc hf h
    obtain ⟨id, ops, rfl, hnd, hc⟩ : ∃ id ops, c = .region id ops false ∧ ndB ops = true ∧ chkL P N ops ops.toList l = true := by
      cases c with
      | region id ops dr => cases dr <;> simp [chkC] at hc; exact ⟨id, ops, rfl, hc⟩
      | _ => simp [chkC] at hc
    intro db S a h1 h2 h3 h4 h5
    subst h1
    have h6 := wpList_off (a0 := a) (xops_sound _ _ h2 h3 h4 h5 hc h) (fun _ _ => rfl)
    refine wq_mono (wp_region_list hnd h6) ?_
    rintro e a' w ⟨hp, ho⟩
    refine ⟨hp, fun t ht => ?_⟩
    have hne : e ≠ .outgrown := by
      obtain ⟨x, _, _, _, g, _⟩ := hp
      rintro rfl
      cases x <;> simp [ER] at g
    refine ho hne t fun o ho' hd => ?_
    obtain ⟨i, hi, e⟩ := chkL_dst hc o ho'
    simp only [frI, List.all_eq_true] at hf
    have := hf i hi t ht
    rw [e, hd] at this
    simp at this
  | seq a b iha ihb =>
    intro env H K c hc hf h
    cases c <;> simp only [chkC, Bool.false_eq_true, Bool.and_eq_true] at hc
    simp only [frI, Bool.and_eq_true] at hf
    have h1 := iha _ hc.1 hf.1 h
    intro db S a g1 g2 g3 g4 g5
    refine wpIn_seq (wq_mono (h1 db S a g1 g2 g3 g4 g5) ?_)
    rintro e a' w ⟨⟨xe, env', ρ, H', g1, g2, g3, g4, g5, g6, g7⟩, hfr⟩
    cases xe <;> cases e <;> simp only [ER] at g1
    · refine wq_mono (ihb _ hc.2 hf.2 g7 db ⟨ρ, H', w⟩ a' rfl g3 g4 g5 g6) fun e a w h => ⟨Post.trans g2 h.1, fun t ht => (h.2 t ht).trans (hfr t ht)⟩
    · exact ⟨⟨.exit _, env', ρ, H', g1, g2, g3, g4, g5, g6, g7⟩, hfr⟩
    · exact ⟨⟨.goto _, env', ρ, H', g1, g2, g3, g4, g5, g6, g7⟩, hfr⟩
    · exact ⟨⟨.ret, env', ρ, H', g1, g2, g3, g4, g5, g6, g7⟩, hfr⟩
    · exact ⟨⟨.panic _, env', ρ, H', g1, g2, g3, g4, g5, g6, g7⟩, hfr⟩
  | cond c' a b iha ihb =>
    intro env H K c hc hf h
    cases c <;> simp only [chkC, Bool.false_eq_true, Bool.and_eq_true] at hc
    simp only [frI, Bool.and_eq_true] at hf
    intro db S a g1 g2 g3 g4 g5
    exact wpIn_cond_split ((chkOd_spec hc.1.1 g3).isB h.1) (fun hh => iha _ hc.1.2 hf.1 (h.2.1 hh) db S a g1 g2 g3 g4 g5) (fun hh => ihb _ hc.2 hf.2 (h.2.2 hh) db S a g1 g2 g3 g4 g5)
  | keep ks a iha =>
    intro env H K c hc hf h db S a' g1 g2 g3 g4 g5
    exact iha c (by simpa only [chkC] using hc) hf h db S a' g1 g2 (g3.keep ks) g4 g5
  | _ => intro env H K c hc hf; simp [frI] at hf
end
/-- What a value says without naming a place that nobody writes. -/
def SV.nim (q : Nat) : SV → SV
  | .val v => .val v
  | .own i off len sz ver => if i = q then .any else .own i off len sz ver
  | .ptr (.own i off len sz ver) k => if i = q then .any else .ptr (.own i off len sz ver) k
  | _ => .any
def SV.isV : SV → Bool
  | .val _ => true
  | .slc _ _ => true
  | _ => false
/-- A slice told by its length alone. -/
def SV.pl : SV → SV
  | .slc _ n => .slc [] n
  | s => s
/-- Objects that hold plain values and slices stay (of a slice only its length is told), the others are laid down. -/
def AO.pl (o : AO) : AO := if o.live && o.cells.all SV.isV then ⟨o.cells.map SV.pl, o.ty, o.ver, true⟩ else ⟨[], o.ty, o.ver, false⟩
theorem pl_rel {S S' : St} {s : SV} {v : Value} (hs : s.isV = true) (h : VR S s v) : VR S' s.pl v := by
  cases s <;> simp [SV.isV] at hs
  · cases h; exact .val _
  · cases h with
    | nilslc => exact .nilslc
    | slc => exact .slc [] _ _ _ [] (by assumption) rfl ⟨by simp, by simp⟩ (by simp)
def lendH (H : List AO) (k : Nat) (o : AO) : List AO := (H.map AO.pl).set k o
def lendE (ts : List Nat) (q : Nat) (env0 env : Env) : Env := ts.map (fun t => (t, env0.get t)) ++ env.map fun p => (p.1, p.2.nim q)
theorem lendE_get (ts : List Nat) (k : Nat) (env0 env : Env) (t : Nat) : (t ∈ ts ∧ (lendE ts k env0 env).get t = env0.get t) ∨ (lendE ts k env0 env).get t = (env.get t).nim k := by
  unfold lendE
  induction ts with
  | nil =>
    right
    exact get_map env (SV.nim k) rfl t
  | cons q r ih =>
    simp only [List.map_cons, List.cons_append, Env.get]
    by_cases h : q = t
    · subst h; left; exact ⟨by simp, by simp⟩
    · rw [if_neg h]
      rcases ih with ⟨h1, h2⟩ | h2
      · left; exact ⟨by simp [h1], h2⟩
      · right; exact h2
theorem get_lendE (ts : List Nat) (k : Nat) (env0 env : Env) (t : Nat) : Env.get (lendE ts k env0 env) t = if t ∈ ts then env0.get t else (env.get t).nim k := by
  unfold lendE
  induction ts with
  | nil => simpa using get_map env (SV.nim k) rfl t
  | cons q r ih =>
    simp only [List.map_cons, List.cons_append, Env.get]
    by_cases h : q = t
    · subst h; simp
    · rw [if_neg h, ih]
      have h2 : ¬ t = q := fun e => h e.symm
      simp [h2]
theorem pl_ver (o : AO) : o.pl.ver = o.ver := by unfold AO.pl; split <;> rfl
section
variable {S S1 : St} {H : List AO} {k d : Nat} {o : AO}
theorem lend_at {i : Nat} {p : AO} (hk : k < H.length) (h : (lendH H k o)[i]? = some p) : (i = k ∧ p = o) ∨ (i ≠ k ∧ ∃ q, H[i]? = some q ∧ p = q.pl) := by
  unfold lendH at h
  by_cases e : i = k
  · subst e; rw [List.getElem?_set_self (by simpa using hk)] at h; cases h; exact .inl ⟨rfl, rfl⟩
  · rw [List.getElem?_set_ne (by omega), List.getElem?_map, Option.map_eq_some_iff] at h
    obtain ⟨q, h1, rfl⟩ := h
    exact .inr ⟨e, q, h1, rfl⟩
theorem pl_own {o : AO} (h : o.pl.own = true) : o.live = true ∧ o.cells.all SV.isV = true ∧ o.pl = ⟨o.cells.map SV.pl, o.ty, o.ver, true⟩ := by
  unfold AO.pl at h ⊢
  by_cases hc : (o.live && o.cells.all SV.isV) = true
  · rw [if_pos hc]; rw [Bool.and_eq_true] at hc; exact ⟨hc.1, hc.2, rfl⟩
  · rw [if_neg hc] at h; simp [AO.own] at h
/-- The state with the lent object given back. -/
def lendS (S1 : St) (k : Nat) (o : AO) : St := ⟨S1.ρ, lendH S1.H k o, S1.w⟩
variable (hS : Sim S) (ho : S.H[k]? = some o) (hl : o.live = true) (he : Ext S.H.length (givS S [] S.H k d o) S1) (hS1 : Sim S1) (h1 : S1.H[k]? = some o.dead)
include hS ho hl he hS1 h1
theorem lend_rho : S1.ρ k = S.ρ k := by
  have hk := getElem?_lt ho
  obtain ⟨o', h2, h3, h4⟩ := he.obj k (AO.gv (0 + k) o.ver o.cells d o.dead) hk (by
    simp only [givS, List.nil_append, List.length_nil, List.getElem?_map]
    rw [List.getElem?_set_self hk]; rfl)
  rw [h1] at h2; cases h2
  exact h4 rfl
theorem lend_not {b : Nat} (hb : S.ρ k = some b) : ¬ (givS S [] S.H k d o).rw b := by
  rintro ⟨i, p, hp, hpl, hρ⟩
  rcases giv_at (H0 := []) hp ho with ⟨h2, _⟩ | ⟨_, rfl⟩ | ⟨p0, j, rfl, h3, h4, rfl⟩
  · simp at h2
  · simp [AO.gv, AO.dead, AO.own] at hpl
  · have : j = k := hS.inj j k p0 o b h4 ho (gv_own' hpl) (AO.own_live hl) (by simpa [givS] using hρ) hb
    exact h3 this
theorem lend_lt {b : Nat} (hb : S.ρ k = some b) : b < S.w.heap.size := hS.lt ⟨k, o, ho, AO.own_live hl, hb⟩
theorem lend_ext : Ext S.H.length S (lendS S1 k o) where
  obj := by
    intro i p hi hp
    obtain ⟨o2, g1, g2, g3⟩ := (giv_ext (H0 := []) (L := S.H) (k := k) (d := d) rfl ho).obj i p hi hp
    obtain ⟨o3, g4, g5, g6⟩ := he.obj i o2 hi g1
    have hk1 := getElem?_lt h1
    by_cases e : i = k
    · subst e
      rw [ho] at hp; cases hp
      exact ⟨o, by simp only [lendS, lendH]; rw [List.getElem?_set_self (by simpa using hk1)], Nat.le_refl _, fun _ => (lend_rho (S1 := S1) (d := d) hS ho hl he hS1 h1 : S1.ρ i = S.ρ i)⟩
    · refine ⟨o3.pl, by simp only [lendS, lendH]; rw [List.getElem?_set_ne (by omega), List.getElem?_map, g4]; rfl, ?_, fun h => ?_⟩
      · rw [pl_ver]; omega
      · rw [pl_ver] at h
        exact (g6 (by omega)).trans (g3 (by omega))
  imm := by
    intro b hb hn
    have hn' : ¬ (givS S [] S.H k d o).rw b := ((giv_ext (H0 := []) (L := S.H) (k := k) (d := d) rfl ho).imm b hb hn).2
    obtain ⟨g1, g2⟩ := he.imm b hb hn'
    refine ⟨g1, ?_⟩
    rintro ⟨i, p, hp, hpl, hρ⟩
    rcases lend_at (getElem?_lt h1) hp with ⟨rfl, rfl⟩ | ⟨hne, q, hq, rfl⟩
    · refine hn ⟨i, p, ho, AO.own_live hl, ?_⟩
      rw [← lend_rho (S1 := S1) hS ho hl he hS1 h1]; exact hρ
    · have := pl_own hpl
      exact g2 ⟨i, q, hq, AO.own_live this.1, hρ⟩
  size := he.size
  shape := fun b T m h => he.shape b T m h
  loops := fun b r h => he.loops b r h
  os := he.os
  tape := he.tape
  output := he.output
theorem lend_sim : Sim (lendS S1 k o) := by
  have hx := lend_ext hS ho hl he hS1 h1
  have hlen : (lendS S1 k o).H.length = S1.H.length := by simp [lendS, lendH]
  have hnot : ∀ {b : Nat}, S.ρ k = some b → ¬ S1.rw b := fun hb => (he.imm _ (lend_lt hS ho hl he hS1 h1 hb) (lend_not hS ho hl he hS1 h1 hb)).2
  have hin : ∀ {i : Nat} {q : AO} {b : Nat}, S1.H[i]? = some q → q.pl.own = true → S1.ρ i = some b → S1.ρ k = some b → False := by
    intro i q b hq hql hρ hk
    have := pl_own hql
    refine hnot (b := b) (by rw [← lend_rho hS ho hl he hS1 h1]; exact hk) ⟨i, q, hq, AO.own_live this.1, hρ⟩
  constructor
  · intro i p hp hpl
    rcases lend_at (getElem?_lt h1) hp with ⟨rfl, rfl⟩ | ⟨hne, q, hq, rfl⟩
    · have g := hS.live i p ho hl
      show match S1.ρ i with | none => p.cells = [] | some b => _
      rw [lend_rho hS ho hl he hS1 h1]
      cases hρ : S.ρ i with
      | none => rw [hρ] at g; exact g
      | some b =>
        rw [hρ] at g
        obtain ⟨us, rest, g1, g2⟩ := g
        exact ⟨us, rest, ((he.imm b (lend_lt hS ho hl he hS1 h1 hρ) (lend_not hS ho hl he hS1 h1 hρ)).1).trans g1, g2.ext hx⟩
    · have hpo := pl_own (AO.own_live hpl)
      rw [hpo.2.2] at hpl ⊢
      have g := hS1.live i q hq hpo.1
      show match S1.ρ i with | none => q.cells.map SV.pl = [] | some b => _
      cases hρ : S1.ρ i with
      | none => rw [hρ] at g; simp only at g ⊢; rw [g]; rfl
      | some b =>
        rw [hρ] at g
        obtain ⟨us, rest, g1, g2⟩ := g
        refine ⟨us, rest, g1, by rw [List.length_map]; exact g2.1, fun j s u hs hu => ?_⟩
        rw [List.getElem?_map, Option.map_eq_some_iff] at hs
        obtain ⟨s0, hs0, rfl⟩ := hs
        exact pl_rel (List.all_eq_true.1 hpo.2.1 s0 (List.mem_of_getElem? hs0)) (g2.2 j s0 u hs0 hu)
  · intro i p hp s hs
    rw [hlen]
    rcases lend_at (getElem?_lt h1) hp with ⟨rfl, rfl⟩ | ⟨hne, q, hq, rfl⟩
    · have g := hS.bel i p ho s hs
      have hle : S.H.length ≤ S1.H.length := by have := hx.len (Nat.le_refl _); rw [hlen] at this; exact this
      exact ⟨SV.under_mono hle s g.1, g.2⟩
    · unfold AO.pl at hs ⊢
      split at hs
      · rename_i hc
        rw [if_pos hc]
        obtain ⟨s0, hs0, rfl⟩ := List.mem_map.1 hs
        rw [Bool.and_eq_true] at hc
        have hv := List.all_eq_true.1 hc.2 s0 hs0
        have hb := hS1.bel i q hq s0 hs0
        cases s0 <;> simp [SV.isV] at hv
        · exact ⟨hb.1, fun _ => hb.2 hc.1⟩
        · exact ⟨by simp [SV.pl, SV.under, SV.underL], fun _ => rfl⟩
      · simp at hs
  · intro i j p q b hi hj hil hjl hρi hρj
    rcases lend_at (getElem?_lt h1) hi with ⟨rfl, rfl⟩ | ⟨hne, p', hp', rfl⟩ <;> rcases lend_at (getElem?_lt h1) hj with ⟨e, rfl⟩ | ⟨hne', q', hq', rfl⟩
    · exact e.symm
    · exact (hin hq' hjl hρj hρi).elim
    · subst e; exact (hin hp' hil hρi hρj).elim
    · exact hS1.inj i j p' q' b hp' hq' (AO.own_live (pl_own hil).1) (AO.own_live (pl_own hjl).1) hρi hρj
  · intro i p hp hpl hne
    rcases lend_at (getElem?_lt h1) hp with ⟨rfl, rfl⟩ | ⟨hne', q, hq, rfl⟩
    · rw [hl] at hpl; cases hpl
    · unfold AO.pl at hpl hne
      split at hpl
      · cases hpl
      · rename_i hc; rw [if_neg hc] at hne; exact absurd rfl hne
  · exact hS.gl.ext hx
theorem nim_rel {s : SV} {v : Value} (h : VR S1 s v) : VR (lendS S1 k o) (s.nim k) v := by
  have hat : ∀ {i : Nat} {p : AO}, i ≠ k → S1.H[i]? = some p → ∃ p', (lendS S1 k o).H[i]? = some p' ∧ p'.ver = p.ver := by
    intro i p e hp
    exact ⟨p.pl, by simp only [lendS, lendH]; rw [List.getElem?_set_ne (by omega), List.getElem?_map, hp]; rfl, pl_ver p⟩
  cases h with
  | val v => exact .val v
  | own i off len sz ver a cap p hp hv hc hz g =>
    simp only [SV.nim]
    split
    · exact .any _
    · rename_i e
      obtain ⟨p', g1, g2⟩ := hat e hp
      exact .own i off len sz ver a cap p' g1 (by omega) hc hz fun e => g (by omega)
  | ptrO i off len sz ver q a p hp hv g =>
    simp only [SV.nim]
    split
    · exact .any _
    · rename_i e
      obtain ⟨p', g1, g2⟩ := hat e hp
      exact .ptrO i off len sz ver q a p' g1 (by omega) fun e => g (by omega)
  | _ => exact .any _
end
section
variable {P : Program} {N : Nat} {D : Array Oper → List Nat → List Ins → Bool}
theorem WI.of_X (hD : DOk P D) {i : IC} {env : Env} {H : List AO} {K : XE → Env → List AO → Prop} (h : X P N D i env H K) : WI P N D i env H K := fun _ hc => X_sound hD i hc h
theorem WI.seq (hD : DOk P D) {a b : IC} {env : Env} {H : List AO} {K : XE → Env → List AO → Prop} (h : X P N D a env H fun x env H => match x with | .normal => WI P N D b env H K | x => K x env H) : WI P N D (.seq a b) env H K := by
  intro c hc
  cases c <;> simp only [chkC, Bool.false_eq_true, Bool.and_eq_true] at hc
  refine W.seq ((X_sound hD a hc.1 h).mono ?_)
  intro x env H hk
  cases x <;> first | exact hk | exact hk _ hc.2
/-- Object k is lent while two pieces of code run. -/
theorem WI.lend (hD : DOk P D) {a b z : IC} (ts : List Nat) (k d : Nat) {o : AO} {env : Env} {H : List AO} {K : XE → Env → List AO → Prop} (hfa : frI ts a = true) (hfb : frI ts b = true) (ho : H[k]? = some o) (hl : o.live = true)
    (h : X P N D a (env.map fun p => (p.1, p.2.gv k o.ver o.cells d)) ((H.set k o.dead).map (AO.gv k o.ver o.cells d)) fun x env2 H2 => match x with
      | .normal => X P N D b env2 H2 fun x env3 H3 => match x with
        | .normal => H3[k]? = some o.dead ∧ WI P N D z (lendE ts k env env3) (lendH H3 k o) K
        | _ => False
      | _ => False) : WI P N D (.seq a (.seq b z)) env H K := by
  intro c hc
  obtain ⟨x, y, rfl, hca, hcy⟩ : ∃ x y, c = .seq x y ∧ chkC P N D x a = true ∧ chkC P N D y (.seq b z) = true := by
    cases c <;> simp only [chkC, Bool.false_eq_true, Bool.and_eq_true] at hc
    exact ⟨_, _, rfl, hc.1, hc.2⟩
  obtain ⟨y, zc, rfl, hcb, hcz⟩ : ∃ x y', y = .seq x y' ∧ chkC P N D x b = true ∧ chkC P N D y' z = true := by
    cases y <;> simp only [chkC, Bool.false_eq_true, Bool.and_eq_true] at hcy
    exact ⟨_, _, rfl, hcy.1, hcy.2⟩
  intro db S ac g1 g2 g3 g4 g5
  subst g1
  have e0 : (givS S [] S.H k d o).H = (S.H.set k o.dead).map (AO.gv k o.ver o.cells d) := by simp [givS]
  have hg := giv_sim (H0 := []) (L := S.H) (k := k) (d := d) g2 rfl (by intro i o h; simp at h) ho hl
  have hge := giv_ext (S := S) (H0 := []) (L := S.H) (k := k) (d := d) rfl ho
  have henv : EnvR (givS S [] S.H k d o) (env.map fun p => (p.1, p.2.gv k o.ver o.cells d)) ac.tmps := ⟨fun t => by
    rw [get_map env (SV.gv k o.ver o.cells d) (gv_any _ _ _ _)]
    have := giv_rel (H0 := []) (L := S.H) (k := k) (d := d) g2 rfl ho hl _ _ (g3.get t)
    simpa using this⟩
  refine wpIn_seq (wq_mono (wf_sound hD a x hca hfa h db (givS S [] S.H k d o) ac e0 hg henv g4 (g5.ext g2 hge)) ?_)
  rintro e a2 w2 ⟨⟨xe, env2, ρ2, H2, p1, p2, p3, p4, p5, p6, p7⟩, hfr2⟩
  cases xe <;> first | exact p7.elim | skip
  cases e <;> simp only [ER] at p1
  refine wpIn_seq (wq_mono (wf_sound hD b y hcb hfb p7 db ⟨ρ2, H2, w2⟩ a2 rfl p3 p4 p5 p6) ?_)
  rintro e a3 w3 ⟨⟨xe, env3, ρ3, H3, q1, q2, q3, q4, q5, q6, q7⟩, hfr3⟩
  cases xe <;> first | exact q7.elim | skip
  cases e <;> simp only [ER] at q1
  obtain ⟨r1, r2⟩ := q7
  have hlen : (givS S [] S.H k d o).H.length = S.H.length := by rw [e0]; simp
  have he : Ext S.H.length (givS S [] S.H k d o) ⟨ρ3, H3, w3⟩ := by
    have := p2.trans (q2.mono (p2.len (Nat.le_refl _)))
    rw [hlen] at this; exact this
  have hx := lend_ext g2 ho hl he q3 r1
  refine wq_mono (r2 zc hcz db (lendS ⟨ρ3, H3, w3⟩ k o) a3 rfl (lend_sim g2 ho hl he q3 r1) ⟨fun t => ?_⟩ q5 ?_) fun e a w hp => Post.trans hx hp
  · rcases lendE_get ts k env env3 t with ⟨h5, h6⟩ | h6 <;> rw [h6]
    · rw [hfr3 t h5, hfr2 t h5]
      exact (g3.get t).ext hx
    · exact nim_rel g2 ho hl he q3 r1 (q4.get t)
  · exact q6
theorem WI.tell {i : IC} {env env' : Env} {H H' : List AO} {K : XE → Env → List AO → Prop} (ht : Tell env H env' H') (h : WI P N D i env' H' K) : WI P N D i env H K := by
  intro c hc db S a hH hS he hN hd
  obtain ⟨ρ', h1, h2, h3⟩ := ht S a.tmps hH hS he
  exact wq_mono (h c hc db ⟨ρ', H', S.w⟩ a rfl h2 h3 hN (hd.ext hS h1)) fun e a w h => Post.trans h1 h
theorem WI.frz {i : IC} {env : Env} {H : List AO} {K : XE → Env → List AO → Prop} (d : Nat) (h : WI P N D i (env.frz H d) (H.map AO.dead) K) : WI P N D i env H K := fun c hc => (h c hc).frz d
theorem WI.cong {i : IC} {env : Env} {H H' : List AO} {K : XE → Env → List AO → Prop} (e : H' = H) (h : WI P N D i env H' K) : WI P N D i env H K := by rw [← e]; exact h
theorem ok_WI {P : Program} (hm : P.follows .mixedOrders = true) {f : FuncId} {fn : Func} {i : IC} {rs : List RS} (hf : P.funcs[f]? = some fn) (hc : chkF P drawB fn i rs = true)
    {args : List SV} {H : List AO} {out : Out} {H' : List AO} (hn : args.length = fn.params.size + fn.nfree)
    (hx : closed H → WI P fn.ntmps drawB i (argsEnv args) H (Fin H.length rs out H')) : Ok P f args H out H' := by
  unfold chkF at hc
  rw [Bool.and_eq_true, Bool.and_eq_true, Bool.and_eq_true] at hc
  obtain ⟨⟨⟨h1, h2⟩, h3⟩, h4⟩ := hc
  split at h1
  · rename_i c hb
    exact (okP_W hf hb (by simpa using h2) (by rw [hn]; simpa using h4) h3 fun hcl => (hx hcl c h1).mono fun x env H h => fin_P h).toOk
  · cases h1
end
end Go.Ab
/- AbPs -/
namespace Go.Ab
variable [GlobEnv]
open Go.ChangeShapes Go.WideShapes Go.ChangeAt Go.RowKit

mutual
def Sh.by : Sh → Nat
  | .int k => k.bits / 8
  | .bool => 1
  | .str => 16
  | .sl _ => 24
  | .st l => Sh.byL l
def Sh.byL : List Sh → Nat
  | [] => 0
  | s :: r => s.by + Sh.byL r
end
mutual
def Sh.fit : Sh → Dt → Prop
  | .str, d => ∀ s, d = .str s → s.size ≤ reachBytes
  | .sl e, d => ∀ l, d = .sl l → l.length * e.by ≤ reachBytes ∧ ∀ x ∈ l, e.fit x
  | .st l, d => ∀ m, d = .agg m → Sh.fitL l m
  | _, _ => True
def Sh.fitL : List Sh → List Dt → Prop
  | [], _ => True
  | s :: r, m => match m with | [] => True | d :: m' => s.fit d ∧ Sh.fitL r m'
end
mutual
/-- The types' sizes are at least those that the shapes tell. -/
def Sh.byB (P : Program) : Sh → TypeId → Bool
  | .sl e, t => match P.underlying t with | some (.slice e') => decide (e.by ≤ P.bytesOf e') && e.byB P e' | _ => false
  | .st l, t => match P.underlying t with | some (.struct fs) => Sh.byBL P l (fs.toList.map (·.type)) | _ => false
  | _, _ => true
def Sh.byBL (P : Program) : List Sh → List TypeId → Bool
  | [], _ => true
  | s :: r, ts => match ts with | [] => false | t :: ts => s.byB P t && Sh.byBL P r ts
end

section
variable {H : Type} {enc : TypeId × Value → H} {P : Program} {W : World} {base : Nat} {spare : Nat → Bool} {held : Bool}

def wOk (l : List Nat) : Prop := ∀ n ∈ l, n ≤ reachBytes
theorem wOk_app {a b : List Nat} : wOk (a ++ b) ↔ wOk a ∧ wOk b := by
  unfold wOk
  constructor
  · intro h; exact ⟨fun n hn => h n (by simp [hn]), fun n hn => h n (by simp [hn])⟩
  · rintro ⟨h1, h2⟩ n hn
    rcases List.mem_append.1 hn with hn | hn
    · exact h1 n hn
    · exact h2 n hn
theorem wOk_all {t : TypeId} : ∀ {l : List (DataW H)}, wOk (DataW.weightsAll P t l) → ∀ d ∈ l, wOk (d.weights P t)
  | [], _, d, hd => by simp at hd
  | x :: r, h, d, hd => by
    rw [DataW.weightsAll, wOk_app] at h
    rcases List.mem_cons.1 hd with rfl | hd
    · exact h.1
    · exact wOk_all h.2 d hd
theorem wOk_each : ∀ {ts : List TypeId} {l : List (DataW H)}, wOk (DataW.weightsEach P ts l) → ∀ (i : Nat) (t : TypeId) (d : DataW H), ts[i]? = some t → l[i]? = some d → wOk (d.weights P t)
  | [], _, _, i, t, d, ht, _ => by simp at ht
  | _ :: _, [], _, i, t, d, _, hd => by simp at hd
  | t0 :: ts, d0 :: l, h, i, t, d, ht, hd => by
    rw [DataW.weightsEach, wOk_app] at h
    cases i with
    | zero => simp at ht hd; subst ht hd; exact h.1
    | succ i => simp at ht hd; exact wOk_each h.2 i t d ht hd

/-- Elements read one by one. -/
theorem readS_row {e : TypeId} {sh : Sh} {n : Nat} {a : Addr} {elems : List (DataW H × List MemPlace)} (hw : ∀ x ∈ elems, wOk (x.1.weights P e))
    (ih : ∀ cs x, DataW.trod enc P W base spare held n e cs = some x → wOk (x.1.weights P e) → ∃ d, sh.has d ∧ VRs (st0 W) d.cells cs ∧ sh.fit d) :
    ∀ k, k ≤ elems.length → (∀ i, i < k → (W.cells? base (a.add (i * P.cellsOf e)) (P.cellsOf e)).bind (DataW.trod enc P W base spare held n e) = elems[i]?) →
      ∃ (ds : List Dt) (us : List Value), ds.length = k ∧ (∀ x ∈ ds, sh.has x) ∧ VRs (st0 W) (Dt.cellsL ds) us ∧ us.length = k * P.cellsOf e ∧ (∀ j u, us[j]? = some u → W.cell? (a.add j) = some u) ∧ ∀ x ∈ ds, sh.fit x := by
  intro k
  induction k with
  | zero => intro _ _; exact ⟨[], [], rfl, by simp, VRs.nil _, by simp, by simp, by simp⟩
  | succ k ihk =>
    intro hk hel
    obtain ⟨ds, us, h1, h2, h3, h4, h5, h8⟩ := ihk (by omega) (fun i hi => hel i (by omega))
    have h6 := hel k (by omega)
    rw [List.getElem?_eq_getElem (by omega), Option.bind_eq_some_iff] at h6
    obtain ⟨cs, hcs, ht⟩ := h6
    obtain ⟨d, hd, hv, hft⟩ := ih cs _ ht (hw _ (List.getElem_mem _))
    obtain ⟨_, hlen, hc⟩ := World.cells?_some hcs
    refine ⟨ds ++ [d], us ++ cs, by simp [h1], ?_, ?_, ?_, ?_, ?_⟩
    · intro x hx
      rcases List.mem_append.1 hx with hx | hx
      · exact h2 x hx
      · simp at hx; subst hx; exact hd
    · rw [cellsL_append]; simpa [Dt.cellsL] using h3.append hv
    · simp [h4, hlen, Nat.add_mul]
    · intro j u hj
      by_cases hlt : j < us.length
      · rw [List.getElem?_append_left hlt] at hj; exact h5 j u hj
      · rw [List.getElem?_append_right (by omega)] at hj
        have hj' : j - us.length < cs.length := getElem?_lt hj
        have := hc (j - us.length) (by omega)
        rw [hj, add_add] at this
        rw [← this]; congr 2; omega
    · intro x hx
      rcases List.mem_append.1 hx with hx | hx
      · exact h8 x hx
      · simp at hx; subst hx; exact hft

mutual
theorem readS (sh : Sh) : ∀ {t : TypeId} {fuel : Nat} {cs : List Value} {x : DataW H × List MemPlace}, sh.chk P t = true → sh.byB P t = true → DataW.trod enc P W base spare held fuel t cs = some x → wOk (x.1.weights P t) →
    ∃ d, sh.has d ∧ VRs (st0 W) d.cells cs ∧ sh.fit d := by
  intro t fuel cs x hc hb h hw
  cases sh with
  | int k => obtain ⟨d, h1, h2⟩ := read (.int k) hc h; exact ⟨d, h1, h2, by simp [Sh.fit]⟩
  | bool => obtain ⟨d, h1, h2⟩ := read .bool hc h; exact ⟨d, h1, h2, by simp [Sh.fit]⟩
  | str =>
    simp only [Sh.chk] at hc
    split at hc
    · rename_i ht
      obtain ⟨s, rfl, rfl, hs⟩ := DataW.trod_string ht h
      refine ⟨.str s, ⟨s, rfl, hs⟩, VRs.cons (.val _) (VRs.nil _), ?_⟩
      rw [Sh.fit]
      rintro _ ⟨⟩
      have := hw s.data.toList.length (by simp [DataW.weights])
      simpa using this
    · cases hc
  | sl e =>
    simp only [Sh.chk] at hc
    simp only [Sh.byB] at hb
    split at hc
    · rename_i e' ht
      rw [ht] at hb
      simp only [Bool.and_eq_true, decide_eq_true_eq] at hb
      rcases DataW.trod_slice ht h with ⟨rfl, _⟩ | ⟨a, len, cap, elems, rest, n, _, rfl, rfl, _, hl, hm, hlen, hel, _, _⟩
      · refine ⟨.sl [], ⟨[], rfl, by simp, by simp⟩, VRs.cons .nilslc (VRs.nil _), ?_⟩
        rw [Sh.fit]
        rintro _ ⟨⟩
        exact ⟨by simp, by simp⟩
      · simp only [DataW.weights, ht] at hw
        have hw0 := hw _ (List.mem_cons_self ..)
        have hwa : wOk (DataW.weightsAll P e' (elems.map (·.1)) ++ DataW.weightsAll P e' (rest.map (·.1))) := fun n hn => hw n (List.mem_cons_of_mem _ hn)
        rw [wOk_app] at hwa
        have hwe : ∀ x ∈ elems, wOk (x.1.weights P e') := fun x hx => wOk_all hwa.1 _ (List.mem_map_of_mem hx)
        obtain ⟨ds, us, h1, h2, h3, h4, h5, h6⟩ := readS_row (sh := e) hwe (fun cs x hx hwx => readS e hc hb.2 hx hwx) len (by omega) hel
        refine ⟨.sl ds, ⟨ds, rfl, by omega, h2⟩, VRs.cons ?_ (VRs.nil _), ?_⟩
        · have : ds.length = len := h1
          subst this
          exact .slc _ _ a cap us hl h3.1 ⟨h5, fun _ => rw0 W _⟩ h3.2
        · rw [Sh.fit]
          rintro _ ⟨⟩
          refine ⟨?_, h6⟩
          simp only [List.length_map] at hw0
          have k1 : ds.length * e.by ≤ ds.length * P.bytesOf e' := Nat.mul_le_mul_left _ hb.1
          have k2 : ds.length * P.bytesOf e' ≤ (elems.length + rest.length) * P.bytesOf e' := Nat.mul_le_mul_right _ (by omega)
          omega
    · cases hc
  | st l =>
    simp only [Sh.chk] at hc
    simp only [Sh.byB] at hb
    split at hc
    · rename_i fs ht
      rw [ht] at hb
      simp only at hb
      obtain ⟨xs, n, _, rfl, hl, hlen, hf⟩ := DataW.trod_struct ht h
      simp only [DataW.weights, ht] at hw
      have hwe := wOk_each hw
      obtain ⟨m, hm, hv, hft⟩ := readSL l (n := n) (cs := cs) (fs := fs.toList) (off := 0) hc hb (fun i f hi => by
        have hlt : i < xs.length := by rw [hlen]; simpa using getElem?_lt hi
        refine ⟨xs[i], ?_, hwe i f.type _ (by simp [hi]) (by simp [hlt])⟩
        rw [hf i f (by simpa using hi), List.getElem?_eq_getElem hlt]) hl
      refine ⟨.agg m, ⟨m, rfl, hm⟩, by rw [Dt.cells]; simpa using hv, ?_⟩
      rw [Sh.fit]
      rintro _ ⟨⟩
      exact hft
    · cases hc
theorem readSL (l : List Sh) : ∀ {n : Nat} {cs : List Value} {fs : List Field} {off tot : Nat}, Sh.chkL P l fs off tot = true → Sh.byBL P l (fs.map (·.type)) = true →
    (∀ (i : Nat) (f : Field), fs[i]? = some f → ∃ x, DataW.trod enc P W base spare held n f.type ((cs.drop f.offset).take (P.cellsOf f.type)) = some x ∧ wOk (x.1.weights P f.type)) → cs.length = tot →
    ∃ m, Sh.hasL l m ∧ VRs (st0 W) (Dt.cellsL m) (cs.drop off) ∧ Sh.fitL l m := by
  intro n cs fs off tot hc hb hf hl
  cases l with
  | nil =>
    simp only [Sh.chkL, Bool.and_eq_true, List.isEmpty_iff, beq_iff_eq] at hc
    refine ⟨[], rfl, ?_, by simp [Sh.fitL]⟩
    rw [List.drop_of_length_le (by omega)]
    exact VRs.nil _
  | cons s r =>
    simp only [Sh.chkL] at hc
    split at hc
    · cases hc
    · rename_i f fs'
      simp only [Bool.and_eq_true, beq_iff_eq] at hc
      simp only [List.map_cons, Sh.byBL, Bool.and_eq_true] at hb
      obtain ⟨⟨h1, h2⟩, h3⟩ := hc
      obtain ⟨x, hx, hwx⟩ := hf 0 f rfl
      obtain ⟨d, hd, hv, hft⟩ := readS s h2 hb.1 hx hwx
      obtain ⟨m, hm, hv', hft'⟩ := readSL r (n := n) (cs := cs) (fs := fs') h3 hb.2 (fun i f hi => hf (i + 1) f (by simpa using hi)) hl
      refine ⟨d :: m, ⟨d, m, rfl, hd, hm⟩, ?_, ⟨hft, hft'⟩⟩
      have := hv.append hv'
      rw [h1, ← List.drop_drop, List.take_append_drop] at this
      simpa [Dt.cellsL] using this
end
end
section
variable {H : Type} {enc : TypeId × Value → H} {P : Program} {W : World} {base b0 : Nat} {spare : Nat → Bool} {held : Bool} {r : Reach}
theorem readS_one {sh : Sh} {t : TypeId} {v : Value} {d : DataW H} {p : List MemPlace} (hc : sh.chk P t = true) (hb : sh.byB P t = true) (hval : Value.okWide P W r b0 t v) (hd : DataW.Trod enc P W base spare held t v d p) (hw : wOk (d.weights P t)) :
    ∃ dt, sh.has dt ∧ VR (st0 W) dt.sv v ∧ sh.fit dt := by
  obtain ⟨fuel, hf⟩ := hd
  obtain ⟨dt, hh, hv, hft⟩ := readS sh hc hb hf hw
  refine ⟨dt, hh, ?_, hft⟩
  cases sh with
  | int k =>
    simp only [Sh.chk] at hc
    split at hc
    · rename_i k' ht
      obtain ⟨n, rfl⟩ := okWide_int ht hval
      obtain ⟨m, rfl, _⟩ := hh
      exact hv.2 0 _ _ rfl (by simp [Value.cells])
    · cases hc
  | bool =>
    simp only [Sh.chk] at hc
    split at hc
    · rename_i ht
      obtain ⟨n, rfl⟩ := okWide_bool ht hval
      obtain ⟨m, rfl⟩ := hh
      exact hv.2 0 _ _ rfl (by simp [Value.cells])
    · cases hc
  | str =>
    simp only [Sh.chk] at hc
    split at hc
    · rename_i ht
      obtain ⟨n, rfl⟩ := okWide_string ht hval
      obtain ⟨m, rfl, _⟩ := hh
      exact hv.2 0 _ _ rfl (by simp [Value.cells])
    · cases hc
  | sl e =>
    simp only [Sh.chk] at hc
    split at hc
    · rename_i e' ht
      obtain ⟨a, len, cap, rfl⟩ := okWide_slice ht hval
      obtain ⟨m, rfl, _⟩ := hh
      exact hv.2 0 _ _ rfl (by simp [Value.cells])
    · cases hc
  | st l =>
    simp only [Sh.chk] at hc
    split at hc
    · rename_i fs ht
      obtain ⟨cs, rfl, _⟩ := okWide_struct ht hval
      obtain ⟨m, rfl, _⟩ := hh
      have : VR (st0 W) (.agg (Dt.cellsL m)) (.agg cs.toList.toArray) := VR.of_agg (by rw [Dt.cells] at hv; simpa [Value.cells] using hv)
      simpa [Dt.sv] using this
    · cases hc
theorem readS_args : ∀ (shs : List Sh) {ts : List TypeId} {vs : List Value} {ds : List (DataW H)} {p : List MemPlace}, Sh.chkAll P shs ts = true → Sh.byBL P shs ts = true →
    (∀ (j : Nat) t v, ts[j]? = some t → vs[j]? = some v → Value.okWide P W r b0 t v) → DataW.TrodAll enc P W base spare held ts vs ds p → wOk (DataW.weightsEach P ts ds) →
    ∃ dts, Sh.hasL shs dts ∧ VRs (st0 W) (dts.map Dt.sv) vs ∧ Sh.fitL shs dts
  | [], ts, vs, ds, p, hc, hb, hval, h, hw => by
    cases ts with
    | nil => obtain ⟨rfl, _, _⟩ := trodAll_nil h; exact ⟨[], rfl, VRs.nil _, by simp [Sh.fitL]⟩
    | cons t ts => simp [Sh.chkAll] at hc
  | s :: shs, ts, vs, ds, p, hc, hb, hval, h, hw => by
    cases ts with
    | nil => simp [Sh.chkAll] at hc
    | cons t ts =>
      simp only [Sh.chkAll, Bool.and_eq_true] at hc
      simp only [Sh.byBL, Bool.and_eq_true] at hb
      obtain ⟨v, vs', d, ds', p, q, rfl, rfl, rfl, h1, h2⟩ := trodAll_cons h
      rw [DataW.weightsEach, wOk_app] at hw
      obtain ⟨dt, g1, g2, g5⟩ := readS_one hc.1 hb.1 (hval 0 t v rfl rfl) h1 hw.1
      obtain ⟨dts, g3, g4, g6⟩ := readS_args shs hc.2 hb.2 (fun j t v ht hv => hval (j + 1) t v (by simpa using ht) (by simpa using hv)) h2 hw.2
      exact ⟨dt :: dts, ⟨dt, dts, rfl, g1, g3⟩, VRs.cons g2 g4, ⟨g5, g6⟩⟩

/-- THE CONTRACT that a row asks of a law, its arguments no larger than a process holds. -/
theorem law_contract_sized {f : FuncId} {fn : Func} {s : ChangeSpec} (shs : List Sh) (hg : (st0 W).GL) (hl : laidOutB P = true) (hc : Sh.chkAll P shs fn.params.toList = true) (hb : Sh.byBL P shs fn.params.toList = true) (hr : ∀ t ∈ fn.params.toList, P.readableRec t = true ∧ t < P.types.size)
    (hvars : s.vars = []) (hfn : ∀ ds : List (DataW H), ds.length = fn.params.size → s.fn H ds = { results := [.lit (.bool true)], args := ds }) {tb : TypeId} (hres : fn.resultTypes = #[tb]) (htb : P.underlying tb = some .bool)
    (hok : ∀ dts, Sh.hasL shs dts → Sh.fitL shs dts → Ok P f (dts.map Dt.sv) [] (.ret (bl true)) [])
    (args : Array Value) (ds gs : List (DataW H)) (before : List MemPlace)
    (hval : ∀ (j : Nat) t v, fn.params[j]? = some t → args[j]? = some v → Value.okWide P W r b0 t v) (hW : DataW.Whole enc P fn.params.toList s.vars false W args.toList ds gs before)
    (hsz : (DataW.weightsEach P (fn.params.toList ++ s.plain.varTypes P) (ds ++ gs)).all (· ≤ reachBytes) = true) :
    Calls P f args W fun e W' => ∃ v, e = .returned v ∧ s.post enc P fn false true false false W args v W' := by
  have hW' := hW
  obtain ⟨p, q, hA, hV, rfl, hfz, hnd⟩ := hW
  rw [hvars] at hV
  obtain ⟨rfl, rfl⟩ := trodVars_none hV
  have hwk : ∀ (ts : List TypeId) (us : List TypeId) (ds : List (DataW H)), ds.length = ts.length → (DataW.weightsEach P (ts ++ us) (ds ++ [])).all (· ≤ reachBytes) = true → wOk (DataW.weightsEach P ts ds) := by
    intro ts us ds
    induction ts generalizing ds with
    | nil => intro h _; cases ds with | nil => intro n hn; simp [DataW.weightsEach] at hn | cons d r => simp at h
    | cons t ts ih =>
      intro h h2
      cases ds with
      | nil => simp at h
      | cons d r =>
        simp only [List.cons_append, DataW.weightsEach, List.all_append, Bool.and_eq_true] at h2
        rw [DataW.weightsEach, wOk_app]
        exact ⟨fun n hn => by simpa using List.all_eq_true.1 h2.1 n hn, ih r (by simpa using h) h2.2⟩
  obtain ⟨dts, h1, h2, h6⟩ := readS_args shs hc hb (fun j t v ht hv => hval j t v (by simpa using ht) (by simpa using hv)) hA (hwk _ _ _ (trodAll_len hA) hsz)
  have h3 := ok_calls (hok dts h1 h6) hg h2
  refine h3.mono fun e W' ⟨he, bel⟩ => ?_
  subst he
  have hlen : ds.length = fn.params.size := by rw [trodAll_len hA]; simp
  have hf2 := hfn (ds ++ []) (by simpa using hlen)
  refine ⟨_, rfl, ds, [], _, [], p, [], hW', ?_, ?_, ?_, bel.frame _, fun h => by cases h⟩
  · rw [hres, hf2]
    exact trodAll_mk1 (shut_bool htb true)
  · rw [hf2]
    simpa using below_all hl bel hr hA
  · rw [hf2, hvars]; rfl
end
end Go.Ab
