/-
  Steps of the proof: contracts of functions and plain facts that the statement rests on.
-/
import Derived.Test.YtoghpbjllompaaaCore4
import Derived.SizedLaws
set_option linter.all false
/- AbPs -/
namespace Go.Ab
open Go.ChangeShapes Go.WideShapes Go.ChangeAt Go.RowKit

mutual
def Sh.by : Sh → Nat
  | .int k => k.bits / 8
  | .bool => 1
  | .str => 16
  | .sl _ => 24
  | .st l => Sh.byL l
def Sh.byL : List Sh → Nat
  | [] => 0
  | s :: r => s.by + Sh.byL r
end
mutual
def Sh.fit : Sh → Dt → Prop
  | .str, d => ∀ s, d = .str s → s.size ≤ reachBytes
  | .sl e, d => ∀ l, d = .sl l → l.length * e.by ≤ reachBytes ∧ ∀ x ∈ l, e.fit x
  | .st l, d => ∀ m, d = .agg m → Sh.fitL l m
  | _, _ => True
def Sh.fitL : List Sh → List Dt → Prop
  | [], _ => True
  | s :: r, m => match m with | [] => True | d :: m' => s.fit d ∧ Sh.fitL r m'
end
mutual
/-- The types' sizes are at least those that the shapes tell. -/
def Sh.byB (P : Program) : Sh → TypeId → Bool
  | .sl e, t => match P.underlying t with | some (.slice e') => decide (e.by ≤ P.bytesOf e') && e.byB P e' | _ => false
  | .st l, t => match P.underlying t with | some (.struct fs) => Sh.byBL P l (fs.toList.map (·.type)) | _ => false
  | _, _ => true
def Sh.byBL (P : Program) : List Sh → List TypeId → Bool
  | [], _ => true
  | s :: r, ts => match ts with | [] => false | t :: ts => s.byB P t && Sh.byBL P r ts
end

section
variable {H : Type} {enc : TypeId × Value → H} {P : Program} {W : World} {base : Nat} {spare : Nat → Bool} {held : Bool}

def wOk (l : List Nat) : Prop := ∀ n ∈ l, n ≤ reachBytes
theorem wOk_app {a b : List Nat} : wOk (a ++ b) ↔ wOk a ∧ wOk b := by
  unfold wOk
  constructor
  · intro h; exact ⟨fun n hn => h n (by simp [hn]), fun n hn => h n (by simp [hn])⟩
  · rintro ⟨h1, h2⟩ n hn
    rcases List.mem_append.1 hn with hn | hn
    · exact h1 n hn
    · exact h2 n hn
theorem wOk_all {t : TypeId} : ∀ {l : List (DataW H)}, wOk (DataW.weightsAll P t l) → ∀ d ∈ l, wOk (d.weights P t)
  | [], _, d, hd => by simp at hd
  | x :: r, h, d, hd => by
    rw [DataW.weightsAll, wOk_app] at h
    rcases List.mem_cons.1 hd with rfl | hd
    · exact h.1
    · exact wOk_all h.2 d hd
theorem wOk_each : ∀ {ts : List TypeId} {l : List (DataW H)}, wOk (DataW.weightsEach P ts l) → ∀ (i : Nat) (t : TypeId) (d : DataW H), ts[i]? = some t → l[i]? = some d → wOk (d.weights P t)
  | [], _, _, i, t, d, ht, _ => by simp at ht
  | _ :: _, [], _, i, t, d, _, hd => by simp at hd
  | t0 :: ts, d0 :: l, h, i, t, d, ht, hd => by
    rw [DataW.weightsEach, wOk_app] at h
    cases i with
    | zero => simp at ht hd; subst ht hd; exact h.1
    | succ i => simp at ht hd; exact wOk_each h.2 i t d ht hd

/-- Elements read one by one. -/
theorem readS_row {e : TypeId} {sh : Sh} {n : Nat} {a : Addr} {elems : List (DataW H × List MemPlace)} (hw : ∀ x ∈ elems, wOk (x.1.weights P e))
    (ih : ∀ cs x, DataW.trod enc P W base spare held n e cs = some x → wOk (x.1.weights P e) → ∃ d, sh.has d ∧ VRs (st0 W) d.cells cs ∧ sh.fit d) :
    ∀ k, k ≤ elems.length → (∀ i, i < k → (W.cells? base (a.add (i * P.cellsOf e)) (P.cellsOf e)).bind (DataW.trod enc P W base spare held n e) = elems[i]?) →
      ∃ (ds : List Dt) (us : List Value), ds.length = k ∧ (∀ x ∈ ds, sh.has x) ∧ VRs (st0 W) (Dt.cellsL ds) us ∧ us.length = k * P.cellsOf e ∧ (∀ j u, us[j]? = some u → W.cell? (a.add j) = some u) ∧ ∀ x ∈ ds, sh.fit x := by
  intro k
  induction k with
  | zero => intro _ _; exact ⟨[], [], rfl, by simp, VRs.nil _, by simp, by simp, by simp⟩
  | succ k ihk =>
    intro hk hel
    obtain ⟨ds, us, h1, h2, h3, h4, h5, h8⟩ := ihk (by omega) (fun i hi => hel i (by omega))
    have h6 := hel k (by omega)
    rw [List.getElem?_eq_getElem (by omega), Option.bind_eq_some_iff] at h6
    obtain ⟨cs, hcs, ht⟩ := h6
    obtain ⟨d, hd, hv, hft⟩ := ih cs _ ht (hw _ (List.getElem_mem _))
    obtain ⟨_, hlen, hc⟩ := World.cells?_some hcs
    refine ⟨ds ++ [d], us ++ cs, by simp [h1], ?_, ?_, ?_, ?_, ?_⟩
    · intro x hx
      rcases List.mem_append.1 hx with hx | hx
      · exact h2 x hx
      · simp at hx; subst hx; exact hd
    · rw [cellsL_append]; simpa [Dt.cellsL] using h3.append hv
    · simp [h4, hlen, Nat.add_mul]
    · intro j u hj
      by_cases hlt : j < us.length
      · rw [List.getElem?_append_left hlt] at hj; exact h5 j u hj
      · rw [List.getElem?_append_right (by omega)] at hj
        have hj' : j - us.length < cs.length := getElem?_lt hj
        have := hc (j - us.length) (by omega)
        rw [hj, add_add] at this
        rw [← this]; congr 2; omega
    · intro x hx
      rcases List.mem_append.1 hx with hx | hx
      · exact h8 x hx
      · simp at hx; subst hx; exact hft

mutual
theorem readS (sh : Sh) : ∀ {t : TypeId} {fuel : Nat} {cs : List Value} {x : DataW H × List MemPlace}, sh.chk P t = true → sh.byB P t = true → DataW.trod enc P W base spare held fuel t cs = some x → wOk (x.1.weights P t) →
    ∃ d, sh.has d ∧ VRs (st0 W) d.cells cs ∧ sh.fit d := by
  intro t fuel cs x hc hb h hw
  cases sh with
  | int k => obtain ⟨d, h1, h2⟩ := read (.int k) hc h; exact ⟨d, h1, h2, by simp [Sh.fit]⟩
  | bool => obtain ⟨d, h1, h2⟩ := read .bool hc h; exact ⟨d, h1, h2, by simp [Sh.fit]⟩
  | str =>
    simp only [Sh.chk] at hc
    split at hc
    · rename_i ht
      obtain ⟨s, rfl, rfl, hs⟩ := DataW.trod_string ht h
      refine ⟨.str s, ⟨s, rfl, hs⟩, VRs.cons (.val _) (VRs.nil _), ?_⟩
      rw [Sh.fit]
      rintro _ ⟨⟩
      have := hw s.data.toList.length (by simp [DataW.weights])
      simpa using this
    · cases hc
  | sl e =>
    simp only [Sh.chk] at hc
    simp only [Sh.byB] at hb
    split at hc
    · rename_i e' ht
      rw [ht] at hb
      simp only [Bool.and_eq_true, decide_eq_true_eq] at hb
      rcases DataW.trod_slice ht h with ⟨rfl, _⟩ | ⟨a, len, cap, elems, rest, n, _, rfl, rfl, _, hl, hm, hlen, hel, _, _⟩
      · refine ⟨.sl [], ⟨[], rfl, by simp, by simp⟩, VRs.cons .nilslc (VRs.nil _), ?_⟩
        rw [Sh.fit]
        rintro _ ⟨⟩
        exact ⟨by simp, by simp⟩
      · simp only [DataW.weights, ht] at hw
        have hw0 := hw _ (List.mem_cons_self ..)
        have hwa : wOk (DataW.weightsAll P e' (elems.map (·.1)) ++ DataW.weightsAll P e' (rest.map (·.1))) := fun n hn => hw n (List.mem_cons_of_mem _ hn)
        rw [wOk_app] at hwa
        have hwe : ∀ x ∈ elems, wOk (x.1.weights P e') := fun x hx => wOk_all hwa.1 _ (List.mem_map_of_mem hx)
        obtain ⟨ds, us, h1, h2, h3, h4, h5, h6⟩ := readS_row (sh := e) hwe (fun cs x hx hwx => readS e hc hb.2 hx hwx) len (by omega) hel
        refine ⟨.sl ds, ⟨ds, rfl, by omega, h2⟩, VRs.cons ?_ (VRs.nil _), ?_⟩
        · have : ds.length = len := h1
          subst this
          exact .slc _ _ a cap us hl h3.1 ⟨h5, fun _ => rw0 W _⟩ h3.2
        · rw [Sh.fit]
          rintro _ ⟨⟩
          refine ⟨?_, h6⟩
          simp only [List.length_map] at hw0
          have k1 : ds.length * e.by ≤ ds.length * P.bytesOf e' := Nat.mul_le_mul_left _ hb.1
          have k2 : ds.length * P.bytesOf e' ≤ (elems.length + rest.length) * P.bytesOf e' := Nat.mul_le_mul_right _ (by omega)
          omega
    · cases hc
  | st l =>
    simp only [Sh.chk] at hc
    simp only [Sh.byB] at hb
    split at hc
    · rename_i fs ht
      rw [ht] at hb
      simp only at hb
      obtain ⟨xs, n, _, rfl, hl, hlen, hf⟩ := DataW.trod_struct ht h
      simp only [DataW.weights, ht] at hw
      have hwe := wOk_each hw
      obtain ⟨m, hm, hv, hft⟩ := readSL l (n := n) (cs := cs) (fs := fs.toList) (off := 0) hc hb (fun i f hi => by
        have hlt : i < xs.length := by rw [hlen]; simpa using getElem?_lt hi
        refine ⟨xs[i], ?_, hwe i f.type _ (by simp [hi]) (by simp [hlt])⟩
        rw [hf i f (by simpa using hi), List.getElem?_eq_getElem hlt]) hl
      refine ⟨.agg m, ⟨m, rfl, hm⟩, by rw [Dt.cells]; simpa using hv, ?_⟩
      rw [Sh.fit]
      rintro _ ⟨⟩
      exact hft
    · cases hc
theorem readSL (l : List Sh) : ∀ {n : Nat} {cs : List Value} {fs : List Field} {off tot : Nat}, Sh.chkL P l fs off tot = true → Sh.byBL P l (fs.map (·.type)) = true →
    (∀ (i : Nat) (f : Field), fs[i]? = some f → ∃ x, DataW.trod enc P W base spare held n f.type ((cs.drop f.offset).take (P.cellsOf f.type)) = some x ∧ wOk (x.1.weights P f.type)) → cs.length = tot →
    ∃ m, Sh.hasL l m ∧ VRs (st0 W) (Dt.cellsL m) (cs.drop off) ∧ Sh.fitL l m := by
  intro n cs fs off tot hc hb hf hl
  cases l with
  | nil =>
    simp only [Sh.chkL, Bool.and_eq_true, List.isEmpty_iff, beq_iff_eq] at hc
    refine ⟨[], rfl, ?_, by simp [Sh.fitL]⟩
    rw [List.drop_of_length_le (by omega)]
    exact VRs.nil _
  | cons s r =>
    simp only [Sh.chkL] at hc
    split at hc
    · cases hc
    · rename_i f fs'
      simp only [Bool.and_eq_true, beq_iff_eq] at hc
      simp only [List.map_cons, Sh.byBL, Bool.and_eq_true] at hb
      obtain ⟨⟨h1, h2⟩, h3⟩ := hc
      obtain ⟨x, hx, hwx⟩ := hf 0 f rfl
      obtain ⟨d, hd, hv, hft⟩ := readS s h2 hb.1 hx hwx
      obtain ⟨m, hm, hv', hft'⟩ := readSL r (n := n) (cs := cs) (fs := fs') h3 hb.2 (fun i f hi => hf (i + 1) f (by simpa using hi)) hl
      refine ⟨d :: m, ⟨d, m, rfl, hd, hm⟩, ?_, ⟨hft, hft'⟩⟩
      have := hv.append hv'
      rw [h1, ← List.drop_drop, List.take_append_drop] at this
      simpa [Dt.cellsL] using this
end
end
section
variable {H : Type} {enc : TypeId × Value → H} {P : Program} {W : World} {base b0 : Nat} {spare : Nat → Bool} {held : Bool} {r : Reach}
theorem readS_one {sh : Sh} {t : TypeId} {v : Value} {d : DataW H} {p : List MemPlace} (hc : sh.chk P t = true) (hb : sh.byB P t = true) (hval : Value.okWide P W r b0 t v) (hd : DataW.Trod enc P W base spare held t v d p) (hw : wOk (d.weights P t)) :
    ∃ dt, sh.has dt ∧ VR (st0 W) dt.sv v ∧ sh.fit dt := by
  obtain ⟨fuel, hf⟩ := hd
  obtain ⟨dt, hh, hv, hft⟩ := readS sh hc hb hf hw
  refine ⟨dt, hh, ?_, hft⟩
  cases sh with
  | int k =>
    simp only [Sh.chk] at hc
    split at hc
    · rename_i k' ht
      obtain ⟨n, rfl⟩ := okWide_int ht hval
      obtain ⟨m, rfl, _⟩ := hh
      exact hv.2 0 _ _ rfl (by simp [Value.cells])
    · cases hc
  | bool =>
    simp only [Sh.chk] at hc
    split at hc
    · rename_i ht
      obtain ⟨n, rfl⟩ := okWide_bool ht hval
      obtain ⟨m, rfl⟩ := hh
      exact hv.2 0 _ _ rfl (by simp [Value.cells])
    · cases hc
  | str =>
    simp only [Sh.chk] at hc
    split at hc
    · rename_i ht
      obtain ⟨n, rfl⟩ := okWide_string ht hval
      obtain ⟨m, rfl, _⟩ := hh
      exact hv.2 0 _ _ rfl (by simp [Value.cells])
    · cases hc
  | sl e =>
    simp only [Sh.chk] at hc
    split at hc
    · rename_i e' ht
      obtain ⟨a, len, cap, rfl⟩ := okWide_slice ht hval
      obtain ⟨m, rfl, _⟩ := hh
      exact hv.2 0 _ _ rfl (by simp [Value.cells])
    · cases hc
  | st l =>
    simp only [Sh.chk] at hc
    split at hc
    · rename_i fs ht
      obtain ⟨cs, rfl, _⟩ := okWide_struct ht hval
      obtain ⟨m, rfl, _⟩ := hh
      have : VR (st0 W) (.agg (Dt.cellsL m)) (.agg cs.toList.toArray) := VR.of_agg (by rw [Dt.cells] at hv; simpa [Value.cells] using hv)
      simpa [Dt.sv] using this
    · cases hc
theorem readS_args : ∀ (shs : List Sh) {ts : List TypeId} {vs : List Value} {ds : List (DataW H)} {p : List MemPlace}, Sh.chkAll P shs ts = true → Sh.byBL P shs ts = true →
    (∀ (j : Nat) t v, ts[j]? = some t → vs[j]? = some v → Value.okWide P W r b0 t v) → DataW.TrodAll enc P W base spare held ts vs ds p → wOk (DataW.weightsEach P ts ds) →
    ∃ dts, Sh.hasL shs dts ∧ VRs (st0 W) (dts.map Dt.sv) vs ∧ Sh.fitL shs dts
  | [], ts, vs, ds, p, hc, hb, hval, h, hw => by
    cases ts with
    | nil => obtain ⟨rfl, _, _⟩ := trodAll_nil h; exact ⟨[], rfl, VRs.nil _, by simp [Sh.fitL]⟩
    | cons t ts => simp [Sh.chkAll] at hc
  | s :: shs, ts, vs, ds, p, hc, hb, hval, h, hw => by
    cases ts with
    | nil => simp [Sh.chkAll] at hc
    | cons t ts =>
      simp only [Sh.chkAll, Bool.and_eq_true] at hc
      simp only [Sh.byBL, Bool.and_eq_true] at hb
      obtain ⟨v, vs', d, ds', p, q, rfl, rfl, rfl, h1, h2⟩ := trodAll_cons h
      rw [DataW.weightsEach, wOk_app] at hw
      obtain ⟨dt, g1, g2, g5⟩ := readS_one hc.1 hb.1 (hval 0 t v rfl rfl) h1 hw.1
      obtain ⟨dts, g3, g4, g6⟩ := readS_args shs hc.2 hb.2 (fun j t v ht hv => hval (j + 1) t v (by simpa using ht) (by simpa using hv)) h2 hw.2
      exact ⟨dt :: dts, ⟨dt, dts, rfl, g1, g3⟩, VRs.cons g2 g4, ⟨g5, g6⟩⟩

/-- THE CONTRACT that a row asks of a law, its arguments no larger than a process holds. -/
theorem law_contract_sized {f : FuncId} {fn : Func} {s : ChangeSpec} (shs : List Sh) (hl : laidOutB P = true) (hc : Sh.chkAll P shs fn.params.toList = true) (hb : Sh.byBL P shs fn.params.toList = true) (hr : ∀ t ∈ fn.params.toList, P.readableRec t = true ∧ t < P.types.size)
    (hvars : s.vars = []) (hfn : ∀ ds : List (DataW H), ds.length = fn.params.size → s.fn H ds = { results := [.lit (.bool true)], args := ds }) {tb : TypeId} (hres : fn.resultTypes = #[tb]) (htb : P.underlying tb = some .bool)
    (hok : ∀ dts, Sh.hasL shs dts → Sh.fitL shs dts → Ok P f (dts.map Dt.sv) [] (.ret (bl true)) [])
    (args : Array Value) (ds gs : List (DataW H)) (before : List MemPlace)
    (hval : ∀ (j : Nat) t v, fn.params[j]? = some t → args[j]? = some v → Value.okWide P W r b0 t v) (hW : DataW.Whole enc P fn.params.toList s.vars false W args.toList ds gs before)
    (hsz : (DataW.weightsEach P (fn.params.toList ++ s.plain.varTypes P) (ds ++ gs)).all (· ≤ reachBytes) = true) :
    Calls P f args W fun e W' => ∃ v, e = .returned v ∧ s.post enc P fn false true false false W args v W' := by
  have hW' := hW
  obtain ⟨p, q, hA, hV, rfl, hfz, hnd⟩ := hW
  rw [hvars] at hV
  obtain ⟨rfl, rfl⟩ := trodVars_none hV
  have hwk : ∀ (ts : List TypeId) (us : List TypeId) (ds : List (DataW H)), ds.length = ts.length → (DataW.weightsEach P (ts ++ us) (ds ++ [])).all (· ≤ reachBytes) = true → wOk (DataW.weightsEach P ts ds) := by
    intro ts us ds
    induction ts generalizing ds with
    | nil => intro h _; cases ds with | nil => intro n hn; simp [DataW.weightsEach] at hn | cons d r => simp at h
    | cons t ts ih =>
      intro h h2
      cases ds with
      | nil => simp at h
      | cons d r =>
        simp only [List.cons_append, DataW.weightsEach, List.all_append, Bool.and_eq_true] at h2
        rw [DataW.weightsEach, wOk_app]
        exact ⟨fun n hn => by simpa using List.all_eq_true.1 h2.1 n hn, ih r (by simpa using h) h2.2⟩
  obtain ⟨dts, h1, h2, h6⟩ := readS_args shs hc hb (fun j t v ht hv => hval j t v (by simpa using ht) (by simpa using hv)) hA (hwk _ _ _ (trodAll_len hA) hsz)
  have h3 := ok_calls (hok dts h1 h6) h2
  refine h3.mono fun e W' ⟨he, bel⟩ => ?_
  subst he
  have hlen : ds.length = fn.params.size := by rw [trodAll_len hA]; simp
  have hf2 := hfn (ds ++ []) (by simpa using hlen)
  refine ⟨_, rfl, ds, [], _, [], p, [], hW', ?_, ?_, ?_, bel.frame _, fun h => by cases h⟩
  · rw [hres, hf2]
    exact trodAll_mk1 (shut_bool htb true)
  · rw [hf2]
    simpa using below_all hl bel hr hA
  · rw [hf2, hvars]; rfl
end
end Go.Ab

/- AbZf -/
namespace Go.Ab
set_option linter.unusedSectionVars false
section
variable {P : Program} {ops : Array Oper} {Q : Exit → Act → World → Prop} {a0 : Act}
theorem wpOps_off : ∀ (is : List Nat) (a : Act) (w : World), wpOps P ops Q is a w → offA ops a0 a → wpOps P ops (offQ ops a0 Q) is a w
  | [], _, _, h, ha => ⟨h, fun _ => ha⟩
  | _ :: r, _, _, h, ha => wpOp_off h ha fun a' w' ha' h' => wpOps_off r a' w' h' ha'
theorem wpList_off {a : Act} {w : World} (h : wpList P ops Q ops.toList a w) (ha : offA ops a0 a) : wpList P ops (offQ ops a0 Q) ops.toList a w := by
  have e := fun Q => wpOps_eq_wpList (P := P) (ops := ops) (Q := Q) ops.toList 0 (fun j => by simp)
  rw [← e] at h ⊢
  exact wpOps_off _ _ _ h ha
end
/-- No instruction writes one of the slots. -/
def frI (ts : List Nat) : IC → Bool
  | .skip => true
  | .ret => true
  | .reg l => l.all fun i => ts.all fun t => i.d != some t
  | .seq a b => frI ts a && frI ts b
  | .cond _ a b => frI ts a && frI ts b
  | .keep _ a => frI ts a
  | _ => false
def WF (P : Program) (N : Nat) (c : Code) (ts : List Nat) (env : Env) (H : List AO) (K : XE → Env → List AO → Prop) : Prop :=
  ∀ (db : DB) (S : St) (a : Act), S.H = H → Sim S → EnvR S env a.tmps → a.tmps.size = N → db.Ok S.w a.defers →
    c.wq db.ro P (fun e a' w => Post S N db K e a' w ∧ ∀ t ∈ ts, a'.tmps.getD t undef = a.tmps.getD t undef) a S.w
section
variable {P : Program} {N : Nat} {D : Array Oper → List Nat → List Ins → Bool} {ts : List Nat}
theorem chkL_dst {ops : Array Oper} : ∀ {l : List Oper} {l' : List Ins}, chkL P N ops l l' = true → ∀ o ∈ l, ∃ i ∈ l', i.d = o.dst
  | [], _, _, o, ho => by simp at ho
  | o :: r, [], h, _, _ => by simp [chkL] at h
  | o :: r, o' :: r', h, q, hq => by
    simp only [chkL, Bool.and_eq_true] at h
    rcases List.mem_cons.1 hq with rfl | hq
    · refine ⟨o', by simp, ?_⟩
      have := h.1
      unfold chkIns at this
      simp only [Bool.and_eq_true, beq_iff_eq] at this
      exact this.1.1.1.symm
    · obtain ⟨i, hi, e⟩ := chkL_dst h.2 q hq
      exact ⟨i, by simp [hi], e⟩
theorem wf_sound (hD : DOk P D) : ∀ (i : IC) {env : Env} {H : List AO} {K : XE → Env → List AO → Prop} (c : Code), chkC P N D c i = true → frI ts i = true → X P N D i env H K → WF P N c ts env H K := by
  intro i
  induction i with
  | skip =>
    intro env H K c hc _ h db S a h1 h2 h3 h4 h5
    have hX := X_sound hD .skip hc h
    cases c <;> simp only [chkC, Bool.false_eq_true] at hc
    subst h1
    exact wpIn_skip ⟨⟨.normal, env, S.ρ, S.H, trivial, Ext.refl _ S, h2, h3, h4, h5, h⟩, fun _ _ => rfl⟩
  | ret =>
    intro env H K c hc _ h db S a h1 h2 h3 h4 h5
    cases c <;> simp only [chkC, Bool.false_eq_true] at hc
    subst h1
    exact wpIn_ret ⟨⟨.ret, env, S.ρ, S.H, trivial, Ext.refl _ S, h2, h3, h4, h5, h⟩, fun _ _ => rfl⟩
  | reg l =>
    intro env H K c hc hf h
    obtain ⟨id, ops, rfl, hnd, hc⟩ : ∃ id ops, c = .region id ops false ∧ ndB ops = true ∧ chkL P N ops ops.toList l = true := by
      cases c with
      | region id ops dr => cases dr <;> simp [chkC] at hc; exact ⟨id, ops, rfl, hc⟩
      | _ => simp [chkC] at hc
    intro db S a h1 h2 h3 h4 h5
    subst h1
    have h6 := wpList_off (a0 := a) (xops_sound _ _ h2 h3 h4 h5 hc h) (fun _ _ => rfl)
    refine wq_mono (wp_region_list hnd h6) ?_
    rintro e a' w ⟨hp, ho⟩
    refine ⟨hp, fun t ht => ?_⟩
    have hne : e ≠ .outgrown := by
      obtain ⟨x, _, _, _, g, _⟩ := hp
      rintro rfl
      cases x <;> simp [ER] at g
    refine ho hne t fun o ho' hd => ?_
    obtain ⟨i, hi, e⟩ := chkL_dst hc o ho'
    simp only [frI, List.all_eq_true] at hf
    have := hf i hi t ht
    rw [e, hd] at this
    simp at this
  | seq a b iha ihb =>
    intro env H K c hc hf h
    cases c <;> simp only [chkC, Bool.false_eq_true, Bool.and_eq_true] at hc
    simp only [frI, Bool.and_eq_true] at hf
    have h1 := iha _ hc.1 hf.1 h
    intro db S a g1 g2 g3 g4 g5
    refine wpIn_seq (wq_mono (h1 db S a g1 g2 g3 g4 g5) ?_)
    rintro e a' w ⟨⟨xe, env', ρ, H', g1, g2, g3, g4, g5, g6, g7⟩, hfr⟩
    cases xe <;> cases e <;> simp only [ER] at g1
    · refine wq_mono (ihb _ hc.2 hf.2 g7 db ⟨ρ, H', w⟩ a' rfl g3 g4 g5 g6) fun e a w h => ⟨Post.trans g2 h.1, fun t ht => (h.2 t ht).trans (hfr t ht)⟩
    · exact ⟨⟨.exit _, env', ρ, H', g1, g2, g3, g4, g5, g6, g7⟩, hfr⟩
    · exact ⟨⟨.goto _, env', ρ, H', g1, g2, g3, g4, g5, g6, g7⟩, hfr⟩
    · exact ⟨⟨.ret, env', ρ, H', g1, g2, g3, g4, g5, g6, g7⟩, hfr⟩
    · exact ⟨⟨.panic _, env', ρ, H', g1, g2, g3, g4, g5, g6, g7⟩, hfr⟩
  | cond c' a b iha ihb =>
    intro env H K c hc hf h
    cases c <;> simp only [chkC, Bool.false_eq_true, Bool.and_eq_true] at hc
    simp only [frI, Bool.and_eq_true] at hf
    intro db S a g1 g2 g3 g4 g5
    exact wpIn_cond_split ((chkOd_spec hc.1.1 g3).isB h.1) (fun hh => iha _ hc.1.2 hf.1 (h.2.1 hh) db S a g1 g2 g3 g4 g5) (fun hh => ihb _ hc.2 hf.2 (h.2.2 hh) db S a g1 g2 g3 g4 g5)
  | keep ks a iha =>
    intro env H K c hc hf h db S a' g1 g2 g3 g4 g5
    exact iha c (by simpa only [chkC] using hc) hf h db S a' g1 g2 (g3.keep ks) g4 g5
  | _ => intro env H K c hc hf; simp [frI] at hf
end
/-- What a value says without naming a place that nobody writes. -/
def SV.nim (q : Nat) : SV → SV
  | .val v => .val v
  | .own i off len sz ver => if i = q then .any else .own i off len sz ver
  | .ptr (.own i off len sz ver) k => if i = q then .any else .ptr (.own i off len sz ver) k
  | _ => .any
def SV.isV : SV → Bool
  | .val _ => true
  | .slc _ _ => true
  | _ => false
/-- A slice told by its length alone. -/
def SV.pl : SV → SV
  | .slc _ n => .slc [] n
  | s => s
/-- Objects that hold plain values and slices stay (of a slice only its length is told), the others are laid down. -/
def AO.pl (o : AO) : AO := if o.live && o.cells.all SV.isV then ⟨o.cells.map SV.pl, o.ty, o.ver, true⟩ else ⟨[], o.ty, o.ver, false⟩
theorem pl_rel {S S' : St} {s : SV} {v : Value} (hs : s.isV = true) (h : VR S s v) : VR S' s.pl v := by
  cases s <;> simp [SV.isV] at hs
  · cases h; exact .val _
  · cases h with
    | nilslc => exact .nilslc
    | slc => exact .slc [] _ _ _ [] (by assumption) rfl ⟨by simp, by simp⟩ (by simp)
def lendH (H : List AO) (k : Nat) (o : AO) : List AO := (H.map AO.pl).set k o
def lendE (ts : List Nat) (q : Nat) (env0 env : Env) : Env := ts.map (fun t => (t, env0.get t)) ++ env.map fun p => (p.1, p.2.nim q)
theorem lendE_get (ts : List Nat) (k : Nat) (env0 env : Env) (t : Nat) : (t ∈ ts ∧ (lendE ts k env0 env).get t = env0.get t) ∨ (lendE ts k env0 env).get t = (env.get t).nim k := by
  unfold lendE
  induction ts with
  | nil =>
    right
    exact get_map env (SV.nim k) rfl t
  | cons q r ih =>
    simp only [List.map_cons, List.cons_append, Env.get]
    by_cases h : q = t
    · subst h; left; exact ⟨by simp, by simp⟩
    · rw [if_neg h]
      rcases ih with ⟨h1, h2⟩ | h2
      · left; exact ⟨by simp [h1], h2⟩
      · right; exact h2
theorem get_lendE (ts : List Nat) (k : Nat) (env0 env : Env) (t : Nat) : Env.get (lendE ts k env0 env) t = if t ∈ ts then env0.get t else (env.get t).nim k := by
  unfold lendE
  induction ts with
  | nil => simpa using get_map env (SV.nim k) rfl t
  | cons q r ih =>
    simp only [List.map_cons, List.cons_append, Env.get]
    by_cases h : q = t
    · subst h; simp
    · rw [if_neg h, ih]
      have h2 : ¬ t = q := fun e => h e.symm
      simp [h2]
theorem pl_ver (o : AO) : o.pl.ver = o.ver := by unfold AO.pl; split <;> rfl
section
variable {S S1 : St} {H : List AO} {k d : Nat} {o : AO}
theorem lend_at {i : Nat} {p : AO} (hk : k < H.length) (h : (lendH H k o)[i]? = some p) : (i = k ∧ p = o) ∨ (i ≠ k ∧ ∃ q, H[i]? = some q ∧ p = q.pl) := by
  unfold lendH at h
  by_cases e : i = k
  · subst e; rw [List.getElem?_set_self (by simpa using hk)] at h; cases h; exact .inl ⟨rfl, rfl⟩
  · rw [List.getElem?_set_ne (by omega), List.getElem?_map, Option.map_eq_some_iff] at h
    obtain ⟨q, h1, rfl⟩ := h
    exact .inr ⟨e, q, h1, rfl⟩
theorem pl_own {o : AO} (h : o.pl.own = true) : o.live = true ∧ o.cells.all SV.isV = true ∧ o.pl = ⟨o.cells.map SV.pl, o.ty, o.ver, true⟩ := by
  unfold AO.pl at h ⊢
  by_cases hc : (o.live && o.cells.all SV.isV) = true
  · rw [if_pos hc]; rw [Bool.and_eq_true] at hc; exact ⟨hc.1, hc.2, rfl⟩
  · rw [if_neg hc] at h; simp [AO.own] at h
/-- The state with the lent object given back. -/
def lendS (S1 : St) (k : Nat) (o : AO) : St := ⟨S1.ρ, lendH S1.H k o, S1.w⟩
variable (hS : Sim S) (ho : S.H[k]? = some o) (hl : o.live = true) (he : Ext S.H.length (givS S [] S.H k d o) S1) (hS1 : Sim S1) (h1 : S1.H[k]? = some o.dead)
include hS ho hl he hS1 h1
theorem lend_rho : S1.ρ k = S.ρ k := by
  have hk := getElem?_lt ho
  obtain ⟨o', h2, h3, h4⟩ := he.obj k (AO.gv (0 + k) o.ver o.cells d o.dead) hk (by
    simp only [givS, List.nil_append, List.length_nil, List.getElem?_map]
    rw [List.getElem?_set_self hk]; rfl)
  rw [h1] at h2; cases h2
  exact h4 rfl
theorem lend_not {b : Nat} (hb : S.ρ k = some b) : ¬ (givS S [] S.H k d o).rw b := by
  rintro ⟨i, p, hp, hpl, hρ⟩
  rcases giv_at (H0 := []) hp ho with ⟨h2, _⟩ | ⟨_, rfl⟩ | ⟨p0, j, rfl, h3, h4, rfl⟩
  · simp at h2
  · simp [AO.gv, AO.dead, AO.own] at hpl
  · have : j = k := hS.inj j k p0 o b h4 ho (gv_own' hpl) (AO.own_live hl) (by simpa [givS] using hρ) hb
    exact h3 this
theorem lend_lt {b : Nat} (hb : S.ρ k = some b) : b < S.w.heap.size := hS.lt ⟨k, o, ho, AO.own_live hl, hb⟩
theorem lend_ext : Ext S.H.length S (lendS S1 k o) where
  obj := by
    intro i p hi hp
    obtain ⟨o2, g1, g2, g3⟩ := (giv_ext (H0 := []) (L := S.H) (k := k) (d := d) rfl ho).obj i p hi hp
    obtain ⟨o3, g4, g5, g6⟩ := he.obj i o2 hi g1
    have hk1 := getElem?_lt h1
    by_cases e : i = k
    · subst e
      rw [ho] at hp; cases hp
      exact ⟨o, by simp only [lendS, lendH]; rw [List.getElem?_set_self (by simpa using hk1)], Nat.le_refl _, fun _ => (lend_rho (S1 := S1) (d := d) hS ho hl he hS1 h1 : S1.ρ i = S.ρ i)⟩
    · refine ⟨o3.pl, by simp only [lendS, lendH]; rw [List.getElem?_set_ne (by omega), List.getElem?_map, g4]; rfl, ?_, fun h => ?_⟩
      · rw [pl_ver]; omega
      · rw [pl_ver] at h
        exact (g6 (by omega)).trans (g3 (by omega))
  imm := by
    intro b hb hn
    have hn' : ¬ (givS S [] S.H k d o).rw b := ((giv_ext (H0 := []) (L := S.H) (k := k) (d := d) rfl ho).imm b hb hn).2
    obtain ⟨g1, g2⟩ := he.imm b hb hn'
    refine ⟨g1, ?_⟩
    rintro ⟨i, p, hp, hpl, hρ⟩
    rcases lend_at (getElem?_lt h1) hp with ⟨rfl, rfl⟩ | ⟨hne, q, hq, rfl⟩
    · refine hn ⟨i, p, ho, AO.own_live hl, ?_⟩
      rw [← lend_rho (S1 := S1) hS ho hl he hS1 h1]; exact hρ
    · have := pl_own hpl
      exact g2 ⟨i, q, hq, AO.own_live this.1, hρ⟩
  size := he.size
  shape := fun b T m h => he.shape b T m h
  loops := fun b r h => he.loops b r h
  os := he.os
  tape := he.tape
  output := he.output
theorem lend_sim : Sim (lendS S1 k o) := by
  have hx := lend_ext hS ho hl he hS1 h1
  have hlen : (lendS S1 k o).H.length = S1.H.length := by simp [lendS, lendH]
  have hnot : ∀ {b : Nat}, S.ρ k = some b → ¬ S1.rw b := fun hb => (he.imm _ (lend_lt hS ho hl he hS1 h1 hb) (lend_not hS ho hl he hS1 h1 hb)).2
  have hin : ∀ {i : Nat} {q : AO} {b : Nat}, S1.H[i]? = some q → q.pl.own = true → S1.ρ i = some b → S1.ρ k = some b → False := by
    intro i q b hq hql hρ hk
    have := pl_own hql
    refine hnot (b := b) (by rw [← lend_rho hS ho hl he hS1 h1]; exact hk) ⟨i, q, hq, AO.own_live this.1, hρ⟩
  constructor
  · intro i p hp hpl
    rcases lend_at (getElem?_lt h1) hp with ⟨rfl, rfl⟩ | ⟨hne, q, hq, rfl⟩
    · have g := hS.live i p ho hl
      show match S1.ρ i with | none => p.cells = [] | some b => _
      rw [lend_rho hS ho hl he hS1 h1]
      cases hρ : S.ρ i with
      | none => rw [hρ] at g; exact g
      | some b =>
        rw [hρ] at g
        obtain ⟨us, rest, g1, g2⟩ := g
        exact ⟨us, rest, ((he.imm b (lend_lt hS ho hl he hS1 h1 hρ) (lend_not hS ho hl he hS1 h1 hρ)).1).trans g1, g2.ext hx⟩
    · have hpo := pl_own (AO.own_live hpl)
      rw [hpo.2.2] at hpl ⊢
      have g := hS1.live i q hq hpo.1
      show match S1.ρ i with | none => q.cells.map SV.pl = [] | some b => _
      cases hρ : S1.ρ i with
      | none => rw [hρ] at g; simp only at g ⊢; rw [g]; rfl
      | some b =>
        rw [hρ] at g
        obtain ⟨us, rest, g1, g2⟩ := g
        refine ⟨us, rest, g1, by rw [List.length_map]; exact g2.1, fun j s u hs hu => ?_⟩
        rw [List.getElem?_map, Option.map_eq_some_iff] at hs
        obtain ⟨s0, hs0, rfl⟩ := hs
        exact pl_rel (List.all_eq_true.1 hpo.2.1 s0 (List.mem_of_getElem? hs0)) (g2.2 j s0 u hs0 hu)
  · intro i p hp s hs
    rw [hlen]
    rcases lend_at (getElem?_lt h1) hp with ⟨rfl, rfl⟩ | ⟨hne, q, hq, rfl⟩
    · have g := hS.bel i p ho s hs
      have hle : S.H.length ≤ S1.H.length := by have := hx.len (Nat.le_refl _); rw [hlen] at this; exact this
      exact ⟨SV.under_mono hle s g.1, g.2⟩
    · unfold AO.pl at hs ⊢
      split at hs
      · rename_i hc
        rw [if_pos hc]
        obtain ⟨s0, hs0, rfl⟩ := List.mem_map.1 hs
        rw [Bool.and_eq_true] at hc
        have hv := List.all_eq_true.1 hc.2 s0 hs0
        have hb := hS1.bel i q hq s0 hs0
        cases s0 <;> simp [SV.isV] at hv
        · exact ⟨hb.1, fun _ => hb.2 hc.1⟩
        · exact ⟨by simp [SV.pl, SV.under, SV.underL], fun _ => rfl⟩
      · simp at hs
  · intro i j p q b hi hj hil hjl hρi hρj
    rcases lend_at (getElem?_lt h1) hi with ⟨rfl, rfl⟩ | ⟨hne, p', hp', rfl⟩ <;> rcases lend_at (getElem?_lt h1) hj with ⟨e, rfl⟩ | ⟨hne', q', hq', rfl⟩
    · exact e.symm
    · exact (hin hq' hjl hρj hρi).elim
    · subst e; exact (hin hp' hil hρi hρj).elim
    · exact hS1.inj i j p' q' b hp' hq' (AO.own_live (pl_own hil).1) (AO.own_live (pl_own hjl).1) hρi hρj
  · intro i p hp hpl hne
    rcases lend_at (getElem?_lt h1) hp with ⟨rfl, rfl⟩ | ⟨hne', q, hq, rfl⟩
    · rw [hl] at hpl; cases hpl
    · unfold AO.pl at hpl hne
      split at hpl
      · cases hpl
      · rename_i hc; rw [if_neg hc] at hne; exact absurd rfl hne
theorem nim_rel {s : SV} {v : Value} (h : VR S1 s v) : VR (lendS S1 k o) (s.nim k) v := by
  have hat : ∀ {i : Nat} {p : AO}, i ≠ k → S1.H[i]? = some p → ∃ p', (lendS S1 k o).H[i]? = some p' ∧ p'.ver = p.ver := by
    intro i p e hp
    exact ⟨p.pl, by simp only [lendS, lendH]; rw [List.getElem?_set_ne (by omega), List.getElem?_map, hp]; rfl, pl_ver p⟩
  cases h with
  | val v => exact .val v
  | own i off len sz ver a cap p hp hv hc hz g =>
    simp only [SV.nim]
    split
    · exact .any _
    · rename_i e
      obtain ⟨p', g1, g2⟩ := hat e hp
      exact .own i off len sz ver a cap p' g1 (by omega) hc hz fun e => g (by omega)
  | ptrO i off len sz ver q a p hp hv g =>
    simp only [SV.nim]
    split
    · exact .any _
    · rename_i e
      obtain ⟨p', g1, g2⟩ := hat e hp
      exact .ptrO i off len sz ver q a p' g1 (by omega) fun e => g (by omega)
  | _ => exact .any _
end
section
variable {P : Program} {N : Nat} {D : Array Oper → List Nat → List Ins → Bool}
theorem WI.of_X (hD : DOk P D) {i : IC} {env : Env} {H : List AO} {K : XE → Env → List AO → Prop} (h : X P N D i env H K) : WI P N D i env H K := fun _ hc => X_sound hD i hc h
theorem WI.seq (hD : DOk P D) {a b : IC} {env : Env} {H : List AO} {K : XE → Env → List AO → Prop} (h : X P N D a env H fun x env H => match x with | .normal => WI P N D b env H K | x => K x env H) : WI P N D (.seq a b) env H K := by
  intro c hc
  cases c <;> simp only [chkC, Bool.false_eq_true, Bool.and_eq_true] at hc
  refine W.seq ((X_sound hD a hc.1 h).mono ?_)
  intro x env H hk
  cases x <;> first | exact hk | exact hk _ hc.2
/-- Object k is lent while two pieces of code run. -/
theorem WI.lend (hD : DOk P D) {a b z : IC} (ts : List Nat) (k d : Nat) {o : AO} {env : Env} {H : List AO} {K : XE → Env → List AO → Prop} (hfa : frI ts a = true) (hfb : frI ts b = true) (ho : H[k]? = some o) (hl : o.live = true)
    (h : X P N D a (env.map fun p => (p.1, p.2.gv k o.ver o.cells d)) ((H.set k o.dead).map (AO.gv k o.ver o.cells d)) fun x env2 H2 => match x with
      | .normal => X P N D b env2 H2 fun x env3 H3 => match x with
        | .normal => H3[k]? = some o.dead ∧ WI P N D z (lendE ts k env env3) (lendH H3 k o) K
        | _ => False
      | _ => False) : WI P N D (.seq a (.seq b z)) env H K := by
  intro c hc
  obtain ⟨x, y, rfl, hca, hcy⟩ : ∃ x y, c = .seq x y ∧ chkC P N D x a = true ∧ chkC P N D y (.seq b z) = true := by
    cases c <;> simp only [chkC, Bool.false_eq_true, Bool.and_eq_true] at hc
    exact ⟨_, _, rfl, hc.1, hc.2⟩
  obtain ⟨y, zc, rfl, hcb, hcz⟩ : ∃ x y', y = .seq x y' ∧ chkC P N D x b = true ∧ chkC P N D y' z = true := by
    cases y <;> simp only [chkC, Bool.false_eq_true, Bool.and_eq_true] at hcy
    exact ⟨_, _, rfl, hcy.1, hcy.2⟩
  intro db S ac g1 g2 g3 g4 g5
  subst g1
  have e0 : (givS S [] S.H k d o).H = (S.H.set k o.dead).map (AO.gv k o.ver o.cells d) := by simp [givS]
  have hg := giv_sim (H0 := []) (L := S.H) (k := k) (d := d) g2 rfl (by intro i o h; simp at h) ho hl
  have hge := giv_ext (S := S) (H0 := []) (L := S.H) (k := k) (d := d) rfl ho
  have henv : EnvR (givS S [] S.H k d o) (env.map fun p => (p.1, p.2.gv k o.ver o.cells d)) ac.tmps := ⟨fun t => by
    rw [get_map env (SV.gv k o.ver o.cells d) (gv_any _ _ _ _)]
    have := giv_rel (H0 := []) (L := S.H) (k := k) (d := d) g2 rfl ho hl _ _ (g3.get t)
    simpa using this⟩
  refine wpIn_seq (wq_mono (wf_sound hD a x hca hfa h db (givS S [] S.H k d o) ac e0 hg henv g4 (g5.ext g2 hge)) ?_)
  rintro e a2 w2 ⟨⟨xe, env2, ρ2, H2, p1, p2, p3, p4, p5, p6, p7⟩, hfr2⟩
  cases xe <;> first | exact p7.elim | skip
  cases e <;> simp only [ER] at p1
  refine wpIn_seq (wq_mono (wf_sound hD b y hcb hfb p7 db ⟨ρ2, H2, w2⟩ a2 rfl p3 p4 p5 p6) ?_)
  rintro e a3 w3 ⟨⟨xe, env3, ρ3, H3, q1, q2, q3, q4, q5, q6, q7⟩, hfr3⟩
  cases xe <;> first | exact q7.elim | skip
  cases e <;> simp only [ER] at q1
  obtain ⟨r1, r2⟩ := q7
  have hlen : (givS S [] S.H k d o).H.length = S.H.length := by rw [e0]; simp
  have he : Ext S.H.length (givS S [] S.H k d o) ⟨ρ3, H3, w3⟩ := by
    have := p2.trans (q2.mono (p2.len (Nat.le_refl _)))
    rw [hlen] at this; exact this
  have hx := lend_ext g2 ho hl he q3 r1
  refine wq_mono (r2 zc hcz db (lendS ⟨ρ3, H3, w3⟩ k o) a3 rfl (lend_sim g2 ho hl he q3 r1) ⟨fun t => ?_⟩ q5 ?_) fun e a w hp => Post.trans hx hp
  · rcases lendE_get ts k env env3 t with ⟨h5, h6⟩ | h6 <;> rw [h6]
    · rw [hfr3 t h5, hfr2 t h5]
      exact (g3.get t).ext hx
    · exact nim_rel g2 ho hl he q3 r1 (q4.get t)
  · exact q6
theorem WI.tell {i : IC} {env env' : Env} {H H' : List AO} {K : XE → Env → List AO → Prop} (ht : Tell env H env' H') (h : WI P N D i env' H' K) : WI P N D i env H K := by
  intro c hc db S a hH hS he hN hd
  obtain ⟨ρ', h1, h2, h3⟩ := ht S a.tmps hH hS he
  exact wq_mono (h c hc db ⟨ρ', H', S.w⟩ a rfl h2 h3 hN (hd.ext hS h1)) fun e a w h => Post.trans h1 h
theorem WI.frz {i : IC} {env : Env} {H : List AO} {K : XE → Env → List AO → Prop} (d : Nat) (h : WI P N D i (env.frz H d) (H.map AO.dead) K) : WI P N D i env H K := fun c hc => (h c hc).frz d
theorem WI.cong {i : IC} {env : Env} {H H' : List AO} {K : XE → Env → List AO → Prop} (e : H' = H) (h : WI P N D i env H' K) : WI P N D i env H K := by rw [← e]; exact h
theorem ok_WI {P : Program} (hm : P.follows .mixedOrders = true) {f : FuncId} {fn : Func} {i : IC} {rs : List RS} (hf : P.funcs[f]? = some fn) (hc : chkF P drawB fn i rs = true)
    {args : List SV} {H : List AO} {out : Out} {H' : List AO} (hn : args.length = fn.params.size + fn.nfree)
    (hx : closed H → WI P fn.ntmps drawB i (argsEnv args) H (Fin H.length rs out H')) : Ok P f args H out H' := by
  unfold chkF at hc
  rw [Bool.and_eq_true, Bool.and_eq_true, Bool.and_eq_true] at hc
  obtain ⟨⟨⟨h1, h2⟩, h3⟩, h4⟩ := hc
  split at h1
  · rename_i c hb
    exact (okP_W hf hb (by simpa using h2) (by rw [hn]; simpa using h4) h3 fun hcl => (hx hcl c h1).mono fun x env H h => fin_P h).toOk
  · cases h1
end
end Go.Ab

