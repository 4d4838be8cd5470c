/-
  Steps of the proof: contracts of functions and plain facts that the statement rests on.
-/
import Derived.Test.YtmkdpmfhlfhjkaaGreatDoorCore4
set_option linter.all false
namespace Go.Ab
variable [GlobEnv] [FrEnv] [KnEnv] [KnNo] [KnOld]
open Go.ChangeShapes Go.WideShapes Go.ChangeAt Go.RowKit
mutual
def Dt.ty (P : Program) : Dt -> TypeId -> Prop
 | .int k n, t => P.underlying t = some (.int k) ∧ (Lit.int k n).wf = true
 | .bool _, t => P.underlying t = some .bool
 | .str s, t => P.underlying t = some .string ∧ s.size ≤ reachBytes
 | .sl l, t => ∃ e, P.underlying t = some (.slice e) ∧ l.length ≤ reachBytes ∧ Dt.tyA P l e
 | .agg l, t => ∃ fs, P.underlying t = some (.struct fs) ∧ Dt.tyL P l (fs.toList.map (·.type))
def Dt.tyA (P : Program) : List Dt -> TypeId -> Prop
 | [], _ => True
 | d :: r, t => d.ty P t ∧ Dt.tyA P r t
def Dt.tyL (P : Program) : List Dt -> List TypeId -> Prop
 | [], ts => ts = []
 | d :: r, ts => match ts with | [] => False | t :: ts => d.ty P t ∧ Dt.tyL P r ts
end
mutual
def Dt.blk : Dt -> Nat
 | .int _ _ => 1
 | .bool _ => 1
 | .str s => s.size + 1
 | .sl l => Dt.blkL l + 1
 | .agg l => Dt.blkL l + 1
def Dt.blkL : List Dt -> Nat
 | [] => 0
 | d :: r => d.blk + Dt.blkL r
end
end Go.Ab
namespace Go.Ab
open Go.ChangeShapes Go.WideShapes Go.ChangeAt Go.RowKit
section
theorem wOk_app' {a b : List Nat} : wOk (a ++ b) ↔ wOk a ∧ wOk b := by
 letI : GlobEnv := ⟨fun _ => none⟩
 exact wOk_app
variable {H : Type} {enc : TypeId × Value -> H} {P : Program} {W : World} {base : Nat} {spare : Nat -> Bool} {held : Bool}
theorem trodAll_len' {ts : List TypeId} {vs : List Value} {ds : List (DataW H)} {p : List MemPlace} (h : DataW.TrodAll enc P W base spare held ts vs ds p) : ds.length = ts.length := by
 letI : GlobEnv := ⟨fun _ => none⟩
 exact trodAll_len h
theorem below_all' (hl : laidOutB P = true) {W' : World} (hb : Below W.heap.size W W') {ts : List TypeId} {vs : List Value} {ds : List (DataW H)} {p : List MemPlace}
 (hr : ∀ t ∈ ts, P.readableRec t = true ∧ t < P.types.size) (h : DataW.TrodAll enc P W 0 (fun _ => true) true ts vs ds p) : DataW.TrodAll enc P W' 0 (fun b => decide (b < W.heap.size)) true ts vs ds p := by
 letI : GlobEnv := ⟨fun _ => none⟩
 exact below_all hl hb hr h
end
section
variable [GlobEnv] [FrEnv] [KnEnv]
def flatOk (P : Program) (t : TypeId) : Bool := match P.underlying t with
 | some (.int _) => true
 | some .bool => true
 | some .string => true
 | _ => false
variable {H : Type} {enc : TypeId × Value -> H} {P : Program} {W : World} {base b0 : Nat} {spare : Nat -> Bool} {held : Bool} {r : Reach}
theorem readF_one {t : TypeId} (hc : flatOk P t = true) {v : Value} {d : DataW H} {p : List MemPlace} (hval : Value.okWide P W r b0 t v) (hd : DataW.Trod enc P W base spare held t v d p) (hw : wOk (d.weights P t)) :
 ∃ dt : Dt, dt.ty P t ∧ VR (st0 W) dt.sv v := by
 obtain ⟨fuel, h⟩ := hd
 unfold flatOk at hc
 split at hc
 · rename_i k ht
   obtain ⟨n, rfl⟩ := okWide_int ht hval
   obtain ⟨m, he, _, hwf⟩ := DataW.trod_int ht h
   have he : n = m := by simpa [Value.cells] using he
   subst he
   exact ⟨.int k n, ⟨ht, hwf⟩, .val _⟩
 · rename_i ht
   obtain ⟨b, rfl⟩ := okWide_bool ht hval
   exact ⟨.bool b, ht, .val _⟩
 · rename_i ht
   obtain ⟨s, rfl⟩ := okWide_string ht hval
   obtain ⟨s', he, hd, hs⟩ := DataW.trod_string ht h
   have he : s = s' := by simpa [Value.cells] using he
   subst he
   have hd : d = .lit (.string s.data.toList) := by simpa using congrArg Prod.fst hd
   subst hd
   refine ⟨.str s, ⟨ht, ?_⟩, .val _⟩
   have := hw s.data.toList.length (by simp [DataW.weights])
   simpa using this
 · cases hc
theorem readF_args : ∀ {ts : List TypeId} {vs : List Value} {ds : List (DataW H)} {p : List MemPlace}, (∀ t ∈ ts, flatOk P t = true) →
 (∀ (j : Nat) t v, ts[j]? = some t -> vs[j]? = some v -> Value.okWide P W r b0 t v) -> DataW.TrodAll enc P W base spare held ts vs ds p -> wOk (DataW.weightsEach P ts ds) →
 ∃ dts, Dt.tyL P dts ts ∧ VRs (st0 W) (dts.map Dt.sv) vs
 | [], vs, ds, p, hb, hval, h, hw => by
  obtain ⟨rfl, _, _⟩ := trodAll_nil h; exact ⟨[], rfl, VRs.nil _⟩
 | t :: ts, vs, ds, p, hb, hval, h, hw => by
  obtain ⟨v, vs', d, ds', p, q, rfl, rfl, rfl, h1, h2⟩ := trodAll_cons h
  rw [DataW.weightsEach, wOk_app'] at hw
  obtain ⟨dt, g1, g2⟩ := readF_one (hb t (by simp)) (hval 0 t v rfl rfl) h1 hw.1
  obtain ⟨dts, g3, g4⟩ := readF_args (fun t ht => hb t (by simp [ht])) (fun j t v ht hv => hval (j + 1) t v (by simpa using ht) (by simpa using hv)) h2 hw.2
  exact ⟨dt :: dts, ⟨g1, g3⟩, VRs.cons g2 g4⟩
theorem law_contract_flat [KnNo] {f : FuncId} {fn : Func} {s : ChangeSpec} (hS : (fn.params.toList.all fun t => flatOk P t) = true) (hg : (st0 W).GL) (hl : laidOutB P = true) (hr : ∀ t ∈ fn.params.toList, P.readableRec t = true ∧ t < P.types.size)
 (hvars : s.vars = []) (hfn : ∀ ds : List (DataW H), ds.length = fn.params.size -> s.fn H ds = { results := [.lit (.bool true)], args := ds }) {tb : TypeId} (hres : fn.resultTypes = #[tb]) (htb : P.underlying tb = some .bool)
 (hok : ∀ dts, Dt.tyL P dts fn.params.toList -> Ok P f (dts.map Dt.sv) [] (.ret (bl true)) [])
 (args : Array Value) (ds gs : List (DataW H)) (before : List MemPlace)
 (hval : ∀ (j : Nat) t v, fn.params[j]? = some t -> args[j]? = some v -> Value.okWide P W r b0 t v) (hW : DataW.Whole enc P fn.params.toList s.vars false W args.toList ds gs before)
 (hsz : (DataW.weightsEach P (fn.params.toList ++ s.plain.varTypes P) (ds ++ gs)).all (· ≤ reachBytes) = true) :
 Calls P f args W fun e W' => ∃ v, e = .returned v ∧ s.post enc P fn false true false false W args v W' := by
 have hW' := hW
 obtain ⟨p, q, hA, hV, rfl, hfz, hnd⟩ := hW
 rw [hvars] at hV
 obtain ⟨rfl, rfl⟩ := trodVars_none hV
 have hwk : ∀ (ts : List TypeId) (us : List TypeId) (ds : List (DataW H)), ds.length = ts.length -> (DataW.weightsEach P (ts ++ us) (ds ++ [])).all (· ≤ reachBytes) = true -> wOk (DataW.weightsEach P ts ds) := by
  intro ts us ds
  induction ts generalizing ds with
  | nil => intro h _; cases ds with | nil => intro n hn; simp [DataW.weightsEach] at hn | cons d r => simp at h
  | cons t ts ih =>
   intro h h2
   cases ds with
   | nil => simp at h
   | cons d r =>
    simp only [List.cons_append, DataW.weightsEach, List.all_append, Bool.and_eq_true] at h2
    rw [DataW.weightsEach, wOk_app']
    exact ⟨fun n hn => by simpa using List.all_eq_true.1 h2.1 n hn, ih r (by simpa using h) h2.2⟩
 have hS' : ∀ t ∈ fn.params.toList, flatOk P t = true := fun t ht => List.all_eq_true.1 hS t ht
 obtain ⟨dts, h1, h2⟩ := readF_args hS' (fun j t v ht hv => hval j t v (by simpa using ht) (by simpa using hv)) hA (hwk _ _ _ (trodAll_len' hA) hsz)
 have h3 := ok_calls (hok dts h1) hg h2
 refine h3.mono fun e W' ⟨he, bel⟩ => ?_
 subst he
 have hlen : ds.length = fn.params.size := by rw [trodAll_len' hA]; simp
 have hf2 := hfn (ds ++ []) (by simpa using hlen)
 refine ⟨_, rfl, ds, [], _, [], p, [], hW', ?_, ?_, ?_, bel.frame _, fun h => by cases h⟩
 · rw [hres, hf2]
   exact trodAll_mk1 (shut_bool htb true)
 · rw [hf2]
   simpa using below_all' hl bel hr hA
 · rw [hf2, hvars]; rfl
end
end Go.Ab
