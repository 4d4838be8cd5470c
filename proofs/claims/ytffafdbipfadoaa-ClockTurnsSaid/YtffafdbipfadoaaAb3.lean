/-
  The instructions that compute and read: what they give of abstract values, and that the model's operations give it.
-/
import Derived.Test.YtffafdbipfadoaaAb2
set_option linter.all false
namespace Go.Ab

inductive Od where
  | t (n : Nat)
  | c (s : SV)

abbrev Env := List (Nat × SV)
def Env.get : Env → Nat → SV
  | [], _ => .any
  | (k, v) :: r, t => if k = t then v else Env.get r t
def Env.ev (e : Env) : Od → SV
  | .t n => e.get n
  | .c s => s
def Env.put (e : Env) (d : Option Nat) (v : SV) : Env :=
  match d with
  | some d => (d, v) :: e
  | none => e

structure EnvR (S : St) (e : Env) (tmps : Array Value) : Prop where
  get : ∀ t, VR S (e.get t) (tmps.getD t undef)

theorem EnvR.ext {S S' : St} {e : Env} {tmps : Array Value} (h : EnvR S e tmps) (he : Ext S.H.length S S') : EnvR S' e tmps := ⟨fun t => (h.get t).ext he⟩
theorem EnvR.put {S : St} {e : Env} {a : Act} {d : Option Nat} {s : SV} {v : Value} (h : EnvR S e a.tmps) (hd : ∀ t, d = some t → t < a.tmps.size) (hs : VR S s v) :
    EnvR S (e.put d s) (a.put d v).tmps := by
  cases d with
  | none => exact h
  | some d =>
    refine ⟨fun t => ?_⟩
    have hd' := hd d rfl
    simp only [Env.put, Env.get, Act.put]
    by_cases ht : d = t
    · subst ht
      simp [Array.getD, hd', hs]
    · simp only [if_neg ht]
      have := h.get t
      simp only [Array.getD_eq_getD_getElem?] at *
      rw [Array.getElem?_setIfInBounds_ne ht]; exact this

def constB : SV → Value → Bool
  | .val (.int k n), .int k' n' => decide (k = k') && decide (n = n')
  | .val (.bool b), .bool b' => b == b'
  | .val (.string s), .string s' => s.data.toList == s'.data.toList
  | .val (.pointer none), .pointer none => true
  | .val (.slice none 0 0), .slice none 0 0 => true
  | .slc [] 0, .slice none 0 0 => true
  | .val .nilFunc, .nilFunc => true
  | .val .nilIface, .nilIface => true
  | .val (.map none), .map none => true
  | .any, _ => true
  | _, _ => false

theorem constB_spec {S : St} {s : SV} {v : Value} (h : constB s v = true) : VR S s v := by
  unfold constB at h
  split at h
  · simp at h; obtain ⟨rfl, rfl⟩ := h; exact .val _
  · simp at h; subst h; exact .val _
  · rename_i x y
    have : x = y := by
      obtain ⟨⟨x⟩⟩ := x; obtain ⟨⟨y⟩⟩ := y; simp at h; subst h; rfl
    subst this; exact .val _
  · exact .val _
  · exact .val _
  · exact .nilslc
  · exact .val _
  · exact .val _
  · exact .val _
  · exact .any _
  · cases h

def chkOd : Operand → Od → Bool
  | .tmp t, .t n => t == n
  | .const v, .c s => constB s v
  | .func f, .c (.fn (.func g) [] []) => f == g
  | _, _ => false

theorem chkOd_spec {S : St} {e : Env} {a : Act} {x : Operand} {y : Od} (h : chkOd x y = true) (he : EnvR S e a.tmps) : VR S (e.ev y) (a.eval x) := by
  unfold chkOd at h
  split at h
  · simp at h; subst h; exact he.get _
  · exact constB_spec h
  · simp at h; subst h
    exact .fn _ [] [] [] [] rfl (fun j s u h => by simp at h) rfl (fun j s u h => by simp at h)
  · cases h

/-! Reading an abstract value as what it is -/
def SV.isI (k : IntKind) : SV → Bool
  | .val (.int k' _) => decide (k' = k)
  | .gd b x => b && x.isI k
  | _ => false
def SV.int : SV → Int
  | .val (.int _ n) => n
  | .gd _ x => x.int
  | _ => 0
/-- An integer of whatever kind. -/
def SV.isN : SV → Bool
  | .val (.int _ _) => true
  | .gd b x => b && x.isN
  | _ => false
def SV.isB : SV → Bool
  | .val (.bool _) => true
  | .gd b x => b && x.isB
  | _ => false
def SV.bool : SV → Bool
  | .val (.bool b) => b
  | .gd _ x => x.bool
  | _ => false
def SV.isS : SV → Bool
  | .val (.string _) => true
  | .gd b x => b && x.isS
  | _ => false
def SV.str : SV → ByteArray
  | .val (.string s) => s
  | .gd _ x => x.str
  | _ => ByteArray.empty
/-- What lies behind the guards. -/
def SV.ug : SV → SV
  | .gd _ x => x.ug
  | x => x
def SV.vd : SV → Bool
  | .gd b x => b && x.vd
  | _ => true

theorem VR.isI {S : St} {k : IntKind} : ∀ {s : SV} {v : Value}, VR S s v → s.isI k = true → v = .int k s.int := by
  intro s v h
  induction h with
  | val v => intro h; cases v <;> simp_all [SV.isI, SV.int]
  | gd b x v h0 h ih => intro hb; simp only [SV.isI, SV.int, Bool.and_eq_true] at *; exact ih hb.1 hb.2
  | _ => simp [SV.isI]
theorem VR.isN {S : St} : ∀ {s : SV} {v : Value}, VR S s v → s.isN = true → ∃ k, v = .int k s.int := by
  intro s v h
  induction h with
  | val v => intro h; cases v <;> simp_all [SV.isN, SV.int]
  | gd b x v h0 h ih => intro hb; simp only [SV.isN, SV.int, Bool.and_eq_true] at *; exact ih hb.1 hb.2
  | _ => simp [SV.isN]
theorem VR.isB {S : St} : ∀ {s : SV} {v : Value}, VR S s v → s.isB = true → v = .bool s.bool := by
  intro s v h
  induction h with
  | val v => intro h; cases v <;> simp_all [SV.isB, SV.bool]
  | gd b x v h0 h ih => intro hb; simp only [SV.isB, SV.bool, Bool.and_eq_true] at *; exact ih hb.1 hb.2
  | _ => simp [SV.isB]
theorem VR.isS {S : St} : ∀ {s : SV} {v : Value}, VR S s v → s.isS = true → v = .string s.str := by
  intro s v h
  induction h with
  | val v => intro h; cases v <;> simp_all [SV.isS, SV.str]
  | gd b x v h0 h ih => intro hb; simp only [SV.isS, SV.str, Bool.and_eq_true] at *; exact ih hb.1 hb.2
  | _ => simp [SV.isS]
theorem VR.ug {S : St} : ∀ {s : SV} {v : Value}, VR S s v → s.vd = true → VR S s.ug v := by
  intro s v h
  induction h with
  | gd b x v h0 h ih =>
    intro hv
    simp only [SV.vd, Bool.and_eq_true] at hv
    simp only [SV.ug]
    exact ih hv.1 hv.2
  | any v => intro _; exact .any v
  | val v => intro _; exact .val v
  | nilslc => intro _; exact .nilslc
  | slc cells len a cap us hc hl hi h ih => intro _; exact .slc cells len a cap us hc hl hi h
  | own i off len sz ver a cap o ho hv hc hz h => intro _; exact .own i off len sz ver a cap o ho hv hc hz h
  | ptrI cells len k a us hl hi h ih => intro _; exact .ptrI cells len k a us hl hi h
  | ptrO i off len sz ver k a o ho hv h => intro _; exact .ptrO i off len sz ver k a o ho hv h
  | agg l us hl h ih => intro _; exact .agg l us hl h
  | tup l us hl h ih => intro _; exact .tup l us hl h
  | fn f x y us vs hl h hl' h' ih ih' => intro _; exact .fn f x y us vs hl h hl' h'
  | ifc t x v h ih => intro _; exact .ifc t x v h

/-! Rows -/
def objCells (H : List AO) (i ver : Nat) : List SV :=
  match H[i]? with
  | some o => if o.live && o.ver == ver then o.cells else []
  | none => []
def SV.row (H : List AO) : SV → List SV
  | .slc cs _ => cs
  | .own i off _ _ ver => (objCells H i ver).drop off
  | _ => []
/-- How many elements a slice has. -/
def SV.slen : SV → Nat
  | .slc _ n => n
  | .own _ _ n _ _ => n
  | _ => 0
def SV.isSl : SV → Bool
  | .slc _ _ => true
  | .own _ _ _ _ _ => true
  | .val (.slice none 0 0) => true
  | _ => false
/-- The cells that a pointer leads to. -/
def SV.at (H : List AO) : SV → List SV
  | .ptr s k => (s.row H).drop k
  | _ => []

theorem add_block (a : Addr) (n : Nat) : (a.add n).block = a.block := by unfold Addr.add; split <;> rfl
theorem add_add (a : Addr) (i j : Nat) : (a.add i).add j = a.add (i + j) := by
  unfold Addr.add
  by_cases hi : i = 0 <;> by_cases hj : j = 0 <;> simp [hi, hj, Nat.add_assoc]

theorem objCells_get {H : List AO} {i ver j : Nat} {c : SV} (h : (objCells H i ver)[j]? = some c) : ∃ o, H[i]? = some o ∧ o.live = true ∧ o.ver = ver ∧ o.cells[j]? = some c := by
  unfold objCells at h
  split at h
  · rename_i o ho
    split at h
    · rename_i hc
      simp at hc
      exact ⟨o, ho, hc.1, hc.2, h⟩
    · simp at h
  · simp at h

/-- A cell of an object lies in its block. -/
theorem Sim.read {S : St} (h : Sim S) {i ver j : Nat} {c : SV} (hj : (objCells S.H i ver)[j]? = some c) :
    ∃ o b us rest u, S.H[i]? = some o ∧ o.live = true ∧ o.ver = ver ∧ S.ρ i = some b ∧ S.w.heap[b]? = some (.cells (us ++ rest).toArray o.ty (0, 0)) ∧ VRs S o.cells us ∧
      S.w.cell? ⟨b, j, none⟩ = some u ∧ VR S c u ∧ c.isCell = true ∧ o.cells[j]? = some c ∧ us[j]? = some u := by
  obtain ⟨o, ho, hl, hv, hc⟩ := objCells_get hj
  have h1 := h.live i o ho hl
  cases hρ : S.ρ i with
  | none => rw [hρ] at h1; simp only at h1; rw [h1] at hc; simp at hc
  | some b =>
    rw [hρ] at h1
    obtain ⟨us, rest, h2, h3⟩ := h1
    obtain ⟨u, hu, hvr⟩ := h3.get hc
    refine ⟨o, b, us, rest, u, ho, hl, hv, rfl, h2, h3, ?_, hvr, (h.bel i o ho c (List.mem_of_getElem? hc)).2, hc, hu⟩
    unfold World.cell?
    simp only [h2, Option.isSome_none, Bool.false_eq_true, if_false]
    have : j < us.length := getElem?_lt hu
    simp [List.getElem?_append_left this, hu]

/-- What a pointer leads to, cell by cell. -/
theorem VR.at {S : St} (hS : Sim S) {p : SV} {v : Value} (h : VR S p v) {j : Nat} {c : SV} (hc : (p.at S.H)[j]? = some c) :
    ∃ a u, v = .pointer (some a) ∧ S.w.cell? (a.add j) = some u ∧ VR S c u := by
  cases h with
  | ptrI cells len k a us hl hi h =>
    simp only [SV.at, SV.row, List.getElem?_drop] at hc
    have hlt : k + j < us.length := by rw [hl]; exact getElem?_lt hc
    refine ⟨_, us[k + j], rfl, ?_, h _ _ _ hc (List.getElem?_eq_getElem hlt)⟩
    rw [add_add]
    exact hi.1 _ _ (List.getElem?_eq_getElem hlt)
  | ptrO i off len sz ver k a o ho hv h =>
    simp only [SV.at, SV.row, List.getElem?_drop] at hc
    obtain ⟨o', b, us, rest, u, ho', hl, hv', hρ, _, _, hcell, hvr, _, _, _⟩ := hS.read hc
    rw [ho] at ho'; cases ho'
    obtain ⟨b', hb', ha⟩ := h hv'
    rw [hρ] at hb'; cases hb'
    subst ha
    refine ⟨_, u, rfl, ?_, hvr⟩
    have : (⟨b, off + k, none⟩ : Addr).add j = ⟨b, off + (k + j), none⟩ := by
      unfold Addr.add; split
      · subst_vars; rfl
      · simp [Nat.add_assoc]
    rw [this]; exact hcell
  | _ => simp [SV.at] at hc

end Go.Ab
