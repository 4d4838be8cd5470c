/-
  Slices of integers, whoever's they are.
-/
import Derived.Test.YtffafdbipfadoaaAbL
set_option linter.all false
namespace Go.Ab

/-- x is a slice that holds these integers. -/
structure IsI (H : List AO) (x : SV) (l : List Int) : Prop where
  vd : x.vd = true
  ug : x.ug = x
  sl : x.isSl = true
  cell : x.isCell = true
  sz : x.szIs 1 = true
  len : x.slen = l.length
  und : x.under H.length = true
  row : (x.row H).take l.length = ints l
  flat : x.flat = [x]

theorem objCells_app {H : List AO} {i ver : Nat} (L : List AO) (h : i < H.length) : objCells (H ++ L) i ver = objCells H i ver := by
  unfold objCells; rw [List.getElem?_append_left h]
theorem row_app {H : List AO} {x : SV} (L : List AO) (h : x.under H.length = true) : x.row (H ++ L) = x.row H := by
  cases x <;> try rfl
  rename_i i off len sz ver
  simp only [SV.row]; rw [objCells_app L (by simpa [SV.under] using h)]

namespace IsI
variable {H : List AO} {x : SV} {l : List Int}
theorem app (h : IsI H x l) (L : List AO) : IsI (H ++ L) x l :=
  ⟨h.vd, h.ug, h.sl, h.cell, h.sz, h.len, SV.under_mono (by simp) x h.und, by rw [row_app L h.und]; exact h.row, h.flat⟩
theorem slc (H : List AO) (l : List Int) : IsI H (.slc (ints l) l.length) l :=
  ⟨rfl, rfl, rfl, rfl, rfl, rfl, by simp, by simp, rfl⟩
theorem rowlen (h : IsI H x l) : l.length ≤ (x.row H).length := by
  have := congrArg List.length h.row
  simp at this; omega
theorem ldlen (h : IsI H x l) {k : Nat} (hk : k < l.length) : k < (x.row H).length := Nat.lt_of_lt_of_le hk h.rowlen
theorem ld (h : IsI H x l) {k : Nat} (hk : k < l.length) : ((x.row H).drop k).headD .any = i64 (l.getD k 0) := by
  have h1 := h.ldlen hk
  have h2 : ((x.row H).take l.length)[k]? = (ints l)[k]? := by rw [h.row]
  rw [List.getElem?_take_of_lt hk] at h2
  rw [List.headD_eq_head?_getD, List.head?_drop, h2]
  simp [ints, hk]
theorem ldA (h : IsI H x l) (L : List AO) {k : Nat} (hk : k < l.length) : ((x.row (H ++ L)).drop k).headD .any = i64 (l.getD k 0) := (h.app L).ld hk
theorem ld? (h : IsI H x l) {k : Nat} (hk : k < l.length) : (x.row H)[k]? = some (i64 (l.getD k 0)) := by
  have h2 : ((x.row H).take l.length)[k]? = (ints l)[k]? := by rw [h.row]
  rw [List.getElem?_take_of_lt hk] at h2
  rw [h2]; simp [ints, hk]
theorem ld?A (h : IsI H x l) (L : List AO) {k : Nat} (hk : k < l.length) : (x.row (H ++ L))[k]? = some (i64 (l.getD k 0)) := (h.app L).ld? hk
theorem ldlenA (h : IsI H x l) (L : List AO) {k : Nat} (hk : k < l.length) : k < (x.row (H ++ L)).length := (h.app L).ldlen hk
theorem ldsub (h : IsI H x l) {k : Nat} (hk : k < l.length) : 0 < (x.row H).length - k := by have := h.ldlen hk; omega
theorem ldsubA (h : IsI H x l) (L : List AO) {k : Nat} (hk : k < l.length) : 0 < (x.row (H ++ L)).length - k := (h.app L).ldsub hk
theorem ok (h : IsI H x l) {k : Nat} (hk : k < l.length) : ldok H (.ptr x k) 1 := by
  have := h.ldlen hk
  simp only [ldok, at_ptr, List.length_drop]; omega
theorem okA (h : IsI H x l) (L : List AO) {k : Nat} (hk : k < l.length) : ldok (H ++ L) (.ptr x k) 1 := (h.app L).ok hk
theorem v (h : IsI H x l) {k : Nat} (hk : k < l.length) : ldv H (.ptr x k) = i64 (l[k]'hk) := by
  have := h.ld hk
  simp only [ldv, at_ptr, this, List.getD_eq_getElem?_getD, List.getElem?_eq_getElem hk, Option.getD_some]
theorem vA (h : IsI H x l) (L : List AO) {k : Nat} (hk : k < l.length) : ldv (H ++ L) (.ptr x k) = i64 (l[k]'hk) := (h.app L).v hk
theorem ldG (h : IsI H x l) {k : Nat} (hk : k < l.length) (h' : k < (x.row H).length) : (x.row H)[k]'h' = i64 (l[k]'hk) := by
  have := h.ld? hk
  rw [List.getElem?_eq_getElem h'] at this
  simpa [hk] using this
theorem ldGA (h : IsI H x l) (L : List AO) {k : Nat} (hk : k < l.length) (h' : k < (x.row (H ++ L)).length) : (x.row (H ++ L))[k]'h' = i64 (l[k]'hk) := (h.app L).ldG hk h'
theorem rowlenA (h : IsI H x l) (L : List AO) : l.length ≤ (x.row (H ++ L)).length := (h.app L).rowlen
theorem rowA (h : IsI H x l) (L : List AO) : (x.row (H ++ L)).take l.length = ints l := (h.app L).row
theorem part (h : IsI H x l) (n : Nat) : partOk n x = (n = 1) := by
  have h1 := h.sl
  have h2 := h.cell
  have h3 := h.vd
  unfold partOk; rw [h.ug]
  cases x <;> simp_all [SV.isSl]
theorem own0 (H : List AO) (L : List AO) (k ver : Nat) (l m : List Int) (T : TypeId) (h : L[k]? = some ⟨ints (l ++ m), T, ver, true⟩) : IsI (H ++ L) (.own (H.length + k) 0 l.length 1 ver) l := by
  refine ⟨rfl, rfl, rfl, rfl, rfl, rfl, ?_, ?_, rfl⟩
  · have : k < L.length := getElem?_lt h
    simp; omega
  · simp only [SV.row, objCells_new, List.drop_zero]
    unfold objCells
    rw [h]
    simp [ints]
end IsI

/-- A round of a loop whose body has a name. -/
theorem li_go {P : Program} (hm : P.follows .mixedOrders = true) {N : Nat} {i j : IC} (e : i = j) {env : Env} {H : List AO} {K : XE → Env → List AO → Prop}
    (h : X P N drawB j env H fun x env H => match x with | .normal => LI P N drawB i env H K | x => K x env H) : LI P N drawB i env H K := by
  subst e; exact li_round hm h
@[congr] theorem LI_congr {P : Program} {N : Nat} {D : Array Oper → List Nat → List Ins → Bool} {i : IC} {env env' : Env} {H H' : List AO} {K : XE → Env → List AO → Prop} (h : Ev env = env') (h2 : Ev H = H') : LI P N D i env H K = LI P N D i env' H' K := by rw [Ev_to h, Ev_to h2]
@[simp] theorem add_lt_left' (n k : Nat) : (n + k < n) = False := by simp
theorem wrap_nat {n : Nat} (h : n ≤ 9223372036854775807) : IntKind.i64.wrap (n : Int) = n := wrap_id (by omega) (by omega)
theorem wrap_suc {n : Nat} (h : n < 9223372036854775807) : IntKind.i64.wrap ((n : Int) + 1) = (n : Int) + 1 := wrap_id (by omega) (by omega)
theorem wrap_succ {n : Nat} (h : n < 9223372036854775807) : IntKind.i64.wrap ((n : Int) + 1) = ((n + 1 : Nat) : Int) := by rw [wrap_id (by omega) (by omega)]; rfl

@[simp] theorem ints_G {l : List Int} {k : Nat} (h : k < (ints l).length) : (ints l)[k] = i64 (l[k]'(by simpa using h)) := by simp [ints]
@[simp] theorem take_ints_le {l : List Int} {n : Nat} (h : l.length ≤ n) : (ints l).take n = ints l := List.take_of_length_le (by simpa using h)
theorem ints_set {l : List Int} {k : Nat} (h : k < l.length) (v : Int) : (ints l).take k ++ i64 v :: (ints l).drop (k + 1) = ints (l.set k v) := by
  rw [List.set_eq_take_append_cons_drop, if_pos h]
  simp [ints]
/-- Without open guards. -/
def SV.strip : SV → SV
  | .gd true x => x.strip
  | x => x
theorem vr_strip {S : St} {s : SV} {v : Value} (h : VR S s v) : VR S s.strip v := by
  induction h with
  | gd b x v h0 h ih =>
    cases b with
    | true => exact ih rfl
    | false => exact .gd false x v h0 h
  | any v => exact .any v
  | val v => exact .val v
  | nilslc => exact .nilslc
  | slc cells len a cap us hc hl hi h ih => exact .slc cells len a cap us hc hl hi h
  | own i off len sz ver a cap o ho hv hc hz h => exact .own i off len sz ver a cap o ho hv hc hz h
  | ptrI cells len k a us hl hi h ih => exact .ptrI cells len k a us hl hi h
  | ptrO i off len sz ver k a o ho hv h => exact .ptrO i off len sz ver k a o ho hv h
  | agg l us hl h ih => exact .agg l us hl h
  | tup l us hl h ih => exact .tup l us hl h
  | fn f x y us vs hl h hl' h' ih ih' => exact .fn f x y us vs hl h hl' h'
  | ifc t x v h ih => exact .ifc t x v h
theorem Ok.strip {P : Program} {f : FuncId} {args : List SV} {H H' : List AO} {out : Out} (h : Ok P f (args.map SV.strip) H out H') : Ok P f args H out H' :=
  ⟨h.1, fun S vs hH hS hv => h.2 S vs hH hS (hv.map fun s v hs => vr_strip hs)⟩
theorem callq_st {P : Program} {on : Bool} {k : FuncId} {args : List SV} {H : List AO} {r : SV} {K : SV → Prop} (h : on = true → Ok P k (args.map SV.strip) H (.ret r) H) (hk : K r) : CallQ P on (.fn (.func k) [] []) args H K :=
  callq_go (fun ho => (h ho).strip) hk
theorem call_st {P : Program} {k : FuncId} {args : List SV} {H H' : List AO} {out : Out} {K : Out → List AO → Prop} (h : Ok P k (args.map SV.strip) H out H') (hk : K out H') : CallTo P (.fn (.func k) [] []) args H K :=
  call_go h.strip hk

theorem IsI.strip {H : List AO} {x : SV} {l : List Int} (h : IsI H x l) : x.strip = x := by
  have h1 := h.sl
  cases x <;> first | rfl | simp [SV.isSl] at h1
/-- An own row that is whole. -/
theorem IsI.whole {H L : List AO} {T : TypeId} {l : List Int} {k n ver : Nat} (h : L[k]? = some ⟨ints l, T, ver, true⟩) (hn : n = l.length) : IsI (H ++ L) (.own (H.length + k) 0 n 1 ver) l := by
  subst hn; exact IsI.own0 H L k ver l [] T (by simpa using h)

theorem ints_get {l : List Int} {k : Nat} (h : k < l.length) : (ints l)[k]? = some (i64 (l.getD k 0)) := by simp [ints, h]

section
variable (n : Nat) (ks : List Nat) (L : List AO) (d : Nat)
theorem map_fz_under {l : List SV} (h : SV.underL n l = true) : l.map (SV.fz n ks L (d + 1)) = l := by
  rw [SV.underL_iff] at h
  have : l.map (SV.fz n ks L (d + 1)) = l.map id := List.map_congr_left fun s hs => fz_under (h s hs)
  simpa using this
@[simp] theorem fz_agg (l : List SV) : SV.fz n ks L (d + 2) (.agg l) = .agg (l.map (SV.fz n ks L (d + 1))) := by
  by_cases h : (SV.agg l).under n = true
  · rw [fz_under h]; rw [map_fz_under n ks L d (by simpa [SV.under] using h)]
  · conv => lhs; unfold SV.fz
    rw [if_neg h]
@[simp] theorem fz_tup (l : List SV) : SV.fz n ks L (d + 2) (.tup l) = .tup (l.map (SV.fz n ks L (d + 1))) := by
  by_cases h : (SV.tup l).under n = true
  · rw [fz_under h]; rw [map_fz_under n ks L d (by simpa [SV.under] using h)]
  · conv => lhs; unfold SV.fz
    rw [if_neg h]
@[simp] theorem fz_slc (l : List SV) (m : Nat) : SV.fz n ks L (d + 2) (.slc l m) = .slc (l.map (SV.fz n ks L (d + 1))) m := by
  by_cases h : (SV.slc l m).under n = true
  · rw [fz_under h]; rw [map_fz_under n ks L d (by simpa [SV.under] using h)]
  · conv => lhs; unfold SV.fz
    rw [if_neg h]
@[simp] theorem fz_nil (m : Nat) : SV.fz n ks L (d + 1) (.slc [] m) = .slc [] m := fz_under rfl
@[simp] theorem fz_st (s : ByteArray) : SV.fz n ks L (d + 1) (st s) = st s := fz_under rfl
@[simp] theorem fz_val (v : Value) : SV.fz n ks L (d + 1) (.val v) = .val v := fz_under rfl
@[simp] theorem fz_fn0 (f : Fn) : SV.fz n ks L (d + 1) (.fn f [] []) = .fn f [] [] := fz_under rfl
@[simp] theorem fz_own (k off len sz ver : Nat) : SV.fz n ks L (d + 1) (.own (n + k) off len sz ver) = (match L[k]? with
      | some o =>
        match placeOf ks k with
        | some p => if o.ver = ver then .own (n + p) off len sz 0 else .any
        | none => if o.live = true ∧ o.ver = ver ∧ off + len * sz ≤ o.cells.length then .slc (((o.cells.drop off).take (len * sz)).map (SV.fz n ks L d)) len else .any
      | none => .any) := by
  conv => lhs; unfold SV.fz
  rw [if_neg (by simp [SV.under])]
  have e : n + k - n = k := by omega
  simp only [e]
  cases L[k]? with
  | none => rfl
  | some o => cases placeOf ks k <;> rfl
@[simp] theorem fz_own0 (off len sz ver : Nat) : SV.fz n ks L (d + 1) (.own n off len sz ver) = (match L[0]? with
      | some o =>
        match placeOf ks 0 with
        | some p => if o.ver = ver then .own (n + p) off len sz 0 else .any
        | none => if o.live = true ∧ o.ver = ver ∧ off + len * sz ≤ o.cells.length then .slc (((o.cells.drop off).take (len * sz)).map (SV.fz n ks L d)) len else .any
      | none => .any) := fz_own n ks L d 0 off len sz ver
end

end Go.Ab
