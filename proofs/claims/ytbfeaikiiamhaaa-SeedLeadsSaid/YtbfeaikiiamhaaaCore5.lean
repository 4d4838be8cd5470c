/-
  Steps of the proof: contracts of functions and plain facts that the statement rests on.
-/
import Derived.Test.YtbfeaikiiamhaaaCore4
import Derived.SizedLaws
set_option linter.all false
/- AbZd -/
namespace Go.Ab

/-- x is a slice that holds these. -/
structure IsL {α : Type} (f : α → SV) (H : List AO) (x : SV) (l : List α) : Prop where
  vd : x.vd = true
  ug : x.ug = x
  sl : x.isSl = true
  cell : x.isCell = true
  sz : x.szIs 1 = true
  len : x.slen = l.length
  und : x.under H.length = true
  row : (x.row H).take l.length = l.map f
  flat : x.flat = [x]
namespace IsL
variable {α : Type} {f : α → SV} {H : List AO} {x : SV} {l : List α}
theorem app (h : IsL f H x l) (L : List AO) : IsL f (H ++ L) x l :=
  ⟨h.vd, h.ug, h.sl, h.cell, h.sz, h.len, SV.under_mono (by simp) x h.und, by rw [row_app L h.und]; exact h.row, h.flat⟩
theorem slc (H : List AO) (l : List α) (hu : SV.underL H.length (l.map f) = true) : IsL f H (.slc (l.map f) l.length) l :=
  ⟨rfl, rfl, rfl, rfl, rfl, rfl, by simpa [SV.under] using hu, by simp [SV.row, List.take_of_length_le], rfl⟩
theorem rowlen (h : IsL f H x l) : l.length ≤ (x.row H).length := by
  have := congrArg List.length h.row
  simp at this; omega
theorem ldlen (h : IsL f H x l) {k : Nat} (hk : k < l.length) : k < (x.row H).length := Nat.lt_of_lt_of_le hk h.rowlen
theorem ld? (h : IsL f H x l) {k : Nat} (hk : k < l.length) : (x.row H)[k]? = some (f l[k]) := by
  have h2 : ((x.row H).take l.length)[k]? = (l.map f)[k]? := by rw [h.row]
  rw [List.getElem?_take_of_lt hk] at h2
  rw [h2]; simp [hk]
theorem ok (h : IsL f H x l) {k : Nat} (hk : k < l.length) : ldok H (.ptr x k) 1 := by
  have := h.ldlen hk
  simp only [ldok, at_ptr, List.length_drop]; omega
theorem v (h : IsL f H x l) {k : Nat} (hk : k < l.length) : ldv H (.ptr x k) = f (l[k]'hk) := by
  have := h.ld? hk
  simp only [ldv, at_ptr]
  rw [List.headD_eq_head?_getD, List.head?_drop, this]; rfl
theorem strip (h : IsL f H x l) : x.strip = x := by
  have h1 := h.sl
  cases x <;> first | rfl | simp [SV.isSl] at h1
theorem own0 (H : List AO) (L : List AO) (k ver : Nat) (l : List α) (m : List SV) (T : TypeId) (h : L[k]? = some ⟨l.map f ++ m, T, ver, true⟩) : IsL f (H ++ L) (.own (H.length + k) 0 l.length 1 ver) l := by
  refine ⟨rfl, rfl, rfl, rfl, rfl, rfl, ?_, ?_, rfl⟩
  · have : k < L.length := getElem?_lt h
    simp; omega
  · simp only [SV.row, objCells_new, List.drop_zero]
    unfold objCells
    rw [h]
    simp
theorem whole {H L : List AO} {T : TypeId} {l : List α} {k n ver : Nat} (h : L[k]? = some ⟨l.map f, T, ver, true⟩) (hn : n = l.length) : IsL f (H ++ L) (.own (H.length + k) 0 n 1 ver) l := by
  subst hn; exact own0 H L k ver l [] T (by simpa using h)
theorem at_ {H : List AO} {T : TypeId} {l : List α} {j n ver : Nat} (h : H[j]? = some ⟨l.map f, T, ver, true⟩) (hn : n = l.length) : IsL f H (.own j 0 n 1 ver) l := by
  subst hn
  have e := objCells_of h rfl
  refine ⟨rfl, rfl, rfl, rfl, rfl, rfl, ?_, ?_, rfl⟩
  · simpa [SV.under] using getElem?_lt h
  · simp only [SV.row, List.drop_zero, e]
    exact List.take_of_length_le (by simp)
/-- What it may be told as when it is frozen. -/
theorem els (h : IsL f H x l) : x.els H 1 = l.map f := by
  unfold SV.els; rw [h.len, Nat.mul_one, h.row]
end IsL
def u8 (n : Int) : SV := .val (.int .u8 n)
@[simp] theorem u8_eq (n : Int) : SV.val (.int .u8 n) = u8 n := rfl
section
variable (n : Int)
@[simp] theorem isI_u8 (k : IntKind) : SV.isI k (u8 n) = decide (IntKind.u8 = k) := rfl
@[simp] theorem isN_u8 : SV.isN (u8 n) = true := rfl
@[simp] theorem int_u8 : SV.int (u8 n) = n := rfl
@[simp] theorem ug_u8 : SV.ug (u8 n) = u8 n := rfl
@[simp] theorem vd_u8 : SV.vd (u8 n) = true := rfl
@[simp] theorem isCell_u8 : SV.isCell (u8 n) = true := rfl
@[simp] theorem flat_u8 : SV.flat (u8 n) = [u8 n] := rfl
@[simp] theorem isPt_u8 : SV.isPt (u8 n) = false := rfl
@[simp] theorem isAg_u8 : SV.isAg (u8 n) = false := rfl
@[simp] theorem isTu_u8 : SV.isTu (u8 n) = false := rfl
@[simp] theorem under_u8 (m : Nat) : SV.under m (u8 n) = true := rfl
@[simp] theorem partOk_u8 (m : Nat) : partOk m (u8 n) = (m = 1) := by
  show (m = 1 ∧ (u8 n).isCell = true ∧ true = true) = _
  simp
@[simp] theorem fz_u8 (m : Nat) (ks : List Nat) (L : List AO) (d : Nat) : SV.fz m ks L (d + 1) (u8 n) = u8 n := fz_under rfl
@[simp] theorem gv_u8 (k ver : Nat) (cs : List SV) (d : Nat) : SV.gv k ver cs d (u8 n) = u8 n := by cases d <;> rfl
@[simp] theorem strip_u8 : (u8 n).strip = u8 n := rfl
end
def byts (l : List Int) : List SV := l.map u8
@[simp] theorem cellsOk_byts (l : List Int) : cellsOk (byts l) = True := by
  simp only [cellsOk, byts, List.mem_map, eq_iff_iff, iff_true]; rintro s ⟨n, _, rfl⟩; rfl
@[simp] theorem byts_length (l : List Int) : (byts l).length = l.length := by simp [byts]
theorem byts_take (l : List Int) (n : Nat) : (byts l).take n = byts (l.take n) := by simp [byts]
@[simp] theorem take_byts (l : List Int) : (byts l).take l.length = byts l := by rw [byts_take, List.take_length]
@[simp] theorem underL_byts (n : Nat) (l : List Int) : SV.underL n (byts l) = true := by
  rw [SV.underL_iff]; simp only [byts, List.mem_map]; rintro s ⟨k, _, rfl⟩; rfl
@[simp] theorem fz_byts (n : Nat) (ks : List Nat) (L : List AO) (d : Nat) (l : List Int) : (byts l).map (SV.fz n ks L (d + 1)) = byts l := by
  simp only [byts, List.map_map]; apply List.map_congr_left; intro k _; exact fz_u8 k n ks L d
@[simp] theorem byts_G {l : List Int} {k : Nat} (h : k < (byts l).length) : (byts l)[k] = u8 (l[k]'(by simpa using h)) := by simp [byts]
@[simp] theorem take_byts_le {l : List Int} {n : Nat} (h : l.length ≤ n) : (byts l).take n = byts l := List.take_of_length_le (by simpa using h)
abbrev IsB := IsL u8
theorem IsB.slc (H : List AO) (l : List Int) : IsB H (.slc (byts l) l.length) l := IsL.slc H l (underL_byts _ l)

theorem OkP.tell {P : Program} {f : FuncId} {args : List SV} {H H' : List AO} {Pt : Out → List AO → Prop} (ht : Tell [] H [] H') (hl : H.length ≤ H'.length) (h : OkP P f args H' Pt) : OkP P f args H Pt := by
  refine ⟨h.1, ?_⟩
  intro S vs hH hS hvs
  obtain ⟨ρ', h1, h2, _⟩ := ht S #[] hH hS ⟨fun t => .any _⟩
  have h3 := h.2 ⟨ρ', H', S.w⟩ vs rfl h2 (hvs.ext h1)
  refine h3.mono ?_
  rintro en w' ⟨out, H2, v, ρ2, hp, hext, hsim, hout⟩
  exact ⟨out, H2, v, ρ2, hp, h1.trans (hext.mono (by subst hH; exact hl)), hsim, hout⟩
theorem yl_go {P : Program} {N : Nat} (hm : P.follows .mixedOrders = true) {i kk : Nat} {ps : List Nat} {ia ib ia' ib' : IC} {env : Env} {args : List SV} {H : List AO} {Pt : Out → List AO → Prop} (hia : ia = ia') (hib : ib = ib')
    (ho : H[i]? = some (lpo P N drawB kk ps ia ib (env.vals N) .ready)) (he : (env.all fun p => decide (p.1 < N)) = true) (hp : (ps.all fun p => decide (p < N)) = true) (hl : args.length = ps.length)
    (hx : closed H → X P N drawB ia' (env.puts ps args) H fun x env1 H1 => x = .normal ∧ ∃ cs, H1[i]? = some (lpo P N drawB kk ps ia ib cs .ready) ∧ X P N drawB ib' env1 (H1.set i (lpo P N drawB kk ps ia ib cs .busy)) (FinR P N kk ps ia ib i H.length Pt)) :
    YlP P i args H Pt := by
  subst hia hib
  exact yl_ok hm ho he hp hl hx
theorem cv_idq {n0 : Nat} {v : SV} {H1 H' : List AO} (h : H1 = H') : Cv n0 v H1 v H' := by subst h; exact cv_id
theorem le_tup {l l' : List SV} (h : leL l l') : SV.le (.tup l) (.tup l') := by
  intro S v hv
  cases hv with
  | tup _ us hl hh => have := h.vrs ⟨hl, hh⟩; exact .tup _ _ this.1 this.2

/-! A heap in which one object has been changed, and what stands behind it -/
@[simp] theorem objCells_nS (H L : List AO) (j : Nat) (o : AO) (k ver : Nat) : objCells (H.set j o ++ L) (H.length + k) ver = objCells L k ver := by
  have := objCells_new (H := H.set j o) (L := L) (k := k) (ver := ver); simpa using this
@[simp] theorem objCells_nS0 (H L : List AO) (j : Nat) (o : AO) (ver : Nat) : objCells (H.set j o ++ L) H.length ver = objCells L 0 ver := objCells_nS H L j o 0 ver
theorem setObj_app (A B : List AO) (k : Nat) (f : AO → AO) : setObj (A ++ B) (A.length + k) f = A ++ setObj B k f := by
  unfold setObj
  rw [get_app]
  cases h : B[k]? with
  | none => rfl
  | some o => simp only; rw [set_app]
@[simp] theorem setObj_nS (H L : List AO) (j : Nat) (o : AO) (k : Nat) (f : AO → AO) : setObj (H.set j o ++ L) (H.length + k) f = H.set j o ++ setObj L k f := by
  have := setObj_app (H.set j o) L k f; simpa using this
@[simp] theorem setObj_nS0 (H L : List AO) (j : Nat) (o : AO) (f : AO → AO) : setObj (H.set j o ++ L) H.length f = H.set j o ++ setObj L 0 f := setObj_nS H L j o 0 f
@[simp] theorem get_nS {α : Type} (H L : List α) (j : Nat) (o : α) (k : Nat) : (H.set j o ++ L)[H.length + k]? = L[k]? := by
  have := get_app (H.set j o) L k; simpa using this
@[simp] theorem get_nS0 {α : Type} (H L : List α) (j : Nat) (o : α) : (H.set j o ++ L)[H.length]? = L[0]? := get_nS H L j o 0
@[simp] theorem set_nS {α : Type} (H L : List α) (j : Nat) (o : α) (k : Nat) (x : α) : (H.set j o ++ L).set (H.length + k) x = H.set j o ++ L.set k x := by
  have := set_app (H.set j o) L k x; simpa using this
@[simp] theorem set_nS0 {α : Type} (H L : List α) (j : Nat) (o x : α) : (H.set j o ++ L).set H.length x = H.set j o ++ L.set 0 x := set_nS H L j o 0 x
theorem objCells_hS {H : List AO} {j : Nat} (hj : j < H.length) (L : List AO) (c : List SV) (T : TypeId) (v : Nat) : objCells (H.set j ⟨c, T, v, true⟩ ++ L) j v = c := by
  rw [objCells_app L (by simpa using hj)]; exact objCells_set hj c T v
theorem get_hS {H : List AO} {j : Nat} (hj : j < H.length) (L : List AO) (o : AO) : (H.set j o ++ L)[j]? = some o := by
  rw [List.getElem?_append_left (by simpa using hj), List.getElem?_set_self hj]
@[simp] theorem objIs_nS (H L : List AO) (j : Nat) (o : AO) (k ver : Nat) (T : TypeId) (m : Nat) : objIs (H.set j o ++ L) (H.length + k) ver T m = objIs L k ver T m := by
  unfold objIs; rw [get_nS]
theorem closed_set {H : List AO} (hcl : closed H) (j : Nat) {o : AO} (hu : SV.underL H.length o.cells = true) : closed (H.set j o) := by
  intro i p hp s hs
  rw [List.length_set]
  by_cases e : j = i
  · subst e
    have hj := getElem?_lt hp
    rw [List.getElem?_set_self (by simpa using hj)] at hp
    cases hp
    exact (SV.underL_iff _ _).1 hu s hs
  · rw [List.getElem?_set_ne e] at hp
    exact hcl i p hp s hs
theorem Ok.closed {P : Program} {f : FuncId} {args a2 : List SV} {H H' H2 H3 : List AO} {out o2 : Out} (h1 : Ok P f a2 H2 o2 H3) (h : Go.Ab.closed H → Ok P f args H out H') : Ok P f args H out H' :=
  ⟨h1.1, fun S vs hH hS hv => (h (by rw [← hH]; exact hS.closed)).2 S vs hH hS hv⟩
end Go.Ab

/- AbPs -/
namespace Go.Ab
open Go.ChangeShapes Go.WideShapes Go.ChangeAt Go.RowKit

mutual
def Sh.by : Sh → Nat
  | .int k => k.bits / 8
  | .bool => 1
  | .str => 16
  | .sl _ => 24
  | .st l => Sh.byL l
def Sh.byL : List Sh → Nat
  | [] => 0
  | s :: r => s.by + Sh.byL r
end
mutual
def Sh.fit : Sh → Dt → Prop
  | .str, d => ∀ s, d = .str s → s.size ≤ reachBytes
  | .sl e, d => ∀ l, d = .sl l → l.length * e.by ≤ reachBytes ∧ ∀ x ∈ l, e.fit x
  | .st l, d => ∀ m, d = .agg m → Sh.fitL l m
  | _, _ => True
def Sh.fitL : List Sh → List Dt → Prop
  | [], _ => True
  | s :: r, m => match m with | [] => True | d :: m' => s.fit d ∧ Sh.fitL r m'
end
mutual
/-- The types' sizes are at least those that the shapes tell. -/
def Sh.byB (P : Program) : Sh → TypeId → Bool
  | .sl e, t => match P.underlying t with | some (.slice e') => decide (e.by ≤ P.bytesOf e') && e.byB P e' | _ => false
  | .st l, t => match P.underlying t with | some (.struct fs) => Sh.byBL P l (fs.toList.map (·.type)) | _ => false
  | _, _ => true
def Sh.byBL (P : Program) : List Sh → List TypeId → Bool
  | [], _ => true
  | s :: r, ts => match ts with | [] => false | t :: ts => s.byB P t && Sh.byBL P r ts
end

section
variable {H : Type} {enc : TypeId × Value → H} {P : Program} {W : World} {base : Nat} {spare : Nat → Bool} {held : Bool}

def wOk (l : List Nat) : Prop := ∀ n ∈ l, n ≤ reachBytes
theorem wOk_app {a b : List Nat} : wOk (a ++ b) ↔ wOk a ∧ wOk b := by
  unfold wOk
  constructor
  · intro h; exact ⟨fun n hn => h n (by simp [hn]), fun n hn => h n (by simp [hn])⟩
  · rintro ⟨h1, h2⟩ n hn
    rcases List.mem_append.1 hn with hn | hn
    · exact h1 n hn
    · exact h2 n hn
theorem wOk_all {t : TypeId} : ∀ {l : List (DataW H)}, wOk (DataW.weightsAll P t l) → ∀ d ∈ l, wOk (d.weights P t)
  | [], _, d, hd => by simp at hd
  | x :: r, h, d, hd => by
    rw [DataW.weightsAll, wOk_app] at h
    rcases List.mem_cons.1 hd with rfl | hd
    · exact h.1
    · exact wOk_all h.2 d hd
theorem wOk_each : ∀ {ts : List TypeId} {l : List (DataW H)}, wOk (DataW.weightsEach P ts l) → ∀ (i : Nat) (t : TypeId) (d : DataW H), ts[i]? = some t → l[i]? = some d → wOk (d.weights P t)
  | [], _, _, i, t, d, ht, _ => by simp at ht
  | _ :: _, [], _, i, t, d, _, hd => by simp at hd
  | t0 :: ts, d0 :: l, h, i, t, d, ht, hd => by
    rw [DataW.weightsEach, wOk_app] at h
    cases i with
    | zero => simp at ht hd; subst ht hd; exact h.1
    | succ i => simp at ht hd; exact wOk_each h.2 i t d ht hd

/-- Elements read one by one. -/
theorem readS_row {e : TypeId} {sh : Sh} {n : Nat} {a : Addr} {elems : List (DataW H × List MemPlace)} (hw : ∀ x ∈ elems, wOk (x.1.weights P e))
    (ih : ∀ cs x, DataW.trod enc P W base spare held n e cs = some x → wOk (x.1.weights P e) → ∃ d, sh.has d ∧ VRs (st0 W) d.cells cs ∧ sh.fit d) :
    ∀ k, k ≤ elems.length → (∀ i, i < k → (W.cells? base (a.add (i * P.cellsOf e)) (P.cellsOf e)).bind (DataW.trod enc P W base spare held n e) = elems[i]?) →
      ∃ (ds : List Dt) (us : List Value), ds.length = k ∧ (∀ x ∈ ds, sh.has x) ∧ VRs (st0 W) (Dt.cellsL ds) us ∧ us.length = k * P.cellsOf e ∧ (∀ j u, us[j]? = some u → W.cell? (a.add j) = some u) ∧ ∀ x ∈ ds, sh.fit x := by
  intro k
  induction k with
  | zero => intro _ _; exact ⟨[], [], rfl, by simp, VRs.nil _, by simp, by simp, by simp⟩
  | succ k ihk =>
    intro hk hel
    obtain ⟨ds, us, h1, h2, h3, h4, h5, h8⟩ := ihk (by omega) (fun i hi => hel i (by omega))
    have h6 := hel k (by omega)
    rw [List.getElem?_eq_getElem (by omega), Option.bind_eq_some_iff] at h6
    obtain ⟨cs, hcs, ht⟩ := h6
    obtain ⟨d, hd, hv, hft⟩ := ih cs _ ht (hw _ (List.getElem_mem _))
    obtain ⟨_, hlen, hc⟩ := World.cells?_some hcs
    refine ⟨ds ++ [d], us ++ cs, by simp [h1], ?_, ?_, ?_, ?_, ?_⟩
    · intro x hx
      rcases List.mem_append.1 hx with hx | hx
      · exact h2 x hx
      · simp at hx; subst hx; exact hd
    · rw [cellsL_append]; simpa [Dt.cellsL] using h3.append hv
    · simp [h4, hlen, Nat.add_mul]
    · intro j u hj
      by_cases hlt : j < us.length
      · rw [List.getElem?_append_left hlt] at hj; exact h5 j u hj
      · rw [List.getElem?_append_right (by omega)] at hj
        have hj' : j - us.length < cs.length := getElem?_lt hj
        have := hc (j - us.length) (by omega)
        rw [hj, add_add] at this
        rw [← this]; congr 2; omega
    · intro x hx
      rcases List.mem_append.1 hx with hx | hx
      · exact h8 x hx
      · simp at hx; subst hx; exact hft

mutual
theorem readS (sh : Sh) : ∀ {t : TypeId} {fuel : Nat} {cs : List Value} {x : DataW H × List MemPlace}, sh.chk P t = true → sh.byB P t = true → DataW.trod enc P W base spare held fuel t cs = some x → wOk (x.1.weights P t) →
    ∃ d, sh.has d ∧ VRs (st0 W) d.cells cs ∧ sh.fit d := by
  intro t fuel cs x hc hb h hw
  cases sh with
  | int k => obtain ⟨d, h1, h2⟩ := read (.int k) hc h; exact ⟨d, h1, h2, by simp [Sh.fit]⟩
  | bool => obtain ⟨d, h1, h2⟩ := read .bool hc h; exact ⟨d, h1, h2, by simp [Sh.fit]⟩
  | str =>
    simp only [Sh.chk] at hc
    split at hc
    · rename_i ht
      obtain ⟨s, rfl, rfl, hs⟩ := DataW.trod_string ht h
      refine ⟨.str s, ⟨s, rfl, hs⟩, VRs.cons (.val _) (VRs.nil _), ?_⟩
      rw [Sh.fit]
      rintro _ ⟨⟩
      have := hw s.data.toList.length (by simp [DataW.weights])
      simpa using this
    · cases hc
  | sl e =>
    simp only [Sh.chk] at hc
    simp only [Sh.byB] at hb
    split at hc
    · rename_i e' ht
      rw [ht] at hb
      simp only [Bool.and_eq_true, decide_eq_true_eq] at hb
      rcases DataW.trod_slice ht h with ⟨rfl, _⟩ | ⟨a, len, cap, elems, rest, n, _, rfl, rfl, _, hl, hm, hlen, hel, _, _⟩
      · refine ⟨.sl [], ⟨[], rfl, by simp, by simp⟩, VRs.cons .nilslc (VRs.nil _), ?_⟩
        rw [Sh.fit]
        rintro _ ⟨⟩
        exact ⟨by simp, by simp⟩
      · simp only [DataW.weights, ht] at hw
        have hw0 := hw _ (List.mem_cons_self ..)
        have hwa : wOk (DataW.weightsAll P e' (elems.map (·.1)) ++ DataW.weightsAll P e' (rest.map (·.1))) := fun n hn => hw n (List.mem_cons_of_mem _ hn)
        rw [wOk_app] at hwa
        have hwe : ∀ x ∈ elems, wOk (x.1.weights P e') := fun x hx => wOk_all hwa.1 _ (List.mem_map_of_mem hx)
        obtain ⟨ds, us, h1, h2, h3, h4, h5, h6⟩ := readS_row (sh := e) hwe (fun cs x hx hwx => readS e hc hb.2 hx hwx) len (by omega) hel
        refine ⟨.sl ds, ⟨ds, rfl, by omega, h2⟩, VRs.cons ?_ (VRs.nil _), ?_⟩
        · have : ds.length = len := h1
          subst this
          exact .slc _ _ a cap us hl h3.1 ⟨h5, fun _ => rw0 W _⟩ h3.2
        · rw [Sh.fit]
          rintro _ ⟨⟩
          refine ⟨?_, h6⟩
          simp only [List.length_map] at hw0
          have k1 : ds.length * e.by ≤ ds.length * P.bytesOf e' := Nat.mul_le_mul_left _ hb.1
          have k2 : ds.length * P.bytesOf e' ≤ (elems.length + rest.length) * P.bytesOf e' := Nat.mul_le_mul_right _ (by omega)
          omega
    · cases hc
  | st l =>
    simp only [Sh.chk] at hc
    simp only [Sh.byB] at hb
    split at hc
    · rename_i fs ht
      rw [ht] at hb
      simp only at hb
      obtain ⟨xs, n, _, rfl, hl, hlen, hf⟩ := DataW.trod_struct ht h
      simp only [DataW.weights, ht] at hw
      have hwe := wOk_each hw
      obtain ⟨m, hm, hv, hft⟩ := readSL l (n := n) (cs := cs) (fs := fs.toList) (off := 0) hc hb (fun i f hi => by
        have hlt : i < xs.length := by rw [hlen]; simpa using getElem?_lt hi
        refine ⟨xs[i], ?_, hwe i f.type _ (by simp [hi]) (by simp [hlt])⟩
        rw [hf i f (by simpa using hi), List.getElem?_eq_getElem hlt]) hl
      refine ⟨.agg m, ⟨m, rfl, hm⟩, by rw [Dt.cells]; simpa using hv, ?_⟩
      rw [Sh.fit]
      rintro _ ⟨⟩
      exact hft
    · cases hc
theorem readSL (l : List Sh) : ∀ {n : Nat} {cs : List Value} {fs : List Field} {off tot : Nat}, Sh.chkL P l fs off tot = true → Sh.byBL P l (fs.map (·.type)) = true →
    (∀ (i : Nat) (f : Field), fs[i]? = some f → ∃ x, DataW.trod enc P W base spare held n f.type ((cs.drop f.offset).take (P.cellsOf f.type)) = some x ∧ wOk (x.1.weights P f.type)) → cs.length = tot →
    ∃ m, Sh.hasL l m ∧ VRs (st0 W) (Dt.cellsL m) (cs.drop off) ∧ Sh.fitL l m := by
  intro n cs fs off tot hc hb hf hl
  cases l with
  | nil =>
    simp only [Sh.chkL, Bool.and_eq_true, List.isEmpty_iff, beq_iff_eq] at hc
    refine ⟨[], rfl, ?_, by simp [Sh.fitL]⟩
    rw [List.drop_of_length_le (by omega)]
    exact VRs.nil _
  | cons s r =>
    simp only [Sh.chkL] at hc
    split at hc
    · cases hc
    · rename_i f fs'
      simp only [Bool.and_eq_true, beq_iff_eq] at hc
      simp only [List.map_cons, Sh.byBL, Bool.and_eq_true] at hb
      obtain ⟨⟨h1, h2⟩, h3⟩ := hc
      obtain ⟨x, hx, hwx⟩ := hf 0 f rfl
      obtain ⟨d, hd, hv, hft⟩ := readS s h2 hb.1 hx hwx
      obtain ⟨m, hm, hv', hft'⟩ := readSL r (n := n) (cs := cs) (fs := fs') h3 hb.2 (fun i f hi => hf (i + 1) f (by simpa using hi)) hl
      refine ⟨d :: m, ⟨d, m, rfl, hd, hm⟩, ?_, ⟨hft, hft'⟩⟩
      have := hv.append hv'
      rw [h1, ← List.drop_drop, List.take_append_drop] at this
      simpa [Dt.cellsL] using this
end
end
section
variable {H : Type} {enc : TypeId × Value → H} {P : Program} {W : World} {base b0 : Nat} {spare : Nat → Bool} {held : Bool} {r : Reach}
theorem readS_one {sh : Sh} {t : TypeId} {v : Value} {d : DataW H} {p : List MemPlace} (hc : sh.chk P t = true) (hb : sh.byB P t = true) (hval : Value.okWide P W r b0 t v) (hd : DataW.Trod enc P W base spare held t v d p) (hw : wOk (d.weights P t)) :
    ∃ dt, sh.has dt ∧ VR (st0 W) dt.sv v ∧ sh.fit dt := by
  obtain ⟨fuel, hf⟩ := hd
  obtain ⟨dt, hh, hv, hft⟩ := readS sh hc hb hf hw
  refine ⟨dt, hh, ?_, hft⟩
  cases sh with
  | int k =>
    simp only [Sh.chk] at hc
    split at hc
    · rename_i k' ht
      obtain ⟨n, rfl⟩ := okWide_int ht hval
      obtain ⟨m, rfl, _⟩ := hh
      exact hv.2 0 _ _ rfl (by simp [Value.cells])
    · cases hc
  | bool =>
    simp only [Sh.chk] at hc
    split at hc
    · rename_i ht
      obtain ⟨n, rfl⟩ := okWide_bool ht hval
      obtain ⟨m, rfl⟩ := hh
      exact hv.2 0 _ _ rfl (by simp [Value.cells])
    · cases hc
  | str =>
    simp only [Sh.chk] at hc
    split at hc
    · rename_i ht
      obtain ⟨n, rfl⟩ := okWide_string ht hval
      obtain ⟨m, rfl, _⟩ := hh
      exact hv.2 0 _ _ rfl (by simp [Value.cells])
    · cases hc
  | sl e =>
    simp only [Sh.chk] at hc
    split at hc
    · rename_i e' ht
      obtain ⟨a, len, cap, rfl⟩ := okWide_slice ht hval
      obtain ⟨m, rfl, _⟩ := hh
      exact hv.2 0 _ _ rfl (by simp [Value.cells])
    · cases hc
  | st l =>
    simp only [Sh.chk] at hc
    split at hc
    · rename_i fs ht
      obtain ⟨cs, rfl, _⟩ := okWide_struct ht hval
      obtain ⟨m, rfl, _⟩ := hh
      have : VR (st0 W) (.agg (Dt.cellsL m)) (.agg cs.toList.toArray) := VR.of_agg (by rw [Dt.cells] at hv; simpa [Value.cells] using hv)
      simpa [Dt.sv] using this
    · cases hc
theorem readS_args : ∀ (shs : List Sh) {ts : List TypeId} {vs : List Value} {ds : List (DataW H)} {p : List MemPlace}, Sh.chkAll P shs ts = true → Sh.byBL P shs ts = true →
    (∀ (j : Nat) t v, ts[j]? = some t → vs[j]? = some v → Value.okWide P W r b0 t v) → DataW.TrodAll enc P W base spare held ts vs ds p → wOk (DataW.weightsEach P ts ds) →
    ∃ dts, Sh.hasL shs dts ∧ VRs (st0 W) (dts.map Dt.sv) vs ∧ Sh.fitL shs dts
  | [], ts, vs, ds, p, hc, hb, hval, h, hw => by
    cases ts with
    | nil => obtain ⟨rfl, _, _⟩ := trodAll_nil h; exact ⟨[], rfl, VRs.nil _, by simp [Sh.fitL]⟩
    | cons t ts => simp [Sh.chkAll] at hc
  | s :: shs, ts, vs, ds, p, hc, hb, hval, h, hw => by
    cases ts with
    | nil => simp [Sh.chkAll] at hc
    | cons t ts =>
      simp only [Sh.chkAll, Bool.and_eq_true] at hc
      simp only [Sh.byBL, Bool.and_eq_true] at hb
      obtain ⟨v, vs', d, ds', p, q, rfl, rfl, rfl, h1, h2⟩ := trodAll_cons h
      rw [DataW.weightsEach, wOk_app] at hw
      obtain ⟨dt, g1, g2, g5⟩ := readS_one hc.1 hb.1 (hval 0 t v rfl rfl) h1 hw.1
      obtain ⟨dts, g3, g4, g6⟩ := readS_args shs hc.2 hb.2 (fun j t v ht hv => hval (j + 1) t v (by simpa using ht) (by simpa using hv)) h2 hw.2
      exact ⟨dt :: dts, ⟨dt, dts, rfl, g1, g3⟩, VRs.cons g2 g4, ⟨g5, g6⟩⟩

/-- THE CONTRACT that a row asks of a law, its arguments no larger than a process holds. -/
theorem law_contract_sized {f : FuncId} {fn : Func} {s : ChangeSpec} (shs : List Sh) (hl : laidOutB P = true) (hc : Sh.chkAll P shs fn.params.toList = true) (hb : Sh.byBL P shs fn.params.toList = true) (hr : ∀ t ∈ fn.params.toList, P.readableRec t = true ∧ t < P.types.size)
    (hvars : s.vars = []) (hfn : ∀ ds : List (DataW H), ds.length = fn.params.size → s.fn H ds = { results := [.lit (.bool true)], args := ds }) {tb : TypeId} (hres : fn.resultTypes = #[tb]) (htb : P.underlying tb = some .bool)
    (hok : ∀ dts, Sh.hasL shs dts → Sh.fitL shs dts → Ok P f (dts.map Dt.sv) [] (.ret (bl true)) [])
    (args : Array Value) (ds gs : List (DataW H)) (before : List MemPlace)
    (hval : ∀ (j : Nat) t v, fn.params[j]? = some t → args[j]? = some v → Value.okWide P W r b0 t v) (hW : DataW.Whole enc P fn.params.toList s.vars false W args.toList ds gs before)
    (hsz : (DataW.weightsEach P (fn.params.toList ++ s.plain.varTypes P) (ds ++ gs)).all (· ≤ reachBytes) = true) :
    Calls P f args W fun e W' => ∃ v, e = .returned v ∧ s.post enc P fn false true false false W args v W' := by
  have hW' := hW
  obtain ⟨p, q, hA, hV, rfl, hfz, hnd⟩ := hW
  rw [hvars] at hV
  obtain ⟨rfl, rfl⟩ := trodVars_none hV
  have hwk : ∀ (ts : List TypeId) (us : List TypeId) (ds : List (DataW H)), ds.length = ts.length → (DataW.weightsEach P (ts ++ us) (ds ++ [])).all (· ≤ reachBytes) = true → wOk (DataW.weightsEach P ts ds) := by
    intro ts us ds
    induction ts generalizing ds with
    | nil => intro h _; cases ds with | nil => intro n hn; simp [DataW.weightsEach] at hn | cons d r => simp at h
    | cons t ts ih =>
      intro h h2
      cases ds with
      | nil => simp at h
      | cons d r =>
        simp only [List.cons_append, DataW.weightsEach, List.all_append, Bool.and_eq_true] at h2
        rw [DataW.weightsEach, wOk_app]
        exact ⟨fun n hn => by simpa using List.all_eq_true.1 h2.1 n hn, ih r (by simpa using h) h2.2⟩
  obtain ⟨dts, h1, h2, h6⟩ := readS_args shs hc hb (fun j t v ht hv => hval j t v (by simpa using ht) (by simpa using hv)) hA (hwk _ _ _ (trodAll_len hA) hsz)
  have h3 := ok_calls (hok dts h1 h6) h2
  refine h3.mono fun e W' ⟨he, bel⟩ => ?_
  subst he
  have hlen : ds.length = fn.params.size := by rw [trodAll_len hA]; simp
  have hf2 := hfn (ds ++ []) (by simpa using hlen)
  refine ⟨_, rfl, ds, [], _, [], p, [], hW', ?_, ?_, ?_, bel.frame _, fun h => by cases h⟩
  · rw [hres, hf2]
    exact trodAll_mk1 (shut_bool htb true)
  · rw [hf2]
    simpa using below_all hl bel hr hA
  · rw [hf2, hvars]; rfl
end
end Go.Ab

