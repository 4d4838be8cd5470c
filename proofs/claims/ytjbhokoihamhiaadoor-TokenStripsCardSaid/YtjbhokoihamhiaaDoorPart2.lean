/-
  Steps of the proof: contracts of functions and plain facts that the statement rests on.
-/
import Derived.Test.YtjbhokoihamhiaaDoorPart1
import Derived.LaidMore
import Derived.OpenShut
import Derived.Stop.Joined
import Derived.LaidHandle
import Derived.Test.YtjbhokoihamhiaaDoorCore6
set_option linter.all false
/- T33 -/
namespace Go.Proofs.YtjbhokoihamhiaaDoor
open Go.Ab
theorem evs_len {l : List UInt8} : ∀ {n p : Nat}, (toks (evs l n p)).length ≤ n
  | 0, p => by simp [evs, toks]
  | n + 1, p => by
    simp only [evs]
    split
    · split
      · exact Nat.le_succ_of_le evs_len
      · simp only [toks, List.length_cons]; exact Nat.succ_le_succ evs_len
      · simp [toks]
    · simp [toks]
theorem scan_len {l : List UInt8} : (scanG l).1.length ≤ l.length := by
  unfold scanG
  split
  · simp
  · split
    · exact evs_len
    · simp
section
variable {l : List UInt8}
theorem law5 (p : Int) : Ok Tryd.prog 5 [st (B l), i64 p] [] (.ret (bl true)) [] := by
  refine ok_fn hm Tryd.func5 c5 (by simp) fun hcl => ?_
  by_cases hl : 3000 < l.length
  · have hl' : (3000 : Int) < l.length := by omega
    simp -implicitDefEqProofs [i5, r5, hl']
    refine call_go awake_ok ?_
    simp -implicitDefEqProofs
    exact cv_id
  · have hl' : ¬ (3000 : Int) < l.length := by omega
    have hl2 : l.length < 4611686018427387904 := by omega
    simp -implicitDefEqProofs [i5, r5, hl']
    refine call_go (ok20 hl2 p) ?_
    simp -implicitDefEqProofs [plV]
    refine call_go (ok21 hl2 p) ?_
    simp -implicitDefEqProofs [plV]
    refine callq_go (fun _ => awake_ok) ?_
    simp -implicitDefEqProofs
    exact cv_id
theorem law4 : Ok Tryd.prog 4 [st (B l)] [] (.ret (bl true)) [] := by
  refine ok_fn hm Tryd.func4 c4 (by simp) fun hcl => ?_
  by_cases hl : 3000 < l.length
  · have hl' : (3000 : Int) < l.length := by omega
    simp -implicitDefEqProofs [i4, r4, hl']
    refine call_go awake_ok ?_
    simp -implicitDefEqProofs
    exact cv_id
  · have hl' : ¬ (3000 : Int) < l.length := by omega
    have hl2 : l.length < 4611686018427387904 := by omega
    have h15 := fun H => ok15 (H := H) hl2
    have h16 := fun H => ok16 (H := H) hl2
    have h17 := fun H => ok17 (H := H) hl2
    have h18 := fun H => ok18 (H := H) hl2
    have hlen : (scanG l).1.length < 4611686018427387904 := Nat.lt_of_le_of_lt scan_len hl2
    have h19 := fun H => ok19 (H := H) (ss := (scanG l).1) (ts := (scanG l).1) hlen
    have he : eqL (scanG l).1 (scanG l).1 = true := by simp [eqL]
    rw [he] at h19
    generalize scanG l = g at *
    generalize strG l = r at *
    simp -implicitDefEqProofs [i4, r4, hl']
    refine call_go (h15 _) ?_
    simp -implicitDefEqProofs [fltV]
    refine call_go (h16 _) ?_
    simp -implicitDefEqProofs [fltV]
    refine call_go (h17 _) ?_
    simp -implicitDefEqProofs [fltV, strV]
    refine call_go (h18 _) ?_
    simp -implicitDefEqProofs [fltV, strV]
    refine call_go (h19 _) ?_
    simp -implicitDefEqProofs [fltV, strV]
    refine callq_go (fun _ => awake_ok) ?_
    simp -implicitDefEqProofs
    exact cv_fz 1 hcl rfl (by simp)
theorem loop3 {ts : List Tr} (hs : ts.length ≤ 300) {N : Nat} {K : XE → Env → List AO → Prop}
    (hret : ∀ env, env.get 2 = bl true → K .ret env []) (hexit : (∀ t ∈ ts, t.tx.length ≤ 200) → ∀ env, env.get 0 = trsV ts → K (.exit 0) env []) :
    ∀ (k i : Nat) (env : Env), i + k = ts.length → (∀ t ∈ ts.take i, t.tx.length ≤ 200) → env.get 0 = trsV ts → env.get 3 = i64 i → LI Tryd.prog N drawB l3_0 env [] K := by
  intro k
  induction k with
  | zero =>
    intro i env hi h2 h0 h3
    refine li_go hm l3_0.eq_1 ?_
    have e : i = ts.length := by omega
    subst e
    rw [List.take_length] at h2
    simp -implicitDefEqProofs [h0, h3, trsV]
    exact hexit h2 _ (by simp [h0, trsV])
  | succ k ih =>
    intro i env hi h2 h0 h3
    refine li_go hm l3_0.eq_1 ?_
    have hlt : i < ts.length := by omega
    have d1 := tr_drop ts hlt
    have dt := tr_at hlt
    have k1 : ts.take (i + 1) = ts.take i ++ [ts[i]] := List.take_succ_eq_append_getElem hlt
    have w1 := wrap_suc (show i < 9223372036854775807 by omega)
    generalize ts[i] = s at *
    have hcc : s.c = [i64 s.k, st (B s.tx), i64 s.n, i64 s.p] := rfl
    by_cases hl : 200 < s.tx.length
    · have hl' : (200 : Int) < s.tx.length := by omega
      simp -implicitDefEqProofs [h0, h3, trsV, hlt, tr4, dt, hl']
      refine ⟨by omega, ?_⟩
      refine call_go awake_ok ?_
      simp -implicitDefEqProofs
      exact hret _ (by simp)
    · have hl' : ¬ (200 : Int) < s.tx.length := by omega
      have hl2 : s.tx.length < 4611686018427387904 := by omega
      simp -implicitDefEqProofs [h0, h3, trsV, hlt, tr4, dt, d1, hl']
      have q11 := ok11 (H := []) hl2 s.k s.n (i64 s.p) rfl
      have q12 := ok12 (H := []) hl2 s.k s.n (i64 s.p) rfl rfl
      refine ⟨by omega, by omega, callq_go (fun _ => q11) ?_⟩
      simp -implicitDefEqProofs [h0, h3, trsV, hlt, tr4, d1]
      refine ⟨by omega, callq_go (fun _ => q12) ?_⟩
      simp -implicitDefEqProofs [h0, h3, trsV, hlt, tr4, d1]
      refine ih (i + 1) _ (by omega) ?_ (by simp [trsV]) (by simp [w1])
      rw [k1]; intro t ht
      rcases List.mem_append.1 ht with h | h
      · exact h2 t h
      · rw [List.mem_singleton.1 h]; omega
theorem law3 {ts : List Tr} : Ok Tryd.prog 3 [trsV ts] [] (.ret (bl true)) [] := by
  refine ok_fn hm Tryd.func3 c3 (by simp) fun hcl => ?_
  by_cases hs : 300 < ts.length
  · have hs' : (300 : Int) < ts.length := by omega
    simp -implicitDefEqProofs [i3, r3, trsV, hs']
    refine call_go awake_ok ?_
    simp -implicitDefEqProofs
    exact cv_id
  · have hs' : ¬ (300 : Int) < ts.length := by omega
    simp -implicitDefEqProofs [i3, r3, trsV, hs']
    refine loop3 (ts := ts) (by omega) (fun env g2 => ?_) (fun h200 env g0 => ?_) ts.length 0 _ (by omega) (by simp) (by simp [trsV]) (by simp)
    · simp -implicitDefEqProofs [g2]
      exact cv_id
    · have h13 := ok13 (H := []) (ts := ts) (fun t ht => by have := h200 t ht; omega)
      have h14 := ok14 (H := []) (ts := ts) (fun t ht => by have := h200 t ht; omega)
      simp -implicitDefEqProofs [g0]
      generalize rndG ts = r at *
      refine call_go h13 ?_
      simp -implicitDefEqProofs [g0]
      refine call_go h14 ?_
      simp -implicitDefEqProofs [g0]
      refine callq_go (fun _ => awake_ok) ?_
      simp -implicitDefEqProofs
      exact cv_id
end
end Go.Proofs.YtjbhokoihamhiaaDoor
/- T34 -/
namespace Go.Proofs.YtjbhokoihamhiaaDoor
open Go.Ab Go.ChangeShapes Go.WideShapes Go.ChangeAt Go.RowKit
def laid3 : List (String × DataW Unit) := [("errors.errorType", Rows.laid_errors_errorType), ("parlour/token.blanks", Rows.laid_parlour_token_blanks), ("parlour/token.signs", Rows.laid_parlour_token_signs)]
theorem own : ownKnob Tryd.prog.godebug = none := by kernel_rfl
theorem laidOut : laidOutB Tryd.prog = true := by kernel_rfl
theorem gB : Tryd.prog.globalNamed "parlour/token.blanks" = some 0 := by kernel_rfl
theorem gS : Tryd.prog.globalNamed "parlour/token.signs" = some 1 := by kernel_rfl
theorem gE : Tryd.prog.globalNamed "errors.errorType" = some 2 := by kernel_rfl
theorem tB : (Tryd.prog.globals[0]?).map (·.type) = some 67 := by kernel_rfl
theorem tS : (Tryd.prog.globals[1]?).map (·.type) = some 68 := by kernel_rfl
theorem uB : Tryd.prog.underlying 67 = some (.array 33 4) := by kernel_rfl
theorem uS : Tryd.prog.underlying 68 = some (.array 126 4) := by kernel_rfl
theorem u4 : Tryd.prog.underlying 4 = some .bool := by kernel_rfl
theorem rtE : (Tryd.prog.cutTypes.find? (·.1 == "internal/reflectlite.rtype")).map (·.2) = some 105 := by kernel_rfl
theorem size : Tryd.prog.types.size = 150 := by kernel_rfl
theorem oneRow : ((List.range 150).filter fun t => Tryd.prog.rowNamed t [101, 114, 114, 111, 114]) = [53] := by kernel_rfl
theorem door_met (os : Os) (args : Array Value) : laidMetH Tryd.prog laid3 ((World.doorLaid Tryd.prog 400 os).forCall (fun _ _ => 0) ⟨#[], args, []⟩).memory :=
  laidMetH_of_parts3 (fuel := 8) (laidMet_of_run' 8 (by kernel_rfl) (by kernel_rfl)) (by kernel_rfl) (by kernel_rfl)
theorem bools_of {P : Program} {W : World} {base : Nat} {sp : Nat → Bool} {held : Bool} {fuel n : Nat} {t e : TypeId} {cs : List Value} {bs : List Bool} {p : List MemPlace} {enc : TypeId × Value → Unit} (ht : P.underlying t = some (.array n e)) (he : P.underlying e = some .bool) (hc : P.cellsOf e = 1) (hct : P.cellsOf t = n)
    (h : DataW.trod enc P W base sp held fuel t cs = some (.agg (bs.map fun b => .lit (.bool b)), p)) : cs = bs.map Value.bool := by
  obtain ⟨xs, m, rfl, hx, hlen, hn, hel⟩ := DataW.trod_array ht h
  simp only [Prod.mk.injEq, DataW.agg.injEq] at hx
  have hbl : bs.length = n := by have := congrArg List.length hx.1; simp at this; omega
  rw [hct] at hlen
  refine List.ext_getElem (by simp; omega) fun i h1 h2 => ?_
  have hi : i < n := by omega
  have h3 := hel i hi
  have hxi : i < xs.length := by omega
  rw [List.getElem?_eq_getElem hxi, hc, Nat.mul_one] at h3
  obtain ⟨b, e1, e2⟩ := DataW.trod_bool he h3
  have e3 : cs[i] = .bool b := by
    rw [List.drop_eq_getElem_cons h1, List.take_succ_cons, List.take_zero] at e1
    exact (List.cons.inj e1).1
  have hbi : i < bs.length := by omega
  have e4 : (bs.map fun b => (DataW.lit (.bool b) : DataW Unit))[i]'(by simpa using hbi) = (xs.map (·.1))[i]'(by simpa using hxi) := by
    simp only [hx.1]
  simp only [List.getElem_map, e2] at e4
  have : bs[i] = b := by simpa using e4
  rw [e3, List.getElem_map, this]
theorem gl_of {W : World} (h : laidMetH Tryd.prog laid3 W) : (st0 W).GL := by
  have h' : laidMet Tryd.prog [("parlour/token.blanks", Rows.laid_parlour_token_blanks), ("parlour/token.signs", Rows.laid_parlour_token_signs)] W ∧ handlesMet Tryd.prog [("errors.errorType", Rows.laid_errors_errorType)] W := h
  obtain ⟨⟨ps, ⟨g0, t0, cs0, f0, p0, q0, hg0, ht0, hv0, hd0, ⟨g1, t1, cs1, f1, p1, q1, hg1, ht1, hv1, hd1, _, _⟩, _⟩, _, _⟩, hh⟩ := h'
  obtain rfl := Option.some.inj (gB.symm.trans hg0)
  obtain rfl := Option.some.inj (gS.symm.trans hg1)
  obtain rfl := Option.some.inj (tB.symm.trans ht0)
  obtain rfl := Option.some.inj (tS.symm.trans ht1)
  have b0 : cs0.toList = blanksL.map Value.bool := bools_of (bs := blanksL) uB u4 (by kernel_rfl) (by kernel_rfl) hd0
  have b1 : cs1.toList = signsL.map Value.bool := bools_of (bs := signsL) uS u4 (by kernel_rfl) (by kernel_rfl) hd1
  obtain ⟨name, u, ty, e1, e2, e3, e4, e5⟩ := hh _ (List.mem_singleton.2 rfl)
  have en : name = [101, 114, 114, 111, 114] := (Option.some.inj e1).symm
  subst en
  obtain rfl := Option.some.inj (rtE.symm.trans e2)
  have hm : ty ∈ (List.range 150).filter fun t => Tryd.prog.rowNamed t [101, 114, 114, 111, 114] := List.mem_filter.2 ⟨List.mem_range.2 (by rw [← size]; exact e3), e4⟩
  rw [oneRow] at hm
  obtain rfl := List.mem_singleton.1 hm
  have hh : typeHandle Tryd.prog 53 = .pointer (some ⟨4, 53, none⟩) := by kernel_rfl
  rw [hh] at e5
  have key : ∀ (g : Nat) (nm : String) (cs : Array Value) (us : List Value), Tryd.prog.globalNamed nm = some g → W.var? Tryd.prog nm = some cs → cs.toList = us → (st0 W).Imm ⟨g, 0, none⟩ us := by
    intro g nm cs us h1 h2 h3
    refine ⟨fun j u hj => ?_, fun _ => rw0 W _⟩
    have := World.var?_cell h1 h2 j
    have e : ((⟨g, 0, none⟩ : Addr).add j) = ⟨g, j, none⟩ := by unfold Addr.add; split <;> simp_all
    rw [e]
    show W.cell? _ = _
    rw [this, ← Array.getElem?_toList, h3]; exact hj
  intro g us hg
  match g, hg with
  | 0, hg => cases hg; exact key 0 _ _ _ gB hv0 b0
  | 1, hg => cases hg; exact key 1 _ _ _ gS hv1 b1
  | 2, hg => cases hg; exact key 2 _ _ _ gE e5 rfl
end Go.Proofs.YtjbhokoihamhiaaDoor
/- T35 -/
namespace Go.Proofs.YtjbhokoihamhiaaDoor
open Go.Ab
def shTk : Sh := .st [.int .i64, .str, .int .i64, .int .i64]
theorem has_tks {d : Dt} (h : (Sh.sl shTk).has d) : ∃ l : List Tr, d.sv = trsV l := by
  simp only [Sh.has] at h
  obtain ⟨m, rfl, hl, hx⟩ := h
  have : ∃ l : List Tr, l.length = m.length ∧ Dt.cellsL m = l.flatMap Tr.c := by
    clear hl
    induction m with
    | nil => exact ⟨[], rfl, rfl⟩
    | cons x r ih =>
      obtain ⟨l, h1, h2⟩ := ih fun y hy => hx y (by simp [hy])
      have h3 := hx x (by simp)
      simp only [shTk, Sh.has] at h3
      obtain ⟨m, rfl, hm⟩ := h3
      obtain ⟨d0, m, rfl, h0, hm⟩ := hasL_cons hm
      obtain ⟨d1, m, rfl, g1, hm⟩ := hasL_cons hm
      obtain ⟨d2, m, rfl, g2, hm⟩ := hasL_cons hm
      obtain ⟨d3, m, rfl, g3, hm⟩ := hasL_cons hm
      obtain rfl := hasL_nil hm
      obtain ⟨n0, e0, _⟩ := has_i64 h0
      obtain ⟨s1, e1, _⟩ := has_str g1
      obtain ⟨n2, e2, _⟩ := has_i64 g2
      obtain ⟨n3, e3, _⟩ := has_i64 g3
      rw [B_of s1] at e1
      exact ⟨⟨n0, s1.data.toList, n2, n3⟩ :: l, by simp [h1], by simp [Dt.cellsL, Dt.cells, e0, e1, e2, e3, h2, Tr.c]⟩
  obtain ⟨l, h1, h2⟩ := this
  exact ⟨l, by simp only [Dt.sv, Dt.cells, List.headD_cons, h2, ← h1, trsV]⟩
end Go.Proofs.YtjbhokoihamhiaaDoor
/- T36 -/
namespace Go.Proofs.YtjbhokoihamhiaaDoor
open Go.Ab
theorem cAt_app {a b : List UInt8} {p : Nat} : cAt (a ++ b) (a.length + p) = cAt b p := by
  unfold cAt
  rw [List.getD_eq_getElem?_getD, List.getD_eq_getElem?_getD, List.getElem?_append_right (by omega)]
  simp
theorem cAt_left {a b : List UInt8} {p : Nat} (h : p < a.length) : cAt (a ++ b) p = cAt a p := by
  unfold cAt
  rw [List.getD_eq_getElem?_getD, List.getD_eq_getElem?_getD, List.getElem?_append_left h]
theorem runN_app {a b : List UInt8} {cs : List Int} : ∀ (n e : Nat), runN (a ++ b) cs n (a.length + e) = a.length + runN b cs n e
  | 0, e => rfl
  | n + 1, e => by
    simp only [runN, cAt_app, List.length_append]
    by_cases h : e < b.length ∧ cAt b e ∈ cs
    · rw [if_pos ⟨by omega, h.2⟩, if_pos h, Nat.add_assoc]; exact runN_app n (e + 1)
    · rw [if_neg (fun h2 => h ⟨by omega, h2.2⟩), if_neg h]
theorem runE_app {a b : List UInt8} {cs : List Int} {e : Nat} : runE (a ++ b) cs (a.length + e) = a.length + runE b cs e := by
  unfold runE
  rw [show (a ++ b).length - (a.length + e) = b.length - e by simp; omega]
  exact runN_app _ _
theorem drop_app {a b : List UInt8} {e : Nat} : (a ++ b).drop (a.length + e) = b.drop e := by
  rw [List.drop_append, List.drop_of_length_le (by omega)]
  simp
theorem cut_app {a b : List UInt8} {p q : Nat} : cut (a ++ b) (a.length + p) (a.length + q) = cut b p q := by
  unfold cut
  rw [drop_app, show a.length + q - (a.length + p) = q - p by omega]
theorem getD_app {a b : List UInt8} {p : Nat} : (a ++ b).getD (a.length + p) 0 = b.getD p 0 := by
  rw [List.getD_eq_getElem?_getD, List.getD_eq_getElem?_getD, List.getElem?_append_right (by omega)]
  simp
theorem signE_app {a b : List UInt8} {e : Nat} : signE (a ++ b) (a.length + e) = a.length + signE b e := by
  unfold signE
  rw [drop_app, getD_app]
  split
  · omega
  · split <;> omega
theorem whE_app {a b tx : List UInt8} {k : Int} {p : Nat} (h : p = 0 → a = [] ∨ cAt a (a.length - 1) ≠ 3) : whE (a ++ b) k tx (a.length + p) = whE b k tx p := by
  unfold whE
  have e : (tx = [] ∨ k = 1 ∧ 0 < a.length + p ∧ cAt (a ++ b) (a.length + p - 1) = 3) ↔ (tx = [] ∨ k = 1 ∧ 0 < p ∧ cAt b (p - 1) = 3) := by
    by_cases hp : p = 0
    · subst hp
      rcases h rfl with h1 | h1
      · subst h1; simp
      · by_cases ha : a.length = 0
        · have : a = [] := List.eq_nil_of_length_eq_zero ha
          subst this; simp
        · have e1 : cAt (a ++ b) (a.length + 0 - 1) = cAt a (a.length - 1) := cAt_left (by omega)
          rw [e1]
          simp [h1]
    · have e1 : a.length + p - 1 = a.length + (p - 1) := by omega
      rw [e1, cAt_app]
      have : 0 < a.length + p ↔ 0 < p := by omega
      rw [this]
  simp only [e]
def Tok.mv (t : Tok) (d : Nat) : Tok := { t with p := d + t.p }
def Stp.mv (d : Nat) : Stp → Stp
  | .skip q => .skip (d + q)
  | .tok t q => .tok (t.mv d) (d + q)
  | .flt e => .flt e
theorem mkStp_app {a b : List UInt8} {k : Int} {p q : Nat} (h : p = 0 → a = [] ∨ cAt a (a.length - 1) ≠ 3) : mkStp (a ++ b) (a.length + p) k (a.length + q) = (mkStp b p k q).mv a.length := by
  unfold mkStp
  rw [cut_app, whE_app h]
  split <;> rfl
theorem stepT_app {a b : List UInt8} {p : Nat} (h : p = 0 → a = [] ∨ cAt a (a.length - 1) ≠ 3) : stepT (a ++ b) (a.length + p) = (stepT b p).mv a.length := by
  unfold stepT
  rw [cAt_app, runE_app, runE_app, signE_app, getD_app, drop_app, mkStp_app h, mkStp_app h, mkStp_app h, mkStp_app h]
  split
  · simp only [Stp.mv]; rw [Nat.add_assoc]
  · split
    · rfl
    · split
      · rfl
      · split
        · rfl
        · split
          · simp only [Stp.mv]; rw [Nat.add_assoc]
          · rfl
def Ev.mv (d : Nat) : Ev → Ev
  | .tok t => .tok (t.mv d)
  | .flt e p => .flt e (d + p)
theorem evs_app {a b : List UInt8} : ∀ (n p : Nat), (p = 0 → a = [] ∨ cAt a (a.length - 1) ≠ 3) → evs (a ++ b) n (a.length + p) = (evs b n p).map (Ev.mv a.length)
  | 0, p, _ => rfl
  | n + 1, p, h => by
    simp only [evs, List.length_append]
    by_cases hp : p < b.length
    · rw [if_pos (by omega), if_pos hp, stepT_app h]
      cases hs : stepT b p with
      | skip q =>
        simp only [Stp.mv]
        refine evs_app n q fun h0 => ?_
        have : p < q := by
          unfold stepT at hs
          have key : ∀ k q', mkStp b p k q' ≠ .skip q := by intro k q' h; unfold mkStp at h; split at h <;> cases h
          split at hs
          · cases hs; omega
          · split at hs
            · exact absurd hs (key _ _)
            · split at hs
              · exact absurd hs (key _ _)
              · split at hs
                · exact absurd hs (key _ _)
                · split at hs
                  · rename_i h35; cases hs; have := comE_pos hp h35; omega
                  · exact absurd hs (key _ _)
        omega
      | tok t q =>
        simp only [Stp.mv, List.map_cons, Ev.mv]
        rw [evs_app n q fun h0 => by have := mkq hs hp; omega]
      | flt e => rfl
    · rw [if_neg (by omega), if_neg hp]; rfl
theorem stepT_lt {l : List UInt8} {p q : Nat} (hp : p < l.length) (hs : stepT l p = .skip q) : p < q ∧ q ≤ l.length := by
  unfold stepT at hs
  have key : ∀ k q', mkStp l p k q' ≠ .skip q := by intro k q' h; unfold mkStp at h; split at h <;> cases h
  split at hs
  · cases hs; omega
  · split at hs
    · exact absurd hs (key _ _)
    · split at hs
      · exact absurd hs (key _ _)
      · split at hs
        · exact absurd hs (key _ _)
        · split at hs
          · rename_i h35; cases hs
            have h1 := comE_pos hp h35
            have h2 := comE_le (l.drop p)
            simp at h2; omega
          · exact absurd hs (key _ _)
/-- How many rounds are counted doesn't matter, if there are enough. -/
theorem evs_fuel {l : List UInt8} : ∀ (n m p : Nat), l.length ≤ p + n → l.length ≤ p + m → evs l n p = evs l m p
  | 0, 0, p, _, _ => rfl
  | 0, m + 1, p, h, _ => by simp only [evs]; rw [if_neg (by omega)]
  | n + 1, 0, p, _, h => by simp only [evs]; rw [if_neg (by omega)]
  | n + 1, m + 1, p, h1, h2 => by
    simp only [evs]
    split
    · rename_i hp
      cases hs : stepT l p with
      | skip q => have := stepT_lt hp hs; exact evs_fuel n m q (by omega) (by omega)
      | tok t q => have := mkq hs hp; simp only; rw [evs_fuel n m q (by omega) (by omega)]
      | flt e => rfl
    · rfl
/-- A white byte that ends all runs. -/
def Wht (c : UInt8) : Prop := c = 10 ∨ c = 32
section
variable {a b : List UInt8} {c : UInt8}
theorem cAt_mid (hc : Wht c) : cAt (a ++ c :: b) a.length = 1 := by
  have h : cAt (a ++ c :: b) (a.length + 0) = cAt (c :: b) 0 := cAt_app
  rw [Nat.add_zero] at h
  rw [h]
  rcases hc with rfl | rfl <;> rfl
theorem runN_left (hc : Wht c) {cs : List Int} (h1 : (1 : Int) ∉ cs) : ∀ (n m e : Nat), e ≤ a.length → a.length ≤ e + n → a.length < e + m → runN (a ++ c :: b) cs m e = runN a cs n e
  | n, 0, e, h, h2, h3 => by omega
  | 0, m + 1, e, h, h2, h3 => by
    have e : e = a.length := by omega
    subst e
    simp only [runN]
    rw [if_neg (fun h => h1 (by rw [← cAt_mid (a := a) (b := b) hc]; exact h.2))]
  | n + 1, m + 1, e, h, h2, h3 => by
    simp only [runN]
    by_cases he : e < a.length
    · rw [cAt_left he]
      by_cases h4 : cAt a e ∈ cs
      · rw [if_pos ⟨by simp; omega, h4⟩, if_pos ⟨he, h4⟩]
        exact runN_left hc h1 n m (e + 1) (by omega) (by omega) (by omega)
      · rw [if_neg (fun h => h4 h.2), if_neg (fun h => h4 h.2)]
    · have e : e = a.length := by omega
      subst e
      rw [if_neg (fun h => h1 (by rw [← cAt_mid (a := a) (b := b) hc]; exact h.2)), if_neg (fun h => he h.1)]
theorem runE_left (hc : Wht c) {cs : List Int} (h1 : (1 : Int) ∉ cs) {e : Nat} (h : e ≤ a.length) : runE (a ++ c :: b) cs e = runE a cs e :=
  runN_left hc h1 _ _ e h (by omega) (by simp; omega)
theorem drop_left {e : Nat} (h : e ≤ a.length) : (a ++ c :: b).drop e = a.drop e ++ c :: b := by
  rw [List.drop_append_of_le_length h]
theorem cut_left {p q : Nat} (hp : p ≤ a.length) (hq : q ≤ a.length) : cut (a ++ c :: b) p q = cut a p q := by
  unfold cut
  rw [drop_left hp, List.take_append_of_le_length (by simp; omega)]
theorem dbl_left (hc : Wht c) {r : List UInt8} (h : r ≠ []) : isDbl (r ++ c :: b) = isDbl r := by
  unfold isDbl
  have h1 : ∀ x : UInt8, Wht c → x ∈ [61, 46] → (x == c) = false := by
    intro x hc hx
    simp at hx
    rcases hc with rfl | rfl <;> rcases hx with rfl | rfl <;> rfl
  match r, h with
  | [x], _ =>
    simp only [dbls, List.any_cons, List.any_nil, List.singleton_append, List.isPrefixOf, List.cons_append, List.nil_append]
    rw [h1 61 hc (by simp), h1 46 hc (by simp)]
    simp
  | x :: y :: r, _ => simp [dbls, List.isPrefixOf]
theorem getD_left {e : Nat} (h : e < a.length) : (a ++ c :: b).getD e 0 = a.getD e 0 := by
  rw [List.getD_eq_getElem?_getD, List.getD_eq_getElem?_getD, List.getElem?_append_left h]
theorem signE_left (hc : Wht c) {e : Nat} (h : e < a.length) : signE (a ++ c :: b) e = signE a e := by
  unfold signE
  rw [drop_left (by omega), getD_left h, dbl_left hc (by intro h2; have := congrArg List.length h2; simp at this; omega)]
theorem whE_left {tx : List UInt8} {k : Int} {p : Nat} (h : p < a.length) : whE (a ++ c :: b) k tx p = whE a k tx p := by
  unfold whE
  by_cases hp : p = 0
  · subst hp; simp
  · rw [cAt_left (show p - 1 < a.length by omega)]
theorem mkStp_left {k : Int} {p q : Nat} (h : p < a.length) (hq : q ≤ a.length) : mkStp (a ++ c :: b) p k q = mkStp a p k q := by
  unfold mkStp
  rw [cut_left (by omega) hq, whE_left h]
theorem comE_left : ∀ {a b : List UInt8}, comE (a ++ 10 :: b) = comE a
  | [], b => rfl
  | x :: r, b => by
    simp only [List.cons_append, comE]
    split
    · rfl
    · rw [comE_left]
theorem stepT_left (hc : Wht c) {p : Nat} (h : p < a.length) (hn : c = 10 ∨ a.getD p 0 ≠ 35) : stepT (a ++ c :: b) p = stepT a p := by
  have r1 := runE_left (b := b) hc (cs := [2, 3]) (by decide) (show p ≤ a.length by omega)
  have r2 := runE_left (b := b) hc (cs := [3]) (by decide) (show p ≤ a.length by omega)
  have r3 := signE_left (b := b) hc h
  unfold stepT
  rw [cAt_left h, r1, r2, r3, getD_left h, drop_left (by omega), mkStp_left h (runE_len (by omega)), mkStp_left h (runE_len (by omega)), mkStp_left h (signE_rng h).2, mkStp_left h (by omega)]
  rcases hn with rfl | hn
  · rw [comE_left]
  · simp only [if_neg hn]
/-- Does a list of events end with a fault? -/
def bad : List Ev → Bool
  | [] => false
  | .tok _ :: r => bad r
  | .flt _ _ :: _ => true
/-- The events of a text with a line feed behind it, and more. -/
theorem evs_left : ∀ (n m p : Nat), p ≤ a.length → a.length ≤ p + n → (a ++ 10 :: b).length ≤ p + m →
    evs (a ++ 10 :: b) m p = evs a n p ++ bif bad (evs a n p) then [] else evs (a ++ 10 :: b) m a.length
  | n, 0, p, h, h2, h3 => by simp at h3; omega
  | 0, m + 1, p, h, h2, h3 => by
    have e : p = a.length := by omega
    subst e
    simp [evs, bad]
  | n + 1, m + 1, p, h, h2, h3 => by
    by_cases hp : p < a.length
    · have hs : stepT (a ++ 10 :: b) p = stepT a p := stepT_left (.inl rfl) hp (.inl rfl)
      have hl : p < (a ++ 10 :: b).length := by simp; omega
      have hf : evs (a ++ 10 :: b) (m + 1) a.length = evs (a ++ 10 :: b) m a.length := evs_fuel _ _ _ (by simp at h3 ⊢; omega) (by simp at h3 ⊢; omega)
      rw [hf]
      cases hst : stepT a p with
      | skip q =>
        have := stepT_lt hp hst
        have e1 : evs a (n + 1) p = evs a n q := by simp only [evs]; rw [if_pos hp, hst]
        have e2 : evs (a ++ 10 :: b) (m + 1) p = evs (a ++ 10 :: b) m q := by simp only [evs]; rw [if_pos hl, hs, hst]
        rw [e1, e2]
        exact evs_left n m q (by omega) (by omega) (by simp at h3 ⊢; omega)
      | tok t q =>
        have := mkq hst hp
        have e1 : evs a (n + 1) p = .tok t :: evs a n q := by simp only [evs]; rw [if_pos hp, hst]
        have e2 : evs (a ++ 10 :: b) (m + 1) p = .tok t :: evs (a ++ 10 :: b) m q := by simp only [evs]; rw [if_pos hl, hs, hst]
        rw [e1, e2]
        simp only [List.cons_append, bad]
        rw [evs_left n m q (by omega) (by omega) (by simp at h3 ⊢; omega)]
      | flt e =>
        have e1 : evs a (n + 1) p = [.flt e p] := by simp only [evs]; rw [if_pos hp, hst]
        have e2 : evs (a ++ 10 :: b) (m + 1) p = [.flt e p] := by simp only [evs]; rw [if_pos hl, hs, hst]
        rw [e1, e2]
        simp [bad]
    · have e : p = a.length := by omega
      subst e
      have : evs a (n + 1) a.length = [] := by simp only [evs]; rw [if_neg (by omega)]
      rw [this]
      simp [bad]
end
end Go.Proofs.YtjbhokoihamhiaaDoor
/- T37 -/
namespace Go.Proofs.YtjbhokoihamhiaaDoor
open Go.Ab
/-- The first fault. -/
def frst : List Ev → Int × Int
  | [] => (0, 0)
  | .tok _ :: r => frst r
  | .flt e p :: _ => (e, p)
theorem fltE_frst : ∀ (es : List Ev) (i : Nat), i + (toks es).length ≤ 5000 → fltE i es = frst es
  | [], i, _ => rfl
  | .tok t :: r, i, h => by
    simp only [toks, List.length_cons] at h
    simp only [fltE, frst]
    rw [if_neg (by omega)]
    exact fltE_frst r (i + 1) (by omega)
  | .flt e p :: _, i, _ => rfl
theorem frst_good : ∀ {es : List Ev}, bad es = false → frst es = (0, 0)
  | [], _ => rfl
  | .tok t :: r, h => frst_good (es := r) h
  | .flt e p :: _, h => by simp [bad] at h
theorem frst_bad : ∀ {es : List Ev}, (∀ e p, Ev.flt e p ∈ es → e ≠ 0) → bad es = true → (frst es).1 ≠ 0
  | [], _, h => by simp [bad] at h
  | .tok t :: r, hm, h => frst_bad (es := r) (fun e p h => hm e p (List.mem_cons_of_mem _ h)) h
  | .flt e p :: _, hm, _ => hm e p (by simp)
theorem scan_short2 {l : List UInt8} (h : l.length ≤ 20000) (hl : (toks (evsT l)).length ≤ 5000) : scanG l = bif bad (evsT l) then ([], frst (evsT l)) else (toks (evsT l), 0, 0) := by
  have hf := fltE_frst (evsT l) 0 (by omega)
  unfold scanG
  rw [if_neg (by omega), hf]
  cases hb : bad (evsT l) with
  | true =>
    have hne : (frst (evsT l)).1 ≠ 0 := frst_bad (fun e p h => evs_flt l.length 0 h) hb
    rw [if_neg hne]; rfl
  | false =>
    rw [frst_good hb]; rfl
theorem scan_short {l : List UInt8} (h : l.length ≤ 5000) : scanG l = bif bad (evsT l) then ([], frst (evsT l)) else (toks (evsT l), 0, 0) :=
  scan_short2 (by omega) (Nat.le_trans evs_len h)
theorem mv_mv (d e : Nat) (x : Ev) : (x.mv e).mv d = x.mv (d + e) := by
  cases x with
  | tok t => simp [Ev.mv, Tok.mv, Nat.add_assoc]
  | flt a p => simp [Ev.mv, Nat.add_assoc]
theorem toks_mv (d : Nat) : ∀ es : List Ev, toks (es.map (Ev.mv d)) = (toks es).map (Tok.mv · d)
  | [] => rfl
  | .tok t :: r => by simp only [List.map_cons, Ev.mv, toks, toks_mv d r]
  | .flt e p :: r => by simp only [List.map_cons, Ev.mv, toks, toks_mv d r]
theorem bad_mv (d : Nat) : ∀ es : List Ev, bad (es.map (Ev.mv d)) = bad es
  | [] => rfl
  | .tok t :: r => by simp only [List.map_cons, Ev.mv, bad, bad_mv d r]
  | .flt e p :: r => rfl
theorem frst_mv (d : Nat) : ∀ es : List Ev, bad es = true → frst (es.map (Ev.mv d)) = ((frst es).1, (frst es).2 + d)
  | [], h => by simp [bad] at h
  | .tok t :: r, h => frst_mv d r h
  | .flt e p :: r, _ => by simp [Ev.mv, frst]; omega
theorem bad_app : ∀ a b : List Ev, bad (a ++ b) = (bad a || bad b)
  | [], b => rfl
  | .tok t :: a, b => by simp only [List.cons_append, bad, bad_app a b]
  | .flt e p :: a, b => rfl
theorem frst_app : ∀ a b : List Ev, frst (a ++ b) = bif bad a then frst a else frst b
  | [], b => rfl
  | .tok t :: a, b => by simp only [List.cons_append, bad, frst, frst_app a b]
  | .flt e p :: a, b => rfl
section
variable {a b : List UInt8}
theorem evs_white {c : UInt8} (hc : cls c.toNat = 1) (m : Nat) (hm : b.length ≤ m) : evs (a ++ c :: b) (m + 1) a.length = (evsT b).map (Ev.mv (a.length + 1)) := by
  have h1 : cAt (a ++ c :: b) a.length = 1 := by
    have h : cAt (a ++ c :: b) (a.length + 0) = cAt (c :: b) 0 := cAt_app
    rw [Nat.add_zero] at h
    rw [h]; exact hc
  have hs : stepT (a ++ c :: b) a.length = .skip (a.length + 1) := by unfold stepT; rw [if_pos h1]
  have e1 : evs (a ++ c :: b) (m + 1) a.length = evs (a ++ c :: b) m (a.length + 1) := by simp only [evs]; rw [if_pos (by simp), hs]
  have e2 := evs_app (a := a ++ [c]) (b := b) m 0 (fun _ => .inr (by
    have : cAt (a ++ [c]) ((a ++ [c]).length - 1) = cAt [c] 0 := by
      have h : cAt (a ++ [c]) (a.length + 0) = cAt [c] 0 := cAt_app
      rw [← h]; simp
    rw [this]
    have h3 : cAt [c] 0 = cls c.toNat := rfl
    rw [h3, hc]; decide))
  have e3 : (a ++ [c]) ++ b = a ++ c :: b := by simp
  have e4 : (a ++ [c]).length + 0 = a.length + 1 := by simp
  rw [e3, e4] at e2
  rw [e1, e2, show (a ++ [c]).length = a.length + 1 by simp]
  unfold evsT
  rw [evs_fuel m b.length 0 (by omega) (by omega)]
theorem evsT_join : evsT (a ++ 10 :: b) = evsT a ++ bif bad (evsT a) then [] else (evsT b).map (Ev.mv (a.length + 1)) := by
  have h := evs_left (a := a) (b := b) a.length (a ++ 10 :: b).length 0 (by omega) (by omega) (by omega)
  have e : (a ++ 10 :: b).length = (a.length + b.length) + 1 := by simp; omega
  rw [e, evs_white (by rfl) _ (by omega)] at h
  rw [← e] at h
  exact h
theorem evsT_white {c : UInt8} (hc : cls c.toNat = 1) : evsT (c :: b) = (evsT b).map (Ev.mv 1) := by
  have h := evs_white (a := []) hc b.length (b := b) (by omega)
  exact h
end
def fronts : List (List UInt8) := [[32], [10, 9, 32], [35, 32, 49, 97, 32, 33, 10], [32, 32, 35, 10, 10]]
theorem evs_nil : evsT [] = [] := rfl
theorem evsT_front {w b : List UInt8} (h : w ∈ fronts) : evsT (w ++ b) = (evsT b).map (Ev.mv w.length) := by
  have w1 : ∀ b, evsT (32 :: b) = (evsT b).map (Ev.mv 1) := fun b => evsT_white rfl
  have w2 : ∀ b, evsT (10 :: b) = (evsT b).map (Ev.mv 1) := fun b => evsT_white rfl
  have w3 : ∀ b, evsT (9 :: b) = (evsT b).map (Ev.mv 1) := fun b => evsT_white rfl
  have mm : ∀ (d e : Nat) (es : List Ev), (es.map (Ev.mv e)).map (Ev.mv d) = es.map (Ev.mv (d + e)) := by
    intro d e es; rw [List.map_map]; exact List.map_congr_left fun x _ => mv_mv d e x
  simp only [fronts, List.mem_cons, List.not_mem_nil, or_false] at h
  rcases h with rfl | rfl | rfl | rfl
  · exact w1 b
  · show evsT (10 :: 9 :: 32 :: b) = _
    rw [w2, w3, w1, mm, mm]; rfl
  · have hj := evsT_join (a := [35, 32, 49, 97, 32, 33]) (b := b)
    have h0 : evsT [35, 32, 49, 97, 32, 33] = [] := by kernel_rfl
    rw [h0] at hj
    exact hj
  · have hj := evsT_join (a := [35]) (b := 10 :: b)
    have h0 : evsT [35] = [] := by kernel_rfl
    rw [h0] at hj
    show evsT (32 :: 32 :: ([35] ++ 10 :: 10 :: b)) = _
    rw [w1, w1, hj, w2]
    simp only [bad, cond_false, List.nil_append]
    rw [mm, mm, mm]; rfl
end Go.Proofs.YtjbhokoihamhiaaDoor
/- T38 -/
namespace Go.Proofs.YtjbhokoihamhiaaDoor
open Go.Ab
section
variable {l m : List UInt8}
theorem cAt_drop {p i : Nat} : cAt (l.drop p) i = cAt l (p + i) := by
  unfold cAt
  rw [List.getD_eq_getElem?_getD, List.getD_eq_getElem?_getD, List.getElem?_drop]
theorem stepT_drop {p q : Nat} {t : Tok} (hp : p < l.length) (h : stepT l p = .tok t q) : stepT (l.drop p) 0 = .tok { t with p := 0 } (q - p) := by
  have ha : l = l.take p ++ l.drop p := (List.take_append_drop p l).symm
  have hlen : (l.take p).length = p := by simp; omega
  have hr : ∀ cs, runE l cs p = p + runE (l.drop p) cs 0 := by
    intro cs
    have := runE_app (a := l.take p) (b := l.drop p) (cs := cs) (e := 0)
    rw [← ha, hlen, Nat.add_zero] at this; exact this
  have hse : signE l p = p + signE (l.drop p) 0 := by
    have := signE_app (a := l.take p) (b := l.drop p) (e := 0)
    rw [← ha, hlen, Nat.add_zero] at this; exact this
  have hcut : ∀ q', cut l p (p + q') = cut (l.drop p) 0 q' := by
    intro q'; unfold cut; simp
  have hmk : ∀ (k : Int) (q' : Nat), mkStp l p k (p + q') = .tok t q → mkStp (l.drop p) 0 k q' = .tok { t with p := 0 } (q - p) := by
    intro k q' hm
    unfold mkStp at hm ⊢
    rw [hcut] at hm
    have hw : (whE l k (cut (l.drop p) 0 q') p).1 = 0 → whE (l.drop p) k (cut (l.drop p) 0 q') 0 = whE l k (cut (l.drop p) 0 q') p := by
      intro h0
      unfold whE at h0 ⊢
      split at h0
      · cases h0
      · rename_i hn
        rw [if_neg hn, if_neg (fun h => hn (.inl (by rcases h with h | h; exact h; omega)))]
    split at hm
    · cases hm
    · rename_i h0
      have h0 : (whE l k (cut (l.drop p) 0 q') p).1 = 0 := by simpa using h0
      have hw := hw h0
      cases hm
      rw [hw, if_neg (by simpa using h0)]
      simp
  have h0 : cAt (l.drop p) 0 = cAt l p := by rw [cAt_drop, Nat.add_zero]
  have hg : (l.drop p).getD 0 0 = l.getD p 0 := by rw [List.getD_eq_getElem?_getD, List.getD_eq_getElem?_getD, List.getElem?_drop, Nat.add_zero]
  unfold stepT at h ⊢
  rw [h0, hg]
  split at h
  · cases h
  · rename_i n1
    rw [if_neg n1]
    split at h
    · rename_i n2
      rw [if_pos n2]
      exact hmk _ _ (by rw [← hr]; exact h)
    · rename_i n2
      rw [if_neg n2]
      split at h
      · rename_i n3
        rw [if_pos n3]
        exact hmk _ _ (by rw [← hr]; exact h)
      · rename_i n3
        rw [if_neg n3]
        split at h
        · rename_i n4
          rw [if_pos n4]
          exact hmk _ _ (by rw [← hse]; exact h)
        · rename_i n4
          rw [if_neg n4]
          split at h
          · cases h
          · rename_i n5
            rw [if_neg n5]
            exact hmk 0 0 h
theorem runE_all {cs : List Int} (h : ∀ i, i < l.length → cAt l i ∈ cs) : runE l cs 0 = l.length := by
  have h1 := runN_stop (l := l) (cs := cs) (l.length - 0) 0 (by omega)
  have h2 := runE_len (l := l) (cs := cs) (e := 0) (by omega)
  rcases Nat.lt_or_ge (runE l cs 0) l.length with h3 | h3
  · exact absurd ⟨h3, h _ h3⟩ h1
  · omega
theorem cAt_take {q i : Nat} (h : i < q) (hq : q ≤ m.length) : cAt (m.take q) i = cAt m i := by
  unfold cAt
  rw [List.getD_eq_getElem?_getD, List.getD_eq_getElem?_getD, List.getElem?_take, if_pos h]
theorem runE_take {cs : List Int} : runE (m.take (runE m cs 0)) cs 0 = runE m cs 0 := by
  have hq := runE_len (l := m) (cs := cs) (e := 0) (by omega)
  have : (m.take (runE m cs 0)).length = runE m cs 0 := by simp; omega
  have h2 := runE_all (l := m.take (runE m cs 0)) (cs := cs) (fun i hi => by
    rw [this] at hi
    rw [cAt_take hi hq]
    exact (runN_all (l := m) (cs := cs) (m.length - 0) 0 i (by omega) hi).2)
  rw [this] at h2; exact h2
theorem signE_take (hm : 0 < m.length) (h : 0 < signE m 0) : signE (m.take (signE m 0)) 0 = signE m 0 := by
  unfold signE at h ⊢
  simp only [List.drop_zero] at h ⊢
  by_cases hd : isDbl m = true
  · rw [if_pos hd, if_pos ((dbl_iff _).2 (by have := (dbl_iff _).1 hd; rw [List.take_take]; simpa using this))]
  · rw [if_neg hd] at h ⊢
    split at h
    · omega
    · rename_i hc
      rw [if_neg hc]
      have h1 : ¬ isDbl (m.take (0 + 1)) = true := by
        rw [dbl_iff]
        intro h2
        have h3 : ∀ p ∈ dbls, p.length = 2 := by decide
        have := h3 _ h2
        simp at this; omega
      have hg : (m.take (0 + 1)).getD 0 0 = m.getD 0 0 := by
        rw [List.getD_eq_getElem?_getD, List.getD_eq_getElem?_getD, List.getElem?_take, if_pos (by omega)]
      rw [if_neg h1, hg, if_neg hc]
theorem stepT_take {q : Nat} {t : Tok} (hm : 0 < m.length) (h : stepT m 0 = .tok t q) : stepT (m.take q) 0 = .tok t q := by
  have hq := mkq h hm
  have h0 : cAt (m.take q) 0 = cAt m 0 := cAt_take hq.1 hq.2
  have hg : (m.take q).getD 0 0 = m.getD 0 0 := by
    rw [List.getD_eq_getElem?_getD, List.getD_eq_getElem?_getD, List.getElem?_take, if_pos hq.1]
  have hmk : ∀ k, mkStp m 0 k q = .tok t q → mkStp (m.take q) 0 k q = .tok t q := by
    intro k h
    unfold mkStp at h ⊢
    have e : cut (m.take q) 0 q = cut m 0 q := by unfold cut; simp [List.take_take]
    rw [e]
    have e2 : whE (m.take q) k (cut m 0 q) 0 = whE m k (cut m 0 q) 0 := by unfold whE; simp
    rw [e2]; exact h
  unfold stepT at h ⊢
  rw [h0, hg]
  split at h
  · cases h
  · rename_i n1
    rw [if_neg n1]
    split at h
    · rename_i n2
      rw [if_pos n2]
      have e := (mkStp_tok h).1
      have e3 : runE (m.take q) [2, 3] 0 = q := by rw [e]; exact runE_take
      rw [e3]; rw [← e] at h; exact hmk _ h
    · rename_i n2
      rw [if_neg n2]
      split at h
      · rename_i n3
        rw [if_pos n3]
        have e := (mkStp_tok h).1
        have e3 : runE (m.take q) [3] 0 = q := by rw [e]; exact runE_take
        rw [e3]; rw [← e] at h; exact hmk _ h
      · rename_i n3
        rw [if_neg n3]
        split at h
        · rename_i n4
          rw [if_pos n4]
          have e := (mkStp_tok h).1
          have e3 : signE (m.take q) 0 = q := by rw [e]; exact signE_take hm (by omega)
          rw [e3]; rw [← e] at h; exact hmk _ h
        · rename_i n4
          rw [if_neg n4]
          split at h
          · cases h
          · have := (mkStp_tok h).1
            omega
/-- A token's text alone is that token. -/
def Tok.self (t : Tok) : Prop := stepT t.tx 0 = .tok { t with p := 0 } t.tx.length ∧ 0 < t.tx.length ∧ t.tx.length ≤ 40 ∧ 1 ≤ t.k ∧ t.k ≤ 3
theorem self_of {p q : Nat} {t : Tok} (hp : p < l.length) (h : stepT l p = .tok t q) : t.self := by
  have h1 := stepT_drop hp h
  have hq := mkq h hp
  obtain ⟨g1, g2, g3, g4⟩ := tok_facts hp h
  have hlen : (l.drop p).length = l.length - p := by simp
  have h2 := stepT_take (by omega) h1
  have e : (l.drop p).take (q - p) = t.tx := g1.symm
  have hl : t.tx.length = q - p := by rw [g1, cut_len (by omega) (by omega)]
  rw [e] at h2
  exact ⟨by rw [hl]; exact h2, by omega, by omega, g2, g3⟩
theorem self_cls {t : Tok} (h : t.self) : cAt t.tx 0 ≠ 1 ∧ t.tx.getD 0 0 ≠ 35 := by
  have h1 := h.1
  constructor
  · intro h2; unfold stepT at h1; rw [if_pos h2] at h1; cases h1
  · intro h2
    have : cAt t.tx 0 = 0 := by unfold cAt; rw [h2]; rfl
    unfold stepT at h1
    rw [this, if_neg (by decide), if_neg (by decide), if_neg (by decide), if_neg (by decide), if_pos h2] at h1
    cases h1
theorem self_chk {t : Tok} (h : t.self) : t.tr.chk = 0 := by
  obtain ⟨h1, h2⟩ := self_cls h
  obtain ⟨h3, h4, h5, h6, h7⟩ := h
  show chkT t.k t.tx t.n = 0
  unfold chkT
  rw [if_neg (by rintro (h | h | h | h | h); (rw [h] at h4; simp at h4); omega; omega; exact h1 h; exact h2 h), h3]
  simp
def plc : Nat → List Tok → List Tok
  | _, [] => []
  | a, t :: r => { t with p := a } :: plc (a + t.tx.length + 1) r
theorem plc_mv (d : Nat) : ∀ (a : Nat) (ts : List Tok), (plc a ts).map (Tok.mv · d) = plc (d + a) ts
  | _, [] => rfl
  | a, t :: r => by
    simp only [plc, List.map_cons]
    rw [plc_mv d _ r]
    simp only [Nat.add_assoc, Tok.mv]
theorem jn_cons2 (t s : Tr) (r : List Tr) : jn (t :: s :: r) = t.tx ++ 32 :: jn (s :: r) := by
  simp [jn, Lib.join, List.intercalate, List.intersperse]
theorem evsT_jn : ∀ ts : List Tok, (∀ t ∈ ts, t.self) → evsT (jn (ts.map Tok.tr)) = (plc 0 ts).map .tok
  | [], _ => rfl
  | [t], h => by
    obtain ⟨h1, h2, _⟩ := h t (by simp)
    have e : jn ([t].map Tok.tr) = t.tx := by simp [jn, Lib.join, List.intercalate, Tok.tr]
    rw [e]
    obtain ⟨n, hn⟩ : ∃ n, t.tx.length = n + 1 := ⟨t.tx.length - 1, by omega⟩
    unfold evsT
    rw [hn]
    simp only [evs]
    rw [if_pos h2, h1]
    have : evs t.tx n t.tx.length = [] := by
      cases n with
      | zero => rfl
      | succ n => simp only [evs]; rw [if_neg (by omega)]
    simp only [this]; rfl
  | t :: s :: r, h => by
    have ih := evsT_jn (s :: r) (fun t ht => h t (List.mem_cons_of_mem _ ht))
    have hs := h t (by simp)
    have h1 := hs.1
    have h2 := hs.2.1
    have e : jn ((t :: s :: r).map Tok.tr) = t.tx ++ 32 :: jn ((s :: r).map Tok.tr) := by
      simp only [List.map_cons]; exact jn_cons2 _ _ _
    rw [e]
    generalize jn ((s :: r).map Tok.tr) = b at ih
    have hst : stepT (t.tx ++ 32 :: b) 0 = .tok { t with p := 0 } t.tx.length := by
      rw [stepT_left (.inr rfl) h2 (.inr (self_cls hs).2)]; exact h1
    have hl : (t.tx ++ 32 :: b).length = (t.tx.length + b.length) + 1 := by simp; omega
    obtain ⟨n, hn⟩ : ∃ n, t.tx.length = n + 1 := ⟨t.tx.length - 1, by omega⟩
    have e1 : evsT (t.tx ++ 32 :: b) = .tok { t with p := 0 } :: evs (t.tx ++ 32 :: b) ((n + b.length) + 1) t.tx.length := by
      unfold evsT
      rw [hl, hn]
      simp only [evs]
      rw [if_pos (by simp; omega), hst, hn]
      rw [show n + 1 + b.length = (n + b.length) + 1 by omega]
      rfl
    rw [e1, evs_white (by rfl) _ (by omega), ih]
    have e2 := plc_mv (t.tx.length + 1) 0 (s :: r)
    rw [Nat.add_zero] at e2
    have e3 : 0 + t.tx.length + 1 = t.tx.length + 1 := by omega
    show _ = Ev.tok { t with p := 0 } :: List.map Ev.tok (plc (0 + t.tx.length + 1) (s :: r))
    rw [e3, ← e2, List.map_map, List.map_map]
    rfl
theorem bad_map : ∀ ts : List Tok, bad (ts.map .tok) = false
  | [] => rfl
  | t :: r => bad_map r
theorem toks_map : ∀ ts : List Tok, toks (ts.map .tok) = ts
  | [] => rfl
  | t :: r => by simp only [List.map_cons, toks, toks_map r]
theorem evs_self : ∀ {n p : Nat} {t : Tok}, t ∈ toks (evs l n p) → t.self := by
  intro n p t h
  obtain ⟨a, q, _, h1, h2⟩ := evs_tok (mem_toks h)
  exact self_of h1 h2
/-- The bytes of tokens, with one behind each. -/
def wid : List Tok → Nat
  | [] => 0
  | t :: r => t.tx.length + 1 + wid r
theorem evs_wid : ∀ {n p : Nat}, p ≤ l.length → wid (toks (evs l n p)) ≤ 2 * (l.length - p)
  | 0, p, _ => by simp [evs, toks, wid]
  | n + 1, p, hp => by
    simp only [evs]
    split
    · rename_i hlt
      cases hs : stepT l p with
      | skip q => have := stepT_lt hlt hs; simp only; have := evs_wid (n := n) (p := q) (by omega); omega
      | tok t q =>
        have hq := mkq hs hlt
        have h1 := evs_wid (n := n) (p := q) (by omega)
        obtain ⟨g1, _⟩ := tok_facts hlt hs
        have hl : t.tx.length = q - p := by rw [g1, cut_len (by omega) (by omega)]
        simp only [toks, wid]; omega
      | flt e => simp [toks, wid]
    · simp [toks, wid]
theorem jn_wid : ∀ ts : List Tok, ts ≠ [] → (jn (ts.map Tok.tr)).length + 1 = wid ts
  | [], h => absurd rfl h
  | [t], _ => by simp [jn, Lib.join, List.intercalate, Tok.tr, wid]
  | t :: s :: r, _ => by
    have ih := jn_wid (s :: r) (by simp)
    have e : jn ((t :: s :: r).map Tok.tr) = t.tx ++ 32 :: jn ((s :: r).map Tok.tr) := by
      simp only [List.map_cons]; exact jn_cons2 _ _ _
    rw [e]
    simp only [List.length_append, List.length_cons]
    have : wid (t :: s :: r) = t.tx.length + 1 + wid (s :: r) := rfl
    omega
theorem jn_bound (ts : List Tok) : (jn (ts.map Tok.tr)).length ≤ wid ts := by
  by_cases h : ts = []
  · subst h; simp [jn, Lib.join, List.intercalate, wid]
  · have := jn_wid ts h; omega
theorem chkL_self : ∀ ts : List Tok, (∀ t ∈ ts, t.self) → chkL (ts.map Tok.tr) = 0
  | [], _ => rfl
  | t :: r, h => by
    simp only [List.map_cons, chkL]
    rw [if_pos (self_chk (h t (by simp)))]
    exact chkL_self r fun t ht => h t (List.mem_cons_of_mem _ ht)
theorem plc_len : ∀ (a : Nat) (ts : List Tok), (plc a ts).length = ts.length
  | _, [] => rfl
  | a, t :: r => by simp only [plc, List.length_cons, plc_len _ r]
/-- Tokens that have been found in a short text: what they are rendered to, what is found there. -/
theorem back {ts : List Tok} (hs : ∀ t ∈ ts, t.self) (hn : ts.length ≤ 5000) (hw : wid ts ≤ 20000) : rndG (ts.map Tok.tr) = (jn (ts.map Tok.tr), 0) ∧ scanG (jn (ts.map Tok.tr)) = (plc 0 ts, 0, 0) := by
  have hb := jn_bound ts
  constructor
  · unfold rndG
    rw [if_neg (by simp; omega), if_neg (by simp [chkL_self ts hs]), if_neg (by omega)]
  · rw [scan_short2 (by omega) (by rw [evsT_jn ts hs, toks_map, plc_len]; omega), evsT_jn ts hs, bad_map, toks_map]; rfl
theorem plc_tx : ∀ (a : Nat) (ts : List Tok), (plc a ts).map Tok.tr = [] ↔ ts = []
  | _, [] => by simp [plc]
  | a, t :: r => by simp [plc]
theorem plc_jn : ∀ (a : Nat) (ts : List Tok), (plc a ts).map (fun t => t.tx) = ts.map (fun t => t.tx)
  | _, [] => rfl
  | a, t :: r => by simp only [plc, List.map_cons, plc_jn _ r]
theorem jn_plc (a : Nat) (ts : List Tok) : jn ((plc a ts).map Tok.tr) = jn (ts.map Tok.tr) := by
  unfold jn
  simp only [List.map_map]
  exact congrArg (fun x => Lib.join x [32]) (plc_jn a ts)
theorem plc_self : ∀ (a : Nat) (ts : List Tok), (∀ t ∈ ts, t.self) → ∀ t ∈ plc a ts, t.self
  | _, [], _, t, h => by simp [plc] at h
  | a, s :: r, hs, t, h => by
    rcases List.mem_cons.1 h with rfl | h
    · exact hs s (by simp)
    · exact plc_self _ r (fun t ht => hs t (List.mem_cons_of_mem _ ht)) t h
theorem plc_wid : ∀ (a : Nat) (ts : List Tok), wid (plc a ts) = wid ts
  | _, [] => rfl
  | a, t :: r => by simp only [plc, wid, plc_wid _ r]
end
end Go.Proofs.YtjbhokoihamhiaaDoor
/- T39 -/
namespace Go.Proofs.YtjbhokoihamhiaaDoor
open Go.Ab
def semi (p : Nat) : Tok := ⟨3, [59], 0, p⟩
theorem cAt_semi {n : Nat} (h : 0 < n) : cAt (List.replicate n 59) (n - 1) = 4 := by
  unfold cAt
  rw [List.getD_eq_getElem?_getD, List.getElem?_replicate, if_pos (by omega)]
  rfl
theorem semi_step (p : Nat) (r : List UInt8) : stepT (List.replicate p 59 ++ 59 :: r) p = .tok (semi p) (p + 1) := by
  have h0 : stepT (59 :: r) 0 = .tok (semi 0) 1 := by
    have hse : signE (59 :: r) 0 = 1 := by
      unfold signE
      have : isDbl ((59 :: r).drop 0) = false := by simp [isDbl, dbls, List.isPrefixOf]
      rw [this]; simp
    have hs : stepT (59 :: r) 0 = mkStp (59 :: r) 0 3 (signE (59 :: r) 0) := by
      have hc : cAt (59 :: r) 0 = 4 := rfl
      unfold stepT; rw [hc]; simp
    rw [hs, hse]
    unfold mkStp
    have hc : cut (59 :: r) 0 1 = [59] := by simp [cut]
    rw [hc]
    have hw : whE (59 :: r) 3 [59] 0 = (0, 0) := by simp [whE]
    rw [hw]; rfl
  have h1 := stepT_app (a := List.replicate p 59) (b := 59 :: r) (p := 0) (fun _ => by
    by_cases hp : p = 0
    · exact .inl (by subst hp; rfl)
    · refine .inr ?_
      rw [List.length_replicate, cAt_semi (by omega)]; decide)
  rw [List.length_replicate, Nat.add_zero, h0] at h1
  rw [h1]; rfl
theorem semis (r : List UInt8) (m : Nat) : ∀ k p : Nat, evs (List.replicate (p + k) 59 ++ r) (k + m) p = (List.range' p k).map (fun i => Ev.tok (semi i)) ++ evs (List.replicate (p + k) 59 ++ r) m (p + k)
  | 0, p => by simp
  | k + 1, p => by
    have e : List.replicate (p + (k + 1)) (59 : UInt8) ++ r = List.replicate p 59 ++ 59 :: (List.replicate k 59 ++ r) := by
      rw [← List.replicate_append_replicate, List.append_assoc, List.replicate_succ]; rfl
    have hs := semi_step p (List.replicate k 59 ++ r)
    rw [← e] at hs
    have h1 : evs (List.replicate (p + (k + 1)) 59 ++ r) (k + 1 + m) p = .tok (semi p) :: evs (List.replicate (p + (k + 1)) 59 ++ r) (k + m) (p + 1) := by
      rw [show k + 1 + m = (k + m) + 1 by omega]
      simp only [evs]
      rw [if_pos (by simp; omega), hs]
    have ih := semis r m k (p + 1)
    rw [show p + 1 + k = p + (k + 1) by omega] at ih
    rw [h1, ih, List.range'_succ]
    rfl
theorem fltE_semis (r : List Ev) : ∀ (k p : Nat), p + k ≤ 5000 → fltE p ((List.range' p k).map (fun i => Ev.tok (semi i)) ++ r) = fltE (p + k) r
  | 0, p, _ => rfl
  | k + 1, p, h => by
    rw [List.range'_succ]
    simp only [List.map_cons, List.cons_append, fltE]
    rw [if_neg (by omega), fltE_semis r k (p + 1) (by omega), show p + 1 + k = p + (k + 1) by omega]
theorem scan_many {n : Nat} (hn : n = 5000) (c : UInt8) (e : Int) (he : e ≠ 0) (h : fltE n (evs (List.replicate n 59 ++ [c]) 1 n) = (e, (n : Int))) : scanG (List.replicate n 59 ++ [c]) = ([], e, (n : Int)) := by
  have h1 := semis [c] 1 n 0
  have h2 := fltE_semis (evs (List.replicate n 59 ++ [c]) 1 n) n 0 (by omega)
  simp only [Nat.zero_add] at h1 h2
  have hl : (List.replicate n (59 : UInt8) ++ [c]).length = n + 1 := by simp
  have h3 : evsT (List.replicate n 59 ++ [c]) = (List.range' 0 n).map (fun i => Ev.tok (semi i)) ++ evs (List.replicate n 59 ++ [c]) 1 n := by
    unfold evsT; rw [hl]; exact h1
  have h4 : fltE 0 (evsT (List.replicate n 59 ++ [c])) = (e, (n : Int)) := by rw [h3, h2]; exact h
  unfold scanG
  rw [if_neg (by rw [hl]; omega), h4, if_neg he]
theorem many1 {n : Nat} (hn : n = 5000) : scanG (List.replicate n 59 ++ [59]) = ([], 12, (n : Int)) := by
  refine scan_many hn 59 12 (by decide) ?_
  have hs := semi_step n []
  have hl : n < (List.replicate n (59 : UInt8) ++ [59]).length := by simp
  simp only [evs]
  rw [if_pos hl, hs]
  simp only [fltE]
  rw [if_pos hn]; rfl
theorem many2 {n : Nat} (hn : n = 5000) : scanG (List.replicate n 59 ++ [33]) = ([], 11, (n : Int)) := by
  refine scan_many hn 33 11 (by decide) ?_
  have h0 : stepT [33] 0 = .flt 11 := by kernel_rfl
  have h1 := stepT_app (a := List.replicate n 59) (b := [33]) (p := 0) (fun _ => .inr (by rw [List.length_replicate, cAt_semi (by omega)]; decide))
  have hl : n < (List.replicate n (59 : UInt8) ++ [33]).length := by simp
  rw [List.length_replicate, Nat.add_zero, h0] at h1
  simp only [evs]
  rw [if_pos hl, h1]; rfl
theorem many3 (l : List UInt8) (h : 20000 < l.length) : scanG l = ([], 4, 20000) := by unfold scanG; rw [if_pos h]
def kd (ts : List Tok) : List Int := ts.flatMap fun t => [t.k, (t.p : Int)]
theorem kd_len (ts : List Tok) : (kd ts).length = 2 * ts.length := by
  induction ts with
  | nil => rfl
  | cons t r ih => simp only [kd, List.flatMap_cons, List.length_append, List.length_cons, List.length_nil] at ih ⊢; omega
theorem kd_at : ∀ {ts : List Tok} {i : Nat} (h : i < ts.length), (kd ts)[2 * i]? = some ts[i].k ∧ (kd ts)[2 * i + 1]? = some (ts[i].p : Int)
  | [], i, h => by simp at h
  | t :: r, 0, _ => by simp [kd]
  | t :: r, i + 1, h => by
    have := kd_at (ts := r) (i := i) (by simpa using h)
    have e : kd (t :: r) = t.k :: (t.p : Int) :: kd r := rfl
    rw [e]
    simpa [Nat.mul_add] using this
section
variable {H : List AO} {l : List UInt8}
theorem ok23 (hl : l.length < 4611686018427387904) {e p : Int} (hs : scanG l = ([], e, p)) : Ok Tryd.prog 23 [st (B l), i64 e, i64 p] H (.ret (bl true)) H := by
  refine ok_fn hm Tryd.func23 c23 (by simp) fun hcl => ?_
  have h15 := fun H => ok15 (H := H) hl
  rw [hs] at h15
  simp -implicitDefEqProofs [i23, r23]
  refine call_go (h15 _) ?_
  simp -implicitDefEqProofs [fltV, tksV]
  exact cv_fz 2 hcl rfl (by simp)
theorem loop22 {ts : List Tok} {x : SV} (hx : IsI H x (kd ts)) (hs : ts.length < 4611686018427387) {N : Nat} {K : XE → Env → List AO → Prop} (hexit : ∀ env, K (.exit 0) env H) :
    ∀ (k i : Nat) (env : Env), i + k = ts.length → env.get 1 = x → env.get 5 = tksV ts → env.get 7 = i64 i → LI Tryd.prog N drawB l22_0 env H K := by
  intro k
  induction k with
  | zero =>
    intro i env hi h1 h5 h7
    refine li_go hm l22_0.eq_1 ?_
    have e : i = ts.length := by omega
    subst e
    simp -implicitDefEqProofs [h1, h5, h7, tksV]
    exact hexit _
  | succ k ih =>
    intro i env hi h1 h5 h7
    refine li_go hm l22_0.eq_1 ?_
    have h3 : i < ts.length := by omega
    obtain ⟨k1, k2⟩ := kd_at h3
    have hkl := kd_len ts
    have d2 := tk_drop ts h3
    have w2 : IntKind.i64.wrap (2 * (i : Int)) = 2 * (i : Int) := wrap_id (by omega) (by omega)
    have w3 : IntKind.i64.wrap (2 * (i : Int) + 1) = 2 * (i : Int) + 1 := wrap_id (by omega) (by omega)
    have t2 : (2 * (i : Int)).toNat = 2 * i := by omega
    have t3 : (2 * (i : Int) + 1).toNat = 2 * i + 1 := by omega
    have l1 : 2 * i < (kd ts).length := by omega
    have l2 : 2 * i + 1 < (kd ts).length := by omega
    have v1 : ldv H (.ptr x (2 * i)) = i64 ts[i].k := by rw [hx.v l1]; rw [List.getElem?_eq_getElem l1] at k1; rw [Option.some.inj k1]
    have v2 : ldv H (.ptr x (2 * i + 1)) = i64 ts[i].p := by rw [hx.v l2]; rw [List.getElem?_eq_getElem l2] at k2; rw [Option.some.inj k2]
    have o1 := hx.ok l1
    have o2 := hx.ok l2
    have a0 : (ts.flatMap Tok.c)[i * 4]? = some (i64 ts[i].k) := by
      have h2 := congrArg (fun l : List SV => l[0]?) d2
      simp only [List.getElem?_take, List.getElem?_drop] at h2
      simpa [Tok.c] using h2
    have a0' : ∀ h : i * 4 < (ts.flatMap Tok.c).length, (ts.flatMap Tok.c)[i * 4]'h = i64 ts[i].k := fun h => by rw [List.getElem?_eq_getElem h] at a0; exact Option.some.inj a0
    have a3 : (ts.flatMap Tok.c)[i * 4 + 3]? = some (i64 ts[i].p) := by
      have h2 := congrArg (fun l : List SV => l[3]?) d2
      simp only [List.getElem?_take, List.getElem?_drop] at h2
      simpa [Tok.c] using h2
    have e4 : ∀ l : List Tok, (List.map (fun a => a.c.length) l).sum = l.length * 4 := by
      intro l
      have : (fun a : Tok => a.c.length) = fun _ => 4 := by funext a; rfl
      rw [this, sum4]
    have w1 := wrap_suc (show i < 9223372036854775807 by omega)
    simp -implicitDefEqProofs [h1, h5, h7, tksV, h3, w2, w3, t2, t3, v1, v2, o1, o2, a0, a0', a3, e4, hx.vd, hx.ug, hx.sl, hx.len]
    refine ⟨by omega, by omega, by omega, by omega, ?_⟩
    exact ih (i + 1) _ (by omega) (by simp [h1]) (by simp [h5, tksV]) (by simp [w1])
theorem ok22 (hl : l.length < 4611686018427387) {ts : List Tok} (hs : scanG l = (ts, 0, 0)) {x : SV} (hx : IsI H x (kd ts)) : Ok Tryd.prog 22 [st (B l), x] H (.ret (bl true)) H := by
  refine ok_fn hm Tryd.func22 c22 (by simp [hx.cell]) fun hcl => ?_
  have h15 := fun H => ok15 (H := H) (l := l) (by omega)
  have hlen := scan_len (l := l)
  rw [hs] at h15 hlen
  have hkl := kd_len ts
  have e2 : (2 * (ts.length : Int)) = ((kd ts).length : Int) := by omega
  have w2 : IntKind.i64.wrap ((kd ts).length : Int) = ((kd ts).length : Int) := wrap_id (by omega) (by simp at hlen; omega)
  simp -implicitDefEqProofs [i22, r22]
  refine call_go (h15 _) ?_
  simp -implicitDefEqProofs [fltV, tksV, w2, hx.vd, hx.ug, hx.sl, hx.len, e2]
  refine loop22 (hx.app _) (by simp at hlen; omega) (fun env => ?_) ts.length 0 _ (by omega) (by simp) (by simp [tksV]) (by simp)
  simp -implicitDefEqProofs
  exact cv_fz 2 hcl rfl (by simp)
end
end Go.Proofs.YtjbhokoihamhiaaDoor
/- T40 -/
namespace Go.Proofs.YtjbhokoihamhiaaDoor
open Go.Ab
theorem rep_suc (c : UInt8) (i : Nat) : List.replicate i c ++ [c] = List.replicate (i + 1) c := by
  rw [List.replicate_succ']
theorem loop6_0 {N : Nat} {K : XE → Env → List AO → Prop} (hexit : ∀ env, env.get 1 = st (B (List.replicate 40 97)) → K (.exit 0) env []) :
    ∀ (k i : Nat) (env : Env), i + k = 40 → env.get 1 = st (B (List.replicate i 97)) → env.get 2 = i64 i → LI Tryd.prog N drawB l6_0 env [] K := by
  intro k
  induction k with
  | zero =>
    intro i env hi h1 h2
    refine li_go hm l6_0.eq_1 ?_
    have e : i = 40 := by omega
    subst e
    simp -implicitDefEqProofs [h1, h2]
    exact hexit _ (by simp [h1])
  | succ k ih =>
    intro i env hi h1 h2
    refine li_go hm l6_0.eq_1 ?_
    have h3 : (i : Int) < 40 := by omega
    simp -implicitDefEqProofs [h1, h2, h3]
    refine ⟨by omega, ?_⟩
    exact ih (i + 1) _ (by omega) (by simp [rep_suc]) (by simp [wrap_suc (show i < 9223372036854775807 by omega)])
theorem loop6_1 {n : Nat} (hn : n = 5000) {N : Nat} {K : XE → Env → List AO → Prop} {w : SV} (hexit : ∀ env, env.get 1 = w → env.get 3 = st (B (List.replicate n 59)) → K (.exit 2) env []) :
    ∀ (k i : Nat) (env : Env), i + k = n → env.get 1 = w → env.get 3 = st (B (List.replicate i 59)) → env.get 4 = i64 i → LI Tryd.prog N drawB l6_1 env [] K := by
  intro k
  induction k with
  | zero =>
    intro i env hi h1 h3 h4
    refine li_go hm l6_1.eq_1 ?_
    have e : i = n := by omega
    subst e
    have h5 : ¬ (i : Int) < 5000 := by omega
    simp -implicitDefEqProofs [h1, h3, h4, h5]
    exact hexit _ (by simp [h1]) (by simp [h3])
  | succ k ih =>
    intro i env hi h1 h3 h4
    refine li_go hm l6_1.eq_1 ?_
    have h5 : (i : Int) < 5000 := by omega
    simp -implicitDefEqProofs [h1, h3, h4, h5]
    refine ⟨by omega, ?_⟩
    exact ih (i + 1) _ (by omega) (by simp [h1]) (by simp [rep_suc]) (by simp [wrap_suc (show i < 9223372036854775807 by omega)])
def k1 : List Tok := [⟨1, [120], 0, 0⟩, ⟨3, [60, 61], 0, 1⟩, ⟨2, [49], 1, 3⟩, ⟨3, [46, 46], 0, 4⟩, ⟨2, [50], 2, 6⟩]
def k2 : List Tok := [⟨3, [60], 0, 0⟩, ⟨3, [61], 0, 2⟩]
def k3 : List Tok := [⟨1, [97], 0, 0⟩]
def k5 : List Tok := [⟨1, List.replicate 40 97, 0, 0⟩]
def k6 : List Tok := [⟨2, [49, 48, 48, 48, 48, 48, 48, 48, 48, 48], 1000000000, 0⟩]
theorem s1 : scanG [120, 60, 61, 49, 46, 46, 50] = (k1, 0, 0) := by kernel_rfl
theorem s2 : scanG [60, 32, 61] = (k2, 0, 0) := by kernel_rfl
theorem s3 : scanG [97, 32, 35, 32, 98] = (k3, 0, 0) := by kernel_rfl
theorem s4 : scanG [] = ([], 0, 0) := by kernel_rfl
theorem s5 : scanG (List.replicate 40 97) = (k5, 0, 0) := by kernel_rfl
theorem s6 : scanG [49, 48, 48, 48, 48, 48, 48, 48, 48, 48] = (k6, 0, 0) := by kernel_rfl
theorem f1 : scanG [49, 97] = ([], 11, 1) := by kernel_rfl
theorem f2 : scanG [48, 48, 55] = ([], 3, 0) := by kernel_rfl
theorem f3 : scanG [49, 48, 48, 48, 48, 48, 48, 48, 48, 49] = ([], 2, 0) := by kernel_rfl
theorem f4 : scanG [97, 32, 46, 32, 98] = ([], 11, 2) := by kernel_rfl
theorem f5 : scanG [97, 33] = ([], 11, 1) := by kernel_rfl
theorem f6 : scanG (List.replicate 40 97 ++ [97]) = ([], 4, 0) := by kernel_rfl
theorem e1 : chkT 1 [49, 97] 0 = 3 := by kernel_rfl
theorem e2 : chkT 2 [53] 6 = 2 := by kernel_rfl
theorem e3 : chkT 3 [61, 61] 0 = 0 := by kernel_rfl
theorem e4 : chkT 4 [97] 0 = 3 := by kernel_rfl
theorem t1 : strG [97, 49, 61, 50, 48, 59, 35, 120] = ([97, 49, 32, 61, 32, 50, 48, 32, 59], 0, 0) := by kernel_rfl
theorem t2 : strG [49, 97] = ([], 11, 1) := by kernel_rfl
theorem p1 : placeG [97, 98, 10, 99] 3 = (2, 1, 0) := by kernel_rfl
theorem p2 : placeG [97, 98] 2 = (1, 3, 0) := by kernel_rfl
theorem p3 : placeG [97, 98] 3 = (0, 0, 2) := by kernel_rfl
theorem isI_nil {H : List AO} : IsI H (.val (.slice none 0 0)) [] := ⟨rfl, rfl, rfl, rfl, rfl, rfl, rfl, rfl, rfl⟩
theorem isI_at {H : List AO} (k : Nat) {l : List Int} {n : Nat} {T : TypeId} (h : H[k]? = some ⟨ints l, T, 0, true⟩) (hn : n = l.length) : IsI H (.own k 0 n 1 0) l := by
  have := IsI.whole (H := []) (L := H) (k := k) h hn
  simpa using this
set_option maxRecDepth 100000 in
theorem known6 : Ok Tryd.prog 6 [] [] (.ret (bl true)) [] := by
  refine ok_fn hm Tryd.func6 c6 (by simp) fun hcl => ?_
  simp -implicitDefEqProofs [i6, r6]
  refine loop6_0 (fun env g1 => ?_) 40 0 _ rfl (by simp) (by simp)
  simp -implicitDefEqProofs [g1]
  obtain ⟨n, hn⟩ : ∃ n : Nat, n = 5000 := ⟨_, rfl⟩
  refine loop6_1 (n := n) (w := st (B (List.replicate 40 97))) hn (fun env h1 h3 => ?_) n 0 _ (by omega) (by simp [g1]) (by simp) (by simp)
  simp -implicitDefEqProofs [h1, h3]
  have g22 := fun (H : List AO) (l : List UInt8) (ts : List Tok) (x : SV) (hs : scanG l = (ts, 0, 0)) (hl : l.length < 4611686018427387) (hx : IsI H x (kd ts)) => ok22 (H := H) hl hs hx
  refine call_go (g22 _ _ k1 _ s1 (by decide) (isI_at 0 rfl rfl)) ?_
  simp -implicitDefEqProofs [h1, h3]
  refine callq_st (r := bl true) (fun _ => g22 _ _ k2 _ s2 (by decide) (isI_at 1 rfl rfl)) ?_
  simp -implicitDefEqProofs [h1, h3]
  refine callq_st (r := bl true) (fun _ => g22 _ _ k3 _ s3 (by decide) (isI_at 2 rfl rfl)) ?_
  simp -implicitDefEqProofs [h1, h3]
  refine callq_st (r := bl true) (fun _ => g22 _ _ [] _ s4 (by decide) isI_nil) ?_
  simp -implicitDefEqProofs [h1, h3]
  refine callq_st (r := bl true) (fun _ => g22 _ _ k5 _ s5 (by decide) (isI_at 3 rfl rfl)) ?_
  simp -implicitDefEqProofs [h1, h3]
  refine callq_st (r := bl true) (fun _ => g22 _ _ k6 _ s6 (by decide) (isI_at 4 rfl rfl)) ?_
  simp -implicitDefEqProofs [h1, h3]
  have g23 := fun (H : List AO) (l : List UInt8) (e p : Int) (hs : scanG l = ([], e, p)) (hl : l.length < 4611686018427387904) => ok23 (H := H) hl hs
  have m1 : scanG (List.replicate n 59 ++ [59]) = ([], 12, 5000) := by rw [many1 hn]; simp [hn]
  have m2 : scanG (List.replicate n 59 ++ [33]) = ([], 11, 5000) := by rw [many2 hn]; simp [hn]
  have m3 := many3 (List.replicate (n + n + n + n) 59 ++ [32]) (by simp; omega)
  refine call_go (g23 _ _ _ _ f1 (by decide)) ?_
  simp -implicitDefEqProofs [h1, h3]
  refine callq_st (r := bl true) (fun _ => g23 _ _ _ _ f2 (by decide)) ?_
  simp -implicitDefEqProofs [h1, h3]
  refine callq_st (r := bl true) (fun _ => g23 _ _ _ _ f3 (by decide)) ?_
  simp -implicitDefEqProofs [h1, h3]
  refine callq_st (r := bl true) (fun _ => g23 _ _ _ _ f4 (by decide)) ?_
  simp -implicitDefEqProofs [h1, h3]
  refine callq_st (r := bl true) (fun _ => g23 _ _ _ _ f5 (by decide)) ?_
  simp -implicitDefEqProofs [h1, h3]
  refine callq_st (r := bl true) (fun _ => g23 _ _ _ _ f6 (by decide)) ?_
  simp -implicitDefEqProofs [h1, h3]
  refine ⟨by omega, ?_⟩
  refine callq_st (r := bl true) (fun _ => g23 _ _ _ _ m1 (by simp; omega)) ?_
  simp -implicitDefEqProofs [h1, h3]
  refine ⟨by omega, ?_⟩
  refine callq_st (r := bl true) (fun _ => g23 _ _ _ _ m2 (by simp; omega)) ?_
  simp -implicitDefEqProofs [h1, h3]
  refine ⟨by omega, by omega, by omega, by omega, ?_⟩
  refine callq_st (r := bl true) (fun _ => g23 _ _ _ _ m3 (by simp; omega)) ?_
  simp -implicitDefEqProofs [h1, h3]
  have g11 := fun (H : List AO) (k n e : Int) (l : List UInt8) (hs : chkT k l n = e) (hl : l.length < 4611686018427387904) => hs ▸ ok11 (H := H) hl k n (i64 0) rfl
  refine call_go (g11 _ 1 0 3 [49, 97] e1 (by decide)) ?_
  simp -implicitDefEqProofs [h1, h3]
  refine callq_st (r := i64 2) (fun _ => g11 _ 2 6 2 [53] e2 (by decide)) ?_
  simp -implicitDefEqProofs [h1, h3]
  refine callq_st (r := i64 0) (fun _ => g11 _ 3 0 0 [61, 61] e3 (by decide)) ?_
  simp -implicitDefEqProofs [h1, h3]
  refine callq_st (r := i64 3) (fun _ => g11 _ 4 0 3 [97] e4 (by decide)) ?_
  simp -implicitDefEqProofs [h1, h3]
  have g17 := fun (H : List AO) (l : List UInt8) (r : List UInt8 × Int × Int) (hs : strG l = r) (hl : l.length < 4611686018427387904) => hs ▸ ok17 (H := H) hl
  refine call_go (g17 _ _ _ t1 (by decide)) ?_
  simp -implicitDefEqProofs [strV, fltV]
  refine call_go (g17 _ _ _ t2 (by decide)) ?_
  simp -implicitDefEqProofs [strV, fltV]
  have g20 := fun (H : List AO) (l : List UInt8) (p : Int) (r : Int × Int × Int) (hs : placeG l p = r) (hl : l.length < 4611686018427387904) => hs ▸ ok20 (H := H) hl p
  refine call_go (g20 _ _ _ _ p1 (by decide)) ?_
  simp -implicitDefEqProofs [plV]
  refine call_go (g20 _ _ _ _ p2 (by decide)) ?_
  simp -implicitDefEqProofs [plV]
  refine call_go (g20 _ _ _ _ p3 (by decide)) ?_
  simp -implicitDefEqProofs [plV]
  refine call_go awake_ok ?_
  simp -implicitDefEqProofs
  exact cv_fz 1 hcl rfl (by simp)
end Go.Proofs.YtjbhokoihamhiaaDoor
/- T41 -/
namespace Go.Proofs.YtjbhokoihamhiaaDoor
open Go.Ab
section
variable {a b : List UInt8}
theorem join_len (ha : a.length ≤ 1500) (hb : b.length ≤ 1500) : (a ++ 10 :: b).length ≤ 5000 := by simp; omega
theorem scan_bad {l : List UInt8} (h : l.length ≤ 5000) (hb : bad (evsT l) = true) : (scanG l).2.1 ≠ 0 := by
  rw [scan_short h, hb]
  exact frst_bad (fun e p h => evs_flt l.length 0 h) hb
theorem scan_good {l : List UInt8} (h : l.length ≤ 5000) (hb : bad (evsT l) = false) : scanG l = (toks (evsT l), 0, 0) := by
  rw [scan_short h, hb]; rfl
theorem join_bad1 (ha : a.length ≤ 1500) (hb : b.length ≤ 1500) (h : bad (evsT a) = true) : scanG (a ++ 10 :: b) = scanG a := by
  rw [scan_short (join_len ha hb), scan_short (by omega), evsT_join, h]
  simp only [cond_true, List.append_nil]
  rw [h]; rfl
theorem join_bad2 (ha : a.length ≤ 1500) (hb : b.length ≤ 1500) (h : bad (evsT a) = false) (h2 : bad (evsT b) = true) : scanG (a ++ 10 :: b) = ([], (scanG b).2.1, (scanG b).2.2 + (a.length : Int) + 1) := by
  rw [scan_short (join_len ha hb), scan_short (show b.length ≤ 5000 by omega), evsT_join, h, h2]
  simp only [cond_false, cond_true]
  rw [bad_app, bad_mv, h, h2, frst_app, h]
  simp only [Bool.or_true, cond_true, cond_false]
  rw [frst_mv _ _ h2]
  simp [Int.add_assoc]
theorem join_good (ha : a.length ≤ 1500) (hb : b.length ≤ 1500) (h : bad (evsT a) = false) (h2 : bad (evsT b) = false) : scanG (a ++ 10 :: b) = ((scanG a).1 ++ (scanG b).1.map (Tok.mv · (a.length + 1)), 0, 0) := by
  rw [scan_good (join_len ha hb) (by rw [evsT_join, h, bad_app, h]; simp [bad_mv, h2]), scan_good (by omega) h, scan_good (by omega) h2, evsT_join, h]
  simp only [cond_false]
  rw [toks_app, toks_mv]
theorem fst_at {l : List UInt8} {e p : Int} (h : (scanG l).2 = (e, p)) (hl : l.length < 9223372036854775000) (hb : l.length ≤ 5000) : 0 ≤ p ∧ p ≤ l.length := by
  have key : ∀ {n q : Nat}, q ≤ l.length → 0 ≤ (frst (evs l n q)).2 ∧ (frst (evs l n q)).2 ≤ l.length := by
    intro n
    induction n with
    | zero => intro q hq; simp [evs, frst]
    | succ n ih =>
      intro q hq
      simp only [evs]
      split
      · rename_i hlt
        cases hs : stepT l q with
        | skip r => have := stepT_lt hlt hs; exact ih (by omega)
        | tok t r => have := mkq hs hlt; exact ih (by omega)
        | flt e => simp [frst]; omega
      · simp [frst]
  rw [scan_short hb] at h
  cases hbd : bad (evsT l) with
  | true =>
    rw [hbd] at h
    have := key (n := l.length) (q := 0) (by omega)
    have e2 : frst (evsT l) = (e, p) := h
    have : (frst (evsT l)).2 = p := by rw [e2]
    rw [← this]; assumption
  | false => rw [hbd] at h; cases h; omega
def fo (x : Int × Int) : AO := ⟨[i64 x.1, i64 x.2], 32, 0, true⟩
theorem loop8 {ta tb tc : List Tok} (hc : tc = ta ++ tb.map (Tok.mv · (a.length + 1))) (hal : a.length ≤ 1500) (hta : ta.length ≤ 1500) (htb : tb.length ≤ 1500) (hp : ∀ t ∈ tb, t.p ≤ 1500) {N : Nat} {K : XE → Env → List AO → Prop} {H0 : List AO}
    (hexit : ∀ env L, env.get 5 = bl true → K (.exit 0) env (H0 ++ L)) :
    ∀ (k i : Nat) (env : Env) (L : List AO), i + k = tc.length → env.get 0 = st (B a) → env.get 5 = bl true → env.get 6 = tksV ta → env.get 8 = tksV tb → env.get 10 = tksV tc → env.get 12 = i64 i → LI Tryd.prog N drawB l8_0 env (H0 ++ L) K := by
  intro k
  induction k with
  | zero =>
    intro i env L hi h0 h5 h6 h8 h10 h12
    refine li_go hm l8_0.eq_1 ?_
    have e : i = tc.length := by omega
    subst e
    simp -implicitDefEqProofs [h0, h5, h6, h8, h10, h12, tksV]
    exact hexit _ _ (by simp [h5])
  | succ k ih =>
    intro i env L hi h0 h5 h6 h8 h10 h12
    refine li_go hm l8_0.eq_1 ?_
    have hlt : i < tc.length := by omega
    have hcl : tc.length = ta.length + tb.length := by rw [hc]; simp
    have w1 := wrap_suc (show i < 9223372036854775807 by omega)
    have dc := tk_drop tc hlt
    have e4 : ∀ l : List Tok, (List.map (fun a => a.c.length) l).sum = l.length * 4 := by
      intro l
      have : (fun a : Tok => a.c.length) = fun _ => 4 := by funext a; rfl
      rw [this, sum4]
    by_cases hia : i < ta.length
    · have hia' : (i : Int) < ta.length := by omega
      have da := tk_drop ta hia
      have he : tc[i] = ta[i] := by simp only [hc]; rw [List.getElem_append_left hia]
      rw [he] at dc
      generalize ta[i] = t at da dc
      have hcc : t.c = [i64 t.k, st (B t.tx), i64 t.n, i64 t.p] := rfl
      simp -implicitDefEqProofs [h0, h5, h6, h8, h10, h12, tksV, hlt, hia, hia', e4, da, dc, hcc]
      exact ⟨by omega, by omega, ih (i + 1) _ _ (by omega) (by simp) (by simp) (by simp [tksV]) (by simp [tksV]) (by simp [tksV]) (by simp [w1])⟩
    · have hia' : ¬ (i : Int) < ta.length := by omega
      have hib : i - ta.length < tb.length := by omega
      have db := tk_drop tb hib
      have hpt := hp tb[i - ta.length] (List.getElem_mem hib)
      have he : tc[i] = tb[i - ta.length].mv (a.length + 1) := by simp only [hc]; rw [List.getElem_append_right (by omega), List.getElem_map]
      rw [he] at dc
      have ws : IntKind.i64.wrap ((i : Int) - (ta.length : Int)) = ((i - ta.length : Nat) : Int) := by rw [wrap_id (by omega) (by omega)]; omega
      generalize tb[i - ta.length] = t at db dc hpt
      have hcc : t.c = [i64 t.k, st (B t.tx), i64 t.n, i64 t.p] := rfl
      have hcm : (t.mv (a.length + 1)).c = [i64 t.k, st (B t.tx), i64 t.n, i64 ((a.length + 1 + t.p : Nat) : Int)] := rfl
      have wa : IntKind.i64.wrap ((t.p : Int) + (a.length : Int)) = (t.p : Int) + (a.length : Int) := wrap_id (by omega) (by omega)
      have wb : IntKind.i64.wrap ((t.p : Int) + (a.length : Int) + 1) = ((a.length + 1 + t.p : Nat) : Int) := by rw [wrap_id (by omega) (by omega)]; omega
      simp -implicitDefEqProofs [h0, h5, h6, h8, h10, h12, tksV, hlt, hia, hia', e4, db, dc, hcc, hcm, ws, wa, wb]
      exact ⟨by omega, by omega, by omega, ih (i + 1) _ _ (by omega) (by simp) (by simp) (by simp [tksV]) (by simp [tksV]) (by simp [tksV]) (by simp [w1])⟩
theorem scan_p {l : List UInt8} {t : Tok} (h : t ∈ (scanG l).1) : t.p < l.length := by
  obtain ⟨a, q, h1, h2⟩ := scan_mem h
  rw [stepT_p h2]; exact h1
theorem law8 : Ok Tryd.prog 8 [st (B a), st (B b)] [] (.ret (bl true)) [] := by
  refine ok_fn hm Tryd.func8 c8 (by simp) fun hcl => ?_
  by_cases hla : 1500 < a.length
  · have hla' : (1500 : Int) < a.length := by omega
    simp -implicitDefEqProofs [i8, r8]
    refine call_go known6 ?_
    simp -implicitDefEqProofs [hla']
    exact cv_fz 1 hcl rfl (by simp)
  have hla' : ¬ (1500 : Int) < a.length := by omega
  by_cases hlb : 1500 < b.length
  · have hlb' : (1500 : Int) < b.length := by omega
    simp -implicitDefEqProofs [i8, r8]
    refine call_go known6 ?_
    simp -implicitDefEqProofs [hla', hlb']
    exact cv_fz 1 hcl rfl (by simp)
  have hlb' : ¬ (1500 : Int) < b.length := by omega
  have A := fun H => ok15 (H := H) (l := a) (by omega)
  have Bb := fun H => ok15 (H := H) (l := b) (by omega)
  have C := fun H => ok15 (H := H) (l := a ++ 10 :: b) (by simp; omega)
  cases hba : bad (evsT a) with
  | true =>
    have hne := scan_bad (by omega) hba
    rw [join_bad1 (by omega) (by omega) hba] at C
    generalize scanG a = g at *
    generalize scanG b = g2 at *
    simp -implicitDefEqProofs [i8, r8]
    refine call_go known6 ?_
    simp -implicitDefEqProofs [hla', hlb']
    refine call_go (A _) ?_
    simp -implicitDefEqProofs [fltV]
    refine call_go (Bb _) ?_
    simp -implicitDefEqProofs [fltV]
    refine ⟨by omega, by omega, ?_⟩
    refine call_go (C _) ?_
    simp -implicitDefEqProofs [fltV, hne]
    exact cv_fz 1 hcl rfl (by simp)
  | false =>
    have ga := scan_good (show a.length ≤ 5000 by omega) hba
    have hpa : ∀ t ∈ (scanG a).1, t.p < a.length := fun t => scan_p
    have hpb : ∀ t ∈ (scanG b).1, t.p < b.length := fun t => scan_p
    have hna := scan_len (l := a)
    have hnb := scan_len (l := b)
    rw [ga] at A hna
    cases hbb : bad (evsT b) with
    | true =>
      have hne := scan_bad (by omega) hbb
      have hrng := fst_at (l := b) (e := (scanG b).2.1) (p := (scanG b).2.2) rfl (by omega) (by omega)
      rw [join_bad2 (by omega) (by omega) hba hbb] at C
      generalize scanG b = g2 at *
      have w1 : IntKind.i64.wrap (g2.2.2 + (a.length : Int)) = g2.2.2 + (a.length : Int) := wrap_id (by omega) (by omega)
      have w2 : IntKind.i64.wrap (g2.2.2 + (a.length : Int) + 1) = g2.2.2 + (a.length : Int) + 1 := wrap_id (by omega) (by omega)
      simp -implicitDefEqProofs [i8, r8]
      refine call_go known6 ?_
      simp -implicitDefEqProofs [hla', hlb']
      refine call_go (A _) ?_
      simp -implicitDefEqProofs [fltV]
      refine call_go (Bb _) ?_
      simp -implicitDefEqProofs [fltV]
      refine ⟨by omega, by omega, ?_⟩
      refine call_go (C _) ?_
      simp -implicitDefEqProofs [fltV, hne, w1, w2]
      exact cv_fz 1 hcl rfl (by simp)
    | false =>
      have gb := scan_good (show b.length ≤ 5000 by omega) hbb
      rw [join_good (by omega) (by omega) hba hbb, ga, gb] at C
      rw [gb] at Bb hnb hpb
      generalize toks (evsT a) = ta at *
      generalize toks (evsT b) = tb at *
      generalize htc : ta ++ tb.map (Tok.mv · (a.length + 1)) = tc at *
      have hl3 : tc.length = ta.length + tb.length := by rw [← htc]; simp
      have hl3' : (tc.length : Int) = (ta.length : Int) + tb.length := by omega
      simp only at hna hnb hpb
      have ws : IntKind.i64.wrap ((ta.length : Int) + tb.length) = (ta.length : Int) + tb.length := wrap_id (by omega) (by omega)
      simp -implicitDefEqProofs [i8, r8]
      refine call_go known6 ?_
      simp -implicitDefEqProofs [hla', hlb']
      refine call_go (A _) ?_
      simp -implicitDefEqProofs [fltV]
      refine call_go (Bb _) ?_
      simp -implicitDefEqProofs [fltV]
      refine ⟨by omega, by omega, ?_⟩
      refine call_go (C _) ?_
      simp -implicitDefEqProofs [fltV, tksV, ws, hl3, hl3']
      refine LI.cong (H' := [fo (0, 0), fo (0, 0), fo (0, 0)] ++ []) (by simp [fo]) ?_
      refine loop8 (a := a) (ta := ta) (tb := tb) (tc := tc) htc.symm (by omega) (by omega) (by omega) (fun t ht => by have := hpb t ht; omega) (fun env L g5 => ?_) tc.length 0 _ [] (by omega) (by simp) (by simp) (by simp [tksV]) (by simp [tksV]) (by simp [tksV, hl3]) (by simp)
      simp -implicitDefEqProofs [g5]
      exact cv_fz 1 hcl rfl (by simp)
end
end Go.Proofs.YtjbhokoihamhiaaDoor
/- T42 -/
namespace Go.Proofs.YtjbhokoihamhiaaDoor
open Go.Ab
section
variable {l : List UInt8}
theorem scan_self : ∀ t ∈ (scanG l).1, t.self := by
  intro t h
  obtain ⟨a, q, h1, h2⟩ := scan_mem h
  exact self_of h1 h2
theorem scan_wid : wid (scanG l).1 ≤ 2 * l.length := by
  unfold scanG
  split
  · simp [wid]
  · split
    · have := evs_wid (l := l) (n := l.length) (p := 0) (by omega)
      simpa [evsT] using this
    · simp [wid]
theorem wid_take : ∀ (ts : List Tok) (i : Nat), i < ts.length → wid (ts.take (i + 1)) = wid (ts.take i) + (ts.getD i ⟨0, [], 0, 0⟩).tx.length + 1
  | [], i, h => by simp at h
  | t :: r, 0, _ => by simp [wid]
  | t :: r, i + 1, h => by
    have := wid_take r i (by simpa using h)
    simp only [List.take_succ_cons, wid, List.getD_cons_succ] at this ⊢
    rw [this]; omega
theorem wid_le : ∀ (ts : List Tok) (i : Nat), wid (ts.take i) ≤ wid ts
  | [], i => by simp
  | t :: r, 0 => by simp [wid]
  | t :: r, i + 1 => by
    have := wid_le r i
    simp only [List.take_succ_cons, wid]; omega
theorem plc_get : ∀ (ts : List Tok) (a i : Nat) (h : i < ts.length) (h' : i < (plc a ts).length), (plc a ts)[i] = { ts[i] with p := a + wid (ts.take i) }
  | [], a, i, h, _ => by simp at h
  | t :: r, a, 0, _, _ => by simp [plc, wid]
  | t :: r, a, i + 1, h, h' => by
    simp only [plc, List.getElem_cons_succ]
    rw [plc_get r _ i (by simpa using h)]
    simp only [List.take_succ_cons, wid]
    congr 1; omega
/-- The text of a token that has been rendered stands in its place. -/
theorem plc_cut {ts : List Tok} (hs : ∀ t ∈ ts, t.self) {i : Nat} (h : i < ts.length) : wid (ts.take i) + ts[i].tx.length ≤ (jn (ts.map Tok.tr)).length ∧ ((jn (ts.map Tok.tr)).drop (wid (ts.take i))).take ts[i].tx.length = ts[i].tx := by
  have he := evsT_jn ts hs
  have hpl := plc_len 0 ts
  have hg := plc_get ts 0 i h (by omega)
  rw [Nat.zero_add] at hg
  have hmem : Ev.tok (plc 0 ts)[i] ∈ evs (jn (ts.map Tok.tr)) (jn (ts.map Tok.tr)).length 0 := by
    show _ ∈ evsT _
    rw [he]
    exact List.mem_map_of_mem (List.getElem_mem _)
  obtain ⟨a, q, _, h1, h2⟩ := evs_tok hmem
  have hp := stepT_p h2
  obtain ⟨g1, _⟩ := tok_facts h1 h2
  have hq := mkq h2 h1
  rw [hg] at hp g1
  simp only at hp g1
  have hl := congrArg List.length g1
  rw [cut_len (by omega) (by omega)] at hl
  rw [hp]
  refine ⟨by omega, ?_⟩
  rw [hl]; exact g1.symm
theorem loop7 {ts us : List Tok} {s : List UInt8} (hu : us = plc 0 ts) (hs : s = jn (ts.map Tok.tr)) (hsf : ∀ t ∈ ts, t.self) (hw : wid ts ≤ 6000) (hn : ts.length ≤ 6000) {N : Nat} {K : XE → Env → List AO → Prop} {H0 : List AO}
    (hexit : ∀ env L, env.get 3 = bl true → env.get 6 = st (B s) → env.get 10 = i64 (wid ts) → K (.exit 0) env (H0 ++ L)) :
    ∀ (k i : Nat) (env : Env) (L : List AO), i + k = ts.length → env.get 3 = bl true → env.get 4 = tksV ts → env.get 6 = st (B s) → env.get 8 = tksV us → env.get 10 = i64 (wid (ts.take i)) → env.get 11 = i64 i → LI Tryd.prog N drawB l7_0 env (H0 ++ L) K := by
  intro k
  induction k with
  | zero =>
    intro i env L hi h3 h4 h6 h8 h10 h11
    refine li_go hm l7_0.eq_1 ?_
    have e : i = ts.length := by omega
    subst e
    rw [List.take_length] at h10
    simp -implicitDefEqProofs [h3, h4, h6, h8, h10, h11, tksV]
    exact hexit _ _ (by simp [h3]) (by simp [h6]) (by simp [h10])
  | succ k ih =>
    intro i env L hi h3 h4 h6 h8 h10 h11
    refine li_go hm l7_0.eq_1 ?_
    have hlt : i < ts.length := by omega
    have hul : us.length = ts.length := by rw [hu, plc_len]
    have hltu : i < us.length := by omega
    have w1 := wrap_suc (show i < 9223372036854775807 by omega)
    have dt := tk_drop ts hlt
    have du := tk_drop us hltu
    have e4 : ∀ l : List Tok, (List.map (fun a => a.c.length) l).sum = l.length * 4 := by
      intro l
      have : (fun a : Tok => a.c.length) = fun _ => 4 := by funext a; rfl
      rw [this, sum4]
    have he : us[i] = { ts[i] with p := wid (ts.take i) } := by
      simp only [hu]; rw [plc_get ts 0 i hlt, Nat.zero_add]
    obtain ⟨q1, q2⟩ := plc_cut hsf hlt
    have hwt := wid_take ts i hlt
    rw [List.getD_eq_getElem?_getD, List.getElem?_eq_getElem hlt, Option.getD_some] at hwt
    have hwl := wid_le ts (i + 1)
    rw [← hs] at q1 q2
    rw [he] at du
    generalize ts[i] = t at *
    generalize hW : wid (ts.take i) = W at *
    have hcc : t.c = [i64 t.k, st (B t.tx), i64 t.n, i64 t.p] := rfl
    have hcm : ({ t with p := W } : Tok).c = [i64 t.k, st (B t.tx), i64 t.n, i64 (W : Int)] := rfl
    have wa : IntKind.i64.wrap ((W : Int) + (t.tx.length : Int)) = (W : Int) + (t.tx.length : Int) := wrap_id (by omega) (by omega)
    have wb : IntKind.i64.wrap ((W : Int) + (t.tx.length : Int) + 1) = (W : Int) + (t.tx.length : Int) + 1 := wrap_id (by omega) (by omega)
    have c1 : (W : Int) + (t.tx.length : Int) ≤ s.length := by omega
    have c1' : ¬ (s.length : Int) < (W : Int) + (t.tx.length : Int) := by omega
    have tn : ((W : Int) + (t.tx.length : Int)).toNat = W + t.tx.length := by omega
    have tk : W + t.tx.length - W = t.tx.length := by omega
    simp -implicitDefEqProofs [h3, h4, h6, h8, h10, h11, tksV, hlt, hltu, hul, e4, dt, du, hcc, hcm, wa, wb, c1, c1', tn, tk, q2]
    refine ⟨by omega, ⟨by omega, by omega⟩, ih (i + 1) _ _ (by omega) (by simp) (by simp [tksV]) (by simp) (by simp [tksV, hul]) ?_ (by simp [w1])⟩
    simp; rw [hwt]; push_cast; rfl
theorem law7 (hl : l.length < 4611686018427387904) : Ok Tryd.prog 7 [st (B l)] [] (.ret (bl true)) [] := by
  refine ok_fn hm Tryd.func7 c7 (by simp) fun hcl => ?_
  have A := fun H => ok15 (H := H) hl
  by_cases hla : 3000 < l.length
  · have hla' : (3000 : Int) < l.length := by omega
    generalize scanG l = g at *
    simp -implicitDefEqProofs [i7, r7]
    refine call_go known6 ?_
    simp -implicitDefEqProofs
    refine call_go (A _) ?_
    simp -implicitDefEqProofs [fltV, hla']
    exact cv_fz 1 hcl rfl (by simp)
  have hla' : ¬ (3000 : Int) < l.length := by omega
  cases hba : bad (evsT l) with
  | true =>
    have hne := scan_bad (by omega) hba
    generalize scanG l = g at *
    simp -implicitDefEqProofs [i7, r7]
    refine call_go known6 ?_
    simp -implicitDefEqProofs
    refine call_go (A _) ?_
    simp -implicitDefEqProofs [fltV, hla', hne]
    exact cv_fz 1 hcl rfl (by simp)
  | false =>
    have ga := scan_good (show l.length ≤ 5000 by omega) hba
    have hs := scan_self (l := l)
    have hw := scan_wid (l := l)
    have hn := scan_len (l := l)
    rw [ga] at A hs hw hn
    simp only at hs hw hn
    generalize toks (evsT l) = ts at *
    obtain ⟨b1, b2⟩ := back hs (by omega) (by omega)
    have hjb := jn_bound ts
    have hjw := jn_wid ts
    have R := fun H => ok13 (H := H) (ts := ts.map Tok.tr) (fun t ht => by obtain ⟨s, hs2, rfl⟩ := List.mem_map.1 ht; have := (hs s hs2).2.2.1; simp only [Tok.tr]; omega)
    have S := fun H => ok15 (H := H) (l := jn (ts.map Tok.tr)) (by omega)
    rw [b1] at R
    rw [b2] at S
    have hul := plc_len 0 ts
    rw [← trs_tks] at R
    generalize hsj : jn (ts.map Tok.tr) = s at *
    generalize hup : plc 0 ts = us at *
    simp -implicitDefEqProofs [i7, r7]
    refine call_go known6 ?_
    simp -implicitDefEqProofs
    refine call_go (A _) ?_
    simp -implicitDefEqProofs [fltV, hla']
    refine call_go (R _) ?_
    simp -implicitDefEqProofs [fltV]
    refine call_go (S _) ?_
    simp -implicitDefEqProofs [fltV, tksV, hul]
    refine LI.cong (H' := [fo (0, 0), fo (0, 0)] ++ []) (by simp [fo]) ?_
    refine loop7 (ts := ts) (us := us) (s := s) hup.symm hsj.symm hs (by omega) (by omega) (fun env L g3 g6 g10 => ?_) ts.length 0 _ [] (by omega) (by simp) (by simp [tksV]) (by simp) (by simp [tksV, hul]) (by simp [wid]) (by simp)
    have w1 : IntKind.i64.wrap ((wid ts : Int) - 1) = (wid ts : Int) - 1 := wrap_id (by omega) (by omega)
    simp -implicitDefEqProofs [g3, g6, g10, w1]
    have hfin : (s.length : Int) = max ((wid ts : Int) - 1) 0 := by
      by_cases ht : ts = []
      · subst ht
        rw [← hsj]; simp [jn, Lib.join, List.intercalate, wid]; rfl
      · have := hjw ht
        omega
    rw [decide_eq_true hfin]
    exact cv_fz 1 hcl rfl (by simp)
end
end Go.Proofs.YtjbhokoihamhiaaDoor
/- T43 -/
namespace Go.Proofs.YtjbhokoihamhiaaDoor
open Go.Ab
section
variable {H : List AO} {l : List UInt8}
theorem ok24 (n : Int) (h1 : -9223372036854775808 ≤ n) (h2 : n ≤ 9223372036854775807) : Ok Tryd.prog 24 [i64 n, i64 4] H (.ret (i64 (n % 4))) H := by
  refine ok_fn hm Tryd.func24 c24 (by simp) fun hcl => ?_
  have e : n % 4 = if n.tmod 4 < 0 then n.tmod 4 + 4 else n.tmod 4 := by
    rw [Int.tmod_eq_emod]
    split <;> split <;> simp at * <;> omega
  have hr : -4 < n.tmod 4 ∧ n.tmod 4 < 4 := by
    rw [Int.tmod_eq_emod]; split <;> simp at * <;> omega
  have w1 : IntKind.i64.wrap (n.tmod 4) = n.tmod 4 := wrap_id (by omega) (by omega)
  have w2 : IntKind.i64.wrap (n.tmod 4 + 4) = n.tmod 4 + 4 := wrap_id (by omega) (by omega)
  rw [e]
  simp -implicitDefEqProofs [i24, r24, w1, w2]
  split
  · exact cv_id
  · exact cv_id
def strs4 : List SV := fronts.map fun s => st (B s)
theorem loop9 {ts us : List Tok} {w : List UInt8} (hu : us = ts.map (Tok.mv · w.length)) (hp : ∀ t ∈ ts, t.p ≤ 1500) (hwl : w.length ≤ 10) (hn : ts.length ≤ 6000) {N : Nat} {K : XE → Env → List AO → Prop} {H0 : List AO}
    (hexit : ∀ env L, env.get 5 = bl true → K (.exit 0) env (H0 ++ L)) :
    ∀ (k i : Nat) (env : Env) (L : List AO), i + k = ts.length → env.get 5 = bl true → env.get 6 = tksV ts → env.get 12 = st (B w) → env.get 13 = tksV us → env.get 15 = i64 i → LI Tryd.prog N drawB l9_0 env (H0 ++ L) K := by
  intro k
  induction k with
  | zero =>
    intro i env L hi h5 h6 h12 h13 h15
    refine li_go hm l9_0.eq_1 ?_
    have e : i = ts.length := by omega
    subst e
    simp -implicitDefEqProofs [h5, h6, h12, h13, h15, tksV]
    exact hexit _ _ (by simp [h5])
  | succ k ih =>
    intro i env L hi h5 h6 h12 h13 h15
    refine li_go hm l9_0.eq_1 ?_
    have hlt : i < ts.length := by omega
    have hul : us.length = ts.length := by rw [hu]; simp
    have hltu : i < us.length := by omega
    have w1 := wrap_suc (show i < 9223372036854775807 by omega)
    have dt := tk_drop ts hlt
    have du := tk_drop us hltu
    have hpt := hp ts[i] (List.getElem_mem hlt)
    have e4 : ∀ l : List Tok, (List.map (fun a => a.c.length) l).sum = l.length * 4 := by
      intro l
      have : (fun a : Tok => a.c.length) = fun _ => 4 := by funext a; rfl
      rw [this, sum4]
    have he : us[i] = ts[i].mv w.length := by simp only [hu, List.getElem_map]
    rw [he] at du
    generalize ts[i] = t at *
    have hcc : t.c = [i64 t.k, st (B t.tx), i64 t.n, i64 t.p] := rfl
    have hcm : (t.mv w.length).c = [i64 t.k, st (B t.tx), i64 t.n, i64 ((w.length + t.p : Nat) : Int)] := rfl
    have wa : IntKind.i64.wrap ((t.p : Int) + (w.length : Int)) = ((w.length + t.p : Nat) : Int) := by rw [wrap_id (by omega) (by omega)]; omega
    simp -implicitDefEqProofs [h5, h6, h12, h13, h15, tksV, hlt, hltu, hul, e4, dt, du, hcc, hcm, wa]
    exact ⟨by omega, ih (i + 1) _ _ (by omega) (by simp) (by simp [tksV]) (by simp) (by simp [tksV, hul]) (by simp [w1])⟩
theorem strG_good {ts : List Tok} {s : List UInt8} (h1 : scanG l = (ts, 0, 0)) (h2 : rndG (ts.map Tok.tr) = (s, 0)) : strG l = (s, 0, 0) := by
  unfold strG
  rw [h1]
  simp only [h2]
  rfl
theorem law9 (hl : l.length < 4611686018427387904) (n : Int) (h1 : -9223372036854775808 ≤ n) (h2 : n ≤ 9223372036854775807) : Ok Tryd.prog 9 [st (B l), i64 n] [] (.ret (bl true)) [] := by
  refine ok_fn hm Tryd.func9 c9 (by simp) fun hcl => ?_
  have A := fun H => ok15 (H := H) hl
  by_cases hla : 1500 < l.length
  · have hla' : (1500 : Int) < l.length := by omega
    generalize scanG l = g at *
    simp -implicitDefEqProofs [i9, r9]
    refine call_go known6 ?_
    simp -implicitDefEqProofs
    refine call_go (A _) ?_
    simp -implicitDefEqProofs [fltV, hla']
    exact cv_fz 1 hcl rfl (by simp)
  have hla' : ¬ (1500 : Int) < l.length := by omega
  cases hba : bad (evsT l) with
  | true =>
    have hne := scan_bad (by omega) hba
    generalize scanG l = g at *
    simp -implicitDefEqProofs [i9, r9]
    refine call_go known6 ?_
    simp -implicitDefEqProofs
    refine call_go (A _) ?_
    simp -implicitDefEqProofs [fltV, hla', hne]
    exact cv_fz 1 hcl rfl (by simp)
  | false =>
    have ga := scan_good (show l.length ≤ 5000 by omega) hba
    have hs := scan_self (l := l)
    have hw := scan_wid (l := l)
    have hn := scan_len (l := l)
    have hp : ∀ t ∈ (scanG l).1, t.p < l.length := fun t => scan_p
    have T1 := fun H => ok17 (H := H) hl
    -- what stands in front
    have hk : 0 ≤ n % 4 ∧ n % 4 < 4 := by omega
    obtain ⟨k, hkn⟩ : ∃ k : Nat, n % 4 = k := ⟨(n % 4).toNat, by omega⟩
    have hk4 : k < fronts.length := by simp [fronts]; omega
    have hfr : fronts[k] ∈ fronts := List.getElem_mem hk4
    have hfl : ∀ w ∈ fronts, w.length ≤ 10 := by decide
    have hwl := hfl _ hfr
    have hst4 : strs4[k]? = some (st (B fronts[k])) := by simp [strs4, List.getElem?_eq_getElem hk4]
    have F := fun H => ok15 (H := H) (l := fronts[k] ++ l) (by simp; omega)
    have hF : scanG (fronts[k] ++ l) = (((toks (evsT l)).map (Tok.mv · fronts[k].length)), 0, 0) := by
      rw [scan_short (by simp; omega), evsT_front hfr, bad_mv, hba, toks_mv]; rfl
    rw [hF] at F
    generalize fronts[k] = w at *
    rw [ga] at hs hw hn hp
    simp only at hs hw hn hp
    have gs := ga
    rw [ga] at A
    generalize toks (evsT l) = ts at *
    obtain ⟨b1, b2⟩ := back hs (by omega) (by omega)
    have hjb := jn_bound ts
    have g1 := strG_good ga b1
    have hb3 : rndG ((plc 0 ts).map Tok.tr) = (jn (ts.map Tok.tr), 0) := by
      have := (back (plc_self 0 ts hs) (by rw [plc_len]; omega) (by rw [plc_wid]; omega)).1
      rw [this, jn_plc]
    have g2 := strG_good b2 hb3
    have T2 := fun H => ok17 (H := H) (l := jn (ts.map Tok.tr)) (by omega)
    rw [g1] at T1
    rw [g2] at T2
    generalize jn (ts.map Tok.tr) = s at *
    generalize hus : ts.map (Tok.mv · w.length) = us at *
    have hul : us.length = ts.length := by rw [← hus]; simp
    have M := fun H => ok24 (H := H) n h1 h2
    rw [hkn] at M
    simp -implicitDefEqProofs [i9, r9]
    refine call_go known6 ?_
    simp -implicitDefEqProofs
    refine call_go (A _) ?_
    simp -implicitDefEqProofs [fltV, hla']
    refine call_go (T1 _) ?_
    simp -implicitDefEqProofs [fltV, strV]
    refine call_go (T2 _) ?_
    simp -implicitDefEqProofs [fltV, strV]
    refine call_go (M _) ?_
    have hst5 : [st ⟨#[32]⟩, st ⟨#[10, 9, 32]⟩, st ⟨#[35, 32, 49, 97, 32, 33, 10]⟩, st ⟨#[32, 32, 35, 10, 10]⟩][k]? = some (st (B w)) := hst4
    have hk4' : (k : Int) < 4 := hkn ▸ hk.2
    simp -implicitDefEqProofs [fltV, strV, hst5]
    refine ⟨by omega, by omega, by omega, ?_⟩
    refine call_go (F _) ?_
    simp -implicitDefEqProofs [fltV, tksV, hul]
    refine LI.cong (H' := [fo (0, 0), fo (0, 0), fo (0, 0), ⟨strs4, 9, 0, true⟩, fo (0, 0)] ++ []) (by simp [fo, strs4, fronts]) ?_
    refine loop9 (ts := ts) (us := us) (w := w) hus.symm (fun t ht => by have := hp t ht; omega) hwl (by omega) (fun env L g5 => ?_) ts.length 0 _ [] (by omega) (by simp) (by simp [tksV]) (by simp) (by simp [tksV, hul]) (by simp)
    simp -implicitDefEqProofs [g5]
    exact cv_fz 1 hcl rfl (by simp)
end
end Go.Proofs.YtjbhokoihamhiaaDoor
/- T44 -/
namespace Go.Proofs.YtjbhokoihamhiaaDoor
open Go.Ab
theorem strB {s : ByteArray} (h : s.size ≤ reachBytes) : s.data.toList.length < 4611686018427387904 := by
  have e : s.data.toList.length = s.size := by rw [Array.length_toList]; rfl
  have e2 : reachBytes = 140737488351232 := by decide
  omega
theorem str_fit {s : ByteArray} : (Dt.str s).sv = st (B s.data.toList) := by rw [← B_of]; rfl
end Go.Proofs.YtjbhokoihamhiaaDoor
