/-
  Steps of the proof: contracts of functions and plain facts that the statement rests on.
-/
import Derived.Test.YtcejichidnlicaaGreatDoorPart1
set_option linter.all false
namespace Go.Proofs.YtcejichidnlicaaGreatDoor
open Go.Ab
def binK : List Value := [.int .i64 5, .int .i64 6, .int .i64 7, .int .i64 8, .int .i64 9, .int .i64 10, .int .i64 11, .int .i64 12, .int .i64 13, .int .i64 14, .int .i64 15, .int .i64 18, .int .i64 19]
def binV : List SV := [.fn (.func 40) [] [], .fn (.func 41) [] [], .fn (.func 42) [] [], .fn (.func 43) [] [], .fn (.func 44) [] [], .fn (.func 45) [] [], .fn (.func 47) [] [], .fn (.func 48) [] [], .fn (.func 49) [] [], .fn (.func 50) [] [], .fn (.func 51) [] [], .fn (.func 52) [] [], .fn (.func 53) [] []]
def refV (x : SV) : SV := .ptr (.slc [x] 0) 0
def macV (ns : List (List UInt8)) (vs : List Int) : SV := .ptr (.slc [.fn (.func 39) [] [refV (.slc (wds ns) ns.length), refV (.slc (ints vs) vs.length)], .mpf binK binV] 0) 0
def lookF : List (List UInt8) -> List Int -> List UInt8 -> Option Int
 | n :: ns, v :: vs, s => if n = s then some v else lookF ns vs s
 | _, _, _ => none
section
variable {H : List AO}
theorem ok25 (ns : List (List UInt8)) (vs : List Int) : Ok Tryz.prog 25 [.slc (wds ns) ns.length, .slc (ints vs) vs.length] H (.ret (macV ns vs)) H := by
 refine ok_fn hm Tryz.func25 c25 (by simp [SV.under, SV.underL_iff, wds, ints]) fun hcl => ?_
 simp -implicitDefEqProofs [i25, r25]
 refine s_mup_go (x := ([], [])) (by simp [SV.mapOf]) rfl rfl rfl ?_
 simp -implicitDefEqProofs [msetK, msetV, SV.key, vkeq]
 refine s_mup_go (x := ([.int .i64 5], [.fn (.func 40) [] []])) (by simp [SV.mapOf]) rfl rfl rfl ?_
 simp -implicitDefEqProofs [msetK, msetV, SV.key, vkeq]
 refine s_mup_go (x := ([.int .i64 5, .int .i64 6], [.fn (.func 40) [] [], .fn (.func 41) [] []])) (by simp [SV.mapOf]) rfl rfl rfl ?_
 simp -implicitDefEqProofs [msetK, msetV, SV.key, vkeq]
 refine s_mup_go (x := ([.int .i64 5, .int .i64 6, .int .i64 7], [.fn (.func 40) [] [], .fn (.func 41) [] [], .fn (.func 42) [] []])) (by simp [SV.mapOf]) rfl rfl rfl ?_
 simp -implicitDefEqProofs [msetK, msetV, SV.key, vkeq]
 refine s_mup_go (x := ([.int .i64 5, .int .i64 6, .int .i64 7, .int .i64 8], [.fn (.func 40) [] [], .fn (.func 41) [] [], .fn (.func 42) [] [], .fn (.func 43) [] []])) (by simp [SV.mapOf]) rfl rfl rfl ?_
 simp -implicitDefEqProofs [msetK, msetV, SV.key, vkeq]
 refine s_mup_go (x := ([.int .i64 5, .int .i64 6, .int .i64 7, .int .i64 8, .int .i64 9], [.fn (.func 40) [] [], .fn (.func 41) [] [], .fn (.func 42) [] [], .fn (.func 43) [] [], .fn (.func 44) [] []])) (by simp [SV.mapOf]) rfl rfl rfl ?_
 simp -implicitDefEqProofs [msetK, msetV, SV.key, vkeq]
 refine s_mup_go (x := ([.int .i64 5, .int .i64 6, .int .i64 7, .int .i64 8, .int .i64 9, .int .i64 10], [.fn (.func 40) [] [], .fn (.func 41) [] [], .fn (.func 42) [] [], .fn (.func 43) [] [], .fn (.func 44) [] [], .fn (.func 45) [] []])) (by simp [SV.mapOf]) rfl rfl rfl ?_
 simp -implicitDefEqProofs [msetK, msetV, SV.key, vkeq]
 refine s_mup_go (x := ([.int .i64 5, .int .i64 6, .int .i64 7, .int .i64 8, .int .i64 9, .int .i64 10, .int .i64 11], [.fn (.func 40) [] [], .fn (.func 41) [] [], .fn (.func 42) [] [], .fn (.func 43) [] [], .fn (.func 44) [] [], .fn (.func 45) [] [], .fn (.func 47) [] []])) (by simp [SV.mapOf]) rfl rfl rfl ?_
 simp -implicitDefEqProofs [msetK, msetV, SV.key, vkeq]
 refine s_mup_go (x := ([.int .i64 5, .int .i64 6, .int .i64 7, .int .i64 8, .int .i64 9, .int .i64 10, .int .i64 11, .int .i64 12], [.fn (.func 40) [] [], .fn (.func 41) [] [], .fn (.func 42) [] [], .fn (.func 43) [] [], .fn (.func 44) [] [], .fn (.func 45) [] [], .fn (.func 47) [] [], .fn (.func 48) [] []])) (by simp [SV.mapOf]) rfl rfl rfl ?_
 simp -implicitDefEqProofs [msetK, msetV, SV.key, vkeq]
 refine s_mup_go (x := ([.int .i64 5, .int .i64 6, .int .i64 7, .int .i64 8, .int .i64 9, .int .i64 10, .int .i64 11, .int .i64 12, .int .i64 13], [.fn (.func 40) [] [], .fn (.func 41) [] [], .fn (.func 42) [] [], .fn (.func 43) [] [], .fn (.func 44) [] [], .fn (.func 45) [] [], .fn (.func 47) [] [], .fn (.func 48) [] [], .fn (.func 49) [] []])) (by simp [SV.mapOf]) rfl rfl rfl ?_
 simp -implicitDefEqProofs [msetK, msetV, SV.key, vkeq]
 refine s_mup_go (x := ([.int .i64 5, .int .i64 6, .int .i64 7, .int .i64 8, .int .i64 9, .int .i64 10, .int .i64 11, .int .i64 12, .int .i64 13, .int .i64 14], [.fn (.func 40) [] [], .fn (.func 41) [] [], .fn (.func 42) [] [], .fn (.func 43) [] [], .fn (.func 44) [] [], .fn (.func 45) [] [], .fn (.func 47) [] [], .fn (.func 48) [] [], .fn (.func 49) [] [], .fn (.func 50) [] []])) (by simp [SV.mapOf]) rfl rfl rfl ?_
 simp -implicitDefEqProofs [msetK, msetV, SV.key, vkeq]
 refine s_mup_go (x := ([.int .i64 5, .int .i64 6, .int .i64 7, .int .i64 8, .int .i64 9, .int .i64 10, .int .i64 11, .int .i64 12, .int .i64 13, .int .i64 14, .int .i64 15], [.fn (.func 40) [] [], .fn (.func 41) [] [], .fn (.func 42) [] [], .fn (.func 43) [] [], .fn (.func 44) [] [], .fn (.func 45) [] [], .fn (.func 47) [] [], .fn (.func 48) [] [], .fn (.func 49) [] [], .fn (.func 50) [] [], .fn (.func 51) [] []])) (by simp [SV.mapOf]) rfl rfl rfl ?_
 simp -implicitDefEqProofs [msetK, msetV, SV.key, vkeq]
 refine s_mup_go (x := ([.int .i64 5, .int .i64 6, .int .i64 7, .int .i64 8, .int .i64 9, .int .i64 10, .int .i64 11, .int .i64 12, .int .i64 13, .int .i64 14, .int .i64 15, .int .i64 18], [.fn (.func 40) [] [], .fn (.func 41) [] [], .fn (.func 42) [] [], .fn (.func 43) [] [], .fn (.func 44) [] [], .fn (.func 45) [] [], .fn (.func 47) [] [], .fn (.func 48) [] [], .fn (.func 49) [] [], .fn (.func 50) [] [], .fn (.func 51) [] [], .fn (.func 52) [] []])) (by simp [SV.mapOf]) rfl rfl rfl ?_
 simp -implicitDefEqProofs [msetK, msetV, SV.key, vkeq]
 exact cv_fz 6 hcl rfl (by simp [macV, refV, binK, binV, wds, fz_fn])
theorem loop39 {ns : List (List UInt8)} {vs : List Int} (hl : ns.length = vs.length) (hb : ns.length < 4611686018427387904) {nm : List UInt8} {N : Nat} {K : XE -> Env -> List AO -> Prop}
 (hret : ∀ v, lookF ns vs nm = some v -> ∀ env, env.get 4 = i64 v -> env.get 5 = bl true -> K .ret env H) (hexit : lookF ns vs nm = none -> ∀ env, K (.exit 0) env H) :
 ∀ (m i : Nat) (env : Env), i + m = ns.length -> lookF (ns.drop i) (vs.drop i) nm = lookF ns vs nm -> env.get 0 = st (B nm) -> env.get 2 = refV (.slc (ints vs) vs.length) -> env.get 8 = .slc (wds ns) ns.length -> env.get 9 = i64 ns.length -> env.get 10 = i64 i -> LI Tryz.prog N drawB l39_0 env H K := by
 intro m
 induction m with
 | zero =>
  intro i env hi hq h0 h2 h8 h9 h10
  refine li_go hm l39_0.eq_1 ?_
  have e : i = ns.length := by omega
  subst e
  rw [List.drop_length] at hq
  simp -implicitDefEqProofs [h9, h10]
  exact hexit hq.symm _
 | succ m ih =>
  intro i env hi hq h0 h2 h8 h9 h10
  refine li_go hm l39_0.eq_1 ?_
  have hlt : i < ns.length := by omega
  have hlt2 : i < vs.length := by omega
  have hlt' : (i : Int) < ns.length := by omega
  have hlt2' : (i : Int) < vs.length := by omega
  have hg : ∀ h, (wds ns)[i]'(h) = st (B ns[i]) := fun h => by simp [wds]
  rw [List.drop_eq_getElem_cons hlt, List.drop_eq_getElem_cons hlt2, lookF] at hq
  generalize ns[i] = n at hq hg
  by_cases hn : n = nm
  · rw [if_pos hn] at hq
    subst hn
    simp -implicitDefEqProofs [h0, h2, h8, h9, h10, hlt, hlt', hlt2, hlt2', hg, refV]
    refine ⟨by omega, by omega, ?_⟩
    refine hret vs[i] hq.symm _ ?_ ?_ <;> simp
  · rw [if_neg hn] at hq
    simp -implicitDefEqProofs [h0, h2, h8, h9, h10, hlt, hlt', hlt2, hlt2', hg, refV, hn]
    refine ⟨by omega, ?_⟩
    refine ih (i + 1) _ (by omega) hq ?_ ?_ ?_ ?_ ?_
    all_goals simp [refV, wrap_suc (show i < 9223372036854775807 by omega)]
def lookV (o : Option Int) : SV := match o with
 | some v => .tup [i64 v, bl true]
 | none => .tup [i64 0, bl false]
theorem ok39 {ns : List (List UInt8)} {vs : List Int} (hl : ns.length = vs.length) (hb : ns.length < 4611686018427387904) (nm : List UInt8) :
 Ok Tryz.prog 39 [st (B nm), refV (.slc (wds ns) ns.length), refV (.slc (ints vs) vs.length)] H (.ret (lookV (lookF ns vs nm))) H := by
 refine ok_fn hm Tryz.func39 c39 (by simp [refV, SV.under, SV.underL, SV.underL_iff, wds, ints]) fun hcl => ?_
 simp -implicitDefEqProofs [i39, r39, refV]
 refine loop39 hl hb (nm := nm) (fun v hv env h4 h5 => ?_) (fun hv env => ?_) ns.length 0 _ (by omega) rfl ?_ ?_ ?_ ?_ ?_
 · rw [hv]
   simp -implicitDefEqProofs [h4, h5, lookV]
   exact cv_id
 · rw [hv]
   simp -implicitDefEqProofs [lookV]
   exact cv_id
 all_goals simp [refV]
end
end Go.Proofs.YtcejichidnlicaaGreatDoor
namespace Go.Proofs.YtcejichidnlicaaGreatDoor
open Go.Ab
def binP (op a b : Int) : Int :=
 if op = 5 then mulP a b else if op = 6 then a.fdiv b else if op = 7 then a - b * a.fdiv b else if op = 8 then a + b else if op = 9 then a - b
 else if op = 10 then tru (a = b) else if op = 11 then tru (a ≠ b) else if op = 12 then tru (a < b) else if op = 13 then tru (a ≤ b) else if op = 14 then tru (b < a) else if op = 15 then tru (b ≤ a)
 else if op = 18 then min a b else max a b
def binN (op : Int) : Nat := if op ≤ 10 then (op + 35).toNat else if op ≤ 15 then (op + 36).toNat else (op + 34).toNat
def isBin (op : Int) : Prop := (5 ≤ op ∧ op ≤ 15) ∨ op = 18 ∨ op = 19
section
variable {H : List AO}
theorem fmul_bd {a b : Int} (ha : Sm a) (hb : Sm b) (h0 : b ≠ 0) : -4000000000000 ≤ b * a.fdiv b ∧ b * a.fdiv b ≤ 4000000000000 := by
 have h1 := Int.mul_tdiv_add_tmod a b
 have h2 : (a.tmod b).natAbs < b.natAbs := by rw [Int.natAbs_tmod]; exact Nat.mod_lt _ (by omega)
 obtain ⟨a1, a2⟩ := ha
 obtain ⟨b1, b2⟩ := hb
 rw [fdiv_of h0]
 split
 · rw [Int.mul_sub]; omega
 · omega
theorem bin_ok {op a b : Int} (hop : isBin op) (ha : Sm a) (hb : Sm b) (h0 : op = 6 ∨ op = 7 -> b ≠ 0) : Ok Tryz.prog (binN op) [i64 a, i64 b] H (.ret (i64 (binP op a b))) H := by
 have ha' := ha
 have hb' := hb
 obtain ⟨a1, a2⟩ := ha'
 obtain ⟨b1, b2⟩ := hb'
 have hc : op = 5 ∨ op = 6 ∨ op = 7 ∨ op = 8 ∨ op = 9 ∨ op = 10 ∨ op = 11 ∨ op = 12 ∨ op = 13 ∨ op = 14 ∨ op = 15 ∨ op = 18 ∨ op = 19 := by unfold isBin at hop; omega
 rcases hc with rfl | rfl | rfl | rfl | rfl | rfl | rfl | rfl | rfl | rfl | rfl | rfl | rfl
 · exact ok40 ha hb
 · exact ok41 ha (h0 (.inl rfl))
 · show Ok Tryz.prog 42 _ _ _ _
   have hb0 := h0 (.inr rfl)
   have hm2 := fmul_bd ha hb hb0
   have w1 : IntKind.i64.wrap (b * a.fdiv b) = b * a.fdiv b := wrap_id (by omega) (by omega)
   have w2 : IntKind.i64.wrap (a - b * a.fdiv b) = a - b * a.fdiv b := wrap_id (by omega) (by omega)
   have h41 := fun H => ok41 (H := H) ha hb0
   have hp : binP 7 a b = a - b * a.fdiv b := rfl
   rw [hp]
   generalize a.fdiv b = q at *
   refine ok_fn hm Tryz.func42 c42 (by simp) fun hcl => ?_
   simp -implicitDefEqProofs [i42, r42]
   refine call_go (h41 _) ?_
   simp -implicitDefEqProofs [w1, w2]
   exact cv_id
 · refine ok_fn hm Tryz.func43 c43 (by simp) fun hcl => ?_
   have w : IntKind.i64.wrap (a + b) = a + b := wrap_id (by omega) (by omega)
   simp -implicitDefEqProofs [i43, r43, w, binP]; exact cv_id
 · refine ok_fn hm Tryz.func44 c44 (by simp) fun hcl => ?_
   have w : IntKind.i64.wrap (a - b) = a - b := wrap_id (by omega) (by omega)
   simp -implicitDefEqProofs [i44, r44, w, binP]; exact cv_id
 · refine ok_fn hm Tryz.func45 c45 (by simp) fun hcl => ?_
   simp -implicitDefEqProofs [i45, r45, binP]
   refine call_go (ok46 _) ?_
   simp -implicitDefEqProofs; exact cv_id
 · refine ok_fn hm Tryz.func47 c47 (by simp) fun hcl => ?_
   simp -implicitDefEqProofs [i47, r47, binP]
   refine call_go (ok46 _) ?_
   simp -implicitDefEqProofs; exact cv_id
 · refine ok_fn hm Tryz.func48 c48 (by simp) fun hcl => ?_
   simp -implicitDefEqProofs [i48, r48, binP]
   refine call_go (ok46 _) ?_
   simp -implicitDefEqProofs; exact cv_id
 · refine ok_fn hm Tryz.func49 c49 (by simp) fun hcl => ?_
   simp -implicitDefEqProofs [i49, r49, binP]
   refine call_go (ok46 _) ?_
   simp -implicitDefEqProofs; exact cv_id
 · refine ok_fn hm Tryz.func50 c50 (by simp) fun hcl => ?_
   simp -implicitDefEqProofs [i50, r50, binP]
   refine call_go (ok46 _) ?_
   simp -implicitDefEqProofs; exact cv_id
 · refine ok_fn hm Tryz.func51 c51 (by simp) fun hcl => ?_
   simp -implicitDefEqProofs [i51, r51, binP]
   refine call_go (ok46 _) ?_
   simp -implicitDefEqProofs; exact cv_id
 · refine ok_fn hm Tryz.func52 c52 (by simp) fun hcl => ?_
   simp -implicitDefEqProofs [i52, r52, binP]; exact cv_id
 · refine ok_fn hm Tryz.func53 c53 (by simp) fun hcl => ?_
   simp -implicitDefEqProofs [i53, r53, binP]; exact cv_id
end
def ofF (k : Int) : Vr -> Except Int Int
 | .error e => .error e
 | .ok v => if v.1 ≠ k then .error 10 else .ok v.2
def outI : Except Int Int -> Out
 | .ok n => .ret (i64 n)
 | .error e => .pan (.ifc 31 (i64 e))
def outB : Except Int Int -> Out
 | .ok n => .ret (bl (decide (n = 1)))
 | .error e => .pan (.ifc 31 (i64 e))
def wAt (w : List Vr) (i : Nat) : Vr := w.getD i (.error 3)
structure Opr (G : List AO) (kf : Nat) (cap : List SV) (w : List Vr) : Prop where
 ok : ∀ (L : List AO) (i : Nat), i < w.length -> Ok Tryz.prog kf (i64 i :: cap) (G ++ L) (outV (wAt w i)) (G ++ L)
 und : SV.underL G.length cap = true
theorem Opr.app {G : List AO} {kf : Nat} {cap : List SV} {w : List Vr} (h : Opr G kf cap w) (L : List AO) : Opr (G ++ L) kf cap w :=
 ⟨fun L2 i hi => by rw [List.append_assoc]; exact h.ok _ i hi, SV.underL_mono (by simp) _ h.und⟩
section
variable {G : List AO} {kf : Nat} {cap : List SV} {w : List Vr} {j i : Nat}
theorem ok81 (hj : G[j]? = some ⟨[.fn (.func kf) [] cap], 76, 0, true⟩) (ho : Opr G kf cap w) (hi : i < w.length) (k : Int) : Ok Tryz.prog 81 [i64 i, i64 k, rp j] G (outI (ofF k (wAt w i))) G := by
 have hjl := getElem?_lt hj
 have e1 : objCells G j 0 = [.fn (.func kf) [] cap] := objCells_of (o := ⟨[.fn (.func kf) [] cap], 76, 0, true⟩) hj rfl
 have hok := ho.ok [] i hi
 rw [List.append_nil] at hok
 refine ok_fn hm Tryz.func81 c81 (by simp [rp, hjl]) fun hcl => ?_
 simp -implicitDefEqProofs [i81, r81, rp, e1]
 refine call_of (a := []) (b := cap) (by simpa using hok) ?_
 generalize wAt w i = v
 cases v with
 | error e =>
  simp -implicitDefEqProofs [outV, outI, ofF]
  exact cv_id
 | ok v =>
  by_cases hk : v.1 = k
  · simp -implicitDefEqProofs [outV, outI, ofF, hk]
    exact cv_fz 2 hcl rfl rfl
  · simp -implicitDefEqProofs [outV, outI, ofF, hk]
    exact cv_fz 2 hcl rfl rfl
theorem ok82 (hj : G[j]? = some ⟨[.fn (.func kf) [] cap], 76, 0, true⟩) {q : Nat} (hq : G[q]? = some ⟨[.fn (.func 81) [] [rp j]], 47, 0, true⟩) (ho : Opr G kf cap w) (hi : i < w.length) : Ok Tryz.prog 82 [i64 i, rp q] G (outB (ofF 2 (wAt w i))) G := by
 have hql := getElem?_lt hq
 have e1 : objCells G q 0 = [.fn (.func 81) [] [rp j]] := objCells_of (o := ⟨[.fn (.func 81) [] [rp j]], 47, 0, true⟩) hq rfl
 refine ok_fn hm Tryz.func82 c82 (by simp [rp, hql]) fun hcl => ?_
 simp -implicitDefEqProofs [i82, r82, rp, e1]
 refine call_of (a := []) (b := [rp j]) (ok81 hj ho hi 2) ?_
 generalize ofF 2 (wAt w i) = v
 cases v with
 | error e =>
  simp -implicitDefEqProofs [outB, outI]
  exact cv_id
 | ok v =>
  simp -implicitDefEqProofs [outB, outI]
  exact cv_id
def appF (op : Int) (w : List Vr) : Vr :=
 if op = 3 then match ofF 1 (wAt w 0) with
  | .error e => .error e
  | .ok a => numF (-a)
 else if op = 4 then match ofF 2 (wAt w 0) with
  | .error e => .error e
  | .ok a => boolF (!decide (a = 1))
 else if op = 16 then match ofF 2 (wAt w 0) with
  | .error e => .error e
  | .ok a => if a = 1 then match ofF 2 (wAt w 1) with
   | .error e => .error e
   | .ok b => boolF (decide (b = 1))
   else boolF false
 else if op = 17 then match ofF 2 (wAt w 0) with
  | .error e => .error e
  | .ok a => if a = 1 then boolF true else match ofF 2 (wAt w 1) with
   | .error e => .error e
   | .ok b => boolF (decide (b = 1))
 else if op = 20 then match ofF 2 (wAt w 0) with
  | .error e => .error e
  | .ok a => if a = 1 then wAt w 1 else wAt w 2
 else match ofF 1 (wAt w 0) with
  | .error e => .error e
  | .ok a => match ofF 1 (wAt w 1) with
   | .error e => .error e
   | .ok b => if b = 0 ∧ (op = 6 ∨ op = 7) then .error 6 else if 10 ≤ op ∧ op ≤ 15 then boolF (decide (binP op a b = 1)) else numF (binP op a b)
theorem lkm_bin {op : Int} (h : isBin op) : lkm (.int .i64 op) binK binV = some (.fn (.func (binN op)) [] []) := by
 have hc : op = 5 ∨ op = 6 ∨ op = 7 ∨ op = 8 ∨ op = 9 ∨ op = 10 ∨ op = 11 ∨ op = 12 ∨ op = 13 ∨ op = 14 ∨ op = 15 ∨ op = 18 ∨ op = 19 := by unfold isBin at h; omega
 rcases hc with rfl | rfl | rfl | rfl | rfl | rfl | rfl | rfl | rfl | rfl | rfl | rfl | rfl <;> rfl
theorem ok59 (ns : List (List UInt8)) (vs : List Int) {op : Int} (ho : Opr G kf cap w) (hop : 3 ≤ op ∧ op ≤ 20) (hw : (w.length : Int) = opN op) (hsm : ∀ i n, wAt w i = .ok (1, n) -> Sm n) (hn : True) :
 Ok Tryz.prog 59 [macV ns vs, i64 op, .fn (.func kf) [] cap] G (outV (appF op w)) G := by
 refine ok_fn hm Tryz.func59 c59 (by simp [macV, refV, SV.under, SV.underL, SV.underL_iff, wds, ints, binV, ho.und]) fun hcl => ?_
 generalize hv : appF op w = v
 unfold appF at hv
 have sm1 : ∀ i a, ofF 1 (wAt w i) = .ok a -> Sm a := by
  intro i a h
  cases hx : wAt w i with
  | error e => rw [hx] at h; cases h
  | ok x =>
   rw [hx] at h
   unfold ofF at h
   simp only at h
   split at h
   · cases h
   · rename_i hk
     obtain ⟨x1, x2⟩ := x
     have hk := Decidable.not_not.1 hk
     simp only at hk h
     subst hk
     have := Except.ok.inj h
     subst this
     exact hsm i _ hx
 have hj : (G ++ [⟨[.fn (.func kf) [] cap], 76, 0, true⟩, ⟨[i64 0, i64 0], 30, 0, true⟩, ⟨[.fn (.func 81) [] [rp G.length]], 47, 0, true⟩])[G.length]? = some ⟨[.fn (.func kf) [] cap], 76, 0, true⟩ := by simp
 have hq : (G ++ [⟨[.fn (.func kf) [] cap], 76, 0, true⟩, ⟨[i64 0, i64 0], 30, 0, true⟩, ⟨[.fn (.func 81) [] [rp G.length]], 47, 0, true⟩])[G.length + 2]? = some ⟨[.fn (.func 81) [] [rp G.length]], 47, 0, true⟩ := by simp
 have ho' := ho.app [⟨[.fn (.func kf) [] cap], 76, 0, true⟩, ⟨[i64 0, i64 0], 30, 0, true⟩, ⟨[.fn (.func 81) [] [rp G.length]], 47, 0, true⟩]
 have c81' := fun (i : Nat) (hi : i < w.length) (k : Int) => ok81 hj ho' hi k
 have c82' := fun (i : Nat) (hi : i < w.length) => ok82 hj hq ho' hi
 have c76 := fun (i : Nat) (hi : i < w.length) => ho.ok [⟨[.fn (.func kf) [] cap], 76, 0, true⟩, ⟨[i64 0, i64 0], 30, 0, true⟩, ⟨[.fn (.func 81) [] [rp G.length]], 47, 0, true⟩] i hi
 clear hj hq ho'
 simp -implicitDefEqProofs [i59, r59]
 by_cases h3 : op = 3
 · subst h3
   have hl : 0 < w.length := by simp [opN] at hw; omega
   rw [if_pos rfl] at hv ⊢
   refine call_of (a := []) (b := [rp G.length]) (c81' 0 hl 1) ?_
   have hs := sm1 0
   generalize ofF 1 (wAt w 0) = x at hv hs
   cases x with
   | error e =>
    subst hv
    simp -implicitDefEqProofs [outV, outI]
    exact cv_fz 6 hcl rfl rfl
   | ok a =>
    have ha := hs a rfl
    have hw : IntKind.i64.wrap (-a) = -a := by unfold Sm at ha; exact wrap_id (by omega) (by omega)
    subst hv
    simp only [outI]
    simp -implicitDefEqProofs [hw]
    refine call_go (ok58 _) ?_
    generalize numF (-a) = y
    cases y with
    | error e =>
     simp -implicitDefEqProofs [outV]
     exact cv_fz 6 hcl rfl rfl
    | ok v =>
     simp -implicitDefEqProofs [outV]
     exact cv_fz 6 hcl rfl rfl
 by_cases h4 : op = 4
 · subst h4
   have hl : 0 < w.length := by simp [opN] at hw; omega
   rw [if_neg (by decide), if_pos rfl] at hv
   rw [if_neg (by decide), if_pos rfl]
   refine call_of (a := []) (b := [rp (G.length + 2)]) (c82' 0 hl) ?_
   generalize ofF 2 (wAt w 0) = x at hv
   cases x with
   | error e =>
    subst hv
    simp -implicitDefEqProofs [outV, outB]
    exact cv_fz 6 hcl rfl rfl
   | ok a =>
    subst hv
    simp -implicitDefEqProofs [outB]
    refine call_go (ok83 _) ?_
    simp -implicitDefEqProofs [outV, boolF]
    exact cv_fz 6 hcl rfl rfl
 have h2 : opN op ≤ 1 -> op = 3 ∨ op = 4 := by unfold opN; intro h; split at h <;> (try split at h) <;> (try split at h) <;> (try split at h) <;> omega
 have hl0 : 0 < w.length := by by_cases hh : opN op ≤ 1 <;> omega
 have hl1 : 1 < w.length := by by_cases hh : opN op ≤ 1 <;> omega
 rw [if_neg h3, if_neg h4] at hv
 rw [if_neg h3, if_neg h4]
 by_cases h16 : op = 16
 · subst h16
   rw [if_pos rfl] at hv
   rw [if_pos rfl]
   refine call_of (a := []) (b := [rp (G.length + 2)]) (c82' 0 hl0) ?_
   generalize ofF 2 (wAt w 0) = x at hv
   cases x with
   | error e =>
    subst hv
    simp -implicitDefEqProofs [outV, outB]
    exact cv_fz 6 hcl rfl rfl
   | ok a =>
    by_cases ha : a = 1
    · simp only [ha, if_true] at hv
      simp -implicitDefEqProofs [outB, ha]
      refine call_of (a := []) (b := [rp (G.length + 2)]) (c82' 1 hl1) ?_
      generalize ofF 2 (wAt w 1) = x at hv
      cases x with
      | error e =>
       subst hv
       simp -implicitDefEqProofs [outV, outB]
       exact cv_fz 6 hcl rfl rfl
      | ok b =>
       subst hv
       simp -implicitDefEqProofs [outB]
       refine call_go (ok83 _) ?_
       simp -implicitDefEqProofs [outV, boolF]
       exact cv_fz 6 hcl rfl rfl
    · simp only [ha, if_false] at hv
      subst hv
      simp -implicitDefEqProofs [outB, ha]
      refine call_go (ok83 _) ?_
      simp -implicitDefEqProofs [outV, boolF]
      exact cv_fz 6 hcl rfl rfl
 rw [if_neg h16] at hv
 rw [if_neg h16]
 by_cases h17 : op = 17
 · subst h17
   rw [if_pos rfl] at hv
   rw [if_pos rfl]
   refine call_of (a := []) (b := [rp (G.length + 2)]) (c82' 0 hl0) ?_
   generalize ofF 2 (wAt w 0) = x at hv
   cases x with
   | error e =>
    subst hv
    simp -implicitDefEqProofs [outV, outB]
    exact cv_fz 6 hcl rfl rfl
   | ok a =>
    by_cases ha : a = 1
    · simp only [ha, if_true] at hv
      subst hv
      simp -implicitDefEqProofs [outB, ha]
      refine call_go (ok83 _) ?_
      simp -implicitDefEqProofs [outV, boolF]
      exact cv_fz 6 hcl rfl rfl
    · simp only [ha, if_false] at hv
      simp -implicitDefEqProofs [outB, ha]
      refine call_of (a := []) (b := [rp (G.length + 2)]) (c82' 1 hl1) ?_
      generalize ofF 2 (wAt w 1) = x at hv
      cases x with
      | error e =>
       subst hv
       simp -implicitDefEqProofs [outV, outB]
       exact cv_fz 6 hcl rfl rfl
      | ok b =>
       subst hv
       simp -implicitDefEqProofs [outB]
       refine call_go (ok83 _) ?_
       simp -implicitDefEqProofs [outV, boolF]
       exact cv_fz 6 hcl rfl rfl
 rw [if_neg h17] at hv
 rw [if_neg h17]
 by_cases h20 : op = 20
 · subst h20
   have hl2 : 2 < w.length := by simp [opN] at hw; omega
   rw [if_pos rfl] at hv
   rw [if_pos rfl]
   refine call_of (a := []) (b := [rp (G.length + 2)]) (c82' 0 hl0) ?_
   generalize ofF 2 (wAt w 0) = x at hv
   cases x with
   | error e =>
    subst hv
    simp -implicitDefEqProofs [outV, outB]
    exact cv_fz 6 hcl rfl rfl
   | ok a =>
    have k1 := c76 1 hl1
    have k2 := c76 2 hl2
    by_cases ha : a = 1
    · simp only [ha, if_true] at hv
      rw [hv] at k1
      simp -implicitDefEqProofs [outB, ha]
      refine call_of (a := []) (b := cap) k1 ?_
      cases v with
      | error e =>
       simp -implicitDefEqProofs [outV]
       exact cv_fz 6 hcl rfl rfl
      | ok v =>
       simp -implicitDefEqProofs [outV]
       exact cv_fz 6 hcl rfl rfl
    · simp only [ha, if_false] at hv
      rw [hv] at k2
      simp -implicitDefEqProofs [outB, ha]
      refine call_of (a := []) (b := cap) k2 ?_
      cases v with
      | error e =>
       simp -implicitDefEqProofs [outV]
       exact cv_fz 6 hcl rfl rfl
      | ok v =>
       simp -implicitDefEqProofs [outV]
       exact cv_fz 6 hcl rfl rfl
 rw [if_neg h20] at hv
 rw [if_neg h20]
 have hbin : isBin op := by unfold isBin; omega
 have hlk := lkm_bin hbin
 simp -implicitDefEqProofs
 refine call_of (a := []) (b := [rp G.length]) (c81' 0 hl0 1) ?_
 have hs := sm1 0
 generalize ofF 1 (wAt w 0) = x at hv hs
 cases x with
 | error e =>
  subst hv
  simp -implicitDefEqProofs [outV, outI]
  exact cv_fz 6 hcl rfl rfl
 | ok a =>
  have ha := hs a rfl
  simp -implicitDefEqProofs [outI]
  refine call_of (a := []) (b := [rp G.length]) (c81' 1 hl1 1) ?_
  have hs := sm1 1
  generalize ofF 1 (wAt w 1) = x at hv hs
  cases x with
  | error e =>
   subst hv
   simp -implicitDefEqProofs [outV, outI]
   exact cv_fz 6 hcl rfl rfl
  | ok b =>
   have hb := hs b rfl
   simp only at hv
   by_cases hz : b = 0 ∧ (op = 6 ∨ op = 7)
   · rw [if_pos hz] at hv
     subst hv
     obtain ⟨hb0, h67⟩ := hz
     rcases h67 with h6 | h6 <;> (simp -implicitDefEqProofs [outV, outI, hb0, h6]; exact cv_fz 6 hcl rfl rfl)
   · rw [if_neg hz] at hv
     have hbo := fun H => bin_ok (H := H) hbin ha hb (fun h67 hb0 => hz ⟨hb0, h67⟩)
     generalize binP op a b = q at hv hbo
     have b0 : b = 0 -> (decide (op = 6)) = false ∧ (decide (op = 7)) = false := fun hb0 => ⟨by simp; exact fun h6 => hz ⟨hb0, .inl h6⟩, by simp; exact fun h7 => hz ⟨hb0, .inr h7⟩⟩
     by_cases hbz : b = 0
     · obtain ⟨b6, b7⟩ := b0 hbz
       subst hbz
       simp -implicitDefEqProofs [outI, b6, b7, macV, hlk]
       refine ⟨by decide, ?_⟩
       refine call_go (hbo _) ?_
       by_cases h10 : 10 ≤ op
       · by_cases h15 : op ≤ 15
         · rw [if_pos ⟨h10, h15⟩] at hv
           subst hv
           simp -implicitDefEqProofs [h10, h15]
           refine call_go (ok83 _) ?_
           simp -implicitDefEqProofs [outV, boolF]
           exact cv_fz 6 hcl rfl rfl
         · rw [if_neg (fun hh => h15 hh.2)] at hv
           subst hv
           simp -implicitDefEqProofs [h10, h15]
           refine call_go (ok58 _) ?_
           generalize numF q = y
           cases y with
           | error e =>
            simp -implicitDefEqProofs [outV]
            exact cv_fz 6 hcl rfl rfl
           | ok v =>
            simp -implicitDefEqProofs [outV]
            exact cv_fz 6 hcl rfl rfl
       · rw [if_neg (fun hh => h10 hh.1)] at hv
         subst hv
         simp -implicitDefEqProofs [h10]
         refine call_go (ok58 _) ?_
         generalize numF q = y
         cases y with
         | error e =>
          simp -implicitDefEqProofs [outV]
          exact cv_fz 6 hcl rfl rfl
         | ok v =>
          simp -implicitDefEqProofs [outV]
          exact cv_fz 6 hcl rfl rfl
     · simp -implicitDefEqProofs [outI, hbz, macV, hlk]
       refine ⟨by decide, ?_⟩
       refine call_go (hbo _) ?_
       by_cases h10 : 10 ≤ op
       · by_cases h15 : op ≤ 15
         · rw [if_pos ⟨h10, h15⟩] at hv
           subst hv
           simp -implicitDefEqProofs [h10, h15]
           refine call_go (ok83 _) ?_
           simp -implicitDefEqProofs [outV, boolF]
           exact cv_fz 6 hcl rfl rfl
         · rw [if_neg (fun hh => h15 hh.2)] at hv
           subst hv
           simp -implicitDefEqProofs [h10, h15]
           refine call_go (ok58 _) ?_
           generalize numF q = y
           cases y with
           | error e =>
            simp -implicitDefEqProofs [outV]
            exact cv_fz 6 hcl rfl rfl
           | ok v =>
            simp -implicitDefEqProofs [outV]
            exact cv_fz 6 hcl rfl rfl
       · rw [if_neg (fun hh => h10 hh.1)] at hv
         subst hv
         simp -implicitDefEqProofs [h10]
         refine call_go (ok58 _) ?_
         generalize numF q = y
         cases y with
         | error e =>
          simp -implicitDefEqProofs [outV]
          exact cv_fz 6 hcl rfl rfl
         | ok v =>
          simp -implicitDefEqProofs [outV]
          exact cv_fz 6 hcl rfl rfl
end
end Go.Proofs.YtcejichidnlicaaGreatDoor
namespace Go.Proofs.YtcejichidnlicaaGreatDoor
open Go.Ab
def opTab : List (Int × List Int × Int × Bool) := [(3, [1], 1, false), (4, [2], 2, false), (5, [1, 1], 1, false), (6, [1, 1], 1, false), (7, [1, 1], 1, false), (8, [1, 1], 1, false), (9, [1, 1], 1, false), (18, [1, 1], 1, false), (19, [1, 1], 1, false),
 (10, [1, 1], 2, false), (11, [1, 1], 2, false), (12, [1, 1], 2, false), (13, [1, 1], 2, false), (14, [1, 1], 2, false), (15, [1, 1], 2, false), (16, [2, 2], 2, false), (17, [2, 2], 2, false), (20, [0, 0, 0], 0, true)]
def fnM (b : Bool) : SV := if b then .fn (.func 111) [] [] else .val .nilFunc
def opV (x : List Int × Int × Bool) : SV := .agg [.slc (ints x.1) x.1.length, i64 x.2.1, fnM x.2.2]
def opsK : List Value := opTab.map fun x => .int .i64 x.1
def opsW : List SV := opTab.map fun x => opV x.2
def opsM : SV := .mpf opsK opsW
def namesV (vs : List (List UInt8)) : SV := .slc (vs.map fun s => st (B s)) vs.length
def typV (vs : List (List UInt8)) : SV := .agg [varsM vs, opsM]
section
variable {H : List AO}
def t1O : AO := ⟨[.val (.map none), .val (.map none)], 114, 0, true⟩
def vmO (l : List (List UInt8)) : AO := ⟨.mk (sks l) :: trues l.length, 66, 0, false⟩
theorem loop97 {vs : List (List UInt8)} {x : SV} (hx : IsS H x vs) (hl : vs.length < 4611686018427387904) {N : Nat} {K : XE -> Env -> List AO -> Prop}
 (hexit : ∀ env, env.get 2 = .ptr (.own H.length 0 0 0 0) 0 -> env.get 3 = .ptr (.own (H.length + 3) 0 0 0 0) 0 -> K (.exit 0) env (H ++ [t1O, vmO (nubS [] vs), mpO 112 ([], []), ⟨[.mp (H.length + 1) 0, .mp (H.length + 2) 0], 114, 0, true⟩])) :
 ∀ (n i : Nat) (l : List (List UInt8)) (env : Env), i + n = vs.length -> nubS l (vs.drop i) = nubS [] vs -> env.get 2 = .ptr (.own H.length 0 0 0 0) 0 -> env.get 3 = .ptr (.own (H.length + 3) 0 0 0 0) 0 -> env.get 12 = x -> env.get 13 = i64 vs.length -> env.get 14 = i64 i →
  LI Tryz.prog N drawB l97_0 env (H ++ [t1O, vmO l, mpO 112 ([], []), ⟨[.mp (H.length + 1) 0, .mp (H.length + 2) 0], 114, 0, true⟩]) K := by
 intro n
 induction n with
 | zero =>
  intro i l env hi hr h2 h3 h12 h13 h14
  refine li_go hm l97_0.eq_1 ?_
  have e : i = vs.length := by omega
  subst e
  rw [List.drop_length] at hr
  have hr : l = _ := hr
  subst hr
  simp -implicitDefEqProofs [h2, h3, h12, h13, h14]
  exact hexit _ (by simp [h2]) (by simp [h3])
 | succ n ih =>
  intro i l env hi hr h2 h3 h12 h13 h14
  refine li_go hm l97_0.eq_1 ?_
  have hlt : i < vs.length := by omega
  have hlt' : (i : Int) < vs.length := by omega
  rw [List.drop_eq_getElem_cons hlt, nubS] at hr
  have mo : SV.mapOf (H ++ [t1O, vmO l, mpO 112 ([], []), ⟨[.mp (H.length + 1) 0, .mp (H.length + 2) 0], 114, 0, true⟩]) (.mp (H.length + 1) 0) = some (sks l, trues l.length) := by
   have : (H ++ [t1O, vmO l, mpO 112 ([], []), ⟨[.mp (H.length + 1) 0, .mp (H.length + 2) 0], 114, 0, true⟩])[H.length + 1]? = some (vmO l) := by simp
   simp only [SV.mapOf, this]; simp [vmO]
  simp -implicitDefEqProofs [h2, h3, h12, h13, h14, hlt, hlt', hx.vd, hx.ug, hx.sl, hx.cell, hx.len, hx.vA _ hlt, hx.okA _ hlt]
  refine s_mup_go (x := (sks l, trues l.length)) mo rfl rfl (sks_all l) ?_
  have e1 := setK_s vs[i] l
  have e2 := setV_s vs[i] l
  simp -implicitDefEqProofs [h2, h3, h12, h13, h14, vmO, e1, e2]
  refine ih (i + 1) (addS l vs[i]) _ (by omega) hr ?_ ?_ ?_ ?_ ?_
  all_goals simp [h2, h3, h12, h13, h14, wrap_suc (show i < 9223372036854775807 by omega)]
theorem ok97x {vs : List (List UInt8)} {x : SV} (hx : IsS H x vs) (hl : vs.length < 4611686018427387904) : Ok Tryz.prog 97 [x] H (.ret (typV vs)) H := by
 refine ok_fn hm Tryz.func97 c97 (by simp) fun hcl => ?_
 simp -implicitDefEqProofs [i97, r97, hx.vd, hx.ug, hx.sl, hx.cell, hx.len]
 refine LI.cong (H' := H ++ [t1O, vmO [], mpO 112 ([], []), ⟨[.mp (H.length + 1) 0, .mp (H.length + 2) 0], 114, 0, true⟩]) (by simp [t1O, vmO, mpO, sks, trues]) ?_
 refine loop97 hx hl (fun env h2 h3 => ?_) vs.length 0 [] _ (by omega) rfl ?_ ?_ ?_ ?_ ?_
 · generalize hnl : nubS [] vs = l at *
   have kf : ∀ (v : SV) (l : List Int) (m : MapV), iK m -> iK (l.foldl (setM v) m) := by
    intro v l
    induction l with
    | nil => exact fun m h => h
    | cons x r ih => exact fun m h => ih _ (iK_set h)
   simp -implicitDefEqProofs [h2, h3]
   refine call_of (a := []) (b := [.ptr (.own (H.length + 3) 0 0 0 0) 0]) (ok110 (k := H.length + 5) (j := H.length + 3) (a := H.length + 1) (b := H.length + 2) (l := [3]) (tk := .own (H.length + 4) 0 1 1 0) (mf := .val .nilFunc) (ow := 1) (m := ([], [])) (by decide) (by simp [ints]) (by simp) (by simp) (by omega) (by omega) rfl rfl rfl ⟨rfl, by simp [SV.under, SV.underL], by simp [SV.under, SV.underL]⟩) ?_
   generalize hm1 : ([3] : List Int).foldl (setM (.agg [.own (H.length + 4) 0 1 1 0, i64 1, .val .nilFunc])) ([], []) = m1
   have k1 : iK m1 := by rw [← hm1]; exact kf _ _ _ rfl
   have u1 : SV.underL (H.length + 6) m1.2 = true := by rw [← hm1]; exact und_fold (by simp [SV.under, SV.underL]) _ _ rfl
   simp -implicitDefEqProofs [h2, h3]
   refine call_of (a := []) (b := [.ptr (.own (H.length + 3) 0 0 0 0) 0]) (ok110 (k := H.length + 7) (j := H.length + 3) (a := H.length + 1) (b := H.length + 2) (l := [4]) (tk := .own (H.length + 6) 0 1 1 0) (mf := .val .nilFunc) (ow := 2) (m := m1) (by decide) (by simp [ints]) (by simp) (by simp) (by omega) (by omega) rfl rfl k1 ⟨SV.underL_mono (by simp) _ u1, by simp [SV.under, SV.underL], by simp [SV.under, SV.underL]⟩) ?_
   generalize hm2 : ([4] : List Int).foldl (setM (.agg [.own (H.length + 6) 0 1 1 0, i64 2, .val .nilFunc])) m1 = m2
   have k2 : iK m2 := by rw [← hm2]; exact kf _ _ _ k1
   have u2 : SV.underL (H.length + 8) m2.2 = true := by rw [← hm2]; exact und_fold (by simp [SV.under, SV.underL]) _ _ (SV.underL_mono (by omega) _ u1)
   simp -implicitDefEqProofs [h2, h3]
   refine call_of (a := []) (b := [.ptr (.own (H.length + 3) 0 0 0 0) 0]) (ok110 (k := H.length + 10) (j := H.length + 3) (a := H.length + 1) (b := H.length + 2) (l := [5, 6, 7, 8, 9, 18, 19]) (tk := .own (H.length + 8) 0 2 1 0) (mf := .val .nilFunc) (ow := 1) (m := m2) (by decide) (by simp [ints]) (by simp) (by simp) (by omega) (by omega) rfl rfl k2 ⟨SV.underL_mono (by simp) _ u2, by simp [SV.under, SV.underL], by simp [SV.under, SV.underL]⟩) ?_
   generalize hm3 : ([5, 6, 7, 8, 9, 18, 19] : List Int).foldl (setM (.agg [.own (H.length + 8) 0 2 1 0, i64 1, .val .nilFunc])) m2 = m3
   have k3 : iK m3 := by rw [← hm3]; exact kf _ _ _ k2
   have u3 : SV.underL (H.length + 11) m3.2 = true := by rw [← hm3]; exact und_fold (by simp [SV.under, SV.underL]) _ _ (SV.underL_mono (by omega) _ u2)
   simp -implicitDefEqProofs [h2, h3]
   refine call_of (a := []) (b := [.ptr (.own (H.length + 3) 0 0 0 0) 0]) (ok110 (k := H.length + 11) (j := H.length + 3) (a := H.length + 1) (b := H.length + 2) (l := [10, 11, 12, 13, 14, 15]) (tk := .own (H.length + 8) 0 2 1 0) (mf := .val .nilFunc) (ow := 2) (m := m3) (by decide) (by simp [ints]) (by simp) (by simp) (by omega) (by omega) rfl rfl k3 ⟨SV.underL_mono (by simp) _ u3, by simp [SV.under, SV.underL], by simp [SV.under, SV.underL]⟩) ?_
   generalize hm4 : ([10, 11, 12, 13, 14, 15] : List Int).foldl (setM (.agg [.own (H.length + 8) 0 2 1 0, i64 2, .val .nilFunc])) m3 = m4
   have k4 : iK m4 := by rw [← hm4]; exact kf _ _ _ k3
   have u4 : SV.underL (H.length + 12) m4.2 = true := by rw [← hm4]; exact und_fold (by simp [SV.under, SV.underL]) _ _ (SV.underL_mono (by omega) _ u3)
   simp -implicitDefEqProofs [h2, h3]
   refine call_of (a := []) (b := [.ptr (.own (H.length + 3) 0 0 0 0) 0]) (ok110 (k := H.length + 12) (j := H.length + 3) (a := H.length + 1) (b := H.length + 2) (l := [16, 17]) (tk := .own (H.length + 9) 0 2 1 0) (mf := .val .nilFunc) (ow := 2) (m := m4) (by decide) (by simp [ints]) (by simp) (by simp) (by omega) (by omega) rfl rfl k4 ⟨SV.underL_mono (by simp) _ u4, by simp [SV.under, SV.underL], by simp [SV.under, SV.underL]⟩) ?_
   generalize hm5 : ([16, 17] : List Int).foldl (setM (.agg [.own (H.length + 9) 0 2 1 0, i64 2, .val .nilFunc])) m4 = m5
   have k5 : iK m5 := by rw [← hm5]; exact kf _ _ _ k4
   have u5 : SV.underL (H.length + 13) m5.2 = true := by rw [← hm5]; exact und_fold (by simp [SV.under, SV.underL]) _ _ (SV.underL_mono (by omega) _ u4)
   simp -implicitDefEqProofs [h2, h3]
   refine call_of (a := []) (b := [.ptr (.own (H.length + 3) 0 0 0 0) 0]) (ok110 (k := H.length + 14) (j := H.length + 3) (a := H.length + 1) (b := H.length + 2) (l := [20]) (tk := .own (H.length + 13) 0 3 1 0) (mf := .fn (.func 111) [] []) (ow := 0) (m := m5) (by decide) (by simp [ints]) (by simp) (by simp) (by omega) (by omega) rfl rfl k5 ⟨SV.underL_mono (by simp) _ u5, by simp [SV.under, SV.underL], by simp [SV.under, SV.underL]⟩) ?_
   generalize hm6 : ([20] : List Int).foldl (setM (.agg [.own (H.length + 13) 0 3 1 0, i64 0, .fn (.func 111) [] []])) m5 = m6
   have k6 : iK m6 := by rw [← hm6]; exact kf _ _ _ k5
   have u6 : SV.underL (H.length + 15) m6.2 = true := by rw [← hm6]; exact und_fold (by simp [SV.under, SV.underL]) _ _ (SV.underL_mono (by omega) _ u5)
   simp -implicitDefEqProofs [h2, h3, t1O]
   refine cv_fz 6 hcl rfl ?_
   simp [typV, varsM, opsM, opsK, opsW, vmO, mpO, map_fz_under _ _ _ _ (trues_und _ _)]
   refine ⟨⟨by rw [hnl], by rw [hnl]⟩, ?_, ?_⟩
   all_goals
    subst hm6 hm5 hm4 hm3 hm2 hm1
    simp [setM, msetK, msetV, vkeq, opTab, opV, fnM, ints]
 all_goals simp [namesV]
end
end Go.Proofs.YtcejichidnlicaaGreatDoor
namespace Go.Proofs.YtcejichidnlicaaGreatDoor
open Go.Ab
def opOf (op : Int) : Option (List Int × Int × Bool) := (opTab.find? fun x => x.1 = op).map (·.2)
def Ex.at : Ex -> Int
 | .mk _ _ _ _ p => p
def Ex.op : Ex -> Int
 | .mk op _ _ _ _ => op
def takesOf (o : List Int × Int × Bool) (ks : List Int) : List Int := if o.2.2 then [2, ks.getD 1 0, ks.getD 1 0] else o.1
def ownOf (o : List Int × Int × Bool) (ks : List Int) : Int := if o.2.2 then ks.getD 1 0 else o.2.1
def chkT (own : Int) : List Int -> List Int -> List Ex -> Int × Int × Int
 | t :: ts, k :: ks, e :: l => if k ≠ t then (0, 10, e.at) else chkT own ts ks l
 | _, _, _ => (own, 0, 0)
mutual
def tyE (vs : List (List UInt8)) : Ex -> Int × Int × Int
 | .mk op _ nm l p =>
  match opOf op with
  | none => if op = 1 ∨ op = 2 then (if l.length ≠ 0 then (0, 3, p) else if op = 2 ∧ nm ∉ vs then (0, 7, p) else (1, 0, 0)) else (0, 3, p)
  | some o => if l.length ≠ o.1.length then (0, 3, p) else
   match tyL vs l with
   | .error f => (0, f)
   | .ok ks => chkT (ownOf o ks) (takesOf o ks) ks l
def tyL (vs : List (List UInt8)) : List Ex -> Except (Int × Int) (List Int)
 | [] => .ok []
 | e :: r => if (tyE vs e).2.1 ≠ 0 then .error (tyE vs e).2 else
  match tyL vs r with
  | .error f => .error f
  | .ok ks => .ok ((tyE vs e).1 :: ks)
end
mutual
def Ex.hgt : Ex -> Nat
 | .mk _ _ _ l _ => Ex.hgtL l + 1
def Ex.hgtL : List Ex -> Nat
 | [] => 0
 | e :: r => max e.hgt (Ex.hgtL r)
end
theorem lkm_i {α : Type} (f : α -> SV) (k : Int) : ∀ tab : List (Int × α), lkm (.int .i64 k) (tab.map fun x => .int .i64 x.1) (tab.map fun x => f x.2) = ((tab.find? fun x => x.1 = k).map (·.2)).map f
 | [] => by simp [lkm]
 | x :: r => by
  simp only [List.map_cons, lkm, vkeq, List.find?_cons]
  by_cases h : k = x.1
  · subst h; simp
  · have h2 : ¬ x.1 = k := fun e => h e.symm
    simp only [h, decide_false, Bool.false_eq_true, if_false, h2]
    exact lkm_i f k r
theorem iK_tab {α : Type} (tab : List (Int × α)) : ∀ v ∈ (tab.map fun x => Value.int .i64 x.1), (KK.i .i64).is v = true := by
 intro v hv; rw [List.mem_map] at hv; obtain ⟨x, _, rfl⟩ := hv; rfl
section
variable {H : List AO}
theorem ok111 {k v : Nat} {a b c : Int} (ho : H[k]? = some ⟨[i64 a, i64 b, i64 c], 3, v, true⟩) : Ok Tryz.prog 111 [.own k 0 3 1 v] H (.ret (.tup [.slc [i64 2, i64 b, i64 b] 3, i64 b])) H := by
 have hk := getElem?_lt ho
 have e1 : objCells H k v = [i64 a, i64 b, i64 c] := objCells_of (o := ⟨[i64 a, i64 b, i64 c], 3, v, true⟩) ho rfl
 refine ok_fn hm Tryz.func111 c111 (by simp) fun hcl => ?_
 have e2 : ∀ L, objCells (H ++ L) k v = [i64 a, i64 b, i64 c] := fun L => by rw [objCells_app L hk, e1]
 simp -implicitDefEqProofs [i111, r111, e1, e2]
 refine cv_fz 3 hcl rfl ?_
 simp
end
theorem opOf_none {op : Int} (h : opOf op = none) : lkm (.int .i64 op) opsK opsW = none := by
 unfold opsK opsW; rw [lkm_i opV op opTab]; unfold opOf at h; rw [h]; rfl
theorem opOf_some {op : Int} {o : List Int × Int × Bool} (h : opOf op = some o) : lkm (.int .i64 op) opsK opsW = some (opV o) := by
 unfold opsK opsW; rw [lkm_i opV op opTab]; unfold opOf at h; rw [h]; rfl
theorem opsK_all : ∀ v ∈ opsK, (KK.i .i64).is v = true := iK_tab opTab
@[simp] theorem slen_nil : (SV.val (.slice none 0 0)).slen = 0 := rfl
@[simp] theorem isSl_nil : (SV.val (.slice none 0 0)).isSl = true := rfl
@[simp] theorem isFn_fn (f : Fn) (a b : List SV) : (SV.fn f a b).isFn = true := rfl
@[simp] theorem fnNil_fn (f : Fn) (a b : List SV) : (SV.fn f a b).fnNil = false := rfl
@[simp] theorem isFn_nil : (SV.val .nilFunc).isFn = true := rfl
@[simp] theorem fnNil_nil : (SV.val .nilFunc).fnNil = true := rfl
theorem opOf_plain {op : Int} {o : List Int × Int × Bool} (h : opOf op = some o) : op ≠ 1 ∧ op ≠ 2 := by
 constructor
 · rintro rfl; have h1 : opOf 1 = none := by decide
   rw [h1] at h; cases h
 · rintro rfl; have h1 : opOf 2 = none := by decide
   rw [h1] at h; cases h
theorem opOf_len {op : Int} {o : List Int × Int × Bool} (h : opOf op = some o) : o.1.length ≤ 3 ∧ (o.2.2 = true -> o.1.length = 3) := by
 unfold opOf at h
 rw [Option.map_eq_some_iff] at h
 obtain ⟨x, h1, rfl⟩ := h
 have h2 : ∀ x ∈ opTab, x.2.1.length ≤ 3 ∧ (x.2.2.2 = true -> x.2.1.length = 3) := by decide
 exact h2 x (List.mem_of_find?_eq_some h1)
theorem errV_und (n : Nat) (e p : Int) : (errV e p).under n = true := by
 unfold errV; split <;> rfl
@[simp] theorem errV_fz (n : Nat) (ks : List Nat) (L : List AO) (d : Nat) (e p : Int) : SV.fz n ks L (d + 1) (errV e p) = errV e p := fz_under (errV_und n e p)
theorem errV_0 (p : Int) : errV 0 p = .val .nilIface := rfl
section
variable {H : List AO} {vs : List (List UInt8)} {rest : List SV} {j : Nat} {T : TypeId}
def exO (e : Ex) : AO := ⟨e.c, 24, 0, true⟩
def oO (o : List Int × Int × Bool) : AO := ⟨[.slc (ints o.1) o.1.length, i64 o.2.1, fnM o.2.2], 127, 0, true⟩
def kO (ks : List Int) : AO := ⟨ints ks, 3, ks.length, true⟩
theorem exL_get {l : List Ex} {i : Nat} (h : i < l.length) : ((Ex.cL l).drop (i * 5)).take 5 = l[i].c := by
 rw [exL_rws, rws_at Ex.c_len h, List.take_left' (by simp)]
theorem loop98_0 {l : List Ex} (hty : H[j]? = some (tyO (varsM vs) opsM rest T)) {depth : Nat} (hd : depth < 100000) (hl : l.length ≤ 3) (hIH : ∀ e ∈ l, ∀ H, H[j]? = some (tyO (varsM vs) opsM rest T) -> Ok Tryz.prog 98 [rp j, e.v, i64 ((depth + 1 : Nat) : Int)] H (.ret (.tup [i64 (tyE vs e).1, errV (tyE vs e).2.1 (tyE vs e).2.2])) H)
 {A : AO} {B : AO} {N : Nat} {K : XE -> Env -> List AO -> Prop} {res : Except (Int × Int) (List Int)}
 (hret : ∀ f, res = .error f -> f.1 ≠ 0 -> ∀ env G, env.get 6 = i64 0 -> env.get 7 = errV f.1 f.2 -> K .ret env (H ++ A :: B :: G))
 (hexit : ∀ ks, res = .ok ks -> ks.length = l.length -> ∀ env G, env.get 4 = .ptr (.own H.length 0 0 0 0) 0 -> env.get 8 = .ptr (.own (H.length + 1) 0 0 0 0) 0 -> env.get 11 = .own (H.length + 2) 0 ks.length 1 ks.length -> K (.exit 0) env (H ++ A :: B :: kO ks :: G)) :
 ∀ (m i : Nat) (ks : List Int) (G : List AO) (env : Env), i + m = l.length -> ks.length = i -> (match tyL vs (l.drop i) with | .error f => .error f | .ok r => .ok (ks ++ r)) = res -> env.get 0 = rp j -> env.get 2 = i64 depth →
  env.get 4 = .ptr (.own H.length 0 0 0 0) 0 -> env.get 8 = .ptr (.own (H.length + 1) 0 0 0 0) 0 -> env.get 11 = .own (H.length + 2) 0 ks.length 1 ks.length -> env.get 82 = .slc (Ex.cL l) l.length -> env.get 83 = i64 l.length -> env.get 84 = i64 i →
  LI Tryz.prog N drawB l98_0 env (H ++ A :: B :: kO ks :: G) K := by
 intro m
 induction m with
 | zero =>
  intro i ks G env hi hk hr h0 h2 h4 h8 h11 h82 h83 h84
  refine li_go hm l98_0.eq_1 ?_
  have e : i = l.length := by omega
  subst e
  rw [List.drop_length] at hr
  simp only [tyL, List.append_nil] at hr
  simp -implicitDefEqProofs [h0, h2, h4, h8, h11, h82, h83, h84]
  refine hexit ks hr.symm hk _ G ?_ ?_ ?_ <;> simp [h4, h8, h11]
 | succ m ih =>
  intro i ks G env hi hk hr h0 h2 h4 h8 h11 h82 h83 h84
  refine li_go hm l98_0.eq_1 ?_
  have hlt : i < l.length := by omega
  have hlt' : (i : Int) < l.length := by omega
  have hg := exL_get hlt
  have hcl := exL_len l
  have w1 : IntKind.i64.wrap ((depth : Int) + 1) = ((depth + 1 : Nat) : Int) := wrap_succ (by omega)
  rw [List.drop_eq_getElem_cons hlt, tyL] at hr
  have hIH' := fun L => hIH l[i] (List.getElem_mem hlt) (H ++ L) (get_app_l hty L)
  simp -implicitDefEqProofs [h0, h2, h4, h8, h11, h82, h83, h84, hlt, hlt', hg, hcl]
  refine ⟨by omega, call_go (by rw [w1]; exact hIH' _) ?_⟩
  by_cases he : (tyE vs l[i]).2.1 = 0
  · rw [if_neg (by simp [he])] at hr
    have hev : errV (tyE vs l[i]).2.1 (tyE vs l[i]).2.2 = .val .nilIface := by rw [he]; rfl
    rw [hev]
    simp -implicitDefEqProofs [h0, h2, h4, h8, h11, h82, h83, h84, kO]
    refine ⟨by omega, by omega, ?_⟩
    have hkl : (ks ++ [(tyE vs l[i]).1]).length = ks.length + 1 := by simp
    refine LI.cong ?_ (ih (i + 1) (ks ++ [(tyE vs l[i]).1]) (G ++ [exO l[i], ⟨[i64 (tyE vs l[i]).1], 3, 0, true⟩]) _ (by omega) (by omega) ?_ ?_ ?_ ?_ ?_ ?_ ?_ ?_ ?_)
    · simp [kO, exO, ints]
    · rw [← hr]
      cases tyL vs (l.drop (i + 1)) <;> simp
    all_goals simp [h0, h2, h4, h8, h82, h83, hkl, wrap_suc (show i < 9223372036854775807 by omega)]
  · rw [if_pos he] at hr
    have hev := errV_of he (tyE vs l[i]).2.2
    rw [hev]
    simp -implicitDefEqProofs [h0, h2, h4, h8, h11, h82, h83, h84]
    refine hret _ hr.symm he _ _ ?_ ?_
    · simp
    · simp [hev]
theorem exL_at {l : List Ex} {i : Nat} (h : i < l.length) : (Ex.cL l)[i * 5 + 4]? = some (i64 l[i].at) := by
 rw [exL_rws, rws_get Ex.c_len h (by omega)]
 cases l[i]; rfl
theorem loop98_1 {l : List Ex} {ks ts : List Int} {own : Int} (hl : l.length ≤ 3) (hkl : ks.length = l.length) (htl : ts.length = l.length) {op k : Int} {nm : List UInt8} {p : Int} {v : Nat} {Z : AO} {N : Nat} {K : XE -> Env -> List AO -> Prop} {res : Int × Int × Int}
 (hret : res.2.1 = 10 -> res.1 = 0 -> ∀ env G, env.get 6 = i64 0 -> env.get 7 = errV res.2.1 res.2.2 -> K .ret env (H ++ G))
 (hexit : res = (own, 0, 0) -> ∀ env G, env.get 17 = i64 own -> K (.exit 2) env (H ++ G)) :
 ∀ (m i : Nat) (G : List AO) (env : Env), i + m = l.length -> chkT own (ts.drop i) (ks.drop i) (l.drop i) = res -> env.get 4 = .ptr (.own H.length 0 0 0 0) 0 -> env.get 16 = .slc (ints ts) ts.length -> env.get 17 = i64 own -> env.get 118 = .own (H.length + 2) 0 ks.length 1 ks.length -> env.get 119 = i64 ks.length -> env.get 120 = i64 i →
  LI Tryz.prog N drawB l98_1 env (H ++ ⟨[i64 op, i64 k, st (B nm), .slc (Ex.cL l) l.length, i64 p], 24, 0, true⟩ :: Z :: kO ks :: G) K := by
 intro m
 induction m with
 | zero =>
  intro i G env hi hr h4 h16 h17 h118 h119 h120
  refine li_go hm l98_1.eq_1 ?_
  have e : i = l.length := by omega
  have hn : ¬ (i : Int) < ks.length := by omega
  have hn' : ¬ i < ks.length := by omega
  rw [List.drop_of_length_le (by omega), List.drop_of_length_le (by omega), List.drop_of_length_le (by omega)] at hr
  simp -implicitDefEqProofs [h4, h16, h17, h118, h119, h120, hn, hn']
  exact hexit hr.symm _ _ (by simp [h17])
 | succ m ih =>
  intro i G env hi hr h4 h16 h17 h118 h119 h120
  refine li_go hm l98_1.eq_1 ?_
  have h1 : i < l.length := by omega
  have h2 : i < ks.length := by omega
  have h3 : i < ts.length := by omega
  have h2' : (i : Int) < ks.length := by omega
  have h3' : (i : Int) < ts.length := by omega
  have h1' : (i : Int) < l.length := by omega
  rw [List.drop_eq_getElem_cons h1, List.drop_eq_getElem_cons h2, List.drop_eq_getElem_cons h3, chkT] at hr
  have hat := exL_at h1
  have hcl := exL_len l
  by_cases hne : ks[i] = ts[i]
  · rw [if_neg (by simp [hne])] at hr
    simp -implicitDefEqProofs [h4, h16, h17, h118, h119, h120, h2, h2', h3, h3', hne, kO]
    refine ⟨by omega, by omega, ?_⟩
    refine LI.cong ?_ (ih (i + 1) G _ (by omega) hr ?_ ?_ ?_ ?_ ?_ ?_)
    · simp [kO]
    all_goals simp [h4, h16, h17, h118, h119, wrap_suc (show i < 9223372036854775807 by omega)]
  · rw [if_pos hne] at hr
    simp -implicitDefEqProofs [h4, h16, h17, h118, h119, h120, h2, h2', h3, h3', hne, kO, h1, h1', hat, hcl]
    refine ⟨by omega, by omega, by omega, call_go (ok113 (e := 10) (by decide) l[i].at) ?_⟩
    simp -implicitDefEqProofs [h4]
    subst hr
    exact hret rfl rfl _ _ (by simp) (by simp)
theorem ok24_none (hcl : closed H) {op k : Int} {nm : List UInt8} {l : List Ex} {p : Int} {depth : Nat} (hd : depth < 100000) (hty : H[j]? = some (tyO (varsM vs) opsM rest T)) (ho : opOf op = none) :
 X Tryz.prog Tryz.f98.ntmps drawB i98 (argsEnv [rp j, (Ex.mk op k nm l p).v, i64 depth]) H (Fin H.length r98 (.ret (.tup [i64 (tyE vs (.mk op k nm l p)).1, errV (tyE vs (.mk op k nm l p)).2.1 (tyE vs (.mk op k nm l p)).2.2])) H) := by
 have hd' : ¬ (depth : Int) = 100000 := by omega
 simp -implicitDefEqProofs [i98, r98, Ex.v, Ex.c, hd']
 have hal := opsK_all
 have hoc := fun L => oc_app hty rfl rfl L
 simp only [tyO] at hoc
 have hlk := opOf_none ho
 by_cases h1 : op = 1
 · subst h1
   by_cases hl0 : l.length = 0
   · have ht : tyE vs (.mk 1 k nm l p) = (1, 0, 0) := by rw [tyE, ho]; simp [hl0]
     have hl0' : (l.length : Int) = 0 := by omega
     rw [ht]
     simp -implicitDefEqProofs [rp, hoc, opsM, hlk, hl0']
     refine ⟨hal, ⟨rfl, rfl⟩, callq_go (r := bl false) (fun h => by cases h) ?_⟩
     simp -implicitDefEqProofs
     refine cv_fz 3 hcl rfl ?_
     simp [errV_0]
   · have ht : tyE vs (.mk 1 k nm l p) = (0, 3, p) := by rw [tyE, ho]; simp [hl0]
     have hl0' : ¬ (l.length : Int) = 0 := by omega
     have hnil : ¬ l = [] := fun h => hl0 (by simp [h])
     rw [ht]
     simp -implicitDefEqProofs [rp, hoc, opsM, hlk, hl0', hnil]
     refine ⟨hal, ⟨rfl, rfl⟩, call_go (ok113 (e := 3) (by decide) p) ?_⟩
     simp -implicitDefEqProofs
     refine cv_fz 3 hcl rfl ?_
     simp
 · by_cases h2 : op = 2
   · subst h2
     by_cases hl0 : l.length = 0
     · have hl0' : (l.length : Int) = 0 := by omega
       simp -implicitDefEqProofs [rp, hoc, opsM, hlk, hl0']
       refine ⟨hal, ⟨rfl, rfl⟩, callq_st (r := bl (decide (nm ∈ vs))) (fun _ => ok114 (get_app_l hty _) nm) ?_⟩
       by_cases hv : nm ∈ vs
       · have ht : tyE vs (.mk 2 k nm l p) = (1, 0, 0) := by rw [tyE, ho]; simp [hl0, hv]
         rw [ht]
         simp -implicitDefEqProofs [hv]
         refine cv_fz 3 hcl rfl ?_
         simp [errV_0]
       · have ht : tyE vs (.mk 2 k nm l p) = (0, 7, p) := by rw [tyE, ho]; simp [hl0, hv]
         rw [ht]
         simp -implicitDefEqProofs [hv]
         refine call_go (ok113 (e := 7) (by decide) p) ?_
         simp -implicitDefEqProofs
         refine cv_fz 3 hcl rfl ?_
         simp
     · have ht : tyE vs (.mk 2 k nm l p) = (0, 3, p) := by rw [tyE, ho]; simp [hl0]
       have hl0' : ¬ (l.length : Int) = 0 := by omega
       have hnil : ¬ l = [] := fun h => hl0 (by simp [h])
       rw [ht]
       simp -implicitDefEqProofs [rp, hoc, opsM, hlk, hl0', hnil]
       refine ⟨hal, ⟨rfl, rfl⟩, call_go (ok113 (e := 3) (by decide) p) ?_⟩
       simp -implicitDefEqProofs
       refine cv_fz 3 hcl rfl ?_
       simp
   · have ht : tyE vs (.mk op k nm l p) = (0, 3, p) := by rw [tyE, ho]; simp [h1, h2]
     rw [ht]
     simp -implicitDefEqProofs [rp, hoc, opsM, hlk, h1, h2]
     refine ⟨hal, ⟨rfl, rfl⟩, call_go (ok113 (e := 3) (by decide) p) ?_⟩
     simp -implicitDefEqProofs
     refine cv_fz 3 hcl rfl ?_
     simp
theorem ok24_some (hcl : closed H) {o : List Int × Int × Bool} {op k : Int} {nm : List UInt8} {l : List Ex} {p : Int} {depth : Nat} (hd : depth < 100000) (hty : H[j]? = some (tyO (varsM vs) opsM rest T)) (ho : opOf op = some o) (hIH : ∀ e ∈ l, ∀ H, H[j]? = some (tyO (varsM vs) opsM rest T) -> Ok Tryz.prog 98 [rp j, e.v, i64 ((depth + 1 : Nat) : Int)] H (.ret (.tup [i64 (tyE vs e).1, errV (tyE vs e).2.1 (tyE vs e).2.2])) H) :
 X Tryz.prog Tryz.f98.ntmps drawB i98 (argsEnv [rp j, (Ex.mk op k nm l p).v, i64 depth]) H (Fin H.length r98 (.ret (.tup [i64 (tyE vs (.mk op k nm l p)).1, errV (tyE vs (.mk op k nm l p)).2.1 (tyE vs (.mk op k nm l p)).2.2])) H) := by
 have hd' : ¬ (depth : Int) = 100000 := by omega
 simp -implicitDefEqProofs [i98, r98, Ex.v, Ex.c, hd']
 have hal := opsK_all
 have hoc := fun L => oc_app hty rfl rfl L
 simp only [tyO] at hoc
 have hlk := opOf_some ho
 obtain ⟨hp1, hp2⟩ := opOf_plain ho
 obtain ⟨ho3, hoM⟩ := opOf_len ho
 have hfm : (fnM o.2.2).isCell = true := by cases o.2.2 <;> rfl
 generalize hx : tyE vs (.mk op k nm l p) = x
 rw [tyE, ho] at hx
 by_cases hll : l.length = o.1.length
 · have hll' : (l.length : Int) = o.1.length := by omega
   simp only [hll, ne_eq, not_true_eq_false, if_false] at hx
   generalize hres : tyL vs l = res at hx
   simp -implicitDefEqProofs [rp, hoc, opsM, hlk, hp1, hp2, opV, hll]
   refine ⟨hal, hfm, by omega, by omega, ?_⟩
   refine LI.cong (H' := H ++ ⟨[i64 op, i64 k, st (B nm), .slc (Ex.cL l) l.length, i64 p], 24, 0, true⟩ :: oO o :: kO [] :: []) (by simp [oO, kO, ints, hll]) ?_
   refine loop98_0 hty hd (by omega) hIH (res := res) (fun f hf hf0 env G h6 h7 => ?_) (fun ks hks hkl env G h4 h8 h11 => ?_) l.length 0 [] [] _ (by omega) rfl ?_ ?_ ?_ ?_ ?_ ?_ ?_ ?_ ?_
   · subst hf
     simp only at hx
     subst hx
     simp -implicitDefEqProofs [h6, h7]
     refine cv_fz 3 hcl rfl ?_
     simp
   · subst hks
     simp only at hx
     by_cases hM : o.2.2 = true
     · have hl3 : l.length = 3 := by rw [hll]; exact hoM hM
       have ht : takesOf o ks = [2, ks.getD 1 0, ks.getD 1 0] := by unfold takesOf; rw [if_pos hM]
       have hw : ownOf o ks = ks.getD 1 0 := by unfold ownOf; rw [if_pos hM]
       rw [ht, hw] at hx
       obtain ⟨a, b, c, rfl⟩ : ∃ a b c, ks = [a, b, c] := by
        match ks, hkl with
        | [a, b, c], _ => exact ⟨a, b, c, rfl⟩
        | [], h => simp at h; omega
        | [a], h => simp at h; omega
        | [a, b], h => simp at h; omega
        | a :: b :: c :: d :: r, h => simp at h; omega
       simp -implicitDefEqProofs [h4, h8, h11, oO, hM, fnM]
       refine call_go (ok111 (H := _) (k := H.length + 2) (v := 3) (a := a) (b := b) (c := c) (by simp [kO, ints])) ?_
       simp -implicitDefEqProofs [h4, h8, h11]
       refine loop98_1 (l := l) (ks := [a, b, c]) (ts := [2, b, b]) (own := b) (op := op) (k := k) (nm := nm) (p := p) (v := 0) (res := x) (by omega) (by simp [hl3]) (by simp [hl3]) (fun h10 h0 env G h6 h7 => ?_) (fun he env G h17 => ?_) l.length 0 _ _ (by omega) hx ?_ ?_ ?_ ?_ ?_ ?_
       · simp -implicitDefEqProofs [h6, h7]
         rw [h0]
         refine cv_fz 3 hcl rfl ?_
         simp
       · simp -implicitDefEqProofs [h17]
         subst he
         refine cv_fz 3 hcl rfl ?_
         simp [errV_0]
       all_goals simp [h4, ints]
     · have ht : takesOf o ks = o.1 := by unfold takesOf; rw [if_neg hM]
       have hw : ownOf o ks = o.2.1 := by unfold ownOf; rw [if_neg hM]
       rw [ht, hw] at hx
       rw [Bool.not_eq_true] at hM
       simp -implicitDefEqProofs [h4, h8, h11, oO, hM, fnM]
       refine loop98_1 (l := l) (ks := ks) (ts := o.1) (own := o.2.1) (op := op) (k := k) (nm := nm) (p := p) (v := 0) (res := x) (by omega) hkl hll.symm (fun h10 h0 env G h6 h7 => ?_) (fun he env G h17 => ?_) l.length 0 _ _ (by omega) hx ?_ ?_ ?_ ?_ ?_ ?_
       · simp -implicitDefEqProofs [h6, h7]
         rw [h0]
         refine cv_fz 3 hcl rfl ?_
         simp
       · simp -implicitDefEqProofs [h17]
         subst he
         refine cv_fz 3 hcl rfl ?_
         simp [errV_0]
       all_goals simp [h4]
   · rw [← hres]; simp; cases tyL vs l <;> rfl
   all_goals simp [hll, rp]
 · have hll' : ¬ (l.length : Int) = o.1.length := by omega
   simp only [hll, ne_eq, not_false_eq_true, if_true] at hx
   subst hx
   simp -implicitDefEqProofs [rp, hoc, opsM, hlk, hp1, hp2, opV, hll', hll]
   refine ⟨hal, hfm, call_go (ok113 (e := 3) (by decide) p) ?_⟩
   simp -implicitDefEqProofs
   refine cv_fz 3 hcl rfl ?_
   simp
end
mutual
theorem ok98 {H : List AO} {vs : List (List UInt8)} {rest : List SV} {j : Nat} {T : TypeId} : ∀ (e : Ex) (depth : Nat), depth + e.hgt ≤ 100000 -> H[j]? = some (tyO (varsM vs) opsM rest T) →
 Ok Tryz.prog 98 [rp j, e.v, i64 depth] H (.ret (.tup [i64 (tyE vs e).1, errV (tyE vs e).2.1 (tyE vs e).2.2])) H
 | .mk op k nm l p, depth, hd, hty => by
  rw [Ex.hgt] at hd
  refine ok_fn hm Tryz.func98 c98 (by simp) fun hcl => ?_
  cases ho : opOf op with
  | none => exact ok24_none hcl (by omega) hty ho
  | some o => exact ok24_some hcl (by omega) hty ho fun e he H' h' => ok24L l (depth + 1) (by omega) e he h'
theorem ok24L {vs : List (List UInt8)} {rest : List SV} {j : Nat} {T : TypeId} : ∀ (l : List Ex) (depth : Nat), depth + Ex.hgtL l ≤ 100000 -> ∀ e ∈ l, ∀ {H : List AO}, H[j]? = some (tyO (varsM vs) opsM rest T) →
 Ok Tryz.prog 98 [rp j, e.v, i64 depth] H (.ret (.tup [i64 (tyE vs e).1, errV (tyE vs e).2.1 (tyE vs e).2.2])) H
 | [], depth, hd, e, he, _, _ => by simp at he
 | x :: r, depth, hd, e, he, H, hty => by
  rw [Ex.hgtL] at hd
  by_cases h : e = x
  · rw [h]; exact ok98 x depth (by omega) hty
  · exact ok24L r depth (by omega) e (by simpa [h] using he) hty
end
end Go.Proofs.YtcejichidnlicaaGreatDoor
namespace Go.Proofs.YtcejichidnlicaaGreatDoor
open Go.Ab
mutual
def evE (ns : List (List UInt8)) (vs : List Int) : Ex -> Vr
 | .mk op k nm l _ =>
  if opN op ≠ (l.length : Int) then .error 3
  else if op = 1 then numF k
  else if op = 2 then match lookF ns vs nm with
   | none => .error 7
   | some v => numF v
  else appF op (evL ns vs l)
def evL (ns : List (List UInt8)) (vs : List Int) : List Ex -> List Vr
 | [] => []
 | e :: r => evE ns vs e :: evL ns vs r
end
theorem evL_map (ns : List (List UInt8)) (vs : List Int) : ∀ l : List Ex, evL ns vs l = l.map (evE ns vs)
 | [] => by rw [evL]; rfl
 | e :: r => by rw [evL, evL_map ns vs r]; rfl
theorem evL_len (ns : List (List UInt8)) (vs : List Int) (l : List Ex) : (evL ns vs l).length = l.length := by rw [evL_map]; simp
theorem numF_sm {n m : Int} (h : numF n = .ok (1, m)) : Sm m := by
 unfold numF at h
 split at h
 · cases h
 · rename_i hn; cases h; unfold Sm; omega
theorem boolF_no {b : Bool} {m : Int} (h : boolF b = .ok (1, m)) : False := by cases h
theorem appF_sm {op : Int} {w : List Vr} (hw : ∀ i n, wAt w i = .ok (1, n) -> Sm n) {n : Int} (h : appF op w = .ok (1, n)) : Sm n := by
 unfold appF at h
 repeat' split at h
 all_goals first
  | cases h; done
  | exact numF_sm h
  | exact (boolF_no h).elim
  | exact hw _ _ h
mutual
theorem ev_sm (ns : List (List UInt8)) (vs : List Int) : ∀ (e : Ex) {n : Int}, evE ns vs e = .ok (1, n) -> Sm n
 | .mk op k nm l p, n, h => by
  have ih := evL_sm ns vs l
  rw [evE] at h
  split at h
  · cases h
  · split at h
    · exact numF_sm h
    · split at h
      · split at h
        · cases h
        · exact numF_sm h
      · exact appF_sm ih h
theorem evL_sm (ns : List (List UInt8)) (vs : List Int) : ∀ (l : List Ex) (i : Nat) (n : Int), wAt (evL ns vs l) i = .ok (1, n) -> Sm n
 | [], i, n, h => by rw [evL] at h; simp [wAt] at h
 | e :: r, 0, n, h => by rw [evL] at h; exact ev_sm ns vs e (by simpa [wAt] using h)
 | e :: r, i + 1, n, h => by rw [evL] at h; exact evL_sm ns vs r i n (by simpa [wAt] using h)
end
theorem wAt_ev (ns : List (List UInt8)) (vs : List Int) {l : List Ex} {i : Nat} (h : i < l.length) : wAt (evL ns vs l) i = evE ns vs l[i] := by
 rw [evL_map]; unfold wAt; simp [h]
section
variable {ns : List (List UInt8)} {vs : List Int}
theorem macV_und (n : Nat) : (macV ns vs).under n = true := by simp [macV, refV, SV.under, SV.underL, SV.underL_iff, wds, ints, binV]
theorem macV_vd : (macV ns vs).vd = true := rfl
theorem macV_flat : (macV ns vs).ug.flat = [macV ns vs] := rfl
theorem macV_cell : (macV ns vs).isCell = true := rfl
theorem ok60 {op k : Int} {nm : List UInt8} {l : List Ex} {p : Int} {H : List AO} {j : Nat} {d : Nat} (hj : H[j]? = some ⟨[macV ns vs], 52, 0, true⟩) (hj1 : H[j + 1]? = some ⟨(Ex.mk op k nm l p).c, 24, 0, true⟩) (hj2 : H[j + 2]? = some ⟨[i64 d], 3, 0, true⟩)
 (hd : d < 100000) {i : Nat} (hi : i < l.length) (hsz : l.length ≤ 3) (hIH : ∀ H, Ok Tryz.prog 28 [macV ns vs, l[i].v, i64 ((d + 1 : Nat) : Int)] H (outV (evE ns vs l[i])) H) :
 Ok Tryz.prog 60 [i64 i, rp j, rp (j + 1), rp (j + 2)] H (outV (evE ns vs l[i])) H := by
 have h1 := getElem?_lt hj
 have h2 := getElem?_lt hj1
 have h3 := getElem?_lt hj2
 have e1 := fun L => oc_app hj rfl rfl L
 have e2 := fun L => oc_app hj1 rfl rfl L
 have e3 := fun L => oc_app hj2 rfl rfl L
 simp only [Ex.c] at e2
 refine ok_fn hm Tryz.func60 c60 (by simp [rp, h1, h2, h3]) fun hcl => ?_
 have hg := exL_get hi
 have hcl' := exL_len l
 have hi' : (i : Int) < l.length := by omega
 have w1 : IntKind.i64.wrap ((d : Int) + 1) = ((d + 1 : Nat) : Int) := wrap_succ (by omega)
 simp -implicitDefEqProofs [i60, r60, rp, e1, e2, e3, Ex.c, hg, hcl', hi, hi', w1]
 refine ⟨by omega, call_go (hIH _) ?_⟩
 generalize evE ns vs l[i] = y
 cases y with
 | error e =>
  simp -implicitDefEqProofs [outV]
  exact cv_fz 2 hcl rfl rfl
 | ok v =>
  simp -implicitDefEqProofs [outV, e1, e2, e3, hi, hcl', hg]
  exact cv_fz 2 hcl rfl rfl
mutual
theorem ok28 : ∀ (e : Ex) (d : Nat), d + e.hgt ≤ 100000 -> ns.length = vs.length -> ns.length < 4611686018427387904 -> ∀ H, Ok Tryz.prog 28 [macV ns vs, e.v, i64 d] H (outV (evE ns vs e)) H
 | .mk op k nm l p, d, hd, hnv, hnl, H => by
  rw [Ex.hgt] at hd
  have hIH := ok28L l (d + 1) (by omega) hnv hnl
  refine ok_fn hm Tryz.func28 c28 (by simp [macV_und, Ex.und_v]) fun hcl => ?_
  have hd' : ¬ (d : Int) = 100000 := by omega
  simp -implicitDefEqProofs [i28, r28, Ex.v, Ex.c, hd', macV_vd, macV_flat, macV_cell]
  refine callq_go (fun _ => ok57 _) ?_
  generalize hr : evE ns vs (.mk op k nm l p) = r
  rw [evE] at hr
  by_cases h3 : opN op = (l.length : Int)
  · rw [if_neg (by simp [h3])] at hr
    simp -implicitDefEqProofs [h3]
    by_cases h1 : op = 1
    · rw [if_pos h1] at hr
      subst hr
      simp -implicitDefEqProofs [h1]
      refine call_go (ok58 _) ?_
      generalize numF k = y
      cases y with
      | error e =>
       simp -implicitDefEqProofs [outV]
       exact cv_fz 6 hcl rfl rfl
      | ok v =>
       simp -implicitDefEqProofs [outV]
       exact cv_fz 6 hcl rfl rfl
    · rw [if_neg h1] at hr
      by_cases h2 : op = 2
      · rw [if_pos h2] at hr
        subst h2
        simp -implicitDefEqProofs [macV]
        refine call_of (a := []) (b := [refV (.slc (wds ns) ns.length), refV (.slc (ints vs) vs.length)]) (ok39 hnv hnl nm) ?_
        generalize lookF ns vs nm = z at hr
        cases z with
        | none =>
         subst hr
         simp -implicitDefEqProofs [outV, lookV]
         exact cv_fz 6 hcl rfl rfl
        | some v =>
         simp only at hr
         subst hr
         have h58 := fun H => ok58 (H := H) v
         generalize numF v = y at h58
         simp -implicitDefEqProofs [lookV]
         refine call_go (h58 _) ?_
         cases y with
         | error e =>
          simp -implicitDefEqProofs [outV]
          exact cv_fz 6 hcl rfl rfl
         | ok v =>
          simp -implicitDefEqProofs [outV]
          exact cv_fz 6 hcl rfl rfl
      · rw [if_neg h2] at hr
        simp -implicitDefEqProofs [h1, h2]
        have hop : 3 ≤ op ∧ op ≤ 20 ∧ opN op ≤ 3 := by
         unfold opN at h3 ⊢
         rw [if_neg (by omega)] at h3 ⊢
         by_cases h34 : op = 3 ∨ op = 4
         · rw [if_pos h34]; omega
         · rw [if_neg h34] at h3 ⊢
           by_cases h20 : op = 20
           · rw [if_pos h20]; omega
           · rw [if_neg h20] at h3 ⊢
             by_cases hb : 4 < op ∧ op < 20
             · rw [if_pos hb]; omega
             · rw [if_neg hb] at h3; omega
        have hopr : Opr (H ++ [⟨[macV ns vs], 52, 0, true⟩, ⟨[i64 op, i64 k, st (B nm), .slc (Ex.cL l) l.length, i64 p], 24, 0, true⟩, ⟨[i64 d], 3, 0, true⟩, ⟨[i64 0, i64 0], 30, 0, true⟩]) 60 [rp H.length, rp (H.length + 1), rp (H.length + 2)] (evL ns vs l) := by
         refine ⟨fun L i hi => ?_, by simp [rp]⟩
         rw [evL_len] at hi
         rw [wAt_ev ns vs hi]
         exact ok60 (op := op) (k := k) (nm := nm) (p := p) (by simp) (by simp [Ex.c]) (by simp) (by omega) hi (by omega) (hIH _ (List.getElem_mem hi))
        refine call_go (ok59 ns vs hopr ⟨hop.1, hop.2.1⟩ (by rw [evL_len, h3]) (evL_sm ns vs l) trivial) ?_
        rw [hr]
        cases r with
        | error e =>
         simp -implicitDefEqProofs [outV]
         exact cv_fz 6 hcl rfl rfl
        | ok v =>
         simp -implicitDefEqProofs [outV]
         exact cv_fz 6 hcl rfl rfl
  · rw [if_pos (by simp [h3])] at hr
    subst hr
    simp -implicitDefEqProofs [h3, outV]
    exact cv_fz 6 hcl rfl rfl
theorem ok28L : ∀ (l : List Ex) (d : Nat), d + Ex.hgtL l ≤ 100000 -> ns.length = vs.length -> ns.length < 4611686018427387904 -> ∀ e ∈ l, ∀ H, Ok Tryz.prog 28 [macV ns vs, e.v, i64 d] H (outV (evE ns vs e)) H
 | [], d, hd, hnv, hnl, e, he, _ => by simp at he
 | x :: r, d, hd, hnv, hnl, e, he, H => by
  rw [Ex.hgtL] at hd
  by_cases h : e = x
  · rw [h]; exact ok28 x d (by omega) hnv hnl H
  · exact ok28L r d (by omega) hnv hnl e (by simpa [h] using he) H
end
end
end Go.Proofs.YtcejichidnlicaaGreatDoor
namespace Go.Proofs.YtcejichidnlicaaGreatDoor
open Go.Ab
def retV (r : Vr) : Out := match r with
 | .ok v => .ret (.tup [.agg [i64 v.1, i64 v.2], i64 0])
 | .error e => .ret (.tup [.agg [i64 0, i64 0], i64 e])
section
variable {H : List AO}
theorem okD54n {f g : Nat} (hf : f < H.length) (hg : g < H.length) : OkD Tryz.prog 54 [rp f, rp g] H none (fun H' => H' = H) := by
 refine okD_rc hm Tryz.func54 c54 (by rfl) fun hcl => ?_
 simp -implicitDefEqProofs [i54s, i54, rp, rvD, SV.isIf, SV.ifNil]
 exact cv_id
theorem okD54e {f g : Nat} {c1 c2 : List SV} (hf : H[f]? = some ⟨c1, 30, 0, true⟩) (hc1 : c1.length = 2) (hg : H[g]? = some ⟨c2, 31, 0, true⟩) (hc2 : c2.length = 1) (hne : f ≠ g) (e : Int) :
 OkD Tryz.prog 54 [rp f, rp g] H (some (.ifc 31 (i64 e))) (fun H' => H' = (H.set f ⟨[i64 0, i64 0], 30, 0, true⟩).set g ⟨[i64 e], 31, 0, true⟩) := by
 have hj := getElem?_lt hf
 have hjg := getElem?_lt hg
 have e1 : objCells H f 0 = c1 := objCells_of (o := ⟨c1, 30, 0, true⟩) hf rfl
 have e2 : ∀ h : AO -> AO, Ab.setObj H f h = H.set f (h ⟨c1, 30, 0, true⟩) := fun h => setObj_some hf h
 have hg' : (H.set f ⟨[i64 0, i64 0], 30, 0, true⟩)[g]? = some ⟨c2, 31, 0, true⟩ := by rw [List.getElem?_set_ne hne]; exact hg
 have e3 : objCells (H.set f ⟨[i64 0, i64 0], 30, 0, true⟩) g 0 = c2 := objCells_of (o := ⟨c2, 31, 0, true⟩) hg' rfl
 have e4 : ∀ h : AO -> AO, Ab.setObj (H.set f ⟨[i64 0, i64 0], 30, 0, true⟩) g h = (H.set f ⟨[i64 0, i64 0], 30, 0, true⟩).set g (h ⟨c2, 31, 0, true⟩) := fun h => setObj_some hg' h
 have d1 : List.drop 2 c1 = [] := List.drop_of_length_le (by omega)
 have d2 : List.drop 1 c2 = [] := List.drop_of_length_le (by omega)
 refine okD_rc hm Tryz.func54 c54 (by rfl) fun hcl => ?_
 simp -implicitDefEqProofs [i54s, i54, rp, rvD, SV.isIf, SV.ifNil, SV.ifIs, SV.ifVal, e1, e2, e3, e4, hc1, hc2, d1, d2]
 obtain ⟨x, rfl⟩ : ∃ x, c2 = [x] := by
  match c2, hc2 with
  | [x], _ => exact ⟨x, rfl⟩
 exact cv_id
theorem fin26r (hcl : closed H) {env : Env} {H1 : List AO} (v : Int × Int) (hH : H1 = H ++ [⟨[i64 v.1, i64 v.2], 30, 0, true⟩, ⟨[i64 0], 31, 0, true⟩]) (h2 : env.get 2 = rp H.length) (h3 : env.get 3 = rp (H.length + 1)) :
 FinD Tryz.prog H.length r26 (fun o h => o = retV (.ok v) ∧ h = H) 54 [rp H.length, rp (H.length + 1)] .ret env H1 := by
 subst hH
 refine ⟨_, okD54n (by simp) (by simp), ?_⟩
 rintro H4 rfl
 have e1 : objCells (H ++ [⟨[i64 v.1, i64 v.2], 30, 0, true⟩, ⟨[i64 0], 31, 0, true⟩]) H.length 0 = [i64 v.1, i64 v.2] := objCells_of (o := ⟨[i64 v.1, i64 v.2], 30, 0, true⟩) (by simp) rfl
 have e2 : objCells (H ++ [⟨[i64 v.1, i64 v.2], 30, 0, true⟩, ⟨[i64 0], 31, 0, true⟩]) (H.length + 1) 0 = [i64 0] := objCells_of (o := ⟨[i64 0], 31, 0, true⟩) (by simp) rfl
 refine ⟨?_, _, H, ⟨rfl, rfl⟩, ?_⟩
 · intro s hs
   simp only [r26, List.mem_cons, List.not_mem_nil, or_false] at hs
   rcases hs with rfl | rfl
   · simp [RS.side, h2, rp, e1]
   · simp [RS.side, h3, rp, e2]
 · have hr : resV env (H ++ [⟨[i64 v.1, i64 v.2], 30, 0, true⟩, ⟨[i64 0], 31, 0, true⟩]) r26 = .tup [.agg [i64 v.1, i64 v.2], i64 0] := by
    simp [resV, r26, RS.ev, h2, h3, rp, e1, e2]
   rw [hr]
   exact cv_fz 6 hcl rfl rfl
theorem fin26e (hcl : closed H) {env : Env} {H1 : List AO} (e : Int) (hH : H1 = H ++ [⟨[i64 0, i64 0], 30, 0, true⟩, ⟨[i64 0], 31, 0, true⟩]) (h2 : env.get 2 = rp H.length) (h3 : env.get 3 = rp (H.length + 1)) :
 FinD Tryz.prog H.length r26 (fun o h => o = retV (.error e) ∧ h = H) 54 [rp H.length, rp (H.length + 1)] (.panic (.ifc 31 (i64 e))) env H1 := by
 subst hH
 refine ⟨_, okD54e (c1 := [i64 0, i64 0]) (c2 := [i64 0]) (by simp) rfl (by simp) rfl (by omega) e, ?_⟩
 rintro H4 rfl
 have hH : ((H ++ [⟨[i64 0, i64 0], 30, 0, true⟩, (⟨[i64 0], 31, 0, true⟩ : AO)]).set H.length ⟨[i64 0, i64 0], 30, 0, true⟩).set (H.length + 1) ⟨[i64 e], 31, 0, true⟩ = H ++ [⟨[i64 0, i64 0], 30, 0, true⟩, (⟨[i64 e], 31, 0, true⟩ : AO)] := by simp
 rw [hH]
 have e1 : objCells (H ++ [⟨[i64 0, i64 0], 30, 0, true⟩, ⟨[i64 e], 31, 0, true⟩]) H.length 0 = [i64 0, i64 0] := objCells_of (o := ⟨[i64 0, i64 0], 30, 0, true⟩) (by simp) rfl
 have e2 : objCells (H ++ [⟨[i64 0, i64 0], 30, 0, true⟩, ⟨[i64 e], 31, 0, true⟩]) (H.length + 1) 0 = [i64 e] := objCells_of (o := ⟨[i64 e], 31, 0, true⟩) (by simp) rfl
 refine ⟨?_, _, H, ⟨rfl, rfl⟩, ?_⟩
 · intro s hs
   simp only [r26, List.mem_cons, List.not_mem_nil, or_false] at hs
   rcases hs with rfl | rfl
   · simp [RS.side, h2, rp, e1]
   · simp [RS.side, h3, rp, e2]
 · have hr : resV env (H ++ [⟨[i64 0, i64 0], 30, 0, true⟩, ⟨[i64 e], 31, 0, true⟩]) r26 = .tup [.agg [i64 0, i64 0], i64 e] := by
    simp [resV, r26, RS.ev, h2, h3, rp, e1, e2]
   rw [hr]
   exact cv_fz 6 hcl rfl rfl
theorem ok26 {kf : Nat} {cap : List SV} {r : Vr} (hk : ∀ L, Ok Tryz.prog kf cap (H ++ L) (outV r) (H ++ L)) : Ok Tryz.prog 26 [.fn (.func kf) [] cap] H (retV r) H := by
 refine OkP.toOk (okP_df hm Tryz.func26 c26 (by rfl) fun hcl => ?_)
 simp -implicitDefEqProofs [i26a, i26s, i26f, i26]
 refine ⟨54, _, ⟨rfl, rfl⟩, call_of (a := []) (b := cap) (by simpa using hk _) ?_⟩
 cases r with
 | error e =>
  simp -implicitDefEqProofs [outV]
  exact fin26e hcl e rfl (by simp [rp]) (by simp [rp])
 | ok v =>
  simp -implicitDefEqProofs [outV]
  exact fin26r hcl v rfl (by simp [rp]) (by simp [rp])
theorem ok27 {ns : List (List UInt8)} {vs : List Int} {e : Ex} (hh : e.hgt ≤ 100000) (hnv : ns.length = vs.length) (hnl : ns.length < 4611686018427387904) {j k : Nat} (hj : H[j]? = some ⟨[macV ns vs], 52, 0, true⟩) (hk : H[k]? = some ⟨e.c, 24, 0, true⟩) :
 Ok Tryz.prog 27 [rp j, rp k] H (outV (evE ns vs e)) H := by
 have h1 := getElem?_lt hj
 have h2 := getElem?_lt hk
 have e1 := fun L => oc_app hj rfl rfl L
 have e2 := fun L => oc_app hk rfl rfl L
 have h28 := fun H => ok28 e 0 (by omega) hnv hnl H
 refine ok_fn hm Tryz.func27 c27 (by simp [rp, h1, h2]) fun hcl => ?_
 simp -implicitDefEqProofs [i27, r27, rp, e1, e2]
 refine call_go (h28 _) ?_
 generalize evE ns vs e = r
 cases r with
 | error e =>
  simp -implicitDefEqProofs [outV]
  exact cv_fz 6 hcl rfl rfl
 | ok v =>
  simp -implicitDefEqProofs [outV]
  exact cv_fz 6 hcl rfl rfl
def evalF (ns : List (List UInt8)) (vs : List Int) (e : Ex) : Vr := if ns.length ≠ vs.length then .error 3 else evE ns vs e
theorem ok9 {ns : List (List UInt8)} {vs : List Int} {e : Ex} (hh : e.hgt ≤ 100000) (hnl : ns.length < 4611686018427387904) : Ok Tryz.prog 9 [e.v, .slc (wds ns) ns.length, .slc (ints vs) vs.length] H (retV (evalF ns vs e)) H := by
 refine ok_fn hm Tryz.func9 c9 (by simp [Ex.und_v, SV.under, SV.underL_iff, wds, ints]) fun hcl => ?_
 unfold evalF
 by_cases hnv : ns.length = vs.length
 · have hnv' : (ns.length : Int) = vs.length := by omega
   rw [if_neg (by simp [hnv])]
   have h26 := fun (j k : Nat) (hj : ∀ L, ((H ++ [⟨e.c, 24, 0, true⟩, ⟨[i64 0, i64 0], 30, 0, true⟩, ⟨[macV ns vs], 52, 0, true⟩]) ++ L)[j]? = some ⟨[macV ns vs], 52, 0, true⟩) (hk : ∀ L, ((H ++ [⟨e.c, 24, 0, true⟩, ⟨[i64 0, i64 0], 30, 0, true⟩, ⟨[macV ns vs], 52, 0, true⟩]) ++ L)[k]? = some ⟨e.c, 24, 0, true⟩) => ok26 (H := H ++ [⟨e.c, 24, 0, true⟩, ⟨[i64 0, i64 0], 30, 0, true⟩, ⟨[macV ns vs], 52, 0, true⟩]) (kf := 27) (cap := [rp j, rp k]) (r := evE ns vs e) (fun L => ok27 hh hnv hnl (hj L) (hk L))
   have h26' := h26 (H.length + 2) H.length (fun L => by simp) (fun L => by simp)
   clear h26
   simp -implicitDefEqProofs [i9, r9, Ex.v, hnv']
   refine call_go (ok25 ns vs) ?_
   simp -implicitDefEqProofs [macV_vd, macV_flat, macV_cell]
   refine call_go h26' ?_
   generalize evE ns vs e = r
   cases r with
   | error e =>
    simp -implicitDefEqProofs [retV]
    exact cv_fz 6 hcl rfl rfl
   | ok v =>
    simp -implicitDefEqProofs [retV]
    exact cv_fz 6 hcl rfl rfl
 · have hnv' : ¬ (ns.length : Int) = vs.length := by omega
   rw [if_pos hnv]
   simp -implicitDefEqProofs [i9, r9, Ex.v, hnv', retV]
   exact cv_fz 6 hcl rfl rfl
def asF (k : Int) : Vr -> Int × Int
 | .error e => (0, e)
 | .ok v => if v.1 ≠ k then (0, 10) else (v.2, 0)
theorem ok30v (k : Int) (v : Int × Int) : Ok Tryz.prog 30 [i64 k, .agg [i64 v.1, i64 v.2], i64 0] H (.ret (.tup [i64 (asF k (.ok v)).1, i64 (asF k (.ok v)).2])) H := by
 refine ok_fn hm Tryz.func30 c30 (by simp) fun hcl => ?_
 by_cases h : v.1 = k
 · simp -implicitDefEqProofs [i30, r30, h, asF]
   exact cv_fz 3 hcl rfl rfl
 · simp -implicitDefEqProofs [i30, r30, h, asF]
   exact cv_fz 3 hcl rfl rfl
theorem ok30e (k : Int) {e : Int} (he : e ≠ 0) : Ok Tryz.prog 30 [i64 k, .agg [i64 0, i64 0], i64 e] H (.ret (.tup [i64 0, i64 e])) H := by
 refine ok_fn hm Tryz.func30 c30 (by simp) fun hcl => ?_
 simp -implicitDefEqProofs [i30, r30, he]
 exact cv_fz 3 hcl rfl rfl
theorem numF_ne {n e : Int} (h : numF n = .error e) : e ≠ 0 := by
 unfold numF at h
 split at h
 · cases h; decide
 · cases h
theorem ofF_ne {k e : Int} {w : Vr} (hw : ∀ e, w = .error e -> e ≠ 0) (h : ofF k w = .error e) : e ≠ 0 := by
 unfold ofF at h
 split at h
 · cases h; exact hw _ rfl
 · split at h
   · cases h; decide
   · cases h
theorem boolF_ne {b : Bool} {e : Int} (h : boolF b = .error e) : False := by cases h
theorem appF_ne {op : Int} {w : List Vr} (hw : ∀ i e, wAt w i = .error e -> e ≠ 0) {e : Int} (h : appF op w = .error e) : e ≠ 0 := by
 unfold appF at h
 repeat' split at h
 all_goals first
  | exact numF_ne h
  | exact (boolF_ne h).elim
  | exact hw _ _ h
  | (cases h; decide)
  | (rename_i hx; cases h; exact ofF_ne (hw _) hx)
mutual
theorem ev_ne (ns : List (List UInt8)) (vs : List Int) : ∀ (x : Ex) {e : Int}, evE ns vs x = .error e -> e ≠ 0
 | .mk op k nm l p, e, h => by
  have ih := evL_ne ns vs l
  rw [evE] at h
  split at h
  · cases h; decide
  · split at h
    · exact numF_ne h
    · split at h
      · split at h
        · cases h; decide
        · exact numF_ne h
      · exact appF_ne ih h
theorem evL_ne (ns : List (List UInt8)) (vs : List Int) : ∀ (l : List Ex) (i : Nat) (e : Int), wAt (evL ns vs l) i = .error e -> e ≠ 0
 | [], i, e, h => by rw [evL] at h; simp [wAt] at h; omega
 | x :: r, 0, e, h => by rw [evL] at h; exact ev_ne ns vs x (by simpa [wAt] using h)
 | x :: r, i + 1, e, h => by rw [evL] at h; exact evL_ne ns vs r i e (by simpa [wAt] using h)
end
theorem eval_ne {ns : List (List UInt8)} {vs : List Int} {x : Ex} {e : Int} (h : evalF ns vs x = .error e) : e ≠ 0 := by
 unfold evalF at h
 split at h
 · cases h; decide
 · exact ev_ne ns vs x h
theorem ok11 {ns : List (List UInt8)} {vs : List Int} {e : Ex} (hh : e.hgt ≤ 100000) (hnl : ns.length < 4611686018427387904) : Ok Tryz.prog 11 [e.v, .slc (wds ns) ns.length, .slc (ints vs) vs.length] H (.ret (.tup [i64 (asF 1 (evalF ns vs e)).1, i64 (asF 1 (evalF ns vs e)).2])) H := by
 refine ok_fn hm Tryz.func11 c11 (by simp [Ex.und_v, SV.under, SV.underL_iff, wds, ints]) fun hcl => ?_
 have h9 := fun H => ok9 (H := H) (vs := vs) hh hnl
 have hne := fun x => eval_ne (ns := ns) (vs := vs) (x := e) (e := x)
 simp -implicitDefEqProofs [i11, r11, Ex.v]
 refine call_go (h9 _) ?_
 generalize evalF ns vs e = r at hne
 cases r with
 | error x =>
  simp -implicitDefEqProofs [retV]
  refine call_go (ok30e 1 (hne x rfl)) ?_
  simp -implicitDefEqProofs [asF]
  exact cv_fz 6 hcl rfl rfl
 | ok v =>
  simp -implicitDefEqProofs [retV]
  refine call_go (ok30v 1 v) ?_
  generalize asF 1 (.ok v) = y
  simp -implicitDefEqProofs
  exact cv_fz 6 hcl rfl rfl
theorem ok13 {ns : List (List UInt8)} {vs : List Int} {e : Ex} (hh : e.hgt ≤ 100000) (hnl : ns.length < 4611686018427387904) : Ok Tryz.prog 13 [e.v, .slc (wds ns) ns.length, .slc (ints vs) vs.length] H (.ret (.tup [bl (decide ((asF 2 (evalF ns vs e)).1 = 1)), i64 (asF 2 (evalF ns vs e)).2])) H := by
 refine ok_fn hm Tryz.func13 c13 (by simp [Ex.und_v, SV.under, SV.underL_iff, wds, ints]) fun hcl => ?_
 have h9 := fun H => ok9 (H := H) (vs := vs) hh hnl
 have hne := fun x => eval_ne (ns := ns) (vs := vs) (x := e) (e := x)
 simp -implicitDefEqProofs [i13, r13, Ex.v]
 refine call_go (h9 _) ?_
 generalize evalF ns vs e = r at hne
 cases r with
 | error x =>
  simp -implicitDefEqProofs [retV]
  refine call_go (ok30e 2 (hne x rfl)) ?_
  simp -implicitDefEqProofs [asF]
  exact cv_fz 6 hcl rfl rfl
 | ok v =>
  simp -implicitDefEqProofs [retV]
  refine call_go (ok30v 2 v) ?_
  generalize asF 2 (.ok v) = y
  simp -implicitDefEqProofs
  exact cv_fz 6 hcl rfl rfl
end
end Go.Proofs.YtcejichidnlicaaGreatDoor
namespace Go.Proofs.YtcejichidnlicaaGreatDoor
open Go.Ab
section
variable {H : List AO}
theorem ok70 (op : Int) : Ok Tryz.prog 70 [i64 op] H (.ret (i64 (opN op))) H := by
 refine ok_fn hm Tryz.func70 c70 (by simp) fun hcl => ?_
 generalize hw : opN op = w
 unfold opN at hw
 by_cases h1 : op = 1
 · subst h1; simp at hw; subst hw
   simp -implicitDefEqProofs [i70, r70]; exact cv_id
 by_cases h2 : op = 2
 · subst h2; simp at hw; subst hw
   simp -implicitDefEqProofs [i70, r70]; exact cv_id
 by_cases h3 : op = 3
 · subst h3; simp at hw; subst hw
   simp -implicitDefEqProofs [i70, r70]; exact cv_id
 by_cases h4 : op = 4
 · subst h4; simp at hw; subst hw
   simp -implicitDefEqProofs [i70, r70]; exact cv_id
 by_cases h5 : op = 20
 · subst h5; simp at hw; subst hw
   simp -implicitDefEqProofs [i70, r70]; exact cv_id
 rw [if_neg (by omega), if_neg (by omega), if_neg h5] at hw
 by_cases h6 : 5 ≤ op
 · by_cases h7 : op ≤ 19
   · rw [if_pos (by omega)] at hw; subst hw
     simp -implicitDefEqProofs [i70, r70, h1, h2, h3, h4, h5, h6, h7]; exact cv_id
   · rw [if_neg (by omega)] at hw; subst hw
     simp -implicitDefEqProofs [i70, r70, h1, h2, h3, h4, h5, h6, h7]; exact cv_id
 · rw [if_neg (by omega)] at hw; subst hw
   simp -implicitDefEqProofs [i70, r70, h1, h2, h3, h4, h5, h6]; exact cv_id
theorem ok38 (op : Int) : Ok Tryz.prog 38 [i64 op] H (.ret (i64 (opN op))) H := by
 refine ok_fn hm Tryz.func38 c38 (by simp) fun hcl => ?_
 simp -implicitDefEqProofs [i38, r38]
 refine call_go (ok70 op) ?_
 simp -implicitDefEqProofs
 exact cv_id
theorem ok84 (n : Int) : Ok Tryz.prog 84 [i64 n] H (.ret (bl (decide (-1000000000000 ≤ n) && decide (n ≤ 1000000000000)))) H := by
 refine ok_fn hm Tryz.func84 c84 (by simp) fun hcl => ?_
 by_cases h1 : -1000000000000 ≤ n
 · simp -implicitDefEqProofs [i84, r84, h1]; exact cv_id
 · simp -implicitDefEqProofs [i84, r84, h1]; exact cv_id
theorem ok61 (n : Int) : Ok Tryz.prog 61 [i64 n] H (retV (numF n)) H := by
 refine ok_fn hm Tryz.func61 c61 (by simp) fun hcl => ?_
 unfold numF
 by_cases h1 : n < -1000000000000
 · have h1' : ¬ -1000000000000 ≤ n := by omega
   simp -implicitDefEqProofs [i61, r61, h1]
   refine call_go (ok84 n) ?_
   simp -implicitDefEqProofs [h1', retV]
   exact cv_fz 2 hcl rfl rfl
 · have h1' : -1000000000000 ≤ n := by omega
   by_cases h2 : 1000000000000 < n
   · have h2' : ¬ n ≤ 1000000000000 := by omega
     simp -implicitDefEqProofs [i61, r61, h1, h2]
     refine call_go (ok84 n) ?_
     simp -implicitDefEqProofs [h1', h2', retV]
     exact cv_fz 2 hcl rfl rfl
   · have h2' : n ≤ 1000000000000 := by omega
     simp -implicitDefEqProofs [i61, r61, h1, h2]
     refine call_go (ok84 n) ?_
     simp -implicitDefEqProofs [h1', h2', retV]
     exact cv_fz 2 hcl rfl rfl
theorem ok63 (b : Bool) : Ok Tryz.prog 63 [bl b] H (retV (boolF b)) H := by
 refine ok_fn hm Tryz.func63 c63 (by simp) fun hcl => ?_
 cases b with
 | true =>
  simp -implicitDefEqProofs [i63, r63, retV, boolF, tru]
  exact cv_fz 2 hcl rfl rfl
 | false =>
  simp -implicitDefEqProofs [i63, r63, retV, boolF, tru]
  exact cv_fz 2 hcl rfl rfl
theorem ok65 {a b : Int} (ha : Sm a) (hb : b ≠ 0) : Ok Tryz.prog 65 [i64 a, i64 b] H (.ret (i64 (a.fdiv b))) H := by
 refine ok_fn hm Tryz.func65 c65 (by simp) fun hcl => ?_
 rw [fdiv_of hb]
 have hq := tdiv_bd (b := b) ha
 have w1 : IntKind.i64.wrap (a.tdiv b) = a.tdiv b := wrap_id (by omega) (by omega)
 have w2 : IntKind.i64.wrap (a.tdiv b - 1) = a.tdiv b - 1 := wrap_id (by omega) (by omega)
 generalize hqq : a.tdiv b = q at *
 generalize hmm : a.tmod b = m at *
 by_cases h1 : m = 0
 · simp -implicitDefEqProofs [i65, r65, hb, hmm, hqq, w1, w2, h1]
   exact cv_id
 · by_cases h2 : a < 0 <;> by_cases h3 : b < 0
   all_goals
    simp -implicitDefEqProofs [i65, r65, hb, hmm, hqq, w1, w2, h1, h2, h3]
    exact cv_id
theorem num_mul (a b : Int) : numF (mulP a b) = if -1000000000000 ≤ a * b ∧ a * b ≤ 1000000000000 then .ok (1, a * b) else .error 5 := by
 unfold mulP
 split
 · unfold numF; rw [if_neg (by omega)]
 · rfl
theorem ok64 {a b : Int} (ha : Sm a) (hb : Sm b) : Ok Tryz.prog 64 [i64 a, i64 b] H (retV (numF (mulP a b))) H := by
 refine ok_fn hm Tryz.func64 c64 (by simp) fun hcl => ?_
 obtain ⟨a1, a2⟩ := ha
 obtain ⟨b1, b2⟩ := hb
 have w1 : IntKind.i64.wrap (-a) = -a := wrap_id (by omega) (by omega)
 have w2 : IntKind.i64.wrap (-b) = -b := wrap_id (by omega) (by omega)
 have m1 : max a (-a) = (a.natAbs : Int) := by omega
 have m2 : max b (-b) = (b.natAbs : Int) := by omega
 have hab : (a * b).natAbs = a.natAbs * b.natAbs := Int.natAbs_mul a b
 have hnum : -1000000000000 ≤ a * b ∧ a * b ≤ 1000000000000 -> numF (mulP a b) = numF (a * b) := fun h => by unfold mulP; rw [if_pos h]
 have w0 : IntKind.i64.wrap 0 = 0 := rfl
 by_cases h0 : a = 0
 · subst h0
   rw [hnum (by simp)]
   simp -implicitDefEqProofs [i64x, r64, w0]
   refine call_go (ok61 _) ?_
   simp -implicitDefEqProofs [retV, numF]
   exact cv_fz 6 hcl rfl rfl
 by_cases hb0 : b = 0
 · subst hb0
   rw [hnum (by simp)]
   simp -implicitDefEqProofs [i64x, r64, h0, w0]
   refine call_go (ok61 _) ?_
   simp -implicitDefEqProofs [retV, numF]
   exact cv_fz 6 hcl rfl rfl
 have hpos : 0 < b.natAbs := by omega
 have q1 : ((1000000000000 : Int).tdiv (b.natAbs : Int)) = ((1000000000000 / b.natAbs : Nat) : Int) := rfl
 have hle : 1000000000000 / b.natAbs ≤ 1000000000000 := Nat.div_le_self _ _
 have hn0 : ¬ (b.natAbs : Int) = 0 := by omega
 have w3 : IntKind.i64.wrap ((1000000000000 / b.natAbs : Nat) : Int) = ((1000000000000 / b.natAbs : Nat) : Int) := wrap_nat (by omega)
 have w5 : IntKind.i64.wrap ((1000000000000 : Int) / (b.natAbs : Int)) = (1000000000000 : Int) / (b.natAbs : Int) := by
  have : (1000000000000 : Int) / (b.natAbs : Int) = ((1000000000000 / b.natAbs : Nat) : Int) := by simp
  rw [this]; exact w3
 by_cases hc : 1000000000000 / b.natAbs < a.natAbs
 · have hbig : 1000000000000 < a.natAbs * b.natAbs := (Nat.div_lt_iff_lt_mul hpos).1 hc
   have hcI : (1000000000000 : Int) / (b.natAbs : Int) < (a.natAbs : Int) := by
    have : (1000000000000 : Int) / (b.natAbs : Int) = ((1000000000000 / b.natAbs : Nat) : Int) := by simp
    rw [this]; omega
   rw [num_mul, if_neg (by omega)]
   simp -implicitDefEqProofs [i64x, r64, h0, hb0, w1, w2, m1, m2, q1, hn0, w5]
   rw [if_pos hcI]
   simp -implicitDefEqProofs [retV]
   exact cv_fz 6 hcl rfl rfl
 · have hsm : a.natAbs * b.natAbs ≤ 1000000000000 := by
    have := Nat.le_div_iff_mul_le hpos (x := a.natAbs) (y := 1000000000000)
    omega
   have hcI : ¬ (1000000000000 : Int) / (b.natAbs : Int) < (a.natAbs : Int) := by
    have : (1000000000000 : Int) / (b.natAbs : Int) = ((1000000000000 / b.natAbs : Nat) : Int) := by simp
    rw [this]; omega
   have w4 : IntKind.i64.wrap (a * b) = a * b := wrap_id (by omega) (by omega)
   rw [hnum (by omega)]
   have h61 := fun H => ok61 (H := H) (a * b)
   generalize numF (a * b) = y at h61
   simp -implicitDefEqProofs [i64x, r64, h0, hb0, w1, w2, m1, m2, q1, hn0, w5, w4]
   rw [if_neg hcI]
   simp -implicitDefEqProofs
   refine call_go (h61 _) ?_
   cases y with
   | error e =>
    simp -implicitDefEqProofs [retV]
    exact cv_fz 6 hcl rfl rfl
   | ok v =>
    simp -implicitDefEqProofs [retV]
    exact cv_fz 6 hcl rfl rfl
def wantV (x : Except Int Int) : Out := match x with
 | .ok n => .ret (.tup [i64 n, i64 0])
 | .error e => .ret (.tup [i64 0, i64 e])
theorem ok62 {ns : List (List UInt8)} {vs : List Int} {e : Ex} (h29 : ∀ H, Ok Tryz.prog 29 [e.v, .slc (wds ns) ns.length, .slc (ints vs) vs.length] H (retV (evE ns vs e)) H) (k : Int) :
 Ok Tryz.prog 62 [e.v, .slc (wds ns) ns.length, .slc (ints vs) vs.length, i64 k] H (wantV (ofF k (evE ns vs e))) H := by
 have hne := fun x => ev_ne ns vs e (e := x)
 refine ok_fn hm Tryz.func62 c62 (by simp [Ex.und_v, SV.under, SV.underL_iff, wds, ints]) fun hcl => ?_
 simp -implicitDefEqProofs [i62, r62, Ex.v]
 refine call_go (h29 _) ?_
 generalize evE ns vs e = y at hne
 cases y with
 | error x =>
  have hx := hne x rfl
  simp -implicitDefEqProofs [retV, wantV, ofF, hx]
  exact cv_fz 6 hcl rfl rfl
 | ok v =>
  by_cases hk : v.1 = k
  · simp -implicitDefEqProofs [retV, wantV, ofF, hk]
    exact cv_fz 6 hcl rfl rfl
  · simp -implicitDefEqProofs [retV, wantV, ofF, hk]
    exact cv_fz 6 hcl rfl rfl
end
end Go.Proofs.YtcejichidnlicaaGreatDoor
namespace Go.Proofs.YtcejichidnlicaaGreatDoor
open Go.Ab
def t29 : IC := (.seq
 (.seq
 (.reg [
 ⟨(some 186), none, .p (.fa 0 (.t 3))⟩,
 ⟨(some 187), none, .p (.ld1 (.t 186))⟩])
 (.blk 3
 (.seq
 (.reg [
 ⟨(some 189), none, .p (.bin .eql (.i .i64) (.t 187) (.c (i64 5)))⟩,
 ⟨(some 188), none, .p (.mov (.t 189))⟩])
 (.cond (.t 188)
 (.seq
 (.reg [
 ⟨(some 190), none, .p (.mov (.t 14))⟩,
 ⟨(some 191), none, .p (.mov (.t 16))⟩,
 ⟨(some 192), none, .e (.call (.c (.fn (.func 64) [] [])) [(.t 190), (.t 191)])⟩,
 ⟨(some 193), none, .p (.ext (.t 192) 0)⟩,
 ⟨(some 194), none, .p (.ext (.t 192) 1)⟩,
 ⟨none, none, .e (.st 2 (.t 6) (.t 193))⟩,
 ⟨(some 7), none, .p (.mov (.t 194))⟩])
 .ret)
 (.seq
 (.seq
 (.reg [
 ⟨(some 196), none, .p (.bin .eql (.i .i64) (.t 187) (.c (i64 6)))⟩,
 ⟨(some 195), none, .p (.mov (.t 196))⟩])
 (.cond (.t 195)
 .skip
 (.reg [
 ⟨(some 197), none, .p (.bin .eql (.i .i64) (.t 187) (.c (i64 7)))⟩,
 ⟨(some 195), none, .p (.mov (.t 197))⟩])))
 (.cond (.t 195)
 (.seq
 (.seq
 (.reg [
 ⟨(some 198), none, .p (.mov (.t 16))⟩,
 ⟨(some 199), none, .p (.bin .eql (.i .i64) (.t 198) (.c (i64 0)))⟩])
 (.cond (.t 199)
 (.seq
 (.reg [
 ⟨(some 200), none, .p (.bld [i64 0, i64 0] [])⟩,
 ⟨none, none, .e (.st 2 (.t 6) (.t 200))⟩,
 ⟨(some 7), none, .p (.mov (.c (i64 6)))⟩])
 .ret)
 .skip))
 (.seq
 (.seq
 (.reg [
 ⟨(some 201), none, .p (.fa 0 (.t 3))⟩,
 ⟨(some 202), none, .p (.ld1 (.t 201))⟩,
 ⟨(some 203), none, .p (.bin .eql (.i .i64) (.t 202) (.c (i64 6)))⟩])
 (.cond (.t 203)
 (.seq
 (.reg [
 ⟨(some 204), none, .p (.mov (.t 14))⟩,
 ⟨(some 205), none, .p (.mov (.t 16))⟩,
 ⟨(some 206), none, .e (.call (.c (.fn (.func 65) [] [])) [(.t 204), (.t 205)])⟩,
 ⟨(some 207), none, .e (.call (.c (.fn (.func 61) [] [])) [(.t 206)])⟩,
 ⟨(some 208), none, .p (.ext (.t 207) 0)⟩,
 ⟨(some 209), none, .p (.ext (.t 207) 1)⟩,
 ⟨none, none, .e (.st 2 (.t 6) (.t 208))⟩,
 ⟨(some 7), none, .p (.mov (.t 209))⟩])
 .ret)
 .skip))
 (.seq
 (.reg [
 ⟨(some 210), none, .p (.mov (.t 14))⟩,
 ⟨(some 211), none, .p (.mov (.t 16))⟩,
 ⟨(some 212), none, .p (.mov (.t 14))⟩,
 ⟨(some 213), none, .p (.mov (.t 16))⟩,
 ⟨(some 214), none, .e (.call (.c (.fn (.func 65) [] [])) [(.t 212), (.t 213)])⟩,
 ⟨(some 215), none, .p (.bin .mul (.i .i64) (.t 211) (.t 214))⟩,
 ⟨(some 216), none, .p (.bin .sub (.i .i64) (.t 210) (.t 215))⟩,
 ⟨(some 217), none, .e (.call (.c (.fn (.func 61) [] [])) [(.t 216)])⟩,
 ⟨(some 218), none, .p (.ext (.t 217) 0)⟩,
 ⟨(some 219), none, .p (.ext (.t 217) 1)⟩,
 ⟨none, none, .e (.st 2 (.t 6) (.t 218))⟩,
 ⟨(some 7), none, .p (.mov (.t 219))⟩])
 .ret)))
 (.seq
 (.reg [
 ⟨(some 221), none, .p (.bin .eql (.i .i64) (.t 187) (.c (i64 8)))⟩,
 ⟨(some 220), none, .p (.mov (.t 221))⟩])
 (.cond (.t 220)
 (.seq
 (.reg [
 ⟨(some 222), none, .p (.mov (.t 14))⟩,
 ⟨(some 223), none, .p (.mov (.t 16))⟩,
 ⟨(some 224), none, .p (.bin .add (.i .i64) (.t 222) (.t 223))⟩,
 ⟨(some 225), none, .e (.call (.c (.fn (.func 61) [] [])) [(.t 224)])⟩,
 ⟨(some 226), none, .p (.ext (.t 225) 0)⟩,
 ⟨(some 227), none, .p (.ext (.t 225) 1)⟩,
 ⟨none, none, .e (.st 2 (.t 6) (.t 226))⟩,
 ⟨(some 7), none, .p (.mov (.t 227))⟩])
 .ret)
 (.seq
 (.reg [
 ⟨(some 229), none, .p (.bin .eql (.i .i64) (.t 187) (.c (i64 9)))⟩,
 ⟨(some 228), none, .p (.mov (.t 229))⟩])
 (.cond (.t 228)
 (.seq
 (.reg [
 ⟨(some 230), none, .p (.mov (.t 14))⟩,
 ⟨(some 231), none, .p (.mov (.t 16))⟩,
 ⟨(some 232), none, .p (.bin .sub (.i .i64) (.t 230) (.t 231))⟩,
 ⟨(some 233), none, .e (.call (.c (.fn (.func 61) [] [])) [(.t 232)])⟩,
 ⟨(some 234), none, .p (.ext (.t 233) 0)⟩,
 ⟨(some 235), none, .p (.ext (.t 233) 1)⟩,
 ⟨none, none, .e (.st 2 (.t 6) (.t 234))⟩,
 ⟨(some 7), none, .p (.mov (.t 235))⟩])
 .ret)
 (.seq
 (.reg [
 ⟨(some 237), none, .p (.bin .eql (.i .i64) (.t 187) (.c (i64 10)))⟩,
 ⟨(some 236), none, .p (.mov (.t 237))⟩])
 (.cond (.t 236)
 (.seq
 (.reg [
 ⟨(some 238), none, .p (.mov (.t 14))⟩,
 ⟨(some 239), none, .p (.mov (.t 16))⟩,
 ⟨(some 240), none, .p (.bin .eql (.i .i64) (.t 238) (.t 239))⟩,
 ⟨(some 241), none, .e (.call (.c (.fn (.func 63) [] [])) [(.t 240)])⟩,
 ⟨(some 242), none, .p (.ext (.t 241) 0)⟩,
 ⟨(some 243), none, .p (.ext (.t 241) 1)⟩,
 ⟨none, none, .e (.st 2 (.t 6) (.t 242))⟩,
 ⟨(some 7), none, .p (.mov (.t 243))⟩])
 .ret)
 (.seq
 (.reg [
 ⟨(some 245), none, .p (.bin .eql (.i .i64) (.t 187) (.c (i64 11)))⟩,
 ⟨(some 244), none, .p (.mov (.t 245))⟩])
 (.cond (.t 244)
 (.seq
 (.reg [
 ⟨(some 246), none, .p (.mov (.t 14))⟩,
 ⟨(some 247), none, .p (.mov (.t 16))⟩,
 ⟨(some 248), none, .p (.bin .neq (.i .i64) (.t 246) (.t 247))⟩,
 ⟨(some 249), none, .e (.call (.c (.fn (.func 63) [] [])) [(.t 248)])⟩,
 ⟨(some 250), none, .p (.ext (.t 249) 0)⟩,
 ⟨(some 251), none, .p (.ext (.t 249) 1)⟩,
 ⟨none, none, .e (.st 2 (.t 6) (.t 250))⟩,
 ⟨(some 7), none, .p (.mov (.t 251))⟩])
 .ret)
 (.seq
 (.reg [
 ⟨(some 253), none, .p (.bin .eql (.i .i64) (.t 187) (.c (i64 12)))⟩,
 ⟨(some 252), none, .p (.mov (.t 253))⟩])
 (.cond (.t 252)
 (.seq
 (.reg [
 ⟨(some 254), none, .p (.mov (.t 14))⟩,
 ⟨(some 255), none, .p (.mov (.t 16))⟩,
 ⟨(some 256), none, .p (.bin .lss (.i .i64) (.t 254) (.t 255))⟩,
 ⟨(some 257), none, .e (.call (.c (.fn (.func 63) [] [])) [(.t 256)])⟩,
 ⟨(some 258), none, .p (.ext (.t 257) 0)⟩,
 ⟨(some 259), none, .p (.ext (.t 257) 1)⟩,
 ⟨none, none, .e (.st 2 (.t 6) (.t 258))⟩,
 ⟨(some 7), none, .p (.mov (.t 259))⟩])
 .ret)
 (.seq
 (.reg [
 ⟨(some 261), none, .p (.bin .eql (.i .i64) (.t 187) (.c (i64 13)))⟩,
 ⟨(some 260), none, .p (.mov (.t 261))⟩])
 (.cond (.t 260)
 (.seq
 (.reg [
 ⟨(some 262), none, .p (.mov (.t 14))⟩,
 ⟨(some 263), none, .p (.mov (.t 16))⟩,
 ⟨(some 264), none, .p (.bin .leq (.i .i64) (.t 262) (.t 263))⟩,
 ⟨(some 265), none, .e (.call (.c (.fn (.func 63) [] [])) [(.t 264)])⟩,
 ⟨(some 266), none, .p (.ext (.t 265) 0)⟩,
 ⟨(some 267), none, .p (.ext (.t 265) 1)⟩,
 ⟨none, none, .e (.st 2 (.t 6) (.t 266))⟩,
 ⟨(some 7), none, .p (.mov (.t 267))⟩])
 .ret)
 (.seq
 (.reg [
 ⟨(some 269), none, .p (.bin .eql (.i .i64) (.t 187) (.c (i64 14)))⟩,
 ⟨(some 268), none, .p (.mov (.t 269))⟩])
 (.cond (.t 268)
 (.seq
 (.reg [
 ⟨(some 270), none, .p (.mov (.t 14))⟩,
 ⟨(some 271), none, .p (.mov (.t 16))⟩,
 ⟨(some 272), none, .p (.bin .gtr (.i .i64) (.t 270) (.t 271))⟩,
 ⟨(some 273), none, .e (.call (.c (.fn (.func 63) [] [])) [(.t 272)])⟩,
 ⟨(some 274), none, .p (.ext (.t 273) 0)⟩,
 ⟨(some 275), none, .p (.ext (.t 273) 1)⟩,
 ⟨none, none, .e (.st 2 (.t 6) (.t 274))⟩,
 ⟨(some 7), none, .p (.mov (.t 275))⟩])
 .ret)
 (.seq
 (.reg [
 ⟨(some 277), none, .p (.bin .eql (.i .i64) (.t 187) (.c (i64 15)))⟩,
 ⟨(some 276), none, .p (.mov (.t 277))⟩])
 (.cond (.t 276)
 (.seq
 (.reg [
 ⟨(some 278), none, .p (.mov (.t 14))⟩,
 ⟨(some 279), none, .p (.mov (.t 16))⟩,
 ⟨(some 280), none, .p (.bin .geq (.i .i64) (.t 278) (.t 279))⟩,
 ⟨(some 281), none, .e (.call (.c (.fn (.func 63) [] [])) [(.t 280)])⟩,
 ⟨(some 282), none, .p (.ext (.t 281) 0)⟩,
 ⟨(some 283), none, .p (.ext (.t 281) 1)⟩,
 ⟨none, none, .e (.st 2 (.t 6) (.t 282))⟩,
 ⟨(some 7), none, .p (.mov (.t 283))⟩])
 .ret)
 (.seq
 (.reg [
 ⟨(some 285), none, .p (.bin .eql (.i .i64) (.t 187) (.c (i64 18)))⟩,
 ⟨(some 284), none, .p (.mov (.t 285))⟩])
 (.cond (.t 284)
 (.seq
 (.reg [
 ⟨(some 286), none, .p (.mov (.t 14))⟩,
 ⟨(some 287), none, .p (.mov (.t 16))⟩,
 ⟨(some 288), none, .p (.mm false .i64 (.t 286) (.t 287))⟩,
 ⟨(some 289), none, .e (.call (.c (.fn (.func 61) [] [])) [(.t 288)])⟩,
 ⟨(some 290), none, .p (.ext (.t 289) 0)⟩,
 ⟨(some 291), none, .p (.ext (.t 289) 1)⟩,
 ⟨none, none, .e (.st 2 (.t 6) (.t 290))⟩,
 ⟨(some 7), none, .p (.mov (.t 291))⟩])
 .ret)
 .skip))))))))))))))))))))))))
 (.seq
 (.reg [
 ⟨(some 292), none, .p (.mov (.t 14))⟩,
 ⟨(some 293), none, .p (.mov (.t 16))⟩,
 ⟨(some 294), none, .p (.mm true .i64 (.t 292) (.t 293))⟩,
 ⟨(some 295), none, .e (.call (.c (.fn (.func 61) [] [])) [(.t 294)])⟩,
 ⟨(some 296), none, .p (.ext (.t 295) 0)⟩,
 ⟨(some 297), none, .p (.ext (.t 295) 1)⟩,
 ⟨none, none, .e (.st 2 (.t 6) (.t 296))⟩,
 ⟨(some 7), none, .p (.mov (.t 297))⟩])
 .ret))
theorem t29_at : i29 =   (.seq
 (.reg [
 ⟨(some 3), none, .e (.box 24 (.t 0))⟩,
 ⟨(some 6), none, .e (.alc 30 [i64 0, i64 0])⟩,
 ⟨(some 7), none, .p (.mov (.c (i64 0)))⟩])
 (.seq
 (.seq
 (.drw [0, 1, 2, 3, 4, 5, 6] [
 ⟨(some 17), none, .p (.fa 0 (.t 3))⟩,
 ⟨(some 18), none, .p (.ld1 (.t 17))⟩,
 ⟨(some 19), none, .q (.c (.fn (.func 38) [] [])) [(.t 18)]⟩,
 ⟨(some 20), none, .p (.fa 3 (.t 3))⟩,
 ⟨(some 21), none, .p (.ld1 (.t 20))⟩,
 ⟨(some 22), none, .p (.len (.t 21))⟩,
 ⟨(some 23), none, .p (.bin .neq (.i .i64) (.t 19) (.t 22))⟩])
 (.cond (.t 23)
 (.seq
 (.reg [
 ⟨(some 24), none, .p (.bld [i64 0, i64 0] [])⟩,
 ⟨none, none, .e (.st 2 (.t 6) (.t 24))⟩,
 ⟨(some 7), none, .p (.mov (.c (i64 3)))⟩])
 .ret)
 .skip))
 (.seq
 (.seq
 (.reg [
 ⟨(some 25), none, .p (.fa 0 (.t 3))⟩,
 ⟨(some 26), none, .p (.ld1 (.t 25))⟩])
 (.blk 0
 (.seq
 (.reg [
 ⟨(some 28), none, .p (.bin .eql (.i .i64) (.t 26) (.c (i64 1)))⟩,
 ⟨(some 27), none, .p (.mov (.t 28))⟩])
 (.cond (.t 27)
 (.seq
 (.reg [
 ⟨(some 29), none, .p (.fa 1 (.t 3))⟩,
 ⟨(some 30), none, .p (.ld1 (.t 29))⟩,
 ⟨(some 31), none, .e (.call (.c (.fn (.func 61) [] [])) [(.t 30)])⟩,
 ⟨(some 32), none, .p (.ext (.t 31) 0)⟩,
 ⟨(some 33), none, .p (.ext (.t 31) 1)⟩,
 ⟨none, none, .e (.st 2 (.t 6) (.t 32))⟩,
 ⟨(some 7), none, .p (.mov (.t 33))⟩])
 .ret)
 (.seq
 (.reg [
 ⟨(some 35), none, .p (.bin .eql (.i .i64) (.t 26) (.c (i64 2)))⟩,
 ⟨(some 34), none, .p (.mov (.t 35))⟩])
 (.cond (.t 34)
 (.seq
 (.seq
 (.reg [
 ⟨(some 8), none, .p (.mov (.c (i64 0)))⟩])
 (.blk 1
 (.loop l29_0)))
 (.seq
 (.reg [
 ⟨(some 56), none, .p (.bld [i64 0, i64 0] [])⟩,
 ⟨none, none, .e (.st 2 (.t 6) (.t 56))⟩,
 ⟨(some 7), none, .p (.mov (.c (i64 7)))⟩])
 .ret))
 (.seq
 (.reg [
 ⟨(some 58), none, .p (.bin .eql (.i .i64) (.t 26) (.c (i64 20)))⟩,
 ⟨(some 57), none, .p (.mov (.t 58))⟩])
 (.cond (.t 57)
 (.seq
 (.reg [
 ⟨(some 60), none, .p (.fa 3 (.t 3))⟩,
 ⟨(some 61), none, .p (.ld1 (.t 60))⟩,
 ⟨(some 62), none, .p (.ia 5 (.t 61) (.c (i64 0)))⟩,
 ⟨(some 63), none, .p (.ldn 5 (.t 62))⟩,
 ⟨(some 64), none, .p (.mov (.t 1))⟩,
 ⟨(some 65), none, .p (.mov (.t 2))⟩,
 ⟨(some 66), none, .e (.call (.c (.fn (.func 62) [] [])) [(.t 63), (.t 64), (.t 65), (.c (i64 2))])⟩,
 ⟨(some 59), none, .p (.mov (.t 66))⟩,
 ⟨(some 67), none, .p (.ext (.t 59) 0)⟩,
 ⟨(some 68), none, .p (.ext (.t 59) 1)⟩,
 ⟨(some 9), none, .p (.mov (.t 67))⟩,
 ⟨(some 10), none, .p (.mov (.t 68))⟩])
 (.seq
 (.seq
 (.reg [
 ⟨(some 69), none, .p (.mov (.t 10))⟩,
 ⟨(some 70), none, .p (.bin .neq (.i .i64) (.t 69) (.c (i64 0)))⟩])
 (.cond (.t 70)
 (.seq
 (.reg [
 ⟨(some 71), none, .p (.bld [i64 0, i64 0] [])⟩,
 ⟨(some 72), none, .p (.mov (.t 10))⟩,
 ⟨none, none, .e (.st 2 (.t 6) (.t 71))⟩,
 ⟨(some 7), none, .p (.mov (.t 72))⟩])
 .ret)
 .skip))
 (.seq
 (.reg [
 ⟨(some 73), none, .p (.fa 3 (.t 3))⟩,
 ⟨(some 74), none, .p (.ld1 (.t 73))⟩,
 ⟨(some 75), none, .p (.mov (.t 9))⟩,
 ⟨(some 76), none, .p (.bin .sub (.i .i64) (.c (i64 2)) (.t 75))⟩,
 ⟨(some 77), none, .p (.ia 5 (.t 74) (.t 76))⟩,
 ⟨(some 78), none, .p (.ldn 5 (.t 77))⟩,
 ⟨(some 79), none, .p (.mov (.t 1))⟩,
 ⟨(some 80), none, .p (.mov (.t 2))⟩,
 ⟨(some 81), none, .e (.call (.c (.fn (.func 29) [] [])) [(.t 78), (.t 79), (.t 80)])⟩,
 ⟨(some 82), none, .p (.ext (.t 81) 0)⟩,
 ⟨(some 83), none, .p (.ext (.t 81) 1)⟩,
 ⟨none, none, .e (.st 2 (.t 6) (.t 82))⟩,
 ⟨(some 7), none, .p (.mov (.t 83))⟩])
 .ret)))
 (.seq
 (.seq
 (.reg [
 ⟨(some 85), none, .p (.bin .eql (.i .i64) (.t 26) (.c (i64 4)))⟩,
 ⟨(some 84), none, .p (.mov (.t 85))⟩])
 (.cond (.t 84)
 .skip
 (.seq
 (.reg [
 ⟨(some 86), none, .p (.bin .eql (.i .i64) (.t 26) (.c (i64 16)))⟩,
 ⟨(some 84), none, .p (.mov (.t 86))⟩])
 (.cond (.t 84)
 .skip
 (.reg [
 ⟨(some 87), none, .p (.bin .eql (.i .i64) (.t 26) (.c (i64 17)))⟩,
 ⟨(some 84), none, .p (.mov (.t 87))⟩])))))
 (.cond (.t 84)
 (.seq
 (.reg [
 ⟨(some 89), none, .p (.fa 3 (.t 3))⟩,
 ⟨(some 90), none, .p (.ld1 (.t 89))⟩,
 ⟨(some 91), none, .p (.ia 5 (.t 90) (.c (i64 0)))⟩,
 ⟨(some 92), none, .p (.ldn 5 (.t 91))⟩,
 ⟨(some 93), none, .p (.mov (.t 1))⟩,
 ⟨(some 94), none, .p (.mov (.t 2))⟩,
 ⟨(some 95), none, .e (.call (.c (.fn (.func 62) [] [])) [(.t 92), (.t 93), (.t 94), (.c (i64 2))])⟩,
 ⟨(some 88), none, .p (.mov (.t 95))⟩,
 ⟨(some 96), none, .p (.ext (.t 88) 0)⟩,
 ⟨(some 97), none, .p (.ext (.t 88) 1)⟩,
 ⟨(some 11), none, .p (.mov (.t 96))⟩,
 ⟨(some 12), none, .p (.mov (.t 97))⟩])
 (.seq
 (.seq
 (.reg [
 ⟨(some 98), none, .p (.mov (.t 12))⟩,
 ⟨(some 99), none, .p (.bin .neq (.i .i64) (.t 98) (.c (i64 0)))⟩])
 (.cond (.t 99)
 (.seq
 (.reg [
 ⟨(some 100), none, .p (.bld [i64 0, i64 0] [])⟩,
 ⟨(some 101), none, .p (.mov (.t 12))⟩,
 ⟨none, none, .e (.st 2 (.t 6) (.t 100))⟩,
 ⟨(some 7), none, .p (.mov (.t 101))⟩])
 .ret)
 .skip))
 (.seq
 (.seq
 (.reg [
 ⟨(some 102), none, .p (.fa 0 (.t 3))⟩,
 ⟨(some 103), none, .p (.ld1 (.t 102))⟩,
 ⟨(some 104), none, .p (.bin .eql (.i .i64) (.t 103) (.c (i64 4)))⟩])
 (.cond (.t 104)
 (.seq
 (.reg [
 ⟨(some 105), none, .p (.mov (.t 11))⟩,
 ⟨(some 106), none, .p (.bin .eql (.i .i64) (.t 105) (.c (i64 0)))⟩,
 ⟨(some 107), none, .e (.call (.c (.fn (.func 63) [] [])) [(.t 106)])⟩,
 ⟨(some 108), none, .p (.ext (.t 107) 0)⟩,
 ⟨(some 109), none, .p (.ext (.t 107) 1)⟩,
 ⟨none, none, .e (.st 2 (.t 6) (.t 108))⟩,
 ⟨(some 7), none, .p (.mov (.t 109))⟩])
 .ret)
 .skip))
 (.seq
 (.seq
 (.reg [
 ⟨(some 110), none, .p (.fa 0 (.t 3))⟩,
 ⟨(some 111), none, .p (.ld1 (.t 110))⟩,
 ⟨(some 112), none, .p (.bin .eql (.i .i64) (.t 111) (.c (i64 16)))⟩,
 ⟨(some 113), none, .p (.mov (.t 112))⟩,
 ⟨(some 114), (some (113, true)), .p (.mov (.t 11))⟩,
 ⟨(some 115), (some (113, true)), .p (.bin .eql (.i .i64) (.t 114) (.c (i64 0)))⟩,
 ⟨(some 116), none, .p (.pick (.t 113) (.t 115) (.c (bl false)))⟩,
 ⟨(some 117), none, .p (.mov (.t 116))⟩,
 ⟨(some 118), (some (117, false)), .p (.fa 0 (.t 3))⟩,
 ⟨(some 119), (some (117, false)), .p (.ld1 (.t 118))⟩,
 ⟨(some 120), (some (117, false)), .p (.bin .eql (.i .i64) (.t 119) (.c (i64 17)))⟩,
 ⟨(some 121), (some (117, false)), .p (.mov (.t 120))⟩,
 ⟨(some 122), (some (121, true)), .p (.mov (.t 11))⟩,
 ⟨(some 123), (some (121, true)), .p (.bin .eql (.i .i64) (.t 122) (.c (i64 1)))⟩,
 ⟨(some 124), (some (117, false)), .p (.pick (.t 121) (.t 123) (.c (bl false)))⟩,
 ⟨(some 125), none, .p (.pick (.t 117) (.c (bl true)) (.t 124))⟩])
 (.cond (.t 125)
 (.seq
 (.reg [
 ⟨(some 126), none, .p (.mov (.t 11))⟩,
 ⟨(some 127), none, .p (.bin .eql (.i .i64) (.t 126) (.c (i64 1)))⟩,
 ⟨(some 128), none, .e (.call (.c (.fn (.func 63) [] [])) [(.t 127)])⟩,
 ⟨(some 129), none, .p (.ext (.t 128) 0)⟩,
 ⟨(some 130), none, .p (.ext (.t 128) 1)⟩,
 ⟨none, none, .e (.st 2 (.t 6) (.t 129))⟩,
 ⟨(some 7), none, .p (.mov (.t 130))⟩])
 .ret)
 .skip))
 (.seq
 (.reg [
 ⟨(some 132), none, .p (.fa 3 (.t 3))⟩,
 ⟨(some 133), none, .p (.ld1 (.t 132))⟩,
 ⟨(some 134), none, .p (.ia 5 (.t 133) (.c (i64 1)))⟩,
 ⟨(some 135), none, .p (.ldn 5 (.t 134))⟩,
 ⟨(some 136), none, .p (.mov (.t 1))⟩,
 ⟨(some 137), none, .p (.mov (.t 2))⟩,
 ⟨(some 138), none, .e (.call (.c (.fn (.func 62) [] [])) [(.t 135), (.t 136), (.t 137), (.c (i64 2))])⟩,
 ⟨(some 131), none, .p (.mov (.t 138))⟩,
 ⟨(some 139), none, .p (.ext (.t 131) 0)⟩,
 ⟨(some 140), none, .p (.ext (.t 131) 1)⟩,
 ⟨(some 13), none, .p (.mov (.t 139))⟩,
 ⟨(some 12), none, .p (.mov (.t 140))⟩])
 (.seq
 (.seq
 (.reg [
 ⟨(some 141), none, .p (.mov (.t 12))⟩,
 ⟨(some 142), none, .p (.bin .neq (.i .i64) (.t 141) (.c (i64 0)))⟩])
 (.cond (.t 142)
 (.seq
 (.reg [
 ⟨(some 143), none, .p (.bld [i64 0, i64 0] [])⟩,
 ⟨(some 144), none, .p (.mov (.t 12))⟩,
 ⟨none, none, .e (.st 2 (.t 6) (.t 143))⟩,
 ⟨(some 7), none, .p (.mov (.t 144))⟩])
 .ret)
 .skip))
 (.seq
 (.reg [
 ⟨(some 145), none, .p (.mov (.t 13))⟩,
 ⟨(some 146), none, .p (.bin .eql (.i .i64) (.t 145) (.c (i64 1)))⟩,
 ⟨(some 147), none, .e (.call (.c (.fn (.func 63) [] [])) [(.t 146)])⟩,
 ⟨(some 148), none, .p (.ext (.t 147) 0)⟩,
 ⟨(some 149), none, .p (.ext (.t 147) 1)⟩,
 ⟨none, none, .e (.st 2 (.t 6) (.t 148))⟩,
 ⟨(some 7), none, .p (.mov (.t 149))⟩])
 .ret)))))))
 .skip))))))))))
 (.seq
 (.reg [
 ⟨(some 151), none, .p (.fa 3 (.t 3))⟩,
 ⟨(some 152), none, .p (.ld1 (.t 151))⟩,
 ⟨(some 153), none, .p (.ia 5 (.t 152) (.c (i64 0)))⟩,
 ⟨(some 154), none, .p (.ldn 5 (.t 153))⟩,
 ⟨(some 155), none, .p (.mov (.t 1))⟩,
 ⟨(some 156), none, .p (.mov (.t 2))⟩,
 ⟨(some 157), none, .e (.call (.c (.fn (.func 62) [] [])) [(.t 154), (.t 155), (.t 156), (.c (i64 1))])⟩,
 ⟨(some 150), none, .p (.mov (.t 157))⟩,
 ⟨(some 158), none, .p (.ext (.t 150) 0)⟩,
 ⟨(some 159), none, .p (.ext (.t 150) 1)⟩,
 ⟨(some 14), none, .p (.mov (.t 158))⟩,
 ⟨(some 15), none, .p (.mov (.t 159))⟩])
 (.seq
 (.seq
 (.reg [
 ⟨(some 160), none, .p (.mov (.t 15))⟩,
 ⟨(some 161), none, .p (.bin .neq (.i .i64) (.t 160) (.c (i64 0)))⟩])
 (.cond (.t 161)
 (.seq
 (.reg [
 ⟨(some 162), none, .p (.bld [i64 0, i64 0] [])⟩,
 ⟨(some 163), none, .p (.mov (.t 15))⟩,
 ⟨none, none, .e (.st 2 (.t 6) (.t 162))⟩,
 ⟨(some 7), none, .p (.mov (.t 163))⟩])
 .ret)
 .skip))
 (.seq
 (.seq
 (.reg [
 ⟨(some 164), none, .p (.fa 0 (.t 3))⟩,
 ⟨(some 165), none, .p (.ld1 (.t 164))⟩,
 ⟨(some 166), none, .p (.bin .eql (.i .i64) (.t 165) (.c (i64 3)))⟩])
 (.cond (.t 166)
 (.seq
 (.reg [
 ⟨(some 167), none, .p (.mov (.t 14))⟩,
 ⟨(some 168), none, .p (.neg .i64 (.t 167))⟩,
 ⟨(some 169), none, .e (.call (.c (.fn (.func 61) [] [])) [(.t 168)])⟩,
 ⟨(some 170), none, .p (.ext (.t 169) 0)⟩,
 ⟨(some 171), none, .p (.ext (.t 169) 1)⟩,
 ⟨none, none, .e (.st 2 (.t 6) (.t 170))⟩,
 ⟨(some 7), none, .p (.mov (.t 171))⟩])
 .ret)
 .skip))
 (.seq
 (.reg [
 ⟨(some 173), none, .p (.fa 3 (.t 3))⟩,
 ⟨(some 174), none, .p (.ld1 (.t 173))⟩,
 ⟨(some 175), none, .p (.ia 5 (.t 174) (.c (i64 1)))⟩,
 ⟨(some 176), none, .p (.ldn 5 (.t 175))⟩,
 ⟨(some 177), none, .p (.mov (.t 1))⟩,
 ⟨(some 178), none, .p (.mov (.t 2))⟩,
 ⟨(some 179), none, .e (.call (.c (.fn (.func 62) [] [])) [(.t 176), (.t 177), (.t 178), (.c (i64 1))])⟩,
 ⟨(some 172), none, .p (.mov (.t 179))⟩,
 ⟨(some 180), none, .p (.ext (.t 172) 0)⟩,
 ⟨(some 181), none, .p (.ext (.t 172) 1)⟩,
 ⟨(some 16), none, .p (.mov (.t 180))⟩,
 ⟨(some 15), none, .p (.mov (.t 181))⟩])
 (.seq
 (.seq
 (.reg [
 ⟨(some 182), none, .p (.mov (.t 15))⟩,
 ⟨(some 183), none, .p (.bin .neq (.i .i64) (.t 182) (.c (i64 0)))⟩])
 (.cond (.t 183)
 (.seq
 (.reg [
 ⟨(some 184), none, .p (.bld [i64 0, i64 0] [])⟩,
 ⟨(some 185), none, .p (.mov (.t 15))⟩,
 ⟨none, none, .e (.st 2 (.t 6) (.t 184))⟩,
 ⟨(some 7), none, .p (.mov (.t 185))⟩])
 .ret)
 .skip))
 t29)))))))) := rfl
def binG (op a b : Int) : Vr := if b = 0 ∧ (op = 6 ∨ op = 7) then .error 6 else if 10 ≤ op ∧ op ≤ 15 then boolF (decide (binP op a b = 1)) else numF (binP op a b)
section
variable {H : List AO} {k p : Int} {nm : List UInt8} {l : List Ex} {env : Env} {a b : Int} (hcl : closed H) (h3 : env.get 3 = .ptr (.own H.length 0 0 0 0) 0) (h6 : env.get 6 = .ptr (.own (H.length + 1) 0 0 0 0) 0) (h14 : env.get 14 = i64 a) (h16 : env.get 16 = i64 b) (ha : Sm a) (hb : Sm b)
include hcl h3 h6 h14 h16 ha hb
theorem t29_5 : X Tryz.prog Tryz.f29.ntmps drawB t29 env (H ++ [⟨[i64 5, i64 k, st (B nm), .slc (Ex.cL l) l.length, i64 p], 24, 0, true⟩, ⟨[i64 0, i64 0], 30, 0, true⟩]) (Ab.Fin H.length r29 (retV (binG 5 a b)) H) := by
 have ha' := ha
 have hb' := hb
 unfold Sm at ha' hb'
 have hq : binG 5 a b = numF (mulP a b) := by unfold binG; rw [if_neg (by omega), if_neg (by omega)]; rfl
 have h64 := fun H => ok64 (H := H) ha hb
 rw [hq]
 generalize numF (mulP a b) = y at h64
 simp -implicitDefEqProofs [t29, r29, h3, h6, h14, h16]
 refine call_go (h64 _) ?_
 cases y with
 | error e =>
  simp -implicitDefEqProofs [retV, h6]
  exact cv_fz 6 hcl rfl rfl
 | ok v =>
  simp -implicitDefEqProofs [retV, h6]
  exact cv_fz 6 hcl rfl rfl
theorem t29_8 : X Tryz.prog Tryz.f29.ntmps drawB t29 env (H ++ [⟨[i64 8, i64 k, st (B nm), .slc (Ex.cL l) l.length, i64 p], 24, 0, true⟩, ⟨[i64 0, i64 0], 30, 0, true⟩]) (Ab.Fin H.length r29 (retV (binG 8 a b)) H) := by
 have ha' := ha
 have hb' := hb
 unfold Sm at ha' hb'
 have hq : binG 8 a b = numF (a + b) := by unfold binG; rw [if_neg (by omega), if_neg (by omega)]; rfl
 have hw : IntKind.i64.wrap (a + b) = a + b := wrap_id (by omega) (by omega)
 have h61 := fun H => ok61 (H := H) (a + b)
 rw [hq]
 generalize numF (a + b) = y at h61
 simp -implicitDefEqProofs [t29, r29, h3, h6, h14, h16, hw]
 refine call_go (h61 _) ?_
 cases y with
 | error e =>
  simp -implicitDefEqProofs [retV, h6]
  exact cv_fz 6 hcl rfl rfl
 | ok v =>
  simp -implicitDefEqProofs [retV, h6]
  exact cv_fz 6 hcl rfl rfl
theorem t29_9 : X Tryz.prog Tryz.f29.ntmps drawB t29 env (H ++ [⟨[i64 9, i64 k, st (B nm), .slc (Ex.cL l) l.length, i64 p], 24, 0, true⟩, ⟨[i64 0, i64 0], 30, 0, true⟩]) (Ab.Fin H.length r29 (retV (binG 9 a b)) H) := by
 have ha' := ha
 have hb' := hb
 unfold Sm at ha' hb'
 have hq : binG 9 a b = numF (a - b) := by unfold binG; rw [if_neg (by omega), if_neg (by omega)]; rfl
 have hw : IntKind.i64.wrap (a - b) = a - b := wrap_id (by omega) (by omega)
 have h61 := fun H => ok61 (H := H) (a - b)
 rw [hq]
 generalize numF (a - b) = y at h61
 simp -implicitDefEqProofs [t29, r29, h3, h6, h14, h16, hw]
 refine call_go (h61 _) ?_
 cases y with
 | error e =>
  simp -implicitDefEqProofs [retV, h6]
  exact cv_fz 6 hcl rfl rfl
 | ok v =>
  simp -implicitDefEqProofs [retV, h6]
  exact cv_fz 6 hcl rfl rfl
theorem t29_18 : X Tryz.prog Tryz.f29.ntmps drawB t29 env (H ++ [⟨[i64 18, i64 k, st (B nm), .slc (Ex.cL l) l.length, i64 p], 24, 0, true⟩, ⟨[i64 0, i64 0], 30, 0, true⟩]) (Ab.Fin H.length r29 (retV (binG 18 a b)) H) := by
 have ha' := ha
 have hb' := hb
 unfold Sm at ha' hb'
 have hq : binG 18 a b = numF (min a b) := by unfold binG; rw [if_neg (by omega), if_neg (by omega)]; rfl
 have h61 := fun H => ok61 (H := H) (min a b)
 rw [hq]
 generalize numF (min a b) = y at h61
 simp -implicitDefEqProofs [t29, r29, h3, h6, h14, h16]
 refine call_go (h61 _) ?_
 cases y with
 | error e =>
  simp -implicitDefEqProofs [retV, h6]
  exact cv_fz 6 hcl rfl rfl
 | ok v =>
  simp -implicitDefEqProofs [retV, h6]
  exact cv_fz 6 hcl rfl rfl
theorem t29_19 : X Tryz.prog Tryz.f29.ntmps drawB t29 env (H ++ [⟨[i64 19, i64 k, st (B nm), .slc (Ex.cL l) l.length, i64 p], 24, 0, true⟩, ⟨[i64 0, i64 0], 30, 0, true⟩]) (Ab.Fin H.length r29 (retV (binG 19 a b)) H) := by
 have ha' := ha
 have hb' := hb
 unfold Sm at ha' hb'
 have hq : binG 19 a b = numF (max a b) := by unfold binG; rw [if_neg (by omega), if_neg (by omega)]; rfl
 have h61 := fun H => ok61 (H := H) (max a b)
 rw [hq]
 generalize numF (max a b) = y at h61
 simp -implicitDefEqProofs [t29, r29, h3, h6, h14, h16]
 refine call_go (h61 _) ?_
 cases y with
 | error e =>
  simp -implicitDefEqProofs [retV, h6]
  exact cv_fz 6 hcl rfl rfl
 | ok v =>
  simp -implicitDefEqProofs [retV, h6]
  exact cv_fz 6 hcl rfl rfl
theorem t29_10 : X Tryz.prog Tryz.f29.ntmps drawB t29 env (H ++ [⟨[i64 10, i64 k, st (B nm), .slc (Ex.cL l) l.length, i64 p], 24, 0, true⟩, ⟨[i64 0, i64 0], 30, 0, true⟩]) (Ab.Fin H.length r29 (retV (binG 10 a b)) H) := by
 have ha' := ha
 have hb' := hb
 unfold Sm at ha' hb'
 have hq : binG 10 a b = boolF (decide (a = b)) := by
  unfold binG
  rw [if_neg (by omega), if_pos (by omega)]
  have hp : binP 10 a b = tru (decide (a = b)) := rfl
  rw [hp]
  cases decide (a = b) <;> rfl
 rw [hq]
 simp -implicitDefEqProofs [t29, r29, h3, h6, h14, h16]
 refine call_go (ok63 _) ?_
 simp -implicitDefEqProofs [retV, boolF, h6]
 exact cv_fz 6 hcl rfl rfl
theorem t29_11 : X Tryz.prog Tryz.f29.ntmps drawB t29 env (H ++ [⟨[i64 11, i64 k, st (B nm), .slc (Ex.cL l) l.length, i64 p], 24, 0, true⟩, ⟨[i64 0, i64 0], 30, 0, true⟩]) (Ab.Fin H.length r29 (retV (binG 11 a b)) H) := by
 have ha' := ha
 have hb' := hb
 unfold Sm at ha' hb'
 have hq : binG 11 a b = boolF (decide (a ≠ b)) := by
  unfold binG
  rw [if_neg (by omega), if_pos (by omega)]
  have hp : binP 11 a b = tru (decide (a ≠ b)) := rfl
  rw [hp]
  cases decide (a ≠ b) <;> rfl
 rw [hq]
 simp -implicitDefEqProofs [t29, r29, h3, h6, h14, h16]
 refine call_go (ok63 _) ?_
 simp -implicitDefEqProofs [retV, boolF, h6]
 exact cv_fz 6 hcl rfl rfl
theorem t29_12 : X Tryz.prog Tryz.f29.ntmps drawB t29 env (H ++ [⟨[i64 12, i64 k, st (B nm), .slc (Ex.cL l) l.length, i64 p], 24, 0, true⟩, ⟨[i64 0, i64 0], 30, 0, true⟩]) (Ab.Fin H.length r29 (retV (binG 12 a b)) H) := by
 have ha' := ha
 have hb' := hb
 unfold Sm at ha' hb'
 have hq : binG 12 a b = boolF (decide (a < b)) := by
  unfold binG
  rw [if_neg (by omega), if_pos (by omega)]
  have hp : binP 12 a b = tru (decide (a < b)) := rfl
  rw [hp]
  cases decide (a < b) <;> rfl
 rw [hq]
 simp -implicitDefEqProofs [t29, r29, h3, h6, h14, h16]
 refine call_go (ok63 _) ?_
 simp -implicitDefEqProofs [retV, boolF, h6]
 exact cv_fz 6 hcl rfl rfl
theorem t29_13 : X Tryz.prog Tryz.f29.ntmps drawB t29 env (H ++ [⟨[i64 13, i64 k, st (B nm), .slc (Ex.cL l) l.length, i64 p], 24, 0, true⟩, ⟨[i64 0, i64 0], 30, 0, true⟩]) (Ab.Fin H.length r29 (retV (binG 13 a b)) H) := by
 have ha' := ha
 have hb' := hb
 unfold Sm at ha' hb'
 have hq : binG 13 a b = boolF (decide (a ≤ b)) := by
  unfold binG
  rw [if_neg (by omega), if_pos (by omega)]
  have hp : binP 13 a b = tru (decide (a ≤ b)) := rfl
  rw [hp]
  cases decide (a ≤ b) <;> rfl
 rw [hq]
 simp -implicitDefEqProofs [t29, r29, h3, h6, h14, h16]
 refine call_go (ok63 _) ?_
 simp -implicitDefEqProofs [retV, boolF, h6]
 exact cv_fz 6 hcl rfl rfl
theorem t29_14 : X Tryz.prog Tryz.f29.ntmps drawB t29 env (H ++ [⟨[i64 14, i64 k, st (B nm), .slc (Ex.cL l) l.length, i64 p], 24, 0, true⟩, ⟨[i64 0, i64 0], 30, 0, true⟩]) (Ab.Fin H.length r29 (retV (binG 14 a b)) H) := by
 have ha' := ha
 have hb' := hb
 unfold Sm at ha' hb'
 have hq : binG 14 a b = boolF (decide (b < a)) := by
  unfold binG
  rw [if_neg (by omega), if_pos (by omega)]
  have hp : binP 14 a b = tru (decide (b < a)) := rfl
  rw [hp]
  cases decide (b < a) <;> rfl
 rw [hq]
 simp -implicitDefEqProofs [t29, r29, h3, h6, h14, h16]
 refine call_go (ok63 _) ?_
 simp -implicitDefEqProofs [retV, boolF, h6]
 exact cv_fz 6 hcl rfl rfl
theorem t29_15 : X Tryz.prog Tryz.f29.ntmps drawB t29 env (H ++ [⟨[i64 15, i64 k, st (B nm), .slc (Ex.cL l) l.length, i64 p], 24, 0, true⟩, ⟨[i64 0, i64 0], 30, 0, true⟩]) (Ab.Fin H.length r29 (retV (binG 15 a b)) H) := by
 have ha' := ha
 have hb' := hb
 unfold Sm at ha' hb'
 have hq : binG 15 a b = boolF (decide (b ≤ a)) := by
  unfold binG
  rw [if_neg (by omega), if_pos (by omega)]
  have hp : binP 15 a b = tru (decide (b ≤ a)) := rfl
  rw [hp]
  cases decide (b ≤ a) <;> rfl
 rw [hq]
 simp -implicitDefEqProofs [t29, r29, h3, h6, h14, h16]
 refine call_go (ok63 _) ?_
 simp -implicitDefEqProofs [retV, boolF, h6]
 exact cv_fz 6 hcl rfl rfl
theorem t29_6 : X Tryz.prog Tryz.f29.ntmps drawB t29 env (H ++ [⟨[i64 6, i64 k, st (B nm), .slc (Ex.cL l) l.length, i64 p], 24, 0, true⟩, ⟨[i64 0, i64 0], 30, 0, true⟩]) (Ab.Fin H.length r29 (retV (binG 6 a b)) H) := by
 have ha' := ha
 have hb' := hb
 unfold Sm at ha' hb'
 by_cases hb0 : b = 0
 · have hq : binG 6 a b = .error 6 := by unfold binG; rw [if_pos ⟨hb0, by omega⟩]
   rw [hq]
   simp -implicitDefEqProofs [t29, r29, h3, h6, h14, h16, hb0, retV]
   exact cv_fz 6 hcl rfl rfl
 have hm2 := fmul_bd ha hb hb0
 have w1 : IntKind.i64.wrap (b * a.fdiv b) = b * a.fdiv b := wrap_id (by omega) (by omega)
 have w2 : IntKind.i64.wrap (a - b * a.fdiv b) = a - b * a.fdiv b := wrap_id (by omega) (by omega)
 have hq : binG 6 a b = numF (a.fdiv b) := by unfold binG; rw [if_neg (fun h => hb0 h.1), if_neg (by omega)]; rfl
 have h65 := fun H => ok65 (H := H) ha hb0
 have h61 := fun H => ok61 (H := H) (a.fdiv b)
 rw [hq]
 generalize numF (a.fdiv b) = y at h61
 generalize a.fdiv b = q at h65 h61 w1 w2
 simp -implicitDefEqProofs [t29, r29, h3, h6, h14, h16, hb0]
 refine call_go (h65 _) ?_
 simp -implicitDefEqProofs [w1, w2]
 refine call_go (h61 _) ?_
 cases y with
 | error e =>
  simp -implicitDefEqProofs [retV, h6]
  exact cv_fz 6 hcl rfl rfl
 | ok v =>
  simp -implicitDefEqProofs [retV, h6]
  exact cv_fz 6 hcl rfl rfl
theorem t29_7 : X Tryz.prog Tryz.f29.ntmps drawB t29 env (H ++ [⟨[i64 7, i64 k, st (B nm), .slc (Ex.cL l) l.length, i64 p], 24, 0, true⟩, ⟨[i64 0, i64 0], 30, 0, true⟩]) (Ab.Fin H.length r29 (retV (binG 7 a b)) H) := by
 have ha' := ha
 have hb' := hb
 unfold Sm at ha' hb'
 by_cases hb0 : b = 0
 · have hq : binG 7 a b = .error 6 := by unfold binG; rw [if_pos ⟨hb0, by omega⟩]
   rw [hq]
   simp -implicitDefEqProofs [t29, r29, h3, h6, h14, h16, hb0, retV]
   exact cv_fz 6 hcl rfl rfl
 have hm2 := fmul_bd ha hb hb0
 have w1 : IntKind.i64.wrap (b * a.fdiv b) = b * a.fdiv b := wrap_id (by omega) (by omega)
 have w2 : IntKind.i64.wrap (a - b * a.fdiv b) = a - b * a.fdiv b := wrap_id (by omega) (by omega)
 have hq : binG 7 a b = numF (a - b * a.fdiv b) := by unfold binG; rw [if_neg (fun h => hb0 h.1), if_neg (by omega)]; rfl
 have h65 := fun H => ok65 (H := H) ha hb0
 have h61 := fun H => ok61 (H := H) (a - b * a.fdiv b)
 rw [hq]
 generalize numF (a - b * a.fdiv b) = y at h61
 generalize a.fdiv b = q at h65 h61 w1 w2
 simp -implicitDefEqProofs [t29, r29, h3, h6, h14, h16, hb0]
 refine call_go (h65 _) ?_
 simp -implicitDefEqProofs [w1, w2]
 refine call_go (h61 _) ?_
 cases y with
 | error e =>
  simp -implicitDefEqProofs [retV, h6]
  exact cv_fz 6 hcl rfl rfl
 | ok v =>
  simp -implicitDefEqProofs [retV, h6]
  exact cv_fz 6 hcl rfl rfl
theorem t29_ok {op : Int} (hc : isBin op) : X Tryz.prog Tryz.f29.ntmps drawB t29 env (H ++ [⟨[i64 op, i64 k, st (B nm), .slc (Ex.cL l) l.length, i64 p], 24, 0, true⟩, ⟨[i64 0, i64 0], 30, 0, true⟩]) (Ab.Fin H.length r29 (retV (binG op a b)) H) := by
 have hc : op = 5 ∨ op = 6 ∨ op = 7 ∨ op = 8 ∨ op = 9 ∨ op = 10 ∨ op = 11 ∨ op = 12 ∨ op = 13 ∨ op = 14 ∨ op = 15 ∨ op = 18 ∨ op = 19 := by unfold isBin at hc; omega
 rcases hc with rfl | rfl | rfl | rfl | rfl | rfl | rfl | rfl | rfl | rfl | rfl | rfl | rfl
 · exact t29_5 hcl h3 h6 h14 h16 ha hb
 · exact t29_6 hcl h3 h6 h14 h16 ha hb
 · exact t29_7 hcl h3 h6 h14 h16 ha hb
 · exact t29_8 hcl h3 h6 h14 h16 ha hb
 · exact t29_9 hcl h3 h6 h14 h16 ha hb
 · exact t29_10 hcl h3 h6 h14 h16 ha hb
 · exact t29_11 hcl h3 h6 h14 h16 ha hb
 · exact t29_12 hcl h3 h6 h14 h16 ha hb
 · exact t29_13 hcl h3 h6 h14 h16 ha hb
 · exact t29_14 hcl h3 h6 h14 h16 ha hb
 · exact t29_15 hcl h3 h6 h14 h16 ha hb
 · exact t29_18 hcl h3 h6 h14 h16 ha hb
 · exact t29_19 hcl h3 h6 h14 h16 ha hb
end
end Go.Proofs.YtcejichidnlicaaGreatDoor
namespace Go.Proofs.YtcejichidnlicaaGreatDoor
open Go.Ab
section
variable {H : List AO} {ns : List (List UInt8)} {vs : List Int}
theorem loop29 (hl : ns.length = vs.length) (hb : ns.length < 4611686018427387904) {op k p : Int} {nm : List UInt8} {l : List Ex} {N : Nat} {K : XE -> Env -> List AO -> Prop}
 (hret : ∀ v, lookF ns vs nm = some v -> ∀ env G, env.get 6 = .ptr (.own (H.length + 1) 0 0 0 0) 0 -> (match numF v with | .ok x => env.get 7 = i64 0 ∧ G = [⟨[i64 x.1, i64 x.2], 30, 0, true⟩] | .error e => env.get 7 = i64 e ∧ G = [⟨[i64 0, i64 0], 30, 0, true⟩]) -> K .ret env (H ++ ⟨[i64 op, i64 k, st (B nm), .slc (Ex.cL l) l.length, i64 p], 24, 0, true⟩ :: G))
 (hexit : lookF ns vs nm = none -> ∀ env, env.get 6 = .ptr (.own (H.length + 1) 0 0 0 0) 0 -> K (.exit 1) env (H ++ [⟨[i64 op, i64 k, st (B nm), .slc (Ex.cL l) l.length, i64 p], 24, 0, true⟩, ⟨[i64 0, i64 0], 30, 0, true⟩])) :
 ∀ (m i : Nat) (env : Env), i + m = ns.length -> lookF (ns.drop i) (vs.drop i) nm = lookF ns vs nm -> env.get 1 = .slc (wds ns) ns.length -> env.get 2 = .slc (ints vs) vs.length -> env.get 3 = .ptr (.own H.length 0 0 0 0) 0 -> env.get 6 = .ptr (.own (H.length + 1) 0 0 0 0) 0 -> env.get 8 = i64 i -> LI Tryz.prog N drawB l29_0 env (H ++ [⟨[i64 op, i64 k, st (B nm), .slc (Ex.cL l) l.length, i64 p], 24, 0, true⟩, ⟨[i64 0, i64 0], 30, 0, true⟩]) K := by
 intro m
 induction m with
 | zero =>
  intro i env hi hq h1 h2 h3 h6 h8
  refine li_go hm l29_0.eq_1 ?_
  have e : i = ns.length := by omega
  subst e
  rw [List.drop_length] at hq
  simp -implicitDefEqProofs [h1, h2, h3, h6, h8]
  exact hexit (by rw [← hq]; simp [lookF]) _ (by simp)
 | succ m ih =>
  intro i env hi hq h1 h2 h3 h6 h8
  refine li_go hm l29_0.eq_1 ?_
  have hlt : i < ns.length := by omega
  have hlt2 : i < vs.length := by omega
  have hlt' : (i : Int) < ns.length := by omega
  have hlt2' : (i : Int) < vs.length := by omega
  have hg : ∀ h, (wds ns)[i]'(h) = st (B ns[i]) := fun h => by simp [wds]
  rw [List.drop_eq_getElem_cons hlt, List.drop_eq_getElem_cons hlt2, lookF] at hq
  generalize ns[i] = n at hq hg
  by_cases hn : n = nm
  · rw [if_pos hn] at hq
    subst hn
    have h61 := fun H => ok61 (H := H) vs[i]
    have hr := hret vs[i] hq.symm
    generalize numF vs[i] = y at h61 hr
    simp -implicitDefEqProofs [h1, h2, h3, h6, h8, hlt, hlt', hlt2, hlt2', hg]
    refine ⟨by omega, by omega, call_go (h61 _) ?_⟩
    cases y with
    | error e =>
     simp -implicitDefEqProofs [retV, h6]
     exact hr _ _ (by simp) ⟨by simp, rfl⟩
    | ok v =>
     simp -implicitDefEqProofs [retV, h6]
     exact hr _ _ (by simp) ⟨by simp, rfl⟩
  · rw [if_neg hn] at hq
    simp -implicitDefEqProofs [h1, h2, h3, h6, h8, hlt, hlt', hlt2, hlt2', hg, hn]
    refine ⟨by omega, ih (i + 1) _ (by omega) hq ?_ ?_ ?_ ?_ ?_⟩
    all_goals simp [wrap_suc (show i < 9223372036854775807 by omega)]
theorem of_sm {x : Vr} (h : ∀ n, x = .ok (1, n) -> Sm n) {a : Int} (ha : ofF 1 x = .ok a) : Sm a := by
 unfold ofF at ha
 split at ha
 · cases ha
 · rename_i v
   split at ha
   · cases ha
   · rename_i hk
     have hk := Decidable.not_not.1 hk
     obtain ⟨x1, x2⟩ := v
     simp only at hk ha
     subst hk
     have := Except.ok.inj ha
     subst this
     exact h _ rfl
theorem numF_bool {n m : Int} (h : numF n = .ok (2, m)) : False := by unfold numF at h; split at h <;> cases h
theorem boolF_bool {b : Bool} {m : Int} (h : boolF b = .ok (2, m)) : m = 0 ∨ m = 1 := by cases b <;> cases h <;> simp [tru]
theorem appF_bool {op : Int} {w : List Vr} (hw : ∀ i n, wAt w i = .ok (2, n) -> n = 0 ∨ n = 1) {n : Int} (h : appF op w = .ok (2, n)) : n = 0 ∨ n = 1 := by
 unfold appF at h
 repeat' split at h
 all_goals first
  | cases h; done
  | exact (numF_bool h).elim
  | exact boolF_bool h
  | exact hw _ _ h
mutual
theorem ev_bool (ns : List (List UInt8)) (vs : List Int) : ∀ (e : Ex) {n : Int}, evE ns vs e = .ok (2, n) -> n = 0 ∨ n = 1
 | .mk op k nm l p, n, h => by
  have ih := evL_bool ns vs l
  rw [evE] at h
  split at h
  · cases h
  · split at h
    · exact (numF_bool h).elim
    · split at h
      · split at h
        · cases h
        · exact (numF_bool h).elim
      · exact appF_bool ih h
theorem evL_bool (ns : List (List UInt8)) (vs : List Int) : ∀ (l : List Ex) (i : Nat) (n : Int), wAt (evL ns vs l) i = .ok (2, n) -> n = 0 ∨ n = 1
 | [], i, n, h => by rw [evL] at h; simp [wAt] at h
 | e :: r, 0, n, h => by rw [evL] at h; exact ev_bool ns vs e (by simpa [wAt] using h)
 | e :: r, i + 1, n, h => by rw [evL] at h; exact evL_bool ns vs r i n (by simpa [wAt] using h)
end
theorem bool_of {l : List Ex} {i : Nat} {a : Int} (h : ofF 2 (wAt (evL ns vs l) i) = .ok a) : a = 0 ∨ a = 1 := by
 have hb := evL_bool ns vs l i
 generalize wAt (evL ns vs l) i = x at h hb
 unfold ofF at h
 split at h
 · cases h
 · rename_i v
   split at h
   · cases h
   · rename_i hk
     have hk := Decidable.not_not.1 hk
     obtain ⟨x1, x2⟩ := v
     simp only at hk h
     subst hk
     have := Except.ok.inj h
     subst this
     exact hb _ rfl
theorem ok29_if (hcl : closed H) {op k p : Int} {nm : List UInt8} {l : List Ex} (h3 : opN op = (l.length : Int)) (he : op = 20) (ih : ∀ e ∈ l, ∀ H, Ok Tryz.prog 29 [e.v, .slc (wds ns) ns.length, .slc (ints vs) vs.length] H (retV (evE ns vs e)) H) :
 X Tryz.prog Tryz.f29.ntmps drawB i29 (argsEnv [(Ex.mk op k nm l p).v, .slc (wds ns) ns.length, .slc (ints vs) vs.length]) H (Ab.Fin H.length r29 (retV (appF op (evL ns vs l))) H) := by
 have wr1 : IntKind.i64.wrap 1 = 1 := rfl
 have wr2 : IntKind.i64.wrap 2 = 2 := rfl
 have hsm := evL_sm ns vs l
 have hgl := fun i (h : i < l.length) => exL_get h
 have hcl' := exL_len l
 generalize hr : appF op (evL ns vs l) = r
 subst he
 have hl0 : 0 < l.length := by first | omega | (simp [opN] at h3; omega)
 have ih0 := ih _ (List.getElem_mem hl0)
 have w0 := wAt_ev ns vs hl0
 have g0 := hgl 0 hl0
 have b0 := fun a => bool_of (ns := ns) (vs := vs) (l := l) (i := 0) (a := a)
 simp only [Nat.zero_mul, List.drop_zero] at g0
 have hl0' : (0 : Int) < l.length := by omega
 have hne0 := fun (k e : Int) (h : ofF k (evE ns vs l[0]) = .error e) => ofF_ne (fun e he => ev_ne ns vs _ he) h
 have h62 := fun k H => ok62 (H := H) ih0 k
 have sm0 := fun n => hsm 0 n
 unfold appF at hr
 rw [w0] at hr b0 sm0
 generalize evE ns vs l[0] = x0 at hr b0 hne0 h62 sm0
 have hl3 : l.length = 3 := by simp [opN] at h3; omega
 rw [if_neg (by decide), if_neg (by decide), if_neg (by decide), if_neg (by decide), if_pos rfl] at hr
 have hl1 : 1 < l.length := by omega
 have hl2 : 2 < l.length := by omega
 rw [wAt_ev ns vs hl1, wAt_ev ns vs hl2] at hr
 have ih1 := ih _ (List.getElem_mem hl1)
 have ih2 := ih _ (List.getElem_mem hl2)
 have g1 := hgl 1 hl1
 have g2 := hgl 2 hl2
 simp only [Nat.reduceMul] at g1 g2
 have hne0 := hne0 2
 have h62 := h62 2
 generalize ofF 2 x0 = x at hr b0 hne0 h62
 rw [hl3] at h3
 simp -implicitDefEqProofs [t29_at, r29, Ex.v, Ex.c]
 refine callq_go (fun _ => ok38 _) ?_
 simp -implicitDefEqProofs [h3, hl3, hcl', g0]
 refine call_go (h62 _) ?_
 cases x with
 | error e =>
  subst hr
  have he := hne0 e rfl
  simp -implicitDefEqProofs [wantV, retV, he]
  exact cv_fz 6 hcl rfl rfl
 | ok a =>
  simp only at hr
  rcases b0 a rfl with rfl | rfl
  · rw [if_neg (by decide)] at hr
    rw [hr] at ih2
    simp -implicitDefEqProofs [wantV, hl3, hcl', g2, wr2]
    refine call_go (ih2 _) ?_
    cases r with
    | error e =>
     simp -implicitDefEqProofs [retV]
     exact cv_fz 6 hcl rfl rfl
    | ok v =>
     simp -implicitDefEqProofs [retV]
     exact cv_fz 6 hcl rfl rfl
  · rw [if_pos rfl] at hr
    rw [hr] at ih1
    simp -implicitDefEqProofs [wantV, hl3, hcl', g1, wr1]
    refine call_go (ih1 _) ?_
    cases r with
    | error e =>
     simp -implicitDefEqProofs [retV]
     exact cv_fz 6 hcl rfl rfl
    | ok v =>
     simp -implicitDefEqProofs [retV]
     exact cv_fz 6 hcl rfl rfl
theorem ok29_not (hcl : closed H) {op k p : Int} {nm : List UInt8} {l : List Ex} (h3 : opN op = (l.length : Int)) (he : op = 4) (ih : ∀ e ∈ l, ∀ H, Ok Tryz.prog 29 [e.v, .slc (wds ns) ns.length, .slc (ints vs) vs.length] H (retV (evE ns vs e)) H) :
 X Tryz.prog Tryz.f29.ntmps drawB i29 (argsEnv [(Ex.mk op k nm l p).v, .slc (wds ns) ns.length, .slc (ints vs) vs.length]) H (Ab.Fin H.length r29 (retV (appF op (evL ns vs l))) H) := by
 have wr1 : IntKind.i64.wrap 1 = 1 := rfl
 have wr2 : IntKind.i64.wrap 2 = 2 := rfl
 have hsm := evL_sm ns vs l
 have hgl := fun i (h : i < l.length) => exL_get h
 have hcl' := exL_len l
 generalize hr : appF op (evL ns vs l) = r
 subst he
 have hl0 : 0 < l.length := by first | omega | (simp [opN] at h3; omega)
 have ih0 := ih _ (List.getElem_mem hl0)
 have w0 := wAt_ev ns vs hl0
 have g0 := hgl 0 hl0
 have b0 := fun a => bool_of (ns := ns) (vs := vs) (l := l) (i := 0) (a := a)
 simp only [Nat.zero_mul, List.drop_zero] at g0
 have hl0' : (0 : Int) < l.length := by omega
 have hne0 := fun (k e : Int) (h : ofF k (evE ns vs l[0]) = .error e) => ofF_ne (fun e he => ev_ne ns vs _ he) h
 have h62 := fun k H => ok62 (H := H) ih0 k
 have sm0 := fun n => hsm 0 n
 unfold appF at hr
 rw [w0] at hr b0 sm0
 generalize evE ns vs l[0] = x0 at hr b0 hne0 h62 sm0
 have hl3 : l.length = 1 := by simp [opN] at h3; omega
 rw [if_neg (by decide), if_pos rfl] at hr
 have hne0 := hne0 2
 have h62 := h62 2
 generalize ofF 2 x0 = x at hr b0 hne0 h62
 rw [hl3] at h3
 simp -implicitDefEqProofs [t29_at, r29, Ex.v, Ex.c]
 refine callq_go (fun _ => ok38 _) ?_
 simp -implicitDefEqProofs [h3, hl3, hcl', g0]
 refine call_go (h62 _) ?_
 cases x with
 | error e =>
  subst hr
  have he := hne0 e rfl
  simp -implicitDefEqProofs [wantV, retV, he]
  exact cv_fz 6 hcl rfl rfl
 | ok a =>
  simp only at hr
  subst hr
  rcases b0 a rfl with rfl | rfl
  · simp -implicitDefEqProofs [wantV]
    refine call_go (ok63 true) ?_
    simp -implicitDefEqProofs [retV, boolF, tru]
    exact cv_fz 6 hcl rfl rfl
  · simp -implicitDefEqProofs [wantV]
    refine call_go (ok63 false) ?_
    simp -implicitDefEqProofs [retV, boolF, tru]
    exact cv_fz 6 hcl rfl rfl
theorem ok29_and (hcl : closed H) {op k p : Int} {nm : List UInt8} {l : List Ex} (h3 : opN op = (l.length : Int)) (he : op = 16) (ih : ∀ e ∈ l, ∀ H, Ok Tryz.prog 29 [e.v, .slc (wds ns) ns.length, .slc (ints vs) vs.length] H (retV (evE ns vs e)) H) :
 X Tryz.prog Tryz.f29.ntmps drawB i29 (argsEnv [(Ex.mk op k nm l p).v, .slc (wds ns) ns.length, .slc (ints vs) vs.length]) H (Ab.Fin H.length r29 (retV (appF op (evL ns vs l))) H) := by
 have wr1 : IntKind.i64.wrap 1 = 1 := rfl
 have wr2 : IntKind.i64.wrap 2 = 2 := rfl
 have hsm := evL_sm ns vs l
 have hgl := fun i (h : i < l.length) => exL_get h
 have hcl' := exL_len l
 generalize hr : appF op (evL ns vs l) = r
 subst he
 have hl1 : 1 < l.length := by simp [opN] at h3; omega
 have hl0 : 0 < l.length := by first | omega | (simp [opN] at h3; omega)
 have ih0 := ih _ (List.getElem_mem hl0)
 have w0 := wAt_ev ns vs hl0
 have g0 := hgl 0 hl0
 have b0 := fun a => bool_of (ns := ns) (vs := vs) (l := l) (i := 0) (a := a)
 simp only [Nat.zero_mul, List.drop_zero] at g0
 have hl0' : (0 : Int) < l.length := by omega
 have hne0 := fun (k e : Int) (h : ofF k (evE ns vs l[0]) = .error e) => ofF_ne (fun e he => ev_ne ns vs _ he) h
 have h62 := fun k H => ok62 (H := H) ih0 k
 have sm0 := fun n => hsm 0 n
 unfold appF at hr
 rw [w0] at hr b0 sm0
 generalize evE ns vs l[0] = x0 at hr b0 hne0 h62 sm0
 have ih1 := ih _ (List.getElem_mem hl1)
 have w1 := wAt_ev ns vs hl1
 have g1 := hgl 1 hl1
 have b1 := fun a => bool_of (ns := ns) (vs := vs) (l := l) (i := 1) (a := a)
 simp only [Nat.one_mul] at g1
 have hl1' : (1 : Int) < l.length := by omega
 have hne1 := fun (k e : Int) (h : ofF k (evE ns vs l[1]) = .error e) => ofF_ne (fun e he => ev_ne ns vs _ he) h
 have h62' := fun k H => ok62 (H := H) ih1 k
 have sm1 := fun n => hsm 1 n
 rw [w1] at hr b1 sm1
 generalize evE ns vs l[1] = x1 at hr b1 hne1 h62' sm1
 have hl3 : l.length = 2 := by simp [opN] at h3; omega
 rw [if_neg (by decide), if_neg (by decide), if_pos rfl] at hr
 have hne0 := hne0 2
 have h62 := h62 2
 have hne1 := hne1 2
 have h62' := h62' 2
 generalize ofF 2 x0 = x at hr b0 hne0 h62
 generalize ofF 2 x1 = y at hr b1 hne1 h62'
 rw [hl3] at h3
 simp -implicitDefEqProofs [t29_at, r29, Ex.v, Ex.c]
 refine callq_go (fun _ => ok38 _) ?_
 simp -implicitDefEqProofs [h3, hl3, hcl', g0]
 refine call_go (h62 _) ?_
 cases x with
 | error e =>
  subst hr
  have he := hne0 e rfl
  simp -implicitDefEqProofs [wantV, retV, he]
  exact cv_fz 6 hcl rfl rfl
 | ok a =>
  simp only at hr
  rcases b0 a rfl with rfl | rfl
  · rw [if_neg (by decide)] at hr
    subst hr
    simp -implicitDefEqProofs [wantV]
    refine call_go (ok63 false) ?_
    simp -implicitDefEqProofs [retV, boolF, tru]
    exact cv_fz 6 hcl rfl rfl
  · rw [if_pos rfl] at hr
    simp -implicitDefEqProofs [wantV, hl3, hcl', g1]
    refine call_go (h62' _) ?_
    cases y with
    | error e =>
     subst hr
     have he := hne1 e rfl
     simp -implicitDefEqProofs [wantV, retV, he]
     exact cv_fz 6 hcl rfl rfl
    | ok b =>
     simp only at hr
     subst hr
     simp -implicitDefEqProofs [wantV]
     refine call_go (ok63 _) ?_
     simp -implicitDefEqProofs [retV, boolF]
     exact cv_fz 6 hcl rfl rfl
theorem ok29_or (hcl : closed H) {op k p : Int} {nm : List UInt8} {l : List Ex} (h3 : opN op = (l.length : Int)) (he : op = 17) (ih : ∀ e ∈ l, ∀ H, Ok Tryz.prog 29 [e.v, .slc (wds ns) ns.length, .slc (ints vs) vs.length] H (retV (evE ns vs e)) H) :
 X Tryz.prog Tryz.f29.ntmps drawB i29 (argsEnv [(Ex.mk op k nm l p).v, .slc (wds ns) ns.length, .slc (ints vs) vs.length]) H (Ab.Fin H.length r29 (retV (appF op (evL ns vs l))) H) := by
 have wr1 : IntKind.i64.wrap 1 = 1 := rfl
 have wr2 : IntKind.i64.wrap 2 = 2 := rfl
 have hsm := evL_sm ns vs l
 have hgl := fun i (h : i < l.length) => exL_get h
 have hcl' := exL_len l
 generalize hr : appF op (evL ns vs l) = r
 subst he
 have hl1 : 1 < l.length := by simp [opN] at h3; omega
 have hl0 : 0 < l.length := by first | omega | (simp [opN] at h3; omega)
 have ih0 := ih _ (List.getElem_mem hl0)
 have w0 := wAt_ev ns vs hl0
 have g0 := hgl 0 hl0
 have b0 := fun a => bool_of (ns := ns) (vs := vs) (l := l) (i := 0) (a := a)
 simp only [Nat.zero_mul, List.drop_zero] at g0
 have hl0' : (0 : Int) < l.length := by omega
 have hne0 := fun (k e : Int) (h : ofF k (evE ns vs l[0]) = .error e) => ofF_ne (fun e he => ev_ne ns vs _ he) h
 have h62 := fun k H => ok62 (H := H) ih0 k
 have sm0 := fun n => hsm 0 n
 unfold appF at hr
 rw [w0] at hr b0 sm0
 generalize evE ns vs l[0] = x0 at hr b0 hne0 h62 sm0
 have ih1 := ih _ (List.getElem_mem hl1)
 have w1 := wAt_ev ns vs hl1
 have g1 := hgl 1 hl1
 have b1 := fun a => bool_of (ns := ns) (vs := vs) (l := l) (i := 1) (a := a)
 simp only [Nat.one_mul] at g1
 have hl1' : (1 : Int) < l.length := by omega
 have hne1 := fun (k e : Int) (h : ofF k (evE ns vs l[1]) = .error e) => ofF_ne (fun e he => ev_ne ns vs _ he) h
 have h62' := fun k H => ok62 (H := H) ih1 k
 have sm1 := fun n => hsm 1 n
 rw [w1] at hr b1 sm1
 generalize evE ns vs l[1] = x1 at hr b1 hne1 h62' sm1
 have hl3 : l.length = 2 := by simp [opN] at h3; omega
 rw [if_neg (by decide), if_neg (by decide), if_neg (by decide), if_pos rfl] at hr
 have hne0 := hne0 2
 have h62 := h62 2
 have hne1 := hne1 2
 have h62' := h62' 2
 generalize ofF 2 x0 = x at hr b0 hne0 h62
 generalize ofF 2 x1 = y at hr b1 hne1 h62'
 rw [hl3] at h3
 simp -implicitDefEqProofs [t29_at, r29, Ex.v, Ex.c]
 refine callq_go (fun _ => ok38 _) ?_
 simp -implicitDefEqProofs [h3, hl3, hcl', g0]
 refine call_go (h62 _) ?_
 cases x with
 | error e =>
  subst hr
  have he := hne0 e rfl
  simp -implicitDefEqProofs [wantV, retV, he]
  exact cv_fz 6 hcl rfl rfl
 | ok a =>
  simp only at hr
  rcases b0 a rfl with rfl | rfl
  · rw [if_neg (by decide)] at hr
    simp -implicitDefEqProofs [wantV, hl3, hcl', g1]
    refine call_go (h62' _) ?_
    cases y with
    | error e =>
     subst hr
     have he := hne1 e rfl
     simp -implicitDefEqProofs [wantV, retV, he]
     exact cv_fz 6 hcl rfl rfl
    | ok b =>
     simp only at hr
     subst hr
     simp -implicitDefEqProofs [wantV]
     refine call_go (ok63 _) ?_
     simp -implicitDefEqProofs [retV, boolF]
     exact cv_fz 6 hcl rfl rfl
  · rw [if_pos rfl] at hr
    subst hr
    simp -implicitDefEqProofs [wantV]
    refine call_go (ok63 true) ?_
    simp -implicitDefEqProofs [retV, boolF, tru]
    exact cv_fz 6 hcl rfl rfl
theorem ok29_bin (hcl : closed H) {op k p : Int} {nm : List UInt8} {l : List Ex} (h3 : opN op = (l.length : Int)) (hop : isBin op) (ih : ∀ e ∈ l, ∀ H, Ok Tryz.prog 29 [e.v, .slc (wds ns) ns.length, .slc (ints vs) vs.length] H (retV (evE ns vs e)) H) :
 X Tryz.prog Tryz.f29.ntmps drawB i29 (argsEnv [(Ex.mk op k nm l p).v, .slc (wds ns) ns.length, .slc (ints vs) vs.length]) H (Ab.Fin H.length r29 (retV (appF op (evL ns vs l))) H) := by
 have wr1 : IntKind.i64.wrap 1 = 1 := rfl
 have wr2 : IntKind.i64.wrap 2 = 2 := rfl
 have hsm := evL_sm ns vs l
 have hgl := fun i (h : i < l.length) => exL_get h
 have hcl' := exL_len l
 generalize hr : appF op (evL ns vs l) = r
 have h1 : ¬ op = 1 := by unfold isBin at hop; omega
 have h2 : ¬ op = 2 := by unfold isBin at hop; omega
 have h03 : ¬ op = 3 := by unfold isBin at hop; omega
 have h4 : ¬ op = 4 := by unfold isBin at hop; omega
 have h16 : ¬ op = 16 := by unfold isBin at hop; omega
 have h17 : ¬ op = 17 := by unfold isBin at hop; omega
 have h20 : ¬ op = 20 := by unfold isBin at hop; omega
 have hl1 : 1 < l.length := by
  have : opN op = 2 := by unfold isBin at hop; unfold opN; rw [if_neg (by omega), if_neg (by omega), if_neg h20, if_pos (by omega)]
  omega
 have hl0 : 0 < l.length := by first | omega | (simp [opN] at h3; omega)
 have ih0 := ih _ (List.getElem_mem hl0)
 have w0 := wAt_ev ns vs hl0
 have g0 := hgl 0 hl0
 have b0 := fun a => bool_of (ns := ns) (vs := vs) (l := l) (i := 0) (a := a)
 simp only [Nat.zero_mul, List.drop_zero] at g0
 have hl0' : (0 : Int) < l.length := by omega
 have hne0 := fun (k e : Int) (h : ofF k (evE ns vs l[0]) = .error e) => ofF_ne (fun e he => ev_ne ns vs _ he) h
 have h62 := fun k H => ok62 (H := H) ih0 k
 have sm0 := fun n => hsm 0 n
 unfold appF at hr
 rw [w0] at hr b0 sm0
 generalize evE ns vs l[0] = x0 at hr b0 hne0 h62 sm0
 have ih1 := ih _ (List.getElem_mem hl1)
 have w1 := wAt_ev ns vs hl1
 have g1 := hgl 1 hl1
 have b1 := fun a => bool_of (ns := ns) (vs := vs) (l := l) (i := 1) (a := a)
 simp only [Nat.one_mul] at g1
 have hl1' : (1 : Int) < l.length := by omega
 have hne1 := fun (k e : Int) (h : ofF k (evE ns vs l[1]) = .error e) => ofF_ne (fun e he => ev_ne ns vs _ he) h
 have h62' := fun k H => ok62 (H := H) ih1 k
 have sm1 := fun n => hsm 1 n
 rw [w1] at hr b1 sm1
 generalize evE ns vs l[1] = x1 at hr b1 hne1 h62' sm1
 rw [if_neg h03, if_neg h4, if_neg h16, if_neg h17, if_neg h20] at hr
 have hne0 := hne0 1
 have h62 := h62 1
 have hne1 := hne1 1
 have h62' := h62' 1
 have s0 : ∀ a, ofF 1 x0 = .ok a -> Sm a := fun a h => of_sm sm0 h
 have s1 : ∀ a, ofF 1 x1 = .ok a -> Sm a := fun a h => of_sm sm1 h
 generalize ofF 1 x0 = x at hr hne0 h62 s0
 generalize ofF 1 x1 = y at hr hne1 h62' s1
 simp -implicitDefEqProofs [t29_at, r29, Ex.v, Ex.c]
 refine callq_go (fun _ => ok38 _) ?_
 simp -implicitDefEqProofs [h3, h1, h2, h03, h4, h16, h17, h20, hl0, hl0', hcl', g0]
 refine ⟨by omega, call_go (h62 _) ?_⟩
 cases x with
 | error e =>
  subst hr
  have he := hne0 e rfl
  simp -implicitDefEqProofs [wantV, retV, he]
  exact cv_fz 6 hcl rfl rfl
 | ok a =>
  simp -implicitDefEqProofs [wantV, h03, hl1, hl1', hcl', g1]
  refine ⟨by omega, call_go (h62' _) ?_⟩
  cases y with
  | error e =>
   subst hr
   have he := hne1 e rfl
   simp -implicitDefEqProofs [wantV, retV, he]
   exact cv_fz 6 hcl rfl rfl
  | ok b =>
   have ha := s0 a rfl
   have hb := s1 b rfl
   have ha' := ha
   have hb' := hb
   unfold Sm at ha' hb'
   simp only at hr
   have hr : binG op a b = r := hr
   subst hr
   simp -implicitDefEqProofs [wantV]
   exact t29_ok hcl (by simp) (by simp) (by simp) (by simp) ha hb hop
theorem ok29_neg (hcl : closed H) {op k p : Int} {nm : List UInt8} {l : List Ex} (h3 : opN op = (l.length : Int)) (he : op = 3) (ih : ∀ e ∈ l, ∀ H, Ok Tryz.prog 29 [e.v, .slc (wds ns) ns.length, .slc (ints vs) vs.length] H (retV (evE ns vs e)) H) :
 X Tryz.prog Tryz.f29.ntmps drawB i29 (argsEnv [(Ex.mk op k nm l p).v, .slc (wds ns) ns.length, .slc (ints vs) vs.length]) H (Ab.Fin H.length r29 (retV (appF op (evL ns vs l))) H) := by
 have wr1 : IntKind.i64.wrap 1 = 1 := rfl
 have wr2 : IntKind.i64.wrap 2 = 2 := rfl
 have hsm := evL_sm ns vs l
 have hgl := fun i (h : i < l.length) => exL_get h
 have hcl' := exL_len l
 generalize hr : appF op (evL ns vs l) = r
 subst he
 have hl3 : l.length = 1 := by simp [opN] at h3; omega
 rw [hl3] at h3
 have hl0 : 0 < l.length := by first | omega | (simp [opN] at h3; omega)
 have ih0 := ih _ (List.getElem_mem hl0)
 have w0 := wAt_ev ns vs hl0
 have g0 := hgl 0 hl0
 have b0 := fun a => bool_of (ns := ns) (vs := vs) (l := l) (i := 0) (a := a)
 simp only [Nat.zero_mul, List.drop_zero] at g0
 have hl0' : (0 : Int) < l.length := by omega
 have hne0 := fun (k e : Int) (h : ofF k (evE ns vs l[0]) = .error e) => ofF_ne (fun e he => ev_ne ns vs _ he) h
 have h62 := fun k H => ok62 (H := H) ih0 k
 have sm0 := fun n => hsm 0 n
 unfold appF at hr
 rw [w0] at hr b0 sm0
 generalize evE ns vs l[0] = x0 at hr b0 hne0 h62 sm0
 rw [if_pos rfl] at hr
 have hne0 := hne0 1
 have h62 := h62 1
 have s0 : ∀ a, ofF 1 x0 = .ok a -> Sm a := fun a h => of_sm sm0 h
 generalize ofF 1 x0 = x at hr hne0 h62 s0
 simp -implicitDefEqProofs [t29_at, r29, Ex.v, Ex.c]
 refine callq_go (fun _ => ok38 _) ?_
 simp -implicitDefEqProofs [h3, hl3, hcl', g0]
 refine call_go (h62 _) ?_
 cases x with
 | error e =>
  subst hr
  have he := hne0 e rfl
  simp -implicitDefEqProofs [wantV, retV, he]
  exact cv_fz 6 hcl rfl rfl
 | ok a =>
  have ha := s0 a rfl
  unfold Sm at ha
  have hw : IntKind.i64.wrap (-a) = -a := wrap_id (by omega) (by omega)
  have h61 := fun H => ok61 (H := H) (-a)
  simp only at hr
  rw [hr] at h61
  simp -implicitDefEqProofs [wantV, hw]
  refine call_go (h61 _) ?_
  cases r with
  | error e =>
   simp -implicitDefEqProofs [retV]
   exact cv_fz 6 hcl rfl rfl
  | ok v =>
   simp -implicitDefEqProofs [retV]
   exact cv_fz 6 hcl rfl rfl
mutual
theorem ok29 (hnv : ns.length = vs.length) (hnl : ns.length < 4611686018427387904) : ∀ (e : Ex) (H : List AO), Ok Tryz.prog 29 [e.v, .slc (wds ns) ns.length, .slc (ints vs) vs.length] H (retV (evE ns vs e)) H
 | .mk op k nm l p, H => by
  have ih := ok29L hnv hnl l
  refine ok_fn hm Tryz.func29 c29 (by simp [Ex.und_v, SV.under, SV.underL_iff, wds, ints]) fun hcl => ?_
  generalize hr : evE ns vs (.mk op k nm l p) = r
  rw [evE] at hr
  by_cases h3 : opN op = (l.length : Int)
  · rw [if_neg (by simp [h3])] at hr
    by_cases h1 : op = 1
    · rw [if_pos h1] at hr
      subst h1
      have h61 := fun H => ok61 (H := H) k
      rw [hr] at h61
      simp -implicitDefEqProofs [t29_at, r29, Ex.v, Ex.c]
      refine callq_go (fun _ => ok38 _) ?_
      simp -implicitDefEqProofs [h3]
      refine call_go (h61 _) ?_
      cases r with
      | error e =>
       simp -implicitDefEqProofs [retV]
       exact cv_fz 6 hcl rfl rfl
      | ok v =>
       simp -implicitDefEqProofs [retV]
       exact cv_fz 6 hcl rfl rfl
    rw [if_neg h1] at hr
    by_cases h2 : op = 2
    · rw [if_pos h2] at hr
      subst h2
      simp -implicitDefEqProofs [t29_at, r29, Ex.v, Ex.c]
      refine callq_go (fun _ => ok38 _) ?_
      simp -implicitDefEqProofs [h3]
      refine loop29 hnv hnl (nm := nm) (fun v hv env G h6 h7 => ?_) (fun hv env h6 => ?_) ns.length 0 _ (by omega) rfl ?_ ?_ ?_ ?_ ?_
      · rw [hv] at hr
        simp only at hr
        rw [hr] at h7
        cases r with
        | error e =>
         obtain ⟨h7, rfl⟩ := h7
         simp -implicitDefEqProofs [h6, h7, retV]
         exact cv_fz 6 hcl rfl rfl
        | ok v =>
         obtain ⟨h7, rfl⟩ := h7
         simp -implicitDefEqProofs [h6, h7, retV]
         exact cv_fz 6 hcl rfl rfl
      · rw [hv] at hr
        simp only at hr
        subst hr
        simp -implicitDefEqProofs [h6, retV]
        exact cv_fz 6 hcl rfl rfl
      all_goals simp
    rw [if_neg h2] at hr
    have hop : 3 ≤ op ∧ op ≤ 20 := by
     unfold opN at h3
     rw [if_neg (by omega)] at h3
     by_cases h34 : op = 3 ∨ op = 4
     · omega
     · rw [if_neg h34] at h3
       by_cases h20 : op = 20
       · omega
       · rw [if_neg h20] at h3
         by_cases hb : 4 < op ∧ op < 20
         · omega
         · rw [if_neg hb] at h3; omega
    subst hr
    by_cases h20 : op = 20
    · exact ok29_if hcl h3 h20 ih
    by_cases h4 : op = 4
    · exact ok29_not hcl h3 h4 ih
    by_cases h16 : op = 16
    · exact ok29_and hcl h3 h16 ih
    by_cases h17 : op = 17
    · exact ok29_or hcl h3 h17 ih
    by_cases h03 : op = 3
    · exact ok29_neg hcl h3 h03 ih
    exact ok29_bin hcl h3 (by unfold isBin; omega) ih
  · rw [if_pos (by simp [h3])] at hr
    subst hr
    simp -implicitDefEqProofs [t29_at, r29, Ex.v, Ex.c]
    refine callq_go (fun _ => ok38 _) ?_
    simp -implicitDefEqProofs [h3, retV]
    exact cv_fz 6 hcl rfl rfl
theorem ok29L (hnv : ns.length = vs.length) (hnl : ns.length < 4611686018427387904) : ∀ (l : List Ex), ∀ e ∈ l, ∀ H, Ok Tryz.prog 29 [e.v, .slc (wds ns) ns.length, .slc (ints vs) vs.length] H (retV (evE ns vs e)) H
 | [], e, he, _ => by simp at he
 | x :: r, e, he, H => by
  by_cases h : e = x
  · rw [h]; exact ok29 hnv hnl x H
  · exact ok29L hnv hnl r e (by simpa [h] using he) H
end
end
end Go.Proofs.YtcejichidnlicaaGreatDoor
namespace Go.Proofs.YtcejichidnlicaaGreatDoor
open Go.Ab
section
variable {H : List AO}
theorem ok10 {ns : List (List UInt8)} {vs : List Int} {e : Ex} (hnl : ns.length < 4611686018427387904) : Ok Tryz.prog 10 [e.v, .slc (wds ns) ns.length, .slc (ints vs) vs.length] H (retV (evalF ns vs e)) H := by
 refine ok_fn hm Tryz.func10 c10 (by simp [Ex.und_v, SV.under, SV.underL_iff, wds, ints]) fun hcl => ?_
 unfold evalF
 by_cases hnv : ns.length = vs.length
 · have hnv' : (ns.length : Int) = vs.length := by omega
   rw [if_neg (by simp [hnv])]
   have h29 := fun H => ok29 hnv hnl e H
   simp -implicitDefEqProofs [i10, r10, Ex.v, hnv']
   refine call_go (h29 _) ?_
   generalize evE ns vs e = r
   cases r with
   | error e =>
    simp -implicitDefEqProofs [retV]
    exact cv_fz 6 hcl rfl rfl
   | ok v =>
    simp -implicitDefEqProofs [retV]
    exact cv_fz 6 hcl rfl rfl
 · have hnv' : ¬ (ns.length : Int) = vs.length := by omega
   rw [if_pos hnv]
   simp -implicitDefEqProofs [i10, r10, Ex.v, hnv', retV]
   exact cv_fz 6 hcl rfl rfl
theorem ok12 {ns : List (List UInt8)} {vs : List Int} {e : Ex} (hnl : ns.length < 4611686018427387904) : Ok Tryz.prog 12 [e.v, .slc (wds ns) ns.length, .slc (ints vs) vs.length] H (.ret (.tup [i64 (asF 1 (evalF ns vs e)).1, i64 (asF 1 (evalF ns vs e)).2])) H := by
 refine ok_fn hm Tryz.func12 c12 (by simp [Ex.und_v, SV.under, SV.underL_iff, wds, ints]) fun hcl => ?_
 have h9 := fun H => ok10 (H := H) (vs := vs) (e := e) hnl
 have hne := fun x => eval_ne (ns := ns) (vs := vs) (x := e) (e := x)
 simp -implicitDefEqProofs [i12, r12, Ex.v]
 refine call_go (h9 _) ?_
 generalize evalF ns vs e = r at hne
 cases r with
 | error x =>
  have hx := hne x rfl
  simp -implicitDefEqProofs [retV, asF, hx]
  exact cv_fz 6 hcl rfl rfl
 | ok v =>
  by_cases hk : v.1 = 1
  · simp -implicitDefEqProofs [retV, asF, hk]
    exact cv_fz 6 hcl rfl rfl
  · simp -implicitDefEqProofs [retV, asF, hk]
    exact cv_fz 6 hcl rfl rfl
theorem ok14 {ns : List (List UInt8)} {vs : List Int} {e : Ex} (hnl : ns.length < 4611686018427387904) : Ok Tryz.prog 14 [e.v, .slc (wds ns) ns.length, .slc (ints vs) vs.length] H (.ret (.tup [bl (decide ((asF 2 (evalF ns vs e)).1 = 1)), i64 (asF 2 (evalF ns vs e)).2])) H := by
 refine ok_fn hm Tryz.func14 c14 (by simp [Ex.und_v, SV.under, SV.underL_iff, wds, ints]) fun hcl => ?_
 have h9 := fun H => ok10 (H := H) (vs := vs) (e := e) hnl
 have hne := fun x => eval_ne (ns := ns) (vs := vs) (x := e) (e := x)
 simp -implicitDefEqProofs [i14, r14, Ex.v]
 refine call_go (h9 _) ?_
 generalize evalF ns vs e = r at hne
 cases r with
 | error x =>
  have hx := hne x rfl
  simp -implicitDefEqProofs [retV, asF, hx]
  exact cv_fz 6 hcl rfl rfl
 | ok v =>
  by_cases hk : v.1 = 2
  · simp -implicitDefEqProofs [retV, asF, hk]
    exact cv_fz 6 hcl rfl rfl
  · simp -implicitDefEqProofs [retV, asF, hk]
    exact cv_fz 6 hcl rfl rfl
end
end Go.Proofs.YtcejichidnlicaaGreatDoor
namespace Go.Proofs.YtcejichidnlicaaGreatDoor
open Go.Ab
theorem tyE_kind (vs : List (List UInt8)) (e : Ex) (h : (tyE vs e).2.1 ≠ 0) : (tyE vs e).1 = 0 := by
 have hc : ∀ (own : Int) (ts ks : List Int) (l : List Ex), (chkT own ts ks l).2.1 ≠ 0 -> (chkT own ts ks l).1 = 0 := by
  intro own ts
  induction ts with
  | nil => intro ks l h; simp [chkT] at h
  | cons t ts ih =>
   intro ks l h
   cases ks with
   | nil => simp [chkT] at h
   | cons k ks =>
    cases l with
    | nil => simp [chkT] at h
    | cons e l =>
     rw [chkT] at h ⊢
     split
     · rfl
     · rename_i h2; rw [if_neg h2] at h; exact ih ks l h
 cases e with
 | mk op k nm l p =>
  rw [tyE] at h ⊢
  cases ho : opOf op with
  | none =>
   simp only [ho] at h ⊢
   by_cases h1 : op = 1 ∨ op = 2
   · rw [if_pos h1] at h ⊢
     by_cases h2 : l.length ≠ 0
     · rw [if_pos h2]
     · rw [if_neg h2] at h ⊢
       by_cases h3 : op = 2 ∧ nm ∉ vs
       · rw [if_pos h3]
       · rw [if_neg h3] at h; exact absurd rfl h
   · rw [if_neg h1]
  | some o =>
   simp only [ho] at h ⊢
   by_cases hl : l.length ≠ o.1.length
   · rw [if_pos hl]
   · rw [if_neg hl] at h ⊢
     cases hk : tyL vs l with
     | error f => rfl
     | ok ks => rw [hk] at h; exact hc _ _ _ _ h
theorem tyL_err {vs : List (List UInt8)} : ∀ {l : List Ex} {f : Int × Int}, tyL vs l = .error f -> f.1 ≠ 0
 | [], f, h => by simp [tyL] at h
 | e :: r, f, h => by
  rw [tyL] at h
  split at h
  · rename_i he; cases h; exact he
  · split at h
    · rename_i hr; cases h; exact tyL_err hr
    · cases h
theorem tyE_ok (vs : List (List UInt8)) (e : Ex) (h : (tyE vs e).2.1 = 0) : (tyE vs e).2.2 = 0 := by
 have hc : ∀ (own : Int) (ts ks : List Int) (l : List Ex), (chkT own ts ks l).2.1 = 0 -> (chkT own ts ks l).2.2 = 0 := by
  intro own ts
  induction ts with
  | nil => intro ks l h; simp [chkT]
  | cons t ts ih =>
   intro ks l h
   cases ks with
   | nil => simp [chkT]
   | cons k ks =>
    cases l with
    | nil => simp [chkT]
    | cons e l =>
     rw [chkT] at h ⊢
     split
     · rename_i h2; rw [if_pos h2] at h; exact absurd h (show ¬ (10 : Int) = 0 by decide)
     · rename_i h2; rw [if_neg h2] at h; exact ih ks l h
 cases e with
 | mk op k nm l p =>
  rw [tyE] at h ⊢
  cases ho : opOf op with
  | none =>
   simp only [ho] at h ⊢
   by_cases h1 : op = 1 ∨ op = 2
   · rw [if_pos h1] at h ⊢
     by_cases h2 : l.length ≠ 0
     · rw [if_pos h2] at h; exact absurd h (show ¬ (3 : Int) = 0 by decide)
     · rw [if_neg h2] at h ⊢
       by_cases h3 : op = 2 ∧ nm ∉ vs
       · rw [if_pos h3] at h; exact absurd h (show ¬ (7 : Int) = 0 by decide)
       · rw [if_neg h3]
   · rw [if_neg h1] at h; exact absurd h (show ¬ (3 : Int) = 0 by decide)
  | some o =>
   simp only [ho] at h ⊢
   by_cases hl : l.length ≠ o.1.length
   · rw [if_pos hl] at h; exact absurd h (show ¬ (3 : Int) = 0 by decide)
   · rw [if_neg hl] at h ⊢
     cases hk : tyL vs l with
     | error f => rw [hk] at h; exact absurd h (tyL_err hk)
     | ok ks => rw [hk] at h; exact hc _ _ _ _ h
section
variable {H : List AO} {vs : List (List UInt8)} {rest : List SV} {j : Nat} {T : TypeId}
theorem ok77x {x : SV} (hx : IsS H x vs) {e : Ex} (hh : e.hgt ≤ 100000) (hl : vs.length < 4611686018427387904) : Ok Tryz.prog 77 [x, e.v] H (.ret (.tup [i64 (tyE vs e).1, fltV (tyE vs e).2.1 (tyE vs e).2.2])) H := by
 refine ok_fn hm Tryz.func77 c77 (by simp) fun hcl => ?_
 simp -implicitDefEqProofs [i77, r77, Ex.v]
 refine call_go (ok97x (hx.app _) hl) ?_
 simp -implicitDefEqProofs [typV, varsM, opsM]
 refine call_go (ok98 (vs := vs) (rest := []) (T := 114) e 0 (by omega) (by simp [tyO, varsM, opsM])) ?_
 have hkd := tyE_kind vs e
 have tyE_ok' := tyE_ok vs e
 generalize tyE vs e = x at hkd tyE_ok' ⊢
 by_cases he : x.2.1 = 0
 · have hev : errV x.2.1 x.2.2 = .val .nilIface := by rw [he]; rfl
   rw [hev]
   have hp := tyE_ok' he
   simp -implicitDefEqProofs
   refine cv_fz 4 hcl rfl ?_
   simp [fltV, he, hp]
 · have hev := errV_of he x.2.2
   rw [hkd he]
   simp -implicitDefEqProofs [hev]
   refine call_go (by rw [← hev]; exact ok99 he x.2.2) ?_
   simp -implicitDefEqProofs [fltV]
   refine cv_fz 4 hcl rfl ?_
   simp
end
end Go.Proofs.YtcejichidnlicaaGreatDoor
namespace Go.Proofs.YtcejichidnlicaaGreatDoor
open Go.Ab
end Go.Proofs.YtcejichidnlicaaGreatDoor
namespace Go.Proofs.YtcejichidnlicaaGreatDoor
open Go.Ab
def exS (l : List Ex) : SV := .slc (Ex.cL l) l.length
mutual
def sizE : Ex -> Int -> Int
 | .mk _ _ _ l _, m => sizL l m 1
def sizL : List Ex -> Int -> Int -> Int
 | [], _, n => n
 | e :: r, m, n => if n ≤ m then sizL r m (n + sizE e (m - n)) else n
end
mutual
theorem sizE_bd : ∀ (e : Ex) (m : Int), 1 ≤ sizE e m ∧ (sizE e m ≤ m + 1 ∨ sizE e m = 1)
 | .mk _ _ _ l _, m => by
  unfold sizE
  have := sizL_bd l m 1
  omega
theorem sizL_bd : ∀ (l : List Ex) (m n : Int), n ≤ sizL l m n ∧ (sizL l m n ≤ m + 1 ∨ sizL l m n = n)
 | [], m, n => by simp [sizL]
 | e :: r, m, n => by
  unfold sizL
  by_cases h : n ≤ m
  · rw [if_pos h]
    have h1 := sizE_bd e (m - n)
    have h2 := sizL_bd r m (n + sizE e (m - n))
    omega
  · rw [if_neg h]; omega
end
section
variable {H : List AO}
theorem loop7 {l : List Ex} {m : Int} (hm1 : m ≤ 1000000000) (hl : l.length < 4611686018427387904) (hIH : ∀ e ∈ l, ∀ (H : List AO) (m' : Int), 0 ≤ m' -> m' ≤ 1000000000 -> Ok Tryz.prog 7 [e.v, i64 m'] H (.ret (i64 (sizE e m'))) H) {A : AO} (hA : A.live = true ∧ A.ver = 0 ∧ ∃ a b c d, A.cells = [a, b, c, exS l, d]) {N : Nat} {K : XE -> Env -> List AO -> Prop} {res : Int}
 (hexit : ∀ env G, env.get 5 = i64 res -> K (.exit 0) env (H ++ A :: G)) :
 ∀ (k i : Nat) (n : Int) (G : List AO) (env : Env), i + k = l.length -> 1 ≤ n -> n ≤ 1000000001 -> sizL (l.drop i) m n = res -> env.get 1 = i64 m -> env.get 2 = rp H.length -> env.get 5 = i64 n -> env.get 6 = i64 i →
  LI Tryz.prog N drawB l7_0 env (H ++ A :: G) K := by
 obtain ⟨hA1, hA2, a, b, c, d, hA3⟩ := hA
 obtain ⟨cs, T, ver, lv⟩ := A
 simp only at hA1 hA2 hA3
 subst hA1 hA2 hA3
 intro k
 induction k with
 | zero =>
  intro i n G env hi hn1 hn2 hr h1 h2 h5 h6
  refine li_go hm l7_0.eq_1 ?_
  have e : i = l.length := by omega
  subst e
  rw [List.drop_length] at hr
  have hr : n = res := hr
  subst hr
  simp -implicitDefEqProofs [h1, h2, h5, h6, rp, exS]
  exact hexit _ _ (by simp [h5])
 | succ k ih =>
  intro i n G env hi hn1 hn2 hr h1 h2 h5 h6
  refine li_go hm l7_0.eq_1 ?_
  have hlt : i < l.length := by omega
  have hlt' : (i : Int) < l.length := by omega
  rw [List.drop_eq_getElem_cons hlt, sizL] at hr
  have hg := exL_get hlt
  have hlen := exL_len l
  have h9 := hIH l[i] (List.getElem_mem hlt)
  have hbd := sizE_bd l[i]
  generalize l[i] = e at hr hg h9 hbd
  by_cases hnm : n ≤ m
  · rw [if_pos hnm] at hr
    have w1 : IntKind.i64.wrap (m - n) = m - n := wrap_id (by omega) (by omega)
    have hb := hbd (m - n)
    simp -implicitDefEqProofs [h1, h2, h5, h6, rp, exS, hlt, hlt', hnm, hg, hlen, w1]
    refine ⟨by omega, call_go (h9 _ (m - n) (by omega) (by omega)) ?_⟩
    generalize sizE e (m - n) = z at hr hb
    have w2 : IntKind.i64.wrap (n + z) = n + z := wrap_id (by omega) (by omega)
    simp -implicitDefEqProofs [h1, h2, h5, h6, rp, exS, w2]
    refine ih (i + 1) (n + z) G _ (by omega) (by omega) (by omega) hr ?_ ?_ ?_ ?_
    all_goals simp [h1, h2, h5, h6, rp, exS, wrap_suc (show i < 9223372036854775807 by omega)]
  · rw [if_neg hnm] at hr
    subst hr
    simp -implicitDefEqProofs [h1, h2, h5, h6, rp, exS, hlt, hlt', hnm]
    exact hexit _ _ (by simp [h5])
mutual
def Ex.lim : Ex -> Prop
 | .mk _ _ _ l _ => l.length < 4611686018427387904 ∧ Ex.limL l
def Ex.limL : List Ex -> Prop
 | [] => True
 | e :: r => e.lim ∧ Ex.limL r
end
mutual
theorem ok7 : ∀ (e : Ex), e.lim -> ∀ (H : List AO) (m : Int), 0 ≤ m -> m ≤ 1000000000 -> Ok Tryz.prog 7 [e.v, i64 m] H (.ret (i64 (sizE e m))) H
 | .mk op n nm l p, he, H, m, h0, h1 => by
  have hIH := ok9L l (by unfold Ex.lim at he; exact he.2)
  have hl : l.length < 4611686018427387904 := by unfold Ex.lim at he; exact he.1
  refine ok_fn hm Tryz.func7 c7 (by simp) fun hcl => ?_
  simp -implicitDefEqProofs [i7, r7, Ex.v, Ex.c]
  refine LI.cong (H' := H ++ ⟨[i64 op, i64 n, st (B nm), exS l, i64 p], 24, 0, true⟩ :: []) (by simp [exS]) ?_
  refine loop7 h1 hl hIH ⟨rfl, rfl, _, _, _, _, rfl⟩ (res := sizL l m 1) (fun env G h5 => ?_) l.length 0 1 [] _ (by omega) (by omega) (by omega) rfl ?_ ?_ ?_ ?_
  · simp -implicitDefEqProofs [h5]
    refine cv_fz 2 hcl rfl ?_
    simp [sizE]
  all_goals simp [rp]
theorem ok9L : ∀ (l : List Ex), Ex.limL l -> ∀ e ∈ l, ∀ (H : List AO) (m : Int), 0 ≤ m -> m ≤ 1000000000 -> Ok Tryz.prog 7 [e.v, i64 m] H (.ret (i64 (sizE e m))) H
 | [], _, _, h => by cases h
 | e :: r, hl, x, hx => by
  unfold Ex.limL at hl
  by_cases hh : x = e
  · rw [hh]; exact ok7 e hl.1
  · exact ok9L r hl.2 x (by simpa [hh] using hx)
end
end
end Go.Proofs.YtcejichidnlicaaGreatDoor
namespace Go.Proofs.YtcejichidnlicaaGreatDoor
open Go.Ab
def xyN : List (List UInt8) := [[120], [121]]
def xyV : List Int := [5, -2]
section
variable {H : List AO} {l : List UInt8}
theorem ok16 (hl : l.length < 4611686018427387904) : Ok Tryz.prog 16 [st (B l)] H (.ret (exprR l).1.v) H := by
 have h := fun H => ok31 (H := H) hl
 generalize exprR l = q at h ⊢
 obtain ⟨⟨op, n, nm, es, p⟩, e, at_⟩ := q
 simp only [Ex.v, Ex.c] at h
 refine ok_fn hm Tryz.func16 c16 (by simp) fun hcl => ?_
 simp -implicitDefEqProofs [i16, r16, Ex.v, Ex.c]
 refine call_go (h _) ?_
 simp -implicitDefEqProofs [fltV]
 refine cv_fz 4 hcl rfl ?_
 simp
theorem give2 {f : FuncId} {x : SV} (ss ts : List SV) {T1 T2 : TypeId} {out : Out} (hx : x.under H.length = true) (h : ∀ G, Ok Tryz.prog f [x, .slc ss ss.length, .slc ts ts.length] G out G) :
 Ok Tryz.prog f [x, .own H.length 0 ss.length 1 0, .own (H.length + 1) 0 ts.length 1 0] (H ++ [⟨ss, T1, 0, true⟩, ⟨ts, T2, 0, true⟩]) out (H ++ [AO.dead ⟨ss, T1, 0, true⟩, AO.dead ⟨ts, T2, 0, true⟩]) := by
 refine Ok.give H.length 1 (o := ⟨ss, T1, 0, true⟩) (by simp) rfl ?_
 have a1 : Ab.setObj (H ++ [⟨ss, T1, 0, true⟩, ⟨ts, T2, 0, true⟩]) H.length AO.dead = H ++ [AO.dead ⟨ss, T1, 0, true⟩, ⟨ts, T2, 0, true⟩] := by
  rw [setObj_some (o := ⟨ss, T1, 0, true⟩) (by simp)]; simp
 rw [a1]
 refine Ok.give (H.length + 1) 1 (o := ⟨ts, T2, 0, true⟩) (by simp) rfl ?_
 have e1 : Ab.setObj (H ++ [AO.dead ⟨ss, T1, 0, true⟩, ⟨ts, T2, 0, true⟩]) (H.length + 1) AO.dead = H ++ [AO.dead ⟨ss, T1, 0, true⟩, AO.dead ⟨ts, T2, 0, true⟩] := by
  rw [setObj_some (o := ⟨ts, T2, 0, true⟩) (by simp)]; simp
 rw [e1]
 have hx2 : x.under (H.length + 1) = true := SV.under_mono (by omega) _ hx
 have g1 : SV.gv H.length 0 ss 1 x = x := gv_under (Nat.le_refl _) 1 x hx
 have g2 : SV.gv (H.length + 1) 0 ts 1 x = x := gv_under (Nat.le_refl _) 1 x hx2
 simp only [List.map_cons, List.map_nil, g1, g2, gv_own, gv_slc]
 simpa using h _
theorem ok15v (hl : l.length < 4611686018427387904) (hh : decide ((exprR l).1.hgt ≤ 100000) = true) {k n : Int} (hr : evalF xyN xyV (exprR l).1 = .ok (k, n)) : Ok Tryz.prog 15 [st (B l), i64 k, i64 n, i64 0] H (.ret (bl true)) H := by
 have h16 := fun H => ok16 (H := H) hl
 have h9 := fun H => ok9 (H := H) (ns := xyN) (vs := xyV) (of_decide_eq_true hh) (by decide)
 rw [hr] at h9
 have hv : ∀ n, (exprR l).1.v.under n = true := fun n => Ex.und_v n _
 generalize (exprR l).1.v = x at h16 h9 hv
 refine ok_fn hm Tryz.func15 c15 (by simp) fun hcl => ?_
 simp -implicitDefEqProofs [i15, r15]
 refine call_go (h16 _) ?_
 simp -implicitDefEqProofs
 refine call_go (give2 (H := H) (wds xyN) (ints xyV) (hv _) h9) ?_
 simp -implicitDefEqProofs [retV]
 refine cv_fz 4 hcl rfl ?_
 simp
end
end Go.Proofs.YtcejichidnlicaaGreatDoor
namespace Go.Proofs.YtcejichidnlicaaGreatDoor
open Go.Ab
structure Fo where
 e : Ex
 cl : Bool
 v : Int × Int
 er : Int
def Fo.c (f : Fo) : List SV := f.e.c ++ [bl f.cl, i64 f.v.1, i64 f.v.2, i64 f.er]
@[simp] theorem Fo.c_len (f : Fo) : f.c.length = 9 := by simp [Fo.c]
def vrF (f : Fo) : Vr := if f.er ≠ 0 then .error f.er else .ok f.v
def setR (e : Ex) (r : Vr) : Fo := match r with
 | .ok v => ⟨e, true, v, 0⟩
 | .error x => ⟨e, true, (0, 0), x⟩
def litE (n p : Int) : Ex := if n < 0 then .mk 3 0 [] [.mk 1 (-n) [] [] p] p else .mk 1 n [] [] p
section
variable {H : List AO}
theorem ok36 {n p : Int} (hn : -1000000000 ≤ n ∧ n ≤ 1000000000) : Ok Tryz.prog 36 [i64 n, i64 p] H (.ret (litE n p).v) H := by
 refine ok_fn hm Tryz.func36 c36 (by simp) fun hcl => ?_
 have hw : IntKind.i64.wrap (-n) = -n := wrap_id (by omega) (by omega)
 unfold litE
 by_cases h : n < 0
 · rw [if_pos h]
   simp -implicitDefEqProofs [i36, r36, h, hw, Ex.v, Ex.c, Ex.cL]
   refine ⟨rfl, ?_⟩
   refine Cv.le (cv_fz (r1 := .agg [i64 3, i64 0, st (B []), .own (H.length + 1) 0 1 5 0, i64 p]) (L := [⟨[i64 3, i64 0, st (B []), .own (H.length + 1) 0 1 5 0, i64 p], 24, 0, true⟩, ⟨[i64 1, i64 (-n), st (B []), .val (.slice none 0 0), i64 p], 24, 0, true⟩]) (r := .agg [i64 3, i64 0, st (B []), .slc [i64 1, i64 (-n), st (B []), .val (.slice none 0 0), i64 p] 1, i64 p]) 3 hcl rfl (by simp)) ?_
   exact le_agg (leL.cons (SV.le.refl _) (leL.cons (SV.le.refl _) (leL.cons (SV.le.refl _) (leL.cons (le_slc (leL.cons (SV.le.refl _) (leL.cons (SV.le.refl _) (leL.cons (SV.le.refl _) (leL.cons le_nil (leL.cons (SV.le.refl _) leL.nil))))) 1) (leL.cons (SV.le.refl _) leL.nil)))))
 · rw [if_neg h]
   simp -implicitDefEqProofs [i36, r36, h, Ex.v, Ex.c, Ex.cL]
   refine ⟨rfl, ?_⟩
   refine Cv.le (cv_fz (r1 := .agg [i64 1, i64 n, st ⟨#[]⟩, .val (.slice none 0 0), i64 p]) (r := .agg [i64 1, i64 n, st ⟨#[]⟩, .val (.slice none 0 0), i64 p]) 3 hcl rfl (by simp)) ?_
   exact leaf_le 1 n [] p
theorem ok102 {j : Nat} {op n : Int} {nm : List UInt8} {l : List Ex} {p : Int} (hj : H[j]? = some ⟨(Ex.mk op n nm l p).c, 24, 0, true⟩) : Ok Tryz.prog 102 [rp j] H (outV (numF n)) H := by
 have hjl := getElem?_lt hj
 have e1 := fun L => oc_app hj rfl rfl L
 simp only [Ex.c] at e1
 have h58 := fun H => ok58 (H := H) n
 refine ok_fn hm Tryz.func102 c102 (by simp [rp, hjl]) fun hcl => ?_
 simp -implicitDefEqProofs [i102, r102, rp, e1]
 refine call_go (h58 _) ?_
 generalize numF n = y
 cases y with
 | error e =>
  simp -implicitDefEqProofs [outV]
  exact cv_fz 6 hcl rfl rfl
 | ok v =>
  simp -implicitDefEqProofs [outV]
  exact cv_fz 6 hcl rfl rfl
theorem foV_v {ps : List Fo} {i : Nat} (hi : i < ps.length) : List.take 2 (List.drop (i * 9 + 6) (rws Fo.c ps)) = [i64 ps[i].v.1, i64 ps[i].v.2] := by
 rw [← List.drop_drop, rws_at Fo.c_len hi]
 have : ps[i].c = ps[i].e.c ++ [bl ps[i].cl, i64 ps[i].v.1, i64 ps[i].v.2, i64 ps[i].er] := rfl
 rw [this, List.append_assoc, List.drop_append]
 have h2 : List.drop 6 ps[i].e.c = [] := List.drop_of_length_le (by simp)
 simp [h2]
theorem foV_er {ps : List Fo} {i : Nat} (hi : i < ps.length) : (rws Fo.c ps)[i * 9 + 8]? = some (i64 ps[i].er) := by
 rw [rws_get Fo.c_len hi (by omega)]
 simp [Fo.c]
theorem ok104 {r q v : Nat} {ps : List Fo} (hr : H[r]? = some ⟨rws Fo.c ps, 98, v, true⟩) (hq : H[q]? = some ⟨[.own r 0 ps.length 9 v], 123, 0, true⟩) {i : Nat} (hi : i < ps.length) : Ok Tryz.prog 104 [i64 i, rp q] H (outV (vrF ps[i])) H := by
 have hrl := getElem?_lt hr
 have hql := getElem?_lt hq
 have e1 := fun L => oc_app hq rfl rfl L
 have e2 : ∀ L, objCells (H ++ L) r v = rws Fo.c ps := fun L => objCells_of (o := ⟨rws Fo.c ps, 98, v, true⟩) (by rw [List.getElem?_append_left hrl]; exact hr) rfl
 have e3 := foV_v hi
 have e4 := foV_er hi
 have e5 := rws_len Fo.c_len ps
 have hi' : (i : Int) < ps.length := by omega
 refine ok_fn hm Tryz.func104 c104 (by simp [rp, hql]) fun hcl => ?_
 simp -implicitDefEqProofs [i104, r104, rp, e1, e2, e3, e4, e5, hi, hi']
 refine ⟨by omega, ?_⟩
 unfold vrF
 by_cases he : ps[i].er = 0
 · rw [if_pos he]
   simp -implicitDefEqProofs [outV, he]
   exact ⟨by omega, cv_fz 6 hcl rfl rfl⟩
 · rw [if_neg he]
   simp -implicitDefEqProofs [outV, he]
   exact ⟨by omega, cv_fz 6 hcl rfl rfl⟩
theorem ok103 {op n : Int} {nm : List UInt8} {l : List Ex} {p : Int} {ns : List (List UInt8)} {vs : List Int} {j k r q v : Nat} {ps : List Fo} (hj : H[j]? = some ⟨[macV ns vs], 52, 0, true⟩) (hk : H[k]? = some ⟨(Ex.mk op n nm l p).c, 24, 0, true⟩)
 (hr : H[r]? = some ⟨rws Fo.c ps, 98, v, true⟩) (hq : H[q]? = some ⟨[.own r 0 ps.length 9 v], 123, 0, true⟩) (hop : 3 ≤ op ∧ op ≤ 20) (hw : (ps.length : Int) = opN op) (hsm : ∀ i n, wAt (ps.map vrF) i = .ok (1, n) -> Sm n) :
 Ok Tryz.prog 103 [rp j, rp k, rp q] H (outV (appF op (ps.map vrF))) H := by
 have hjl := getElem?_lt hj
 have hkl := getElem?_lt hk
 have hrl := getElem?_lt hr
 have hql := getElem?_lt hq
 have e1 := fun L => oc_app hj rfl rfl L
 have e2 := fun L => oc_app hk rfl rfl L
 simp only [Ex.c] at e2
 have hopr : ∀ L, Opr (H ++ L) 104 [rp q] (ps.map vrF) := fun L => by
  refine ⟨fun M i hi => ?_, by simp [rp]; omega⟩
  have hi' : i < ps.length := by simpa using hi
  have : wAt (ps.map vrF) i = vrF ps[i] := by unfold wAt; simp [hi']
  rw [this]
  exact ok104 (by rw [List.append_assoc, List.getElem?_append_left hrl]; exact hr) (by rw [List.append_assoc, List.getElem?_append_left hql]; exact hq) hi'
 have h59 := fun L => ok59 ns vs (op := op) (hopr L) hop (by simpa using hw) hsm trivial
 refine ok_fn hm Tryz.func103 c103 (by simp [rp, hjl, hkl, hql]) fun hcl => ?_
 simp only [rp] at h59
 simp -implicitDefEqProofs [i103, r103, rp, e1, e2]
 refine call_go (h59 _) ?_
 generalize appF op (ps.map vrF) = y
 cases y with
 | error e =>
  simp -implicitDefEqProofs [outV]
  exact cv_fz 6 hcl rfl rfl
 | ok v =>
  simp -implicitDefEqProofs [outV]
  exact cv_fz 6 hcl rfl rfl
end
end Go.Proofs.YtcejichidnlicaaGreatDoor
namespace Go.Proofs.YtcejichidnlicaaGreatDoor
open Go.Ab
def zFo : Fo := ⟨zE, false, (0, 0), 0⟩
def opFo (op k : Int) (nm : List UInt8) (p : Int) (ps : List Fo) : Fo :=
 let f := if ps.all Fo.cl = true then setR (.mk op k nm (ps.map Fo.e) p) (appF op (ps.map vrF)) else ⟨.mk op k nm (ps.map Fo.e) p, false, (0, 0), 0⟩
 if ps.all Fo.cl = true ∧ f.er = 0 ∧ f.v.1 = 1 ∧ -1000000000 ≤ f.v.2 ∧ f.v.2 ≤ 1000000000 then ⟨litE f.v.2 p, f.cl, f.v, f.er⟩
 else if op = 20 ∧ (ps.getD 0 zFo).cl = true ∧ (ps.getD 0 zFo).er = 0 then ps.getD (2 - (ps.getD 0 zFo).v.2).toNat zFo
 else f
mutual
def foldE : Ex -> Fo
 | .mk op k nm l p =>
  if op = 2 then ⟨.mk op k nm [] p, false, (0, 0), 0⟩
  else if op = 1 then setR (.mk op k nm [] p) (numF k)
  else opFo op k nm p (foldL l)
def foldL : List Ex -> List Fo
 | [] => []
 | e :: r => foldE e :: foldL r
end
theorem foldL_map : ∀ l : List Ex, foldL l = l.map foldE
 | [] => by rw [foldL]; rfl
 | e :: r => by rw [foldL, foldL_map r]; rfl
theorem foldL_len (l : List Ex) : (foldL l).length = l.length := by rw [foldL_map]; simp
def wdP (op : Int) (ps : List Fo) : Bool := decide ((ps.length : Int) = opN op) && (decide (3 ≤ op ∧ op ≤ 20) && (ps.all (fun f => decide (-1000000000000 ≤ f.v.2 ∧ f.v.2 ≤ 1000000000000)) && (!decide (op = 20) || decide ((ps.getD 0 zFo).v.2 = 0 ∨ (ps.getD 0 zFo).v.2 = 1))))
mutual
def wdE : Ex -> Bool
 | .mk op _ _ l _ => decide (op = 1 ∨ op = 2) || (wdL l && wdP op (foldL l))
def wdL : List Ex -> Bool
 | [] => true
 | e :: r => wdE e && wdL r
end
theorem wdP_sm {op : Int} {ps : List Fo} (h : wdP op ps = true) : ∀ i n, wAt (ps.map vrF) i = .ok (1, n) -> Sm n := by
 intro i n hi
 unfold wdP at h
 simp only [Bool.and_eq_true, List.all_eq_true, decide_eq_true_eq] at h
 unfold wAt at hi
 by_cases hl : i < ps.length
 · have hm := h.2.2.1 ps[i] (List.getElem_mem hl)
   have : (ps.map vrF).getD i (.error 3) = vrF ps[i] := by simp [hl]
   rw [this] at hi
   unfold vrF at hi
   split at hi
   · cases hi
   · have := Except.ok.inj hi
     rw [this] at hm
     exact hm
 · simp [hl] at hi
theorem Fo.c_9 (f : Fo) : List.take 9 f.c = f.c := List.take_of_length_le (by simp)
theorem Fo.c_5 (f : Fo) : List.take 5 f.c = f.e.c := by simp [Fo.c]
theorem Fo.c_cl (f : Fo) (h : 5 < f.c.length) : f.c[5]'h = bl f.cl := by simp [Fo.c]
theorem Fo.c_cell (f : Fo) : cellsOk f.c := by
 intro s hs
 simp only [Fo.c, List.mem_append, List.mem_cons, List.not_mem_nil, or_false] at hs
 rcases hs with h | rfl | rfl | rfl | rfl
 · obtain ⟨⟨op, n, nm, l, p⟩, _, _, _⟩ := f
   simp only [Ex.c, List.mem_cons, List.not_mem_nil, or_false] at h
   rcases h with rfl | rfl | rfl | rfl | rfl <;> rfl
 all_goals rfl
theorem rws_one {α : Type} (f : α -> List SV) (x : α) : rws f [x] = f x := by simp [rws]
section
variable {H : List AO} {ns : List (List UInt8)} {vs : List Int} {op k p : Int} {nm : List UInt8} {l : List Ex}
abbrev fH (n : Nat) (ns : List (List UInt8)) (vs : List Int) (op k p : Int) (nm : List UInt8) (l : List Ex) (ps : List Fo) (es : List Ex) (G : List AO) : List AO :=
 ⟨[macV ns vs], 52, 0, true⟩ :: ⟨[i64 op, i64 k, st (B nm), .slc (Ex.cL l) l.length, i64 p], 24, 0, true⟩ :: ⟨[i64 0, i64 0, st (B []), .val (.slice none 0 0), i64 0, bl false, i64 0, i64 0, i64 0], 98, 0, true⟩ ::
 ⟨[i64 op, i64 k, st (B nm), .own (n + 6) 0 es.length 5 es.length, i64 p, bl (ps.all Fo.cl), i64 0, i64 0, i64 0], 98, 0, true⟩ :: ⟨rws Fo.c ps, 98, ps.length, true⟩ :: ⟨[.own (n + 4) 0 ps.length 9 ps.length], 123, 0, true⟩ :: ⟨Ex.cL es, 24, es.length, true⟩ :: G
theorem loop78 (hcl : closed H) {d : Nat} (hd : d < 100000) (hl : l.length ≤ 3) (hIH : ∀ e ∈ l, ∀ H, Ok Tryz.prog 78 [macV ns vs, e.v, i64 ((d + 1 : Nat) : Int)] H (.ret (.agg (foldE e).c)) H) {N : Nat} {K : XE -> Env -> List AO -> Prop}
 (hexit : ∀ env G, env.get 3 = .ptr (.own H.length 0 0 0 0) 0 -> env.get 4 = .ptr (.own (H.length + 1) 0 0 0 0) 0 -> env.get 6 = .ptr (.own (H.length + 2) 0 0 0 0) 0 -> env.get 7 = .ptr (.own (H.length + 3) 0 0 0 0) 0 -> env.get 8 = .ptr (.own (H.length + 5) 0 0 0 0) 0 -> K (.exit 0) env (H ++ fH H.length ns vs op k p nm l (foldL l) ((foldL l).map Fo.e) G)) :
 ∀ (m i : Nat) (ps : List Fo) (G : List AO) (env : Env), i + m = l.length -> ps.length = i -> ps ++ foldL (l.drop i) = foldL l -> env.get 2 = i64 d -> env.get 3 = .ptr (.own H.length 0 0 0 0) 0 -> env.get 4 = .ptr (.own (H.length + 1) 0 0 0 0) 0 -> env.get 6 = .ptr (.own (H.length + 2) 0 0 0 0) 0 -> env.get 7 = .ptr (.own (H.length + 3) 0 0 0 0) 0 -> env.get 8 = .ptr (.own (H.length + 5) 0 0 0 0) 0 →
  env.get 43 = .slc (Ex.cL l) l.length -> env.get 44 = i64 l.length -> env.get 45 = i64 i -> LI Tryz.prog N drawB l78_0 env (H ++ fH H.length ns vs op k p nm l ps (ps.map Fo.e) G) K := by
 intro m
 induction m with
 | zero =>
  intro i ps G env hi hp hq h2 h3 h4 h6 h7 h8 h43 h44 h45
  refine li_go hm l78_0.eq_1 ?_
  have e : i = l.length := by omega
  subst e
  rw [List.drop_length, foldL, List.append_nil] at hq
  subst hq
  simp -implicitDefEqProofs [h2, h3, h4, h6, h7, h8, h43, h44, h45]
  refine hexit _ G ?_ ?_ ?_ ?_ ?_ <;> simp
 | succ m ih =>
  intro i ps G env hi hp hq h2 h3 h4 h6 h7 h8 h43 h44 h45
  refine li_go hm l78_0.eq_1 ?_
  have hlt : i < l.length := by omega
  have hlt' : (i : Int) < l.length := by omega
  have hg := exL_get hlt
  have hcl' := exL_len l
  have w1 : IntKind.i64.wrap ((d : Int) + 1) = ((d + 1 : Nat) : Int) := wrap_succ (by omega)
  rw [List.drop_eq_getElem_cons hlt, foldL] at hq
  have hIH' := hIH l[i] (List.getElem_mem hlt)
  simp -implicitDefEqProofs [h2, h3, h4, h6, h7, h8, h43, h44, h45, hlt, hlt', hg, hcl']
  refine ⟨by omega, call_go (by rw [w1]; exact hIH' _) ?_⟩
  simp -implicitDefEqProofs [h2, h3, h4, h6, h7, h8, h43, h44, h45, hlt, hlt', hg, hcl', Fo.c_9, Fo.c_5, Fo.c_cl, Fo.c_cell]
  have hpl : (ps ++ [foldE l[i]]).length = ps.length + 1 := by simp
  refine ⟨by omega, by omega, rws_len Fo.c_len ps, by omega, by omega, by rw [exL_len]; simp, ?_⟩
  refine LI.cong ?_ (ih (i + 1) (ps ++ [foldE l[i]]) (G ++ [⟨l[i].c, 24, 0, true⟩, ⟨(foldE l[i]).c, 98, 0, true⟩, ⟨(foldE l[i]).c, 98, 0, true⟩, ⟨(foldE l[i]).e.c, 24, 0, true⟩]) _ (by omega) (by omega) (by rw [List.append_assoc]; exact hq) ?_ ?_ ?_ ?_ ?_ ?_ ?_ ?_ ?_)
  · simp [fH, rws_app, rws_one, exL_app, Ex.cL]
  all_goals simp [h2, h3, h4, h6, h7, h8, h43, h44, wrap_suc (show i < 9223372036854775807 by omega)]
end
end Go.Proofs.YtcejichidnlicaaGreatDoor
