/-
  Steps of the proof: contracts of functions and plain facts that the statement rests on.
-/
import Derived.Test.YtcejichidnlicaaGreatDoorPart2
import Derived.Test.YtcejichidnlicaaGreatDoorCore4
import Derived.Test.YtcejichidnlicaaGreatDoorPart1
import Derived.LaidMore
import Derived.OpenShut
import Derived.Stop.Joined
import Derived.LaidHandle
import Derived.JoinedCond
import Derived.JoinedAt
import Derived.Conc.Holds
import Derived.SevenTiedAt
set_option linter.all false
namespace Go.Proofs.YtcejichidnlicaaGreatDoor
open Go.Ab
def keysS (out : List (List UInt8)) : List Value := out.map fun s => .string (B s)
def valsS (out : List (List UInt8)) : List SV := out.map fun _ => bl true
abbrev FS (e : Ex) (out : List (List UInt8)) (kp : List Value) (vp : List SV) (stk : List Ex) (vo vt : Nat) (G : List AO) : List AO :=
 ⟨e.c, 24, 0, true⟩ :: ⟨wds out, 9, vo, true⟩ :: ⟨.mk (keysS out) :: valsS out, 66, 0, false⟩ :: ⟨.mk kp :: vp, 67, 0, false⟩ :: ⟨Ex.cL stk, 24, vt, true⟩ :: G
structure FE (n : Nat) (out : List (List UInt8)) (stk : List Ex) (vo vt : Nat) (env : Env) : Prop where
 s3 : env.get 3 = .own (n + 1) 0 out.length 1 vo
 s4 : env.get 4 = .mp (n + 2) 0
 s5 : env.get 5 = .mp (n + 3) 0
 s6 : env.get 6 = .own (n + 4) 0 stk.length 5 vt
theorem lkm_keys (s : List UInt8) : ∀ out : List (List UInt8), lkm (.string (B s)) (keysS out) (valsS out) = if s ∈ out then some (bl true) else none
 | [] => rfl
 | x :: r => by
  have ih := lkm_keys s r
  show (if vkeq (.string (B s)) (.string (B x)) = true then some (bl true) else lkm (.string (B s)) (keysS r) (valsS r)) = _
  have hv : vkeq (.string (B s)) (.string (B x)) = decide (s = x) := by simp [vkeq, B]
  rw [hv, ih]
  by_cases h : s = x
  · simp [h]
  · simp [h]
theorem mset_keys (s : List UInt8) : ∀ out : List (List UInt8), s ∉ out -> msetK (.string (B s)) (keysS out) = keysS (out ++ [s]) ∧ msetV (.string (B s)) (bl true) (keysS out) (valsS out) = valsS (out ++ [s])
 | [], _ => ⟨rfl, rfl⟩
 | x :: r, h => by
  obtain ⟨h1, h2⟩ := mset_keys s r (fun hr => h (by simp [hr]))
  have hv : vkeq (.string (B s)) (.string (B x)) = false := by
   have : ¬ s = x := fun e => h (by simp [e])
   simp [vkeq, B, this]
  have k1 : keysS (x :: r) = .string (B x) :: keysS r := rfl
  have k2 : valsS (x :: r) = bl true :: valsS r := rfl
  refine ⟨?_, ?_⟩
  · rw [k1, msetK, hv, if_neg (by decide), h1]; rfl
  · rw [k1, k2, msetV, hv, if_neg (by decide), h2]; rfl
theorem mo2 (H : List AO) (a b : AO) (ks : List Value) (vs : List SV) (T : TypeId) (G : List AO) : SV.mapOf (H ++ a :: b :: ⟨.mk ks :: vs, T, 0, false⟩ :: G) (.mp (H.length + 2) 0) = some (ks, vs) := by
 simp [SV.mapOf]
theorem mo3 (H : List AO) (a b c : AO) (ks : List Value) (vs : List SV) (T : TypeId) (G : List AO) : SV.mapOf (H ++ a :: b :: c :: ⟨.mk ks :: vs, T, 0, false⟩ :: G) (.mp (H.length + 3) 0) = some (ks, vs) := by
 simp [SV.mapOf]
theorem keys_is (out : List (List UInt8)) : ∀ x ∈ keysS out, KK.s.is x = true := by
 intro x hx
 obtain ⟨s, _, rfl⟩ := List.mem_map.1 hx
 rfl
section
variable [KnEnv] {H : List AO} {e0 : Ex} {out : List (List UInt8)} {kp : List Value} {vp : List SV} {N : Nat} {K : XE -> Env -> List AO -> Prop}
theorem free_end {vo vt : Nat} {G : List AO} {env : Env} (he : FE H.length out [] vo vt env) (h : ∀ env, env.get 3 = .own (H.length + 1) 0 out.length 1 vo -> K (.exit 0) env (H ++ FS e0 out kp vp [] vo vt G)) :
 LI Tryz.prog N drawB l20_0 env (H ++ FS e0 out kp vp [] vo vt G) K := by
 obtain ⟨h3, h4, h5, h6⟩ := he
 refine li_go hm l20_0.eq_1 ?_
 simp -implicitDefEqProofs [h3, h4, h5, h6]
 exact h _ (by simp)
theorem free_name {out' : List (List UInt8)} {rest : List Ex} {k p : Int} {nm : List UInt8} {l : List Ex} {vo vt : Nat} {G : List AO} {env : Env} (he : FE H.length out (rest ++ [.mk 2 k nm l p]) vo vt env) (hr : rest.length < 2000000) (ho : out.length < 2000000) (hout : out' = if nm ∈ out then out else out ++ [nm])
 (h : ∀ vo' G' env, FE H.length out' rest vo' vt env -> LI Tryz.prog N drawB l20_0 env (H ++ FS e0 out' kp vp rest vo' vt G') K) :
 LI Tryz.prog N drawB l20_0 env (H ++ FS e0 out kp vp (rest ++ [.mk 2 k nm l p]) vo vt G) K := by
 obtain ⟨h3, h4, h5, h6⟩ := he
 have hl : (rest ++ [Ex.mk 2 k nm l p]).length = rest.length + 1 := by simp
 rw [hl] at h6
 have hc := exL_len (rest ++ [Ex.mk 2 k nm l p])
 rw [hl] at hc
 have hg := exL_get (l := rest ++ [Ex.mk 2 k nm l p]) (i := rest.length) (by simp)
 have hg2 : (rest ++ [Ex.mk 2 k nm l p])[rest.length]'(by simp) = Ex.mk 2 k nm l p := by simp
 rw [hg2, Ex.c] at hg
 have w1 : IntKind.i64.wrap (rest.length : Int) = (rest.length : Int) := wrap_nat (by omega)
 have hlk := lkm_keys nm out
 refine li_go hm l20_0.eq_1 ?_
 simp only [FS]
 generalize hcc : Ex.cL (rest ++ [Ex.mk 2 k nm l p]) = cc at hc hg ⊢
 have hki := keys_is out
 have hms := mset_keys nm out
 have htk : List.take (rest.length * 5) cc = Ex.cL rest := by
  rw [← hcc, exL_app, List.take_left' (exL_len rest)]
 have hal : ((keysS out, valsS out) : List Value × List SV).1.all KK.s.is = true := List.all_eq_true.2 hki
 by_cases hin : nm ∈ out
 · rw [if_pos hin] at hlk hout
   subst hout
   simp -implicitDefEqProofs [h3, h4, h5, h6, hc, hg, w1, mo2, hki, hlk]
   refine ⟨by omega, by omega, hki, ?_⟩
   refine LI.tell (Tell.trunc (j := H.length + 4) (o := ⟨cc, 24, vt, true⟩) (by simp) rfl (rest.length * 5)) (LI.cong (H' := H ++ FS e0 out' kp vp rest vo vt (G ++ [⟨[i64 2, i64 k, st (B nm), .slc (Ex.cL l) l.length, i64 p], 24, 0, true⟩])) (by simp [FS, htk]) (h vo _ _ ⟨?_, ?_, ?_, ?_⟩))
   all_goals simp
 · rw [if_neg hin] at hlk hout
   subst hout
   simp -implicitDefEqProofs [h3, h4, h5, h6, hc, hg, w1, mo2, hki, hlk]
   refine ⟨by omega, by omega, hki, ?_⟩
   refine s_mup_go (mo2 ..) rfl rfl hal ?_
   simp -implicitDefEqProofs [SV.key, (hms hin).1, (hms hin).2, h3]
   refine ⟨by omega, by omega, ?_⟩
   refine LI.tell (Tell.trunc (j := H.length + 4) (o := ⟨cc, 24, vt, true⟩) (by simp) rfl (rest.length * 5)) (LI.cong (H' := H ++ FS e0 (out ++ [nm]) kp vp rest (vo + 1) vt (G ++ [⟨[i64 2, i64 k, st (B nm), .slc (Ex.cL l) l.length, i64 p], 24, 0, true⟩, ⟨[st (B nm)], 9, 0, true⟩])) (by simp [FS, htk, wds]) (h (vo + 1) _ _ ⟨?_, ?_, ?_, ?_⟩))
   all_goals simp [h4, h5]
theorem lkm_none {k : Value} : ∀ {ks : List Value} {vs : List SV}, (∀ x ∈ ks, vkeq k x = false) -> ks.length = vs.length -> lkm k ks vs = none ∧ (msetK k ks = ks ++ [k] ∧ ∀ v, msetV k v ks vs = vs ++ [v])
 | [], [], _, _ => ⟨rfl, rfl, fun _ => rfl⟩
 | x :: ks, y :: vs, h, hl => by
  have hx := h x (by simp)
  obtain ⟨h1, h2, h3⟩ := lkm_none (k := k) (ks := ks) (vs := vs) (fun z hz => h z (by simp [hz])) (by simpa using hl)
  exact ⟨by rw [lkm, hx, if_neg (by decide), h1], by rw [msetK, hx, if_neg (by decide), h2]; rfl, fun v => by rw [msetV, hx, if_neg (by decide), h3]; rfl⟩
theorem add0 (a : Addr) : a.add 0 = a := if_pos rfl
theorem free_in {l : List Ex} {op k p : Int} {nm : List UInt8} {rest : List Ex} {vo : Nat} {X : AO} (hX : X = ⟨[i64 op, i64 k, st (B nm), .slc (Ex.cL l) l.length, i64 p], 24, 0, true⟩) (hl : l.length < 2000000) (hrl : rest.length < 2000000) {q : Nat} {A : List AO} (hq : q = A.length + 5)
 (h : ∀ vt G env, FE H.length out (rest ++ l.reverse) vo vt env -> K (.exit 2) env (H ++ FS e0 out kp vp (rest ++ l.reverse) vo vt (A ++ X :: G))) :
 ∀ (m : Nat) (vt : Nat) (G : List AO) (env : Env), m ≤ l.length -> FE H.length out (rest ++ (l.drop m).reverse) vo vt env -> env.get 7 = .ptr (.own (H.length + q) 0 0 0 0) 0 -> env.get 8 = i64 ((m : Int) - 1) →
  LI Tryz.prog N drawB l20_1 env (H ++ FS e0 out kp vp (rest ++ (l.drop m).reverse) vo vt (A ++ X :: G)) K := by
 intro m
 induction m with
 | zero =>
  intro vt G env _ he h7 h8
  obtain ⟨h3, h4, h5, h6⟩ := he
  refine li_go hm l20_1.eq_1 ?_
  rw [List.drop_zero] at *
  simp -implicitDefEqProofs [h3, h4, h5, h6, h7, h8]
  exact h vt G _ ⟨by simp [h3], by simp [h4], by simp [h5], by simp [h6]⟩
 | succ m ih =>
  intro vt G env hml he h7 h8
  obtain ⟨h3, h4, h5, h6⟩ := he
  refine li_go hm l20_1.eq_1 ?_
  have hlt : m < l.length := by omega
  have hlt' : (m : Int) < l.length := by omega
  have hg := exL_get hlt
  have hcl' := exL_len l
  have hcr := exL_len (rest ++ (l.drop (m + 1)).reverse)
  have w0 : IntKind.i64.wrap (m : Int) = m := wrap_nat (by omega)
  have w1 : IntKind.i64.wrap ((m : Int) - 1) = (m : Int) - 1 := wrap_id (by omega) (by omega)
  have hd : rest ++ (l.drop m).reverse = (rest ++ (l.drop (m + 1)).reverse) ++ [l[m]] := by
   rw [List.drop_eq_getElem_cons hlt, List.reverse_cons, List.append_assoc]
  simp only [FS]
  generalize hcc : Ex.cL (rest ++ (l.drop (m + 1)).reverse) = cc at hcr ⊢
  generalize hrr : rest ++ (l.drop (m + 1)).reverse = rr at *
  have hrrl : rr.length < 4000000 := by rw [← hrr]; simp; omega
  subst hX hq
  have h8' : env.get 8 = i64 m := by rw [h8]; congr 1; omega
  simp -implicitDefEqProofs [h3, h4, h5, h6, h7, h8', hlt, hlt', hg, hcl', hcr, w0, w1]
  have hrl2 : (rest ++ (l.drop m).reverse).length = rr.length + 1 := by rw [hd]; simp
  have hcd : Ex.cL (rest ++ (l.drop m).reverse) = cc ++ l[m].c := by rw [hd, exL_app, hcc]; simp [Ex.cL]
  refine ⟨by omega, by omega, by omega, LI.cong ?_ (ih (vt + 1) (G ++ [⟨l[m].c, 24, 0, true⟩]) _ (by omega) ⟨?_, ?_, ?_, ?_⟩ ?_ ?_)⟩
  · simp [FS, hcd]
  all_goals simp [hrl2]
theorem free_op1 {a : Addr} {cap : Nat} {l : List Ex} {op k p : Int} {nm : List UInt8} {rest : List Ex} {vo vt : Nat} {G : List AO} {env : Env} (hk : (SV.slc (Ex.cL l) l.length, Value.slice (some a) l.length cap) ∈ KnEnv.kn) (hop : op ≠ 2) (hl0 : l ≠ []) (hl : l.length < 2000000) (hrl : rest.length < 2000000)
 (hkl : kp.length = vp.length) (hkn : ∀ v ∈ kp, knowB v) (hmet : ∀ v ∈ kp, vkeq (.pointer (some a)) v = false) (he : FE H.length out (rest ++ [.mk op k nm l p]) vo vt env)
 (h : ∀ vt G env, FE H.length out (rest ++ l.reverse) vo vt env -> LI Tryz.prog N drawB l20_0 env (H ++ FS e0 out (kp ++ [.pointer (some a)]) (vp ++ [i64 l.length]) (rest ++ l.reverse) vo vt G) K) :
 LI Tryz.prog N drawB l20_0 env (H ++ ⟨e0.c, 24, 0, true⟩ :: ⟨wds out, 9, vo, true⟩ :: ⟨.mk (keysS out) :: valsS out, 66, 0, false⟩ :: ⟨.mk kp :: vp, 67, 0, false⟩ :: ⟨Ex.cL rest ++ [i64 op, i64 k, st (B nm), .val (.slice (some a) l.length cap), i64 p], 24, vt, true⟩ :: G) K := by
 obtain ⟨h3, h4, h5, h6⟩ := he
 have hlr : (rest ++ [Ex.mk op k nm l p]).length = rest.length + 1 := by simp
 rw [hlr] at h6
 have hc := exL_len rest
 have hg : List.take 5 (List.drop (rest.length * 5) (Ex.cL rest ++ [i64 op, i64 k, st (B nm), .val (.slice (some a) l.length cap), i64 p])) = [i64 op, i64 k, st (B nm), .val (.slice (some a) l.length cap), i64 p] := by
  rw [List.drop_left' hc]; rfl
 have w1 : IntKind.i64.wrap (rest.length : Int) = (rest.length : Int) := wrap_nat (by omega)
 obtain ⟨hlk, hms, hmv⟩ := lkm_none hmet hkl
 have hknow : knowB (.pointer (some a)) := by
  refine ⟨rfl, a, Ex.cL l, l.length, cap, rfl, hk, ?_⟩
  cases l with
  | nil => exact absurd rfl hl0
  | cons x r =>
   obtain ⟨op, n, nm, l, p⟩ := x
   exact ⟨B nm, by rw [Ex.cL, Ex.c]; exact List.mem_append_left _ (.tail _ (.tail _ (.head _)))⟩
 have hkall : ∀ v ∈ Value.pointer (some a) :: kp, (KK.p 24).knows v := by
  intro v hv
  rcases List.mem_cons.1 hv with rfl | hv
  · exact hknow
  · exact hkn v hv
 have hkis : ∀ v ∈ kp, (KK.p 24).is v = true := by
  intro v hv
  obtain ⟨_, b, _, _, _, rfl, _⟩ := hkn v hv
  rfl
 have hl0' : ¬ (l.length : Int) = 0 := by
  cases l with
  | nil => exact absurd rfl hl0
  | cons x r => simp; omega
 have hl00 : ¬ l.length = 0 := by omega
 have hpos : (0 : Int) < l.length := by omega
 refine li_go hm l20_0.eq_1 ?_
 have hcc2 : (Ex.cL rest ++ [i64 op, i64 k, st (B nm), .val (.slice (some a) l.length cap), i64 p]).length = rest.length * 5 + 5 := by simp [hc]
 have htk : List.take (rest.length * 5) (Ex.cL rest ++ [i64 op, i64 k, st (B nm), .val (.slice (some a) l.length cap), i64 p]) = Ex.cL rest := List.take_left' hc
 generalize hccc : Ex.cL rest ++ [i64 op, i64 k, st (B nm), .val (.slice (some a) l.length cap), i64 p] = cc at hg hcc2 htk ⊢
 simp -implicitDefEqProofs [h3, h4, h5, h6, hc, hg, hcc2, w1, hop, hl0', hl0, hpos, mo3, add0, hlk, SV.isK, SV.key, SV.isP, SV.pval]
 have hal : ((kp, vp) : List Value × List SV).1.all (KK.p 24).is = true := List.all_eq_true.2 hkis
 refine ⟨by omega, rfl, by omega, ⟨hkis, hkall _ (.head _), fun v hv => hkall v (.tail _ hv)⟩, by omega, ?_⟩
 refine s_mup_go (x := (kp, vp)) (mo3 ..) rfl rfl hal ?_ (by simpa [SV.key, SV.pval] using hkall)
 simp -implicitDefEqProofs [SV.key, SV.pval, hms, hmv]
 have hX : (⟨[i64 op, i64 k, st (B nm), .slc (Ex.cL l) l.length, i64 p], 24, 0, true⟩ : AO) = ⟨[i64 op, i64 k, st (B nm), .slc (Ex.cL l) l.length, i64 p], 24, 0, true⟩ := rfl
 have wl : IntKind.i64.wrap ((l.length : Int) - 1) = (l.length : Int) - 1 := wrap_id (by omega) (by omega)
 refine LI.tell (Tell.known (j := H.length + (G.length + 5)) (p := 3) (o := ⟨[i64 op, i64 k, st (B nm), .val (.slice (some a) l.length cap), i64 p], 24, 0, true⟩) (by simp) rfl rfl hk) ?_
 refine LI.tell (Tell.trunc (j := H.length + 4) (o := ⟨cc, 24, vt, true⟩) (by simp) rfl (rest.length * 5)) ?_
 refine LI.cong (H' := H ++ FS e0 out (kp ++ [.pointer (some a)]) (vp ++ [i64 l.length]) (rest ++ (l.drop l.length).reverse) vo vt (G ++ ⟨[i64 op, i64 k, st (B nm), .slc (Ex.cL l) l.length, i64 p], 24, 0, true⟩ :: [])) (by simp [FS, htk]) ?_
 refine free_in hX hl hrl (q := G.length + 5) (A := G) rfl (fun vt G' env he => ?_) l.length vt [] _ (Nat.le_refl _) ⟨?_, ?_, ?_, ?_⟩ ?_ ?_
 · simp -implicitDefEqProofs
   exact h vt _ env he
 all_goals simp [h3, h4, h5, wl]
theorem know_cons {x : SV × Value} {v : Value} (h : knowB v) : @knowB _ ⟨x :: KnEnv.kn⟩ v := by
 obtain ⟨hf, a, cells, len, cap, h1, h2, h3⟩ := h
 exact ⟨hf, a, cells, len, cap, h1, List.mem_cons_of_mem _ h2, h3⟩
theorem free_op {l : List Ex} {op k p : Int} {nm : List UInt8} {rest : List Ex} {vo vt : Nat} {G : List AO} {env : Env} (hop : op ≠ 2) (hl0 : l ≠ []) (hl : l.length < 2000000) (hrl : rest.length < 2000000)
 (hkl : kp.length = vp.length) (hkn : ∀ v ∈ kp, knowB v) (hmet : ∀ a cap S, @Sim _ _ ⟨(.slc (Ex.cL l) l.length, .slice (some a) l.length cap) :: KnEnv.kn⟩ S -> ∀ v ∈ kp, vkeq (.pointer (some a)) v = false) (he : FE H.length out (rest ++ [.mk op k nm l p]) vo vt env)
 (h : ∀ a cap vt G env, FE H.length out (rest ++ l.reverse) vo vt env -> @LI _ _ ⟨(.slc (Ex.cL l) l.length, .slice (some a) l.length cap) :: KnEnv.kn⟩ Tryz.prog N drawB l20_0 env (H ++ FS e0 out (kp ++ [.pointer (some a)]) (vp ++ [i64 l.length]) (rest ++ l.reverse) vo vt G) K) :
 LI Tryz.prog N drawB l20_0 env (H ++ FS e0 out kp vp (rest ++ [.mk op k nm l p]) vo vt G) K := by
 have hcl : Ex.cL (rest ++ [Ex.mk op k nm l p]) = Ex.cL rest ++ [i64 op, i64 k, st (B nm), .slc (Ex.cL l) l.length, i64 p] := by rw [exL_app]; simp [Ex.cL, Ex.c]
 have hne : Ex.cL l ≠ [] := by
  cases l with
  | nil => exact absurd rfl hl0
  | cons x r => obtain ⟨a, b, c, d, e⟩ := x; simp [Ex.cL, Ex.c]
 have hc := exL_len rest
 refine LI.learn (H.length + 4) (rest.length * 5 + 3) (o := ⟨Ex.cL (rest ++ [Ex.mk op k nm l p]), 24, vt, true⟩) (cells := Ex.cL l) (len := l.length) (by simp [FS]) rfl ?_ hne (Ex.undL 0 l) fun a cap => ?_
 · rw [hcl, List.getElem?_append_right (by omega)]
   have e : rest.length * 5 + 3 - (Ex.cL rest).length = 3 := by omega
   rw [e]; rfl
 · refine @LI.fact _ _ ⟨(.slc (Ex.cL l) l.length, .slice (some a) l.length cap) :: KnEnv.kn⟩ _ _ _ _ _ _ _ (∀ v ∈ kp, vkeq (.pointer (some a)) v = false) (fun S hS _ => hmet a cap S hS) fun hm2 => ?_
   have hset : (Ex.cL (rest ++ [Ex.mk op k nm l p])).set (rest.length * 5 + 3) (.val (.slice (some a) l.length cap)) = Ex.cL rest ++ [i64 op, i64 k, st (B nm), .val (.slice (some a) l.length cap), i64 p] := by
    rw [hcl, List.set_append_right _ _ (by omega)]
    have e : rest.length * 5 + 3 - (Ex.cL rest).length = 3 := by omega
    rw [e]; rfl
   refine @LI.cong _ _ ⟨(.slc (Ex.cL l) l.length, .slice (some a) l.length cap) :: KnEnv.kn⟩ _ _ _ _ _ _ _ _ ?_ (@free_op1 ⟨(.slc (Ex.cL l) l.length, .slice (some a) l.length cap) :: KnEnv.kn⟩ H e0 out kp vp N K a cap l op k p nm rest vo vt G env (List.mem_cons_self ..) hop hl0 hl hrl hkl (fun v hv => know_cons (hkn v hv)) hm2 he (h a cap))
   rw [hset]
   simp [FS]
end
end Go.Proofs.YtcejichidnlicaaGreatDoor
namespace Go.Proofs.YtcejichidnlicaaGreatDoor
open Go.Ab
section
variable {H : List AO} {p0 p1 q0 q1 q2 : Int}
abbrev exF (p0 p1 q0 q1 q2 : Int) : Ex := .mk 8 0 [] [.mk 2 0 [120] [] q0, .mk 5 0 [] [.mk 2 0 [121] [] q1, .mk 2 0 [120] [] q2] p1] p0
theorem free_run {N : Nat} {K : XE -> Env -> List AO -> Prop} {G : List AO} {env : Env} (he : FE H.length [] ([] ++ [exF p0 p1 q0 q1 q2]) 0 0 env)
 (hK : ∀ vo vt G kp vp env, env.get 3 = .own (H.length + 1) 0 2 1 vo -> K (.exit 0) env (H ++ FS (exF p0 p1 q0 q1 q2) [[120], [121]] kp vp [] vo vt G)) :
 LI Tryz.prog N drawB l20_0 env (H ++ FS (exF p0 p1 q0 q1 q2) [] [] [] ([] ++ [exF p0 p1 q0 q1 q2]) 0 0 G) K := by
 refine free_op (by decide) (by simp) (by simp) (by simp) rfl (fun v hv => by cases hv) (fun a cap S hS v hv => by cases hv) he fun a1 c1 vt1 G1 env1 he1 => ?_
 let k1 : KnEnv := ⟨(.slc (Ex.cL [.mk 2 0 [120] [] q0, .mk 5 0 [] [.mk 2 0 [121] [] q1, .mk 2 0 [120] [] q2] p1]) 2, .slice (some a1) 2 c1) :: KnEnv.kn⟩
 refine @free_name k1 H (exF p0 p1 q0 q1 q2) [] _ _ N K [[120]] [.mk 5 0 [] [.mk 2 0 [121] [] q1, .mk 2 0 [120] [] q2] p1] 0 q0 [120] [] 0 vt1 G1 env1 he1 (by simp) (by simp) rfl fun vo2 G2 env2 he2 => ?_
 refine @free_op k1 H (exF p0 p1 q0 q1 q2) [[120]] _ _ N K [.mk 2 0 [121] [] q1, .mk 2 0 [120] [] q2] 5 0 p1 [] [] vo2 vt1 G2 env2 (by decide) (by simp) (by simp) (by simp) rfl ?_ ?_ he2 fun a2 c2 vt3 G3 env3 he3 => ?_
 · intro v hv
   simp only [List.nil_append, List.mem_singleton] at hv
   subst hv
   exact ⟨rfl, a1, _, _, _, rfl, List.mem_cons_self .., B [120], .tail _ (.tail _ (.head _))⟩
 · intro a2 c2 S hS v hv
   simp only [List.nil_append, List.mem_singleton] at hv
   subst hv
   rw [vkeq_ptr]
   refine decide_eq_false fun e => ?_
   subst e
   have := @know_same _ _ ⟨(.slc (Ex.cL [.mk 2 0 [121] [] q1, .mk 2 0 [120] [] q2]) 2, .slice (some a2) 2 c2) :: k1.kn⟩ S hS a2 _ _ _ _ _ _ (List.mem_cons_self ..) (List.mem_cons_of_mem _ (List.mem_cons_self ..)) 2 (.string (B [121])) (.string (B [120])) rfl rfl
   simp [B] at this
 let k2 : KnEnv := ⟨(.slc (Ex.cL [.mk 2 0 [121] [] q1, .mk 2 0 [120] [] q2]) 2, .slice (some a2) 2 c2) :: k1.kn⟩
 refine @free_name k2 H (exF p0 p1 q0 q1 q2) [[120]] _ _ N K [[120], [121]] [.mk 2 0 [120] [] q2] 0 q1 [121] [] vo2 vt3 G3 env3 he3 (by simp) (by simp) rfl fun vo4 G4 env4 he4 => ?_
 refine @free_name k2 H (exF p0 p1 q0 q1 q2) [[120], [121]] _ _ N K [[120], [121]] [] 0 q2 [120] [] vo4 vt3 G4 env4 he4 (by simp) (by simp) rfl fun vo5 G5 env5 he5 => ?_
 exact @free_end k2 H (exF p0 p1 q0 q1 q2) [[120], [121]] _ _ N K vo5 vt3 G5 env5 he5 (fun env h => hK vo5 vt3 G5 _ _ env h)
theorem ok20c : Ok Tryz.prog 20 [(exF p0 p1 q0 q1 q2).v] H (.ret (.slc (wds [[120], [121]]) 2)) H := by
 refine ok_fn hm Tryz.func20 c20 (by simp [Ex.und_v]) fun hcl => ?_
 simp -implicitDefEqProofs [i20, r20, Ex.v, Ex.c]
 refine LI.cong (H' := H ++ FS (exF p0 p1 q0 q1 q2) [] [] [] ([] ++ [exF p0 p1 q0 q1 q2]) 0 0 []) (by simp [FS, Ex.cL, Ex.c, wds, keysS, valsS]) ?_
 refine free_run ⟨?_, ?_, ?_, ?_⟩ (fun vo vt G kp vp env h3 => ?_)
 · simp
 · simp
 · simp
 · simp
 · simp -implicitDefEqProofs [h3]
   exact cv_fz 3 hcl rfl (by simp [FS, wds])
end
end Go.Proofs.YtcejichidnlicaaGreatDoor
namespace Go.Proofs.YtcejichidnlicaaGreatDoor
open Go.Ab
def vIs (r : Vr) (k n : Int) : Bool := match r with
 | .ok v => decide (v.1 = k) && decide (v.2 = n)
 | .error _ => false
def eIs (r : Vr) (w : Int) : Bool := match r with
 | .ok _ => false
 | .error x => decide (x = w)
theorem vIs_eq {r : Vr} {k n : Int} (h : vIs r k n = true) : r = .ok (k, n) := by
 unfold vIs at h
 split at h
 · simp only [Bool.and_eq_true, decide_eq_true_eq] at h
   obtain ⟨rfl, rfl⟩ := h
   rfl
 · cases h
theorem eIs_eq {r : Vr} {w : Int} (h : eIs r w = true) : r = .error w := by
 unfold eIs at h
 split at h
 · cases h
 · rw [decide_eq_true_eq] at h; subst h; rfl
theorem gv_ok {H : List AO} (l : List UInt8) (k n : Int) (h : decide (l.length < 4611686018427387904) && (decide ((exprR l).1.hgt ≤ 100000) && vIs (evalF xyN xyV (exprR l).1) k n) = true) : Ok Tryz.prog 15 [st (B l), i64 k, i64 n, i64 0] H (.ret (bl true)) H := by
 simp only [Bool.and_eq_true, decide_eq_true_eq] at h
 exact ok15v h.1 (by simpa using h.2.1) (vIs_eq h.2.2)
theorem ge_ok {H : List AO} (l : List UInt8) (w : Int) (h : decide (l.length < 4611686018427387904) && (decide ((exprR l).1.hgt ≤ 100000) && eIs (evalF xyN xyV (exprR l).1) w) = true) : Ok Tryz.prog 15 [st (B l), i64 0, i64 0, i64 w] H (.ret (bl true)) H := by
 simp only [Bool.and_eq_true, decide_eq_true_eq] at h
 exact ok15e h.1 (by simpa using h.2.1) (eIs_eq h.2.2)
section
variable {H : List AO}
theorem aw1 : Ok Tryz.prog 15 [st ⟨#[121, 32, 47, 32, 52]⟩, i64 1, i64 (-1), i64 0] H (.ret (bl true)) H := gv_ok [121, 32, 47, 32, 52] 1 (-1) (by kernel_rfl)
theorem aw2 : Ok Tryz.prog 15 [st ⟨#[120, 32, 60, 32, 121, 32, 111, 114, 32, 120, 32, 61, 61, 32, 53]⟩, i64 2, i64 1, i64 0] H (.ret (bl true)) H := gv_ok [120, 32, 60, 32, 121, 32, 111, 114, 32, 120, 32, 61, 61, 32, 53] 2 1 (by kernel_rfl)
theorem aw3 : Ok Tryz.prog 21 [st ⟨#[50, 32, 42, 32, 51, 32, 43, 32, 120]⟩, st ⟨#[54, 32, 43, 32, 120]⟩] H (.ret (bl true)) H := ok21 (l := [50, 32, 42, 32, 51, 32, 43, 32, 120]) (w := [54, 32, 43, 32, 120]) (by kernel_rfl)
theorem ok8 : Ok Tryz.prog 8 [] H (.ret (bl true)) H := by
 refine ok_fn hm Tryz.func8 c8 (by simp) fun hcl => ?_
 simp -implicitDefEqProofs [i8, r8]
 refine call_go aw1 ?_
 simp -implicitDefEqProofs
 refine callq_go (fun _ => aw2) ?_
 simp -implicitDefEqProofs
 refine callq_go (fun _ => aw3) ?_
 simp -implicitDefEqProofs
 exact cv_id
end
end Go.Proofs.YtcejichidnlicaaGreatDoor
namespace Go.Proofs.YtcejichidnlicaaGreatDoor
open Go.Ab
section
variable {H : List AO}
theorem ok18 {e : Ex} {s : List UInt8} {n : Int} (hn : -1000000000 ≤ n ∧ n ≤ 1000000000) (hd : e.hgt + 2 ≤ 100000) (hl : e.lim2) : Ok Tryz.prog 18 [e.v, st (B s), i64 n] H (.ret (putE s n e).v) H := by
 have h34 := fun (G : List AO) (a b : Nat) ha hb => ok34p (s := s) hn e 0 (by omega) hl (H := G) (a := a) (b := b) ha hb
 have hu : ∀ m, (putE s n e).v.under m = true := fun m => Ex.und_v m _
 generalize hy : putE s n e = y at h34 hu ⊢
 refine ok_fn hm Tryz.func18 c18 (by simp [Ex.und_v]) fun hcl => ?_
 obtain ⟨op, k, nm, l, p⟩ := e
 obtain ⟨op', k', nm', l', p'⟩ := y
 simp only [Ex.v, Ex.c, rp] at h34
 simp -implicitDefEqProofs [i18, r18, Ex.v, Ex.c]
 refine call_go (h34 _ (H.length + 1) (H.length + 2) (by simp) (by simp)) ?_
 simp -implicitDefEqProofs
 exact cv_fz 3 hcl rfl (by simp)
end
end Go.Proofs.YtcejichidnlicaaGreatDoor
namespace Go.Proofs.YtcejichidnlicaaGreatDoor
open Go.Ab
section
variable {H : List AO}
theorem loop19 {x y : SV} {l l' : List (List UInt8)} (hx : IsS H x l) (hy : IsS H y l') (hl : l.length < 4611686018427387904) (he : l.length = l'.length) {N : Nat} {K : XE -> Env -> List AO -> Prop}
 (hret : l ≠ l' -> ∀ env, env.get 4 = bl false -> K .ret env H) (hexit : l = l' -> ∀ env, K (.exit 0) env H) :
 ∀ (m i : Nat) (env : Env), i + m = l.length -> (l = l' ↔ l.drop i = l'.drop i) -> env.get 0 = x -> env.get 1 = y -> env.get 5 = i64 i -> LI Tryz.prog N drawB l19_0 env H K := by
 intro m
 induction m with
 | zero =>
  intro i env hi hq h0 h1 h5
  refine li_go hm l19_0.eq_1 ?_
  have e : i = l.length := by omega
  subst e
  rw [List.drop_length, List.drop_of_length_le (by omega)] at hq
  simp -implicitDefEqProofs [h0, h1, h5, hx.vd, hx.ug, hx.sl, hx.len, hy.vd, hy.ug, hy.sl, hy.len]
  exact hexit (hq.2 rfl) _
 | succ m ih =>
  intro i env hi hq h0 h1 h5
  refine li_go hm l19_0.eq_1 ?_
  have hlt : i < l.length := by omega
  have hlt' : (i : Int) < l.length := by omega
  have hlt2 : i < l'.length := by omega
  have hlt2' : (i : Int) < l'.length := by omega
  rw [List.drop_eq_getElem_cons hlt, List.drop_eq_getElem_cons hlt2] at hq
  have hv := hx.vA [] hlt
  have ho := hx.okA [] hlt
  have hv2 := hy.vA [] hlt2
  have ho2 := hy.okA [] hlt2
  simp only [List.append_nil] at hv ho hv2 ho2
  generalize l[i] = v at hq hv
  generalize l'[i] = u at hq hv2
  by_cases hs : v = u
  · subst hs
    simp -implicitDefEqProofs [h0, h1, h5, hlt, hlt', hlt2, hlt2', hx.vd, hx.ug, hx.sl, hx.cell, hx.sz, hx.len, hv, ho, hy.vd, hy.ug, hy.sl, hy.cell, hy.sz, hy.len, hv2, ho2]
    refine ih (i + 1) _ (by omega) ?_ ?_ ?_ ?_
    · rw [hq]; simp
    all_goals simp [h0, h1, wrap_suc (show i < 9223372036854775807 by omega)]
  · have hne : l ≠ l' := fun h => hs (by have := hq.1 h; simpa using (List.cons.inj this).1)
    simp -implicitDefEqProofs [h0, h1, h5, hlt, hlt', hlt2, hlt2', hx.vd, hx.ug, hx.sl, hx.cell, hx.sz, hx.len, hv, ho, hy.vd, hy.ug, hy.sl, hy.cell, hy.sz, hy.len, hv2, ho2, hs]
    exact hret hne _ (by simp)
theorem ok19 {x y : SV} {l l' : List (List UInt8)} (hx : IsS H x l) (hy : IsS H y l') (hl : l.length < 4611686018427387904) (hl2 : l'.length < 4611686018427387904) : Ok Tryz.prog 19 [x, y] H (.ret (bl (decide (l = l')))) H := by
 refine ok_fn hm Tryz.func19 c19 (by simp [hx.vd, hy.vd]) fun hcl => ?_
 by_cases he : l.length = l'.length
 · simp -implicitDefEqProofs [i19, r19, hx.vd, hx.ug, hx.sl, hx.len, hy.vd, hy.ug, hy.sl, hy.len, he]
   refine loop19 hx hy hl he (fun hs env h4 => ?_) (fun hs env => ?_) l.length 0 _ (by omega) (by simp) ?_ ?_ ?_
   · simp -implicitDefEqProofs [h4, hs]
     exact cv_id
   · simp -implicitDefEqProofs [hs]
     exact cv_id
   all_goals simp
 · have he' : ¬ (l.length : Int) = l'.length := by omega
   have hne : l ≠ l' := fun h => he (by rw [h])
   simp -implicitDefEqProofs [i19, r19, hx.vd, hx.ug, hx.sl, hx.len, hy.vd, hy.ug, hy.sl, hy.len, he', hne]
   exact cv_id
end
end Go.Proofs.YtcejichidnlicaaGreatDoor
namespace Go.Proofs.YtcejichidnlicaaGreatDoor
open Go.Ab
def Ex.sub : Ex -> Nat -> Ex
 | .mk _ _ _ l _, i => l.getD i zE
abbrev Ex.l0 (e : Ex) : Ex := e.sub 0
abbrev Ex.l1 (e : Ex) : Ex := e.sub 1
section
variable {H : List AO}
theorem gx0 : Ok Tryz.prog 15 [st ⟨#[120, 32, 47, 32, 50]⟩, i64 1, i64 2, i64 0] H (.ret (bl true)) H := gv_ok [120, 32, 47, 32, 50] 1 2 (by kernel_rfl)
theorem gx1 : Ok Tryz.prog 15 [st ⟨#[120, 32, 37, 32, 51]⟩, i64 1, i64 2, i64 0] H (.ret (bl true)) H := gv_ok [120, 32, 37, 32, 51] 1 2 (by kernel_rfl)
theorem gx2 : Ok Tryz.prog 15 [st ⟨#[121, 32, 37, 32, 52]⟩, i64 1, i64 2, i64 0] H (.ret (bl true)) H := gv_ok [121, 32, 37, 32, 52] 1 2 (by kernel_rfl)
theorem gx3 : Ok Tryz.prog 15 [st ⟨#[120, 32, 37, 32, 121]⟩, i64 1, i64 (-1), i64 0] H (.ret (bl true)) H := gv_ok [120, 32, 37, 32, 121] 1 (-1) (by kernel_rfl)
theorem gx4 : Ok Tryz.prog 15 [st ⟨#[120, 32, 61, 61, 32, 53, 32, 111, 114, 32, 49, 32, 47, 32, 48, 32, 61, 61, 32, 49]⟩, i64 2, i64 1, i64 0] H (.ret (bl true)) H := gv_ok [120, 32, 61, 61, 32, 53, 32, 111, 114, 32, 49, 32, 47, 32, 48, 32, 61, 61, 32, 49] 2 1 (by kernel_rfl)
theorem gx5 : Ok Tryz.prog 15 [st ⟨#[49, 32, 47, 32, 48, 32, 61, 61, 32, 49, 32, 111, 114, 32, 120, 32, 61, 61, 32, 53]⟩, i64 0, i64 0, i64 6] H (.ret (bl true)) H := ge_ok [49, 32, 47, 32, 48, 32, 61, 61, 32, 49, 32, 111, 114, 32, 120, 32, 61, 61, 32, 53] 6 (by kernel_rfl)
theorem gx6 : Ok Tryz.prog 15 [st ⟨#[105, 102, 40, 120, 32, 60, 32, 121, 44, 32, 49, 32, 47, 32, 48, 44, 32, 55, 41]⟩, i64 1, i64 7, i64 0] H (.ret (bl true)) H := gv_ok [105, 102, 40, 120, 32, 60, 32, 121, 44, 32, 49, 32, 47, 32, 48, 44, 32, 55, 41] 1 7 (by kernel_rfl)
theorem gx7 : Ok Tryz.prog 15 [st ⟨#[122]⟩, i64 0, i64 0, i64 7] H (.ret (bl true)) H := ge_ok [122] 7 (by kernel_rfl)
theorem gx8 : Ok Tryz.prog 15 [st ⟨#[110, 111, 116, 32, 120]⟩, i64 0, i64 0, i64 10] H (.ret (bl true)) H := ge_ok [110, 111, 116, 32, 120] 10 (by kernel_rfl)
theorem gx9 : Ok Tryz.prog 15 [st ⟨#[49, 48, 48, 48, 48, 48, 48, 48, 48, 48, 32, 42, 32, 49, 48, 48, 48]⟩, i64 1, i64 1000000000000, i64 0] H (.ret (bl true)) H := gv_ok [49, 48, 48, 48, 48, 48, 48, 48, 48, 48, 32, 42, 32, 49, 48, 48, 48] 1 1000000000000 (by kernel_rfl)
theorem gx10 : Ok Tryz.prog 15 [st ⟨#[49, 48, 48, 48, 48, 48, 48, 48, 48, 48, 32, 42, 32, 49, 48, 48, 49]⟩, i64 0, i64 0, i64 5] H (.ret (bl true)) H := ge_ok [49, 48, 48, 48, 48, 48, 48, 48, 48, 48, 32, 42, 32, 49, 48, 48, 49] 5 (by kernel_rfl)
theorem fx0 : Ok Tryz.prog 21 [st ⟨#[105, 102, 40, 49, 32, 60, 32, 50, 44, 32, 120, 44, 32, 49, 32, 47, 32, 48, 41]⟩, st ⟨#[120]⟩] H (.ret (bl true)) H := ok21 (l := [105, 102, 40, 49, 32, 60, 32, 50, 44, 32, 120, 44, 32, 49, 32, 47, 32, 48, 41]) (w := [120]) (by kernel_rfl)
theorem fx1 : Ok Tryz.prog 21 [st ⟨#[49, 32, 45, 32, 51]⟩, st ⟨#[45, 32, 50]⟩] H (.ret (bl true)) H := ok21 (l := [49, 32, 45, 32, 51]) (w := [45, 32, 50]) (by kernel_rfl)
theorem fx2 : Ok Tryz.prog 21 [st ⟨#[49, 32, 47, 32, 48]⟩, st ⟨#[49, 32, 47, 32, 48]⟩] H (.ret (bl true)) H := ok21 (l := [49, 32, 47, 32, 48]) (w := [49, 32, 47, 32, 48]) (by kernel_rfl)
theorem fx3 : Ok Tryz.prog 21 [st ⟨#[105, 102, 40, 49, 32, 60, 32, 50, 44, 32, 51, 44, 32, 120, 41, 32, 43, 32, 52]⟩, st ⟨#[55]⟩] H (.ret (bl true)) H := ok21 (l := [105, 102, 40, 49, 32, 60, 32, 50, 44, 32, 51, 44, 32, 120, 41, 32, 43, 32, 52]) (w := [55]) (by kernel_rfl)
theorem fx4 : Ok Tryz.prog 21 [st ⟨#[105, 102, 40, 105, 102, 40, 49, 32, 60, 32, 50, 44, 32, 51, 44, 32, 120, 41, 32, 61, 61, 32, 51, 44, 32, 120, 44, 32, 53, 41]⟩, st ⟨#[120]⟩] H (.ret (bl true)) H := ok21 (l := [105, 102, 40, 105, 102, 40, 49, 32, 60, 32, 50, 44, 32, 51, 44, 32, 120, 41, 32, 61, 61, 32, 51, 44, 32, 120, 44, 32, 53, 41]) (w := [120]) (by kernel_rfl)
def ke1 : Ex := (exprR [120]).1
def ke2 : Ex := (exprR [120, 32, 60, 32, 121]).1
def ke3 : Ex := (exprR [120, 32, 43, 32, 121]).1
def ke4 : Ex := (exprR [120, 32, 43, 32, 121, 32, 42, 32, 120]).1
theorem kx1 : Ok Tryz.prog 16 [st ⟨#[120]⟩] H (.ret ke1.v) H := ok16 (l := [120]) (by decide)
theorem kx2 : Ok Tryz.prog 16 [st ⟨#[120, 32, 60, 32, 121]⟩] H (.ret ke2.v) H := ok16 (l := [120, 32, 60, 32, 121]) (by decide)
theorem kx3 : Ok Tryz.prog 16 [st ⟨#[120, 32, 43, 32, 121]⟩] H (.ret ke3.v) H := ok16 (l := [120, 32, 43, 32, 121]) (by decide)
theorem kx4 : Ok Tryz.prog 16 [st ⟨#[120, 32, 43, 32, 121, 32, 42, 32, 120]⟩] H (.ret ke4.v) H := ok16 (l := [120, 32, 43, 32, 121, 32, 42, 32, 120]) (by decide)
theorem ke1_h : ke1.hgt ≤ 100000 := of_decide_eq_true (by kernel_rfl)
theorem ke2_h : ke2.hgt ≤ 100000 := of_decide_eq_true (by kernel_rfl)
theorem ev1 : Ok Tryz.prog 9 [ke1.v, .slc (wds xyN) 2, .slc (ints [1]) 1] H (.ret (.tup [.agg [i64 0, i64 0], i64 3])) H := by
 have := ok9 (H := H) (ns := xyN) (vs := [1]) (e := ke1) ke1_h (by decide)
 have hv : evalF xyN [1] ke1 = .error 3 := rfl
 rw [hv] at this
 exact this
theorem ev2 : Ok Tryz.prog 11 [ke2.v, .slc (wds xyN) 2, .slc (ints [1, 2]) 2] H (.ret (.tup [i64 0, i64 10])) H := by
 have := ok11 (H := H) (ns := xyN) (vs := [1, 2]) (e := ke2) ke2_h (by decide)
 have hv : evalF xyN [1, 2] ke2 = .ok (2, 1) := vIs_eq (by kernel_rfl)
 rw [hv] at this
 exact this
theorem ev3 : Ok Tryz.prog 13 [ke1.v, .slc (wds [[120]]) 1, .slc (ints [1]) 1] H (.ret (.tup [bl false, i64 10])) H := by
 have := ok13 (H := H) (ns := [[120]]) (vs := [1]) (e := ke1) ke1_h (by decide)
 have hv : evalF [[120]] [1] ke1 = .ok (1, 1) := vIs_eq (by kernel_rfl)
 rw [hv] at this
 exact this
def ke5 : Ex := putE [121] (-2) ke3
theorem ke3_l : ke3.lim2 := by
 have : ∃ a b c, ke3 = .mk 8 0 [] [.mk 2 0 [120] [] a, .mk 2 0 [121] [] b] c := ⟨ke3.l0.at, ke3.l1.at, ke3.at, by kernel_rfl⟩
 obtain ⟨a, b, c, h⟩ := this
 rw [h]
 simp [Ex.lim2, Ex.lim2L]
theorem put3 : Ok Tryz.prog 18 [ke3.v, st ⟨#[121]⟩, i64 (-2)] H (.ret ke5.v) H := ok18 (e := ke3) (s := [121]) (by decide) (of_decide_eq_true (by kernel_rfl)) ke3_l
theorem show3 : Ok Tryz.prog 17 [ke5.v] H (.ret (.tup [st ⟨#[120, 32, 43, 32, 40, 45, 32, 50, 41]⟩, i64 0])) H := ok17 (e := ke5) (s := [120, 32, 43, 32, 40, 45, 32, 50, 41]) (nmb_ok _ (by kernel_rfl)) (by kernel_rfl) (of_decide_eq_true (by kernel_rfl)) (by decide) (of_decide_eq_true (by kernel_rfl))
theorem free4 : Ok Tryz.prog 20 [ke4.v] H (.ret (.slc (wds [[120], [121]]) 2)) H := by
 have : ∃ p0 p1 q0 q1 q2, ke4 = exF p0 p1 q0 q1 q2 := ⟨ke4.at, ke4.l1.at, ke4.l0.at, ke4.l1.l0.at, ke4.l1.l1.at, by kernel_rfl⟩
 obtain ⟨p0, p1, q0, q1, q2, h⟩ := this
 rw [h]
 exact ok20c
end
end Go.Proofs.YtcejichidnlicaaGreatDoor
namespace Go.Proofs.YtcejichidnlicaaGreatDoor
open Go.Ab
section
variable {H : List AO}
theorem give2x {f : FuncId} {x : SV} (L : List AO) (ss ts : List SV) {T1 T2 : TypeId} {out : Out} (hx : ∀ n, x.under n = true) (h : ∀ G, Ok Tryz.prog f [x, .slc ss ss.length, .slc ts ts.length] G out G) :
 Ok Tryz.prog f [x, .own (H.length + L.length) 0 ss.length 1 0, .own (H.length + (L.length + 1)) 0 ts.length 1 0] (H ++ (L ++ [⟨ss, T1, 0, true⟩, ⟨ts, T2, 0, true⟩])) out (H ++ (L ++ [AO.dead ⟨ss, T1, 0, true⟩, AO.dead ⟨ts, T2, 0, true⟩])) := by
 have := give2 (H := H ++ L) (T1 := T1) (T2 := T2) ss ts (hx _) h
 simpa [Nat.add_assoc] using this
theorem ok4 : Ok Tryz.prog 4 [] H (.ret (bl true)) H := by
 have k1 := fun H => kx1 (H := H)
 have k2 := fun H => kx2 (H := H)
 have k3 := fun H => kx3 (H := H)
 have k4 := fun H => kx4 (H := H)
 have e1 := fun H => ev1 (H := H)
 have e2 := fun H => ev2 (H := H)
 have e3 := fun H => ev3 (H := H)
 have p3 := fun H => put3 (H := H)
 have s3 := fun H => show3 (H := H)
 have f4 := fun H => free4 (H := H)
 have u1 : ∀ n, ke1.v.under n = true := fun n => Ex.und_v n _
 have u2 : ∀ n, ke2.v.under n = true := fun n => Ex.und_v n _
 have t4 : ke4.v.strip = ke4.v := by obtain ⟨o, k, n, l, p⟩ := ke4; simp [Ex.v, SV.strip]
 generalize ke1.v = w1 at *
 generalize ke2.v = w2 at *
 generalize ke3.v = w3 at *
 generalize ke4.v = w4 at *
 generalize ke5.v = w5 at *
 refine ok_fn hm Tryz.func4 c4 (by simp) fun hcl => ?_
 simp -implicitDefEqProofs [i4, r4]
 refine call_go gx0 ?_
 simp -implicitDefEqProofs
 refine callq_go (fun _ => gx1) ?_
 simp -implicitDefEqProofs
 refine callq_go (fun _ => gx2) ?_
 simp -implicitDefEqProofs
 refine callq_go (fun _ => gx3) ?_
 simp -implicitDefEqProofs
 refine callq_go (fun _ => gx4) ?_
 simp -implicitDefEqProofs
 refine callq_go (fun _ => gx5) ?_
 simp -implicitDefEqProofs
 refine call_go gx6 ?_
 simp -implicitDefEqProofs
 refine callq_go (fun _ => gx7) ?_
 simp -implicitDefEqProofs
 refine callq_go (fun _ => gx8) ?_
 simp -implicitDefEqProofs
 refine callq_go (fun _ => gx9) ?_
 simp -implicitDefEqProofs
 refine callq_go (fun _ => gx10) ?_
 simp -implicitDefEqProofs
 refine call_go (k1 _) ?_
 simp -implicitDefEqProofs
 refine call_go (give2 (H := H) (wds xyN) (ints [1]) (u1 _) e1) ?_
 simp -implicitDefEqProofs [retV]
 refine call_go (k2 _) ?_
 simp -implicitDefEqProofs
 refine call_go (give2x (H := H) [_, _, _] (wds xyN) (ints [1, 2]) u2 e2) ?_
 simp -implicitDefEqProofs [retV]
 refine call_go (k1 _) ?_
 simp -implicitDefEqProofs
 refine call_go (give2x (H := H) [_, _, _, _, _] (wds [[120]]) (ints [1]) u1 e3) ?_
 simp -implicitDefEqProofs [retV]
 refine call_go (k3 _) ?_
 simp -implicitDefEqProofs
 refine call_go (p3 _) ?_
 simp -implicitDefEqProofs
 refine call_go (s3 _) ?_
 simp -implicitDefEqProofs [retV]
 refine callq_go (fun _ => k4 _) ?_
 simp -implicitDefEqProofs
 refine callq_st (r := .slc (wds [[120], [121]]) 2) (fun _ => by simpa [SV.strip, t4] using f4 _) ?_
 simp -implicitDefEqProofs
 refine callq_st (r := bl true) (fun _ => ok19 (x := .slc (wds [[120], [121]]) 2) (y := .own (H.length + 7) 0 2 1 0) (l := [[120], [121]]) (l' := [[120], [121]]) (IsS.slc _ _) ?_ (by decide) (by decide)) ?_
 · exact IsS.own1 (T := 9) (k := 7) rfl rfl
 simp -implicitDefEqProofs
 refine call_go ok8 ?_
 simp -implicitDefEqProofs
 refine callq_go (fun _ => fx0) ?_
 simp -implicitDefEqProofs
 refine callq_go (fun _ => fx1) ?_
 simp -implicitDefEqProofs
 refine callq_go (fun _ => fx2) ?_
 simp -implicitDefEqProofs
 refine callq_go (fun _ => fx3) ?_
 simp -implicitDefEqProofs
 refine callq_go (fun _ => fx4) ?_
 simp -implicitDefEqProofs
 refine cv_fz 4 hcl rfl ?_
 simp
end
end Go.Proofs.YtcejichidnlicaaGreatDoor
namespace Go.Proofs.YtcejichidnlicaaGreatDoor
open Go.Ab
section
variable {H : List AO}
theorem ok22 (a : Int) : ∃ r : Int, 0 ≤ r ∧ r < 2000001 ∧ ∀ H, Ok Tryz.prog 22 [i64 a, i64 2000001] H (.ret (i64 r)) H := by
 have h1 : (a.tmod 2000001).natAbs < 2000001 := by rw [Int.natAbs_tmod]; exact Nat.mod_lt _ (by decide)
 have hc : ∀ H, Ok Tryz.prog 22 [i64 a, i64 2000001] H (.ret (i64 (if a.tmod 2000001 < 0 then a.tmod 2000001 + 2000001 else a.tmod 2000001))) H := by
  intro H
  refine ok_fn hm Tryz.func22 c22 (by simp) fun hcl => ?_
  generalize hr : a.tmod 2000001 = r at *
  by_cases h : r < 0
  · have w : IntKind.i64.wrap (r + 2000001) = r + 2000001 := wrap_id (by omega) (by omega)
    simp -implicitDefEqProofs [i22, r22, hr, h, w]
    exact cv_id
  · simp -implicitDefEqProofs [i22, r22, hr, h]
    exact cv_id
 refine ⟨_, ?_, ?_, hc⟩
 · split <;> omega
 · split <;> omega
end
def abN : List (List UInt8) := [[97], [98]]
def edv : Ex := (exprR [97, 32, 47, 32, 98]).1
def emd : Ex := (exprR [97, 32, 37, 32, 98]).1
def ewh : Ex := (exprR [97, 32, 47, 32, 98, 32, 42, 32, 98, 32, 43, 32, 97, 32, 37, 32, 98, 32, 61, 61, 32, 97]).1
section
variable {H : List AO}
theorem kdv : Ok Tryz.prog 16 [st ⟨#[97, 32, 47, 32, 98]⟩] H (.ret edv.v) H := ok16 (l := [97, 32, 47, 32, 98]) (by decide)
theorem kmd : Ok Tryz.prog 16 [st ⟨#[97, 32, 37, 32, 98]⟩] H (.ret emd.v) H := ok16 (l := [97, 32, 37, 32, 98]) (by decide)
theorem kwh : Ok Tryz.prog 16 [st ⟨#[97, 32, 47, 32, 98, 32, 42, 32, 98, 32, 43, 32, 97, 32, 37, 32, 98, 32, 61, 61, 32, 97]⟩] H (.ret ewh.v) H := ok16 (l := [97, 32, 47, 32, 98, 32, 42, 32, 98, 32, 43, 32, 97, 32, 37, 32, 98, 32, 61, 61, 32, 97]) (by decide)
theorem edv_h : edv.hgt ≤ 100000 := of_decide_eq_true (by kernel_rfl)
theorem emd_h : emd.hgt ≤ 100000 := of_decide_eq_true (by kernel_rfl)
theorem ewh_h : ewh.hgt ≤ 100000 := of_decide_eq_true (by kernel_rfl)
end
theorem numF_in {x : Int} (h : Sm x) : numF x = .ok (1, x) := by
 obtain ⟨h1, h2⟩ := h
 unfold numF
 rw [if_neg (by omega)]
def nmE (s : List UInt8) (p : Int) : Ex := .mk 2 0 s [] p
theorem ev_a {x y : Int} (hx : Sm x) (p : Int) : evE abN [x, y] (nmE [97] p) = .ok (1, x) := by
 rw [nmE, evE, if_neg (by decide), if_neg (by decide), if_pos rfl]
 exact numF_in hx
theorem ev_b {x y : Int} (hy : Sm y) (p : Int) : evE abN [x, y] (nmE [98] p) = .ok (1, y) := by
 rw [nmE, evE, if_neg (by decide), if_neg (by decide), if_pos rfl]
 exact numF_in hy
theorem ev_bin {ns : List (List UInt8)} {vs : List Int} {op a b : Int} {k p : Int} {nm : List UInt8} {e f : Ex} (hop : 5 ≤ op ∧ op ≤ 15) (he : evE ns vs e = .ok (1, a)) (hf : evE ns vs f = .ok (1, b)) :
 evE ns vs (.mk op k nm [e, f] p) = if b = 0 ∧ (op = 6 ∨ op = 7) then .error 6 else if 10 ≤ op ∧ op ≤ 15 then boolF (decide (binP op a b = 1)) else numF (binP op a b) := by
 rw [evE, if_neg, if_neg (by omega), if_neg (by omega), evL, evL, evL, he, hf]
 · unfold appF
   rw [if_neg (by omega), if_neg (by omega), if_neg (by omega), if_neg (by omega), if_neg (by omega)]
   rfl
 · unfold opN
   rw [if_neg (by omega), if_neg (by omega), if_neg (by omega), if_pos (by omega)]
   simp
theorem fd_facts {x y : Int} (hx : -1000000 ≤ x ∧ x ≤ 1000000) (hy : -1000000 ≤ y ∧ y ≤ 1000000) (h0 : y ≠ 0) :
 (0 < y -> 0 ≤ x - y * x.fdiv y ∧ x - y * x.fdiv y < y) ∧ (y < 0 -> y < x - y * x.fdiv y ∧ x - y * x.fdiv y ≤ 0) ∧ -2000000 ≤ x.fdiv y ∧ x.fdiv y ≤ 2000000 ∧ -2000000 ≤ y * x.fdiv y ∧ y * x.fdiv y ≤ 2000000 := by
 have hp : ∀ {u v : Int}, 0 < v -> 0 ≤ u - v * u.fdiv v ∧ u - v * u.fdiv v < v := fun {u v} hv => by
  have h1 := Int.fmod_nonneg_of_pos u hv
  have h2 := Int.fmod_lt_of_pos u hv
  rw [Int.fmod_def] at h1 h2
  exact ⟨h1, h2⟩
 have h1 : 0 < y -> 0 ≤ x - y * x.fdiv y ∧ x - y * x.fdiv y < y := fun h => hp h
 have h2 : y < 0 -> y < x - y * x.fdiv y ∧ x - y * x.fdiv y ≤ 0 := fun h => by
  have := hp (u := -x) (v := -y) (by omega)
  rw [Int.neg_fdiv_neg, Int.neg_mul] at this
  omega
 have h3 : (x.fdiv y).natAbs ≤ (y * x.fdiv y).natAbs := by
  rw [Int.natAbs_mul]
  exact Nat.le_mul_of_pos_left _ (by omega)
 generalize y * x.fdiv y = m at *
 generalize x.fdiv y = q at *
 refine ⟨h1, h2, ?_⟩
 by_cases h : 0 < y
 · have := h1 h; omega
 · have := h2 (by omega); omega
theorem ev_dv {x y : Int} (hx : -1000000 ≤ x ∧ x ≤ 1000000) (hy : -1000000 ≤ y ∧ y ≤ 1000000) :
 asF 1 (evalF abN [x, y] edv) = (if y = 0 then ((0 : Int), (6 : Int)) else (x.fdiv y, 0)) ∧ asF 1 (evalF abN [x, y] emd) = (if y = 0 then ((0 : Int), (6 : Int)) else (x - y * x.fdiv y, 0)) ∧
 (y ≠ 0 -> asF 2 (evalF abN [x, y] ewh) = (1, 0)) := by
 have d1 : ∃ a b c, edv = .mk 6 0 [] [nmE [97] a, nmE [98] b] c := ⟨edv.l0.at, edv.l1.at, edv.at, by kernel_rfl⟩
 have d2 : ∃ a b c, emd = .mk 7 0 [] [nmE [97] a, nmE [98] b] c := ⟨emd.l0.at, emd.l1.at, emd.at, by kernel_rfl⟩
 have d3 : ∃ a b c d e f g h i j k, ewh = .mk 10 0 [] [.mk 8 0 [] [.mk 5 0 [] [.mk 6 0 [] [nmE [97] a, nmE [98] b] c, nmE [98] d] e, .mk 7 0 [] [nmE [97] f, nmE [98] g] h] i, nmE [97] j] k :=
  ⟨ewh.l0.l0.l0.l0.at, ewh.l0.l0.l0.l1.at, ewh.l0.l0.l0.at, ewh.l0.l0.l1.at, ewh.l0.l0.at, ewh.l0.l1.l0.at, ewh.l0.l1.l1.at, ewh.l0.l1.at, ewh.l0.at, ewh.l1.at, ewh.at, by kernel_rfl⟩
 obtain ⟨a1, b1, c1, d1⟩ := d1
 obtain ⟨a2, b2, c2, d2⟩ := d2
 obtain ⟨a, b, c, d, e, f, g, h, i, j, k, d3⟩ := d3
 have sx : Sm x := ⟨by omega, by omega⟩
 have sy : Sm y := ⟨by omega, by omega⟩
 have ea := fun p => ev_a (y := y) sx p
 have eb := fun p => ev_b (x := x) sy p
 have hf := fd_facts hx hy
 have b6 : binP 6 x y = x.fdiv y := rfl
 have b7 : binP 7 x y = x - y * x.fdiv y := rfl
 have n0 : ∀ z, evalF abN [x, y] z = evE abN [x, y] z := fun z => by unfold evalF; rw [if_neg (by simp [abN])]
 rw [n0, n0, n0, d1, d2, d3]
 refine ⟨?_, ?_, fun h0 => ?_⟩
 · rw [ev_bin (by omega) (ea _) (eb _), b6]
   by_cases h0 : y = 0
   · rw [if_pos ⟨h0, .inl rfl⟩, if_pos h0]; rfl
   · have := hf h0
     rw [if_neg (by omega), if_neg (by omega), if_neg h0, numF_in ⟨by omega, by omega⟩]
     rfl
 · rw [ev_bin (by omega) (ea _) (eb _), b7]
   by_cases h0 : y = 0
   · rw [if_pos ⟨h0, .inr rfl⟩, if_pos h0]; rfl
   · have := hf h0
     rw [if_neg (by omega), if_neg (by omega), if_neg h0, numF_in ⟨by omega, by omega⟩]
     rfl
 · have hq := hf h0
   have e6 : evE abN [x, y] (.mk 6 0 [] [nmE [97] a, nmE [98] b] c) = .ok (1, x.fdiv y) := by
    rw [ev_bin (by omega) (ea _) (eb _), b6, if_neg (by omega), if_neg (by omega), numF_in ⟨by omega, by omega⟩]
   have e7 : evE abN [x, y] (.mk 7 0 [] [nmE [97] f, nmE [98] g] h) = .ok (1, x - y * x.fdiv y) := by
    rw [ev_bin (by omega) (ea _) (eb _), b7, if_neg (by omega), if_neg (by omega), numF_in ⟨by omega, by omega⟩]
   have e5 : evE abN [x, y] (.mk 5 0 [] [.mk 6 0 [] [nmE [97] a, nmE [98] b] c, nmE [98] d] e) = .ok (1, y * x.fdiv y) := by
    rw [ev_bin (by omega) e6 (eb _), if_neg (by omega), if_neg (by omega)]
    have : binP 5 (x.fdiv y) y = y * x.fdiv y := by
     show mulP (x.fdiv y) y = _
     unfold mulP
     rw [Int.mul_comm, if_pos (by omega)]
    rw [this, numF_in ⟨by omega, by omega⟩]
   have e8 : evE abN [x, y] (.mk 8 0 [] [.mk 5 0 [] [.mk 6 0 [] [nmE [97] a, nmE [98] b] c, nmE [98] d] e, .mk 7 0 [] [nmE [97] f, nmE [98] g] h] i) = .ok (1, x) := by
    rw [ev_bin (by omega) e5 e7, if_neg (by omega), if_neg (by omega)]
    have : binP 8 (y * x.fdiv y) (x - y * x.fdiv y) = x := by
     show y * x.fdiv y + (x - y * x.fdiv y) = x
     omega
    rw [this, numF_in sx]
   rw [ev_bin (by omega) e8 (ea _), if_neg (by omega), if_pos (by omega)]
   have : binP 10 x x = 1 := by show tru (decide (x = x)) = 1; simp [tru]
   rw [this]
   rfl
set_option maxRecDepth 4000 in
theorem ok5 (a b : Int) : Ok Tryz.prog 5 [i64 a, i64 b] [] (.ret (bl true)) [] := by
 obtain ⟨x0, hx0, hx1, hX⟩ := ok22 a
 obtain ⟨y0, hy0, hy1, hY⟩ := ok22 b
 obtain ⟨x, rfl⟩ : ∃ x, x0 = x + 1000000 := ⟨x0 - 1000000, by omega⟩
 obtain ⟨y, rfl⟩ : ∃ y, y0 = y + 1000000 := ⟨y0 - 1000000, by omega⟩
 have wx : IntKind.i64.wrap x = x := wrap_id (by omega) (by omega)
 have wy : IntKind.i64.wrap y = y := wrap_id (by omega) (by omega)
 have hx : -1000000 ≤ x ∧ x ≤ 1000000 := by omega
 have hy : -1000000 ≤ y ∧ y ≤ 1000000 := by omega
 have k1 := fun H => kdv (H := H)
 have k2 := fun H => kmd (H := H)
 have k3 := fun H => kwh (H := H)
 have e1 := fun H => ok11 (H := H) (ns := abN) (vs := [x, y]) edv_h (by decide)
 have e2 := fun H => ok11 (H := H) (ns := abN) (vs := [x, y]) emd_h (by decide)
 have e3 := fun H => ok13 (H := H) (ns := abN) (vs := [x, y]) ewh_h (by decide)
 obtain ⟨v1, v2, v3⟩ := ev_dv hx hy
 have hf := fd_facts hx hy
 rw [v1] at e1
 rw [v2] at e2
 clear v1 v2
 generalize edv.v = w1 at *
 generalize emd.v = w2 at *
 generalize ewh.v = w3 at *
 refine ok_WI hm Tryz.func5 c5 rfl fun hcl => ?_
 rw [show i5 = .seq (IC.nth 0 i5) (.seq (IC.nth 1 i5) (.seq (IC.nth 2 i5) (.seq (IC.nth 3 i5) (IC.tl 4 i5)))) from rfl]
 generalize ht : IC.tl 4 i5 = t4
 refine WI.seq (draw_ok hm) ?_
 simp -implicitDefEqProofs [IC.nth, i5]
 refine WI.seq (draw_ok hm) ?_
 simp -implicitDefEqProofs [IC.nth, i5]
 refine call_go ok4 ?_
 simp -implicitDefEqProofs
 refine WI.seq (draw_ok hm) ?_
 simp -implicitDefEqProofs [IC.nth, i5]
 refine call_go (hX _) ?_
 simp -implicitDefEqProofs
 refine call_go (hY _) ?_
 simp -implicitDefEqProofs [wx, wy]
 refine WI.seq (draw_ok hm) ?_
 simp -implicitDefEqProofs [IC.nth, i5, wx, wy]
 refine WI.tell (Tell.give (H0 := []) (by intro i o h; simp at h) 0 1 (o := ⟨[st ⟨#[97]⟩, st ⟨#[98]⟩], 9, 0, true⟩) rfl rfl) ?_
 simp -implicitDefEqProofs [AO.gv, AO.dead]
 refine WI.tell (Tell.give (H0 := []) (by intro i o h; simp at h) 1 1 (o := ⟨[i64 x, i64 y], 3, 0, true⟩) rfl rfl) ?_
 simp -implicitDefEqProofs [AO.gv, AO.dead]
 refine WI.of_X (draw_ok hm) ?_
 rw [← ht]
 simp -implicitDefEqProofs [IC.tl, i5, r5]
 refine call_go (k1 _) ?_
 simp -implicitDefEqProofs
 refine call_go (e1 _) ?_
 by_cases h0 : y = 0
 · simp -implicitDefEqProofs [h0]
   refine call_go (k2 _) ?_
   simp -implicitDefEqProofs
   rw [if_pos h0] at e2
   subst h0
   refine call_go (e2 _) ?_
   simp -implicitDefEqProofs
   refine cv_fz (H := []) 4 hcl rfl ?_
   simp
 · rw [if_neg h0] at e2
   obtain ⟨f1, f2, f3, f4, f5, f6⟩ := hf h0
   rw [v3 h0] at e3
   simp -implicitDefEqProofs [h0]
   refine call_go (k2 _) ?_
   simp -implicitDefEqProofs
   refine call_go (e2 _) ?_
   simp -implicitDefEqProofs [h0]
   refine call_go (k3 _) ?_
   simp -implicitDefEqProofs
   refine call_go (e3 _) ?_
   generalize hmm : x - y * x.fdiv y = m at *
   generalize x.fdiv y = q at *
   have hp : IntKind.i64.wrap (q * y) = x - m := by rw [Int.mul_comm, wrap_id (by omega) (by omega)]; omega
   have hs : IntKind.i64.wrap (x - m + m) = x := by rw [Int.sub_add_cancel]; exact wx
   simp -implicitDefEqProofs [h0, hp, wx]
   have key : ((decide (m = 0) || decide (m < 0) == decide (y < 0)) && decide (max m (IntKind.i64.wrap (-m)) < max y (IntKind.i64.wrap (-y)))) = true := by
    rw [wrap_id (n := -m) (by omega) (by omega), wrap_id (n := -y) (by omega) (by omega), Bool.and_eq_true]
    refine ⟨?_, by simp only [decide_eq_true_eq]; omega⟩
    by_cases hy2 : y < 0
    · have := f2 hy2
      by_cases hm0 : m = 0
      · simp [hm0]
      · simp [hm0, hy2, show m < 0 by omega]
    · have := f1 (by omega)
      simp [show ¬ m < 0 by omega, hy2]
   rw [key]
   refine cv_fz (H := []) 4 hcl rfl ?_
   simp
theorem u3 : Tryz.prog.underlying 3 = some (.int .i64) := by kernel_rfl
theorem int_of {d : Dt} (h : d.ty Tryz.prog 3) : ∃ n, d = .int .i64 n := by
 cases d with
 | int k n => have := h.1; rw [u3] at this; cases this; exact ⟨n, rfl⟩
 | bool b => have h : Tryz.prog.underlying 3 = _ := h; rw [u3] at h; cases h
 | str s => have h := h.1; rw [u3] at h; cases h
 | sl l => obtain ⟨e, h, _⟩ := h; rw [u3] at h; cases h
 | agg l => obtain ⟨e, h, _⟩ := h; rw [u3] at h; cases h
theorem law5 : ∀ dts, Dt.tyL Tryz.prog dts [3, 3] -> Ok Tryz.prog 5 (dts.map Dt.sv) [] (.ret (bl true)) [] := by
 intro dts h
 match dts, h with
 | [d1, d2], h =>
  obtain ⟨h1, h2, _⟩ := h
  obtain ⟨n1, rfl⟩ := int_of h1
  obtain ⟨n2, rfl⟩ := int_of h2
  exact ok5 n1 n2
end Go.Proofs.YtcejichidnlicaaGreatDoor
namespace Go.Proofs.YtcejichidnlicaaGreatDoor
open Go.Ab Go.ChangeShapes Go.WideShapes Go.ChangeAt Go.RowKit
def laid3 : List (String × DataW Unit) := [("errors.errorType", Rows.laid_errors_errorType)]
theorem own : ownKnob Tryz.prog.godebug = none := by kernel_rfl
theorem laidOut : laidOutB Tryz.prog = true := by kernel_rfl
theorem gE : Tryz.prog.globalNamed "errors.errorType" = some 0 := by kernel_rfl
theorem rtE : (Tryz.prog.cutTypes.find? (·.1 == "internal/reflectlite.rtype")).map (·.2) = some 153 := by kernel_rfl
theorem size : Tryz.prog.types.size = 195 := by kernel_rfl
theorem oneRow : ((List.range 195).filter fun t => Tryz.prog.rowNamed t [101, 114, 114, 111, 114]) = [117] := by kernel_rfl
theorem door_met (os : Os) (args : Array Value) : laidMetH Tryz.prog laid3 ((World.doorLaid Tryz.prog 400 os).forCall (fun _ _ => 0) ⟨#[], args, []⟩).memory :=
 laidMetH_of_parts3 (fuel := 8) (laidMet_of_run' 8 (by kernel_rfl) (by kernel_rfl)) (by kernel_rfl) (by kernel_rfl)
theorem gl_of {W : World} (h : laidMetH Tryz.prog laid3 W) : (st0 W).GL := by
 have h' : laidMet Tryz.prog [] W ∧ handlesMet Tryz.prog [("errors.errorType", Rows.laid_errors_errorType)] W := h
 obtain ⟨_, hh⟩ := h'
 obtain ⟨name, u, ty, e1, e2, e3, e4, e5⟩ := hh _ (List.mem_singleton.2 rfl)
 have en : name = [101, 114, 114, 111, 114] := (Option.some.inj e1).symm
 subst en
 obtain rfl := Option.some.inj (rtE.symm.trans e2)
 have hm : ty ∈ (List.range 195).filter fun t => Tryz.prog.rowNamed t [101, 114, 114, 111, 114] := List.mem_filter.2 ⟨List.mem_range.2 (by rw [← size]; exact e3), e4⟩
 rw [oneRow] at hm
 obtain rfl := List.mem_singleton.1 hm
 have hh : typeHandle Tryz.prog 117 = .pointer (some ⟨1, 117, none⟩) := by kernel_rfl
 rw [hh] at e5
 have key : ∀ (g : Nat) (nm : String) (cs : Array Value) (us : List Value), Tryz.prog.globalNamed nm = some g -> W.var? Tryz.prog nm = some cs -> cs.toList = us -> us.all isNumV = true -> (st0 W).Imm ⟨g, 0, none⟩ us := by
  intro g nm cs us h1 h2 h3 h4
  refine ⟨fun j u hj => ?_, fun _ => rw0 W _, fun _ _ => .inr h4⟩
  have := World.var?_cell h1 h2 j
  have e : ((⟨g, 0, none⟩ : Addr).add j) = ⟨g, j, none⟩ := by unfold Addr.add; split <;> simp_all
  rw [e]
  show W.cell? _ = _
  rw [this, <- Array.getElem?_toList, h3]; exact hj
 intro g us hg
 match g, hg with
 | 0, hg => cases hg; exact key 0 _ _ _ gE e5 rfl rfl
end Go.Proofs.YtcejichidnlicaaGreatDoor
namespace Go.Proofs.YtcejichidnlicaaGreatDoor
open Go Go.Ab Go.ChangeShapes Go.WideShapes Go.ChangeAt Go.RowKit
theorem leaves_of_alone {P : Program} {last : Machine} {w : World} {t : Trace} (h : aloneAtReturn P last w t) : leavingAtReturn P last w t := by
 obtain ⟨⟨h1, h2⟩, h3, h4⟩ := h
 refine ⟨h3, ⟨fun g hg => ⟨0, ?_⟩, h2⟩, h4⟩
 unfold Machine.othersDone at h1
 have h5 := List.all_eq_true.1 h1 g hg
 show g.status = .finished
 exact beq_iff_eq.1 h5
theorem leaving_of_handed {a : Assume} {C : Checked} {os : Os} {f : FuncId} {r : Reach} {Pre : World -> Array Value -> Prop} {Post : World -> Array Value -> Value -> World -> Prop}
 (h : ReturnsInHanded a C os f r Pre Post) : ReturnsInLeavingWide a C os f r Pre Post := fun e =>
 ReturnsInOpen.mono (fun _ _ _ x => leaves_of_alone x) (fun _ x => x) (h e)
theorem tied_goes (Lk : Looks) {p : Pinned} {s : OpenSpec} {c : OpenClaim} (kinds : List LaidKind) (tests : Bool) (har : Bool × String) (lk : Bool)
 (hc : c.holds p s) (hw : c.wfByText s = true)
 (htie : c.laidByTextAt Lk p kinds tests)
 (hst : c.start = .entering) (hnb : c.noBlocks = false ∧ c.again = false) (hm : p.checked.prog.mainIs = some (har.1, har.2.toList)) (hn : (!har.1 && har.2.isEmpty && !lk) = false)
 (hl : ∀ f fn, p.checked.prog.funcNamed c.func = some f -> p.checked.prog.funcs[f]? = some fn -> lk = p.checked.prog.looks [] ∧ ∀ (j : Nat) t, fn.params[j]? = some t -> p.checked.prog.wantsStandIn t = false)
 (hg : true = c.goesBy p.checked.prog) :
 Claim7.holds p (.plain s) { stood := { row := c, standIns := [], harness := har, looks := lk }, kinds := [], alts := [], goes := true, laidByText := true, laidKinds := kinds, laidTests := tests, laidLooks := Lk } := by
 have h6 : ∀ r : OpenClaim, Claim7.isSixth { stood := { row := r, standIns := [], harness := har, looks := lk }, kinds := [] } = false := fun r => by simpa [Claim7.isSixth] using hn
 exact ⟨Claim7.tied_new_at Lk kinds tests (Claim7.new_of_sixth hc har lk hst hnb hm (h6 c) hl) hw, (fun D hD => by cases hD), htie, (fun h => by cases h), hg⟩
end Go.Proofs.YtcejichidnlicaaGreatDoor
