/-
  Steps of the proof: contracts of functions and plain facts that the statement rests on.
-/
import Derived.Test.YtbfeaikiiamhaaaUG9
set_option linter.all false
namespace Go.Proofs.Ytbfeaikiiamhaaa.Rc
open Go.Ab
section
variable {A B : List AO} {c : Mc} {s : Ms} {level : Nat} {seen : List (List Int)}
def gb : AO := ⟨[i64 0, i64 0, i64 0, .val (.slice none 0 0), .val (.slice none 0 0), .val (.slice none 0 0)], 39, 0, true⟩
def Ms.push (s : Ms) : Ms := { s with ns := s.ns ++ [phN], vn := s.vn + 1, pend := s.pend - 1 }
def m60 : IC := .seq (IC.nth 4 i42) (.seq (IC.nth 5 i42) (.seq (IC.nth 6 i42) (.seq (IC.nth 7 i42) t60)))
theorem h60' : i42 = .seq (IC.nth 0 i42) (.seq (IC.nth 1 i42) (.seq (IC.nth 2 i42) (.seq (IC.nth 3 i42) m60))) := rfl
set_option maxRecDepth 10000 in
theorem mid60 {env : Env} {N : Nat} (hc : c.Good) (hle : level ≤ c.lv.length) (hb : level < c.lv.length → BuildOk c (level + 1)) (hi : MInv c s level) (hp1 : 1 ≤ s.pend) (hcl : closed (c.hp A B s)) (hs : (seen.length : Int) = c.pl) (hsl : ∀ l ∈ seen, l.length ≤ level)
    (h0 : env.get 0 = .ptr (.own (A.length + 1) 0 0 0 0) 0) (h1 : env.get 1 = i64 level) (h2 : env.get 2 = seenV seen) (h7 : env.get 7 = i64 s.ns.length) :
    X Try.prog N drawB m60 env (c.hp A (B ++ [gb]) s.push) (FinP (A.length + (B.length + 6)) r42 (buildP c A B s level)) := by
  have hcm := hc.m
  have hml := hi.ml
  have hcp := hc.p2
  have hil := hi.il
  have hvl := hi.vl
  have hlv := hc.lv
  have hend : ∀ a : Int, 0 ≤ a → OkP Try.prog 55 [.ptr (.own (A.length + 1) 0 0 0 0) 0, i64 s.ns.length] (c.hp A (B ++ [gb]) { s.push with at' := a }) (endQ c A (B ++ [gb]) { s.push with at' := a } s.ns.length) := fun a ha =>
    ok55 (A := A) (B := B ++ [gb]) (c := c) (s := { s.push with at' := a }) (k := s.ns.length) hc.l ha hc.p1 hc.p2 (by simp [Ms.push]) (by simp [Ms.push]; omega)
  have hfin : ∀ (a : Int), 0 ≤ a → ∀ o G', endQ c A (B ++ [gb]) { s.push with at' := a } s.ns.length o G' → o = .ret (.tup []) ∧ FinQ (c.hp A B s).length (buildP c A B s level) (i64 s.ns.length) G' := by
    rintro a ha o G' ⟨rfl, ps, a', p1, p2, p3, rfl⟩
    exact ⟨rfl, _, _, ⟨rfl, _, _, _, _, post_end (s3 := { s.push with at' := a }) hc hi hp1 rfl rfl rfl rfl p1 p2 p3, rfl⟩, hp_fin hcl rfl (fz_i64 _ _ _ _ _)⟩
  rw [hp_len] at hfin
  by_cases hlev : level = c.lv.length
  · simp -implicitDefEqProofs [m60, IC.nth, i42, r42, Mc.hp, Mc.M, h0, h1, h2, h7, hlev]
    refine call_goP (hend s.at' hi.a0) ?_
    intro o G' hq
    obtain ⟨rfl, hf⟩ := hfin _ hi.a0 _ _ hq
    simp -implicitDefEqProofs [h0, h1, h2, h7]
    rw [hlev] at hf
    exact hf
  · have hlt : level < c.lv.length := by omega
    have hd := rws_at lcN_len hlt
    have hd1 := rws_ge lcN_len hlt
    have hd2 := rws_min lcN_len hlt
    rw [lcN, List.cons_append, List.cons_append, List.cons_append, List.nil_append] at hd
    have hlr := hc.lvr _ (List.getElem_mem hlt)
    simp -implicitDefEqProofs [m60, IC.nth, i42, r42, Mc.hp, Mc.M, h0, h1, h2, h7, show ¬ ((level : Int) = c.lv.length) by omega]
    refine call_goP (OkP.strip (by show OkP Try.prog 30 [.ptr (.own A.length 0 0 0 0) 0, i64 8] _ _; exact ok30m (A := A) (B := B ++ [gb]) (c := c) (s := s.push) (n := 8) hc.l hi.a0 (by omega))) ?_
    rintro o G' ⟨v, a, rfl, ha, hv1, hv2, rfl⟩
    by_cases hv : v = 1
    · simp -implicitDefEqProofs [h0, h1, h2, h7, Mc.hp, Mc.M, hv, show ¬ ((level : Int) = c.lv.length) by omega]
      refine call_goP (hend a ha) ?_
      intro o G' hq
      obtain ⟨rfl, hf⟩ := hfin _ ha _ _ hq
      simp -implicitDefEqProofs [h0, h1, h2, h7]
      exact hf
    · generalize hx : c.lv[level] = x at hd hlr
      obtain ⟨x0, x1, x2⟩ := x
      simp only at hd hlr
      have htail := fun (s2 : Ms) (info many : Nat) (env : Env) (hm : MMid c s s2 level x0 info many) (k0 : env.get 0 = _) (k1 : env.get 1 = _) (k2 : env.get 2 = _) (k7 : env.get 7 = _) (k8 : env.get 8 = _) (k9 : env.get 9 = _) (k10 : env.get 10 = _) =>
        tail60 (A := A) (B := B) (c := c) (s := s) (s2 := s2) (seen := seen) (env := env) (g := gb) (N := N) (x1 := x1) (x2 := x2) hc hi hp1 hm (hb hlt) hcl (Cl.cons rfl (Cl.nil _)) hlt hs hsl k0 k1 k2 k7 k8 k9 k10
      by_cases hx0 : 0 ≤ x0
      · have hxl : x0.toNat < seen.length := by omega
        simp -implicitDefEqProofs [h0, h1, h2, h7, Mc.hp, Mc.M, Mc.L, hv, hd, hd1, hd2, hx0, hxl, seenV, sl, show x0 < (seen.length : Int) by omega, show ¬ ((level : Int) = c.lv.length) by omega, Nat.add_assoc, show 1 ≤ seen.length - x0.toNat by omega]
        refine ⟨hlt, ?_⟩
        have h74 := ok56 (A := A) (B := B ++ [gb, ⟨[i64 x0, i64 x1, i64 x2], 78, 0, true⟩]) (c := c) (s := { s.push with at' := a }) (pl := x0) (lv := level) (sn := seen[x0.toNat]) hc.l ha (by simp [Ms.push]; omega) (by simp [Ms.push]; omega) (fun v h => hi.vsn v h)
        refine call_goP (by simpa [Mc.hp, Mc.M, Mc.L, sl] using h74) ?_
        rintro o G' (⟨i, hil', e1, e2, rfl, rfl⟩ | ⟨k, a', hk1, hk2, ha', rfl, rfl⟩)
        · have hil2 : i < s.vs.length := hil'
          have hii : i < s.is.length := by omega
          obtain ⟨v1, v2⟩ := hi.vi i hil2
          have q1 := rws_get icN_len (t := 1) hii (by omega)
          simp only [icN, List.getElem?_cons_zero, List.getElem?_cons_succ] at q1
          have q2 := rws_ge icN_len hii
          have hr := hi.isr _ (List.getElem_mem hii)
          obtain ⟨many, hmany⟩ : ∃ m : Nat, s.is[i].2 = m := ⟨s.is[i].2.toNat, by omega⟩
          rw [hmany] at q1
          simp -implicitDefEqProofs [h0, h1, h2, h7, Mc.hp, Mc.M, Mc.I, Ms.push, v1, hii, q1, q2]
          refine ⟨by omega, ?_⟩
          have hq : s.is[i]? = some (x0, (many : Int)) := by
            rw [List.getElem?_eq_getElem hii, ← hmany]
            have : s.is[i].1 = x0 := by rw [← v2]; exact e1
            rw [← this]
          have := fun env k0 k1 k2 k7 k8 k9 k10 => htail { s.push with at' := a } i many env ⟨rfl, rfl, ha, by omega, .inr ⟨hx0, hq, .inl ⟨rfl, rfl, hil2, e2⟩⟩⟩ k0 k1 k2 k7 k8 k9 k10
          simp only [Mc.hp, Mc.M, Mc.I, Ms.push, List.length_append, List.length_singleton] at this ⊢
          refine this _ ?_ ?_ ?_ ?_ ?_ ?_ ?_ <;> simp [h0, h1, h2, h7]
        · obtain ⟨many, hmany⟩ : ∃ m : Nat, k = m := ⟨k.toNat, by omega⟩
          subst hmany
          have hii : s.is.length < (s.is ++ [(x0, (many : Int))]).length := by simp
          have q1 := rws_get icN_len (l := s.is ++ [(x0, (many : Int))]) (t := 1) hii (by omega)
          rw [List.getElem_append_right (by omega)] at q1
          simp only [icN, List.getElem?_cons_zero, List.getElem?_cons_succ, Nat.sub_self, List.getElem_cons_zero] at q1
          have q2 := rws_ge icN_len hii
          simp -implicitDefEqProofs [h0, h1, h2, h7, Mc.hp, Mc.M, Mc.I, Ms.push, Ms.addV, q1, q2]
          refine ⟨by omega, by omega, ?_⟩
          have := fun env k0 k1 k2 k7 k8 k9 k10 => htail ({ s.push with at' := a }.addV x0 level seen[x0.toNat] many a') s.is.length many env ⟨rfl, rfl, ha', by omega, .inr ⟨hx0, by simp [Ms.addV, Ms.push], .inr ⟨by omega, rfl, rfl, _, (by have := hsl _ (List.getElem_mem hxl); omega), rfl⟩⟩⟩ k0 k1 k2 k7 k8 k9 k10
          simp only [Mc.hp, Mc.M, Mc.I, Ms.push, Ms.addV, List.length_append, List.length_singleton] at this ⊢
          refine this _ ?_ ?_ ?_ ?_ ?_ ?_ ?_ <;> simp [h0, h1, h2, h7]
      · simp -implicitDefEqProofs [h0, h1, h2, h7, Mc.hp, Mc.M, Mc.L, hv, hd, hd1, hd2, hx0, show ¬ ((level : Int) = c.lv.length) by omega]
        refine ⟨hlt, ?_⟩
        obtain ⟨many, hmany⟩ : ∃ m : Nat, x1 = m := ⟨x1.toNat, by omega⟩
        refine htail { s.push with at' := a } 0 many _ ⟨rfl, rfl, ha, by omega, .inl ⟨by omega, rfl, rfl, rfl⟩⟩ ?_ ?_ ?_ ?_ ?_ ?_ ?_ <;> simp [h0, h1, h2, h7, hmany]
set_option maxRecDepth 10000 in
theorem build_step (hc : c.Good) (hle : level ≤ c.lv.length) (hb : level < c.lv.length → BuildOk c (level + 1)) : BuildOk c level := by
  intro A B s seen hi hp1 hs hsl
  refine okP_fn hm' Try.func42 c42 (by simp) fun hcl => ?_
  have hcm := hc.m
  have hml := hi.ml
  have z0 := rws_len Nd.lenN s.ns
  have w1 : IntKind.i64.wrap (s.pend - 1) = s.pend - 1 := wrap_id (by omega) (by omega)
  have ePh : rws Nd.cN (s.ns ++ [phN]) = rws Nd.cN s.ns ++ [i64 0, i64 0, i64 0, .val (.slice none 0 0), .val (.slice none 0 0), .val (.slice none 0 0)] := by rw [rws_app]; rfl
  rw [h60']
  simp -implicitDefEqProofs [IC.nth, i42, Mc.hp, Mc.M, Mc.N, w1, z0]
  refine ⟨rfl, by omega, by omega, ?_⟩
  have := fun env h0 h1 h2 h7 => mid60 (env := env) (N := Try.f42.ntmps) hc hle hb hi hp1 hcl hs hsl h0 h1 h2 h7
  simp only [Mc.hp, Mc.D, Mc.M, Mc.N, Mc.V, Mc.I, Ms.push, gb, ePh, List.append_assoc, List.length_append, List.length_singleton] at this ⊢
  refine this _ ?_ ?_ ?_ ?_ <;> simp
end
end Go.Proofs.Ytbfeaikiiamhaaa.Rc

