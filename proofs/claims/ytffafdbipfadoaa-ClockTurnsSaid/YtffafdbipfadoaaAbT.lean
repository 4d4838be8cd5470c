/-
  An object that is given up at a call: what leads to it is told as what lies there.
-/
import Derived.Test.YtffafdbipfadoaaAbS
set_option linter.all false
namespace Go.Ab

/-- A value in which the object k (these cells) is written out. -/
def SV.gv (k ver : Nat) (cs : List SV) : Nat → SV → SV
  | 0, s => s
  | d + 1, s =>
    match s with
    | .own i off len sz v => if i = k ∧ v = ver ∧ off + len * sz ≤ cs.length then .slc ((cs.drop off).take (len * sz)) len else .own i off len sz v
    | .agg l => .agg (l.map (SV.gv k ver cs d))
    | .tup l => .tup (l.map (SV.gv k ver cs d))
    | s => s

section
variable {S : St} {k : Nat} {o : AO}
theorem gv_rel (hS : Sim S) (ho : S.H[k]? = some o) (hl : o.live = true) : ∀ (d : Nat) (s : SV) (v : Value), VR S s v → VR ⟨S.ρ, S.H.set k o.dead, S.w⟩ (s.gv k o.ver o.cells d) v := by
  have he := ext_kill ho
  intro d
  induction d with
  | zero => intro s v h; exact h.ext he
  | succ d ih =>
    intro s v h
    unfold SV.gv
    split
    · rename_i i off len sz ver
      split
      · rename_i hc
        obtain ⟨rfl, rfl, hlen⟩ := hc
        obtain ⟨ad, cap, rfl, hcap, hz, hat⟩ := h.own_inv ho rfl
        have h1 := hS.live i o ho hl
        unfold St.OwnAt at hat
        cases hρ : S.ρ i with
        | none =>
          rw [hρ] at hat
          obtain ⟨rfl, rfl⟩ := hat
          cases ad with
          | none => simpa using VR.nilslc
          | some a =>
            simp only [Nat.zero_mul, List.take_zero]
            exact .slc [] 0 a 0 [] hcap rfl ⟨fun j u hj => by simp at hj, fun hne => absurd rfl hne⟩ fun j s u hj => by simp at hj
        | some b =>
          rw [hρ] at hat h1
          obtain ⟨us, rest, hh, hvr⟩ := h1
          have hul : us.length = o.cells.length := hvr.1
          have him : (⟨S.ρ, S.H.set i o.dead, S.w⟩ : St).Imm ⟨b, off, none⟩ ((us.drop off).take (len * sz)) := by
            refine ⟨?_, ?_⟩
            · intro j u hj
              rw [List.getElem?_take] at hj
              split at hj
              · rw [List.getElem?_drop] at hj
                have hadd : (⟨b, off, none⟩ : Addr).add j = ⟨b, off + j, none⟩ := by unfold Addr.add; split <;> simp_all
                rw [hadd]
                show S.w.cell? _ = _
                unfold World.cell?
                simp only [hh, Option.isSome_none, Bool.false_eq_true, if_false]
                simp [List.getElem?_append_left (getElem?_lt hj), hj]
              · cases hj
            · rintro hne ⟨j, p, hp, hpl, hpρ⟩
              simp only at hp hpρ
              by_cases hij : j = i
              · subst hij; rw [List.getElem?_set_self (getElem?_lt ho)] at hp; cases hp; simp [AO.dead] at hpl
              · rw [List.getElem?_set_ne (by omega)] at hp
                exact hij (hS.inj j i p o b hp ho hpl hl hpρ hρ)
          have hvs : VRs (⟨S.ρ, S.H.set i o.dead, S.w⟩ : St) ((o.cells.drop off).take (len * sz)) ((us.drop off).take (len * sz)) := ((hvr.ext he).drop off).take (len * sz)
          cases ad with
          | none =>
            have h0 := hz rfl
            subst h0
            have hc0 : cap = 0 := by
              rcases hat with h2 | ⟨h2, _⟩
              · exact h2
              · cases h2
            subst hc0
            simpa using VR.nilslc
          | some a =>
            rcases hat with h2 | ⟨h2, _⟩
            · have : len = 0 := by omega
              subst this
              simp only [Nat.zero_mul, List.take_zero]
              exact .slc [] 0 a cap [] hcap rfl ⟨fun j u hj => by simp at hj, fun hne => absurd rfl hne⟩ fun j s u hj => by simp at hj
            · cases h2
              exact .slc _ len _ cap _ hcap hvs.1 him hvs.2
      · exact h.ext he
    · cases h with
      | agg _ us hl h => exact VR.of_agg (VRs.map (S := S) (us := us) ⟨hl, h⟩ ih)
    · cases h with
      | tup _ us hl h => exact VR.of_tup (VRs.map (S := S) (us := us) ⟨hl, h⟩ ih)
    · exact h.ext he
end

theorem Ok.give {P : Program} {f : FuncId} {args : List SV} {H H' : List AO} {out : Out} (k : Nat) (d : Nat) {o : AO} (ho : H[k]? = some o) (hl : o.live = true)
    (h : Ok P f (args.map (SV.gv k o.ver o.cells d)) (setObj H k AO.dead) out H') : Ok P f args H out H' := by
  refine ⟨h.1, ?_⟩
  intro S vs hH hS hvs
  subst hH
  have e : setObj S.H k AO.dead = S.H.set k o.dead := by unfold setObj; rw [ho]
  have h1 := h.2 ⟨S.ρ, S.H.set k o.dead, S.w⟩ vs e.symm (sim_kill hS ho) (hvs.map (gv_rel hS ho hl d))
  refine h1.mono ?_
  rintro en w' ⟨v, ρ', hext, hsim, hout⟩
  refine ⟨v, ρ', (ext_kill ho).trans (hext.mono (by simp)), hsim, hout⟩
@[simp] theorem dead_eq (o : AO) : AO.dead o = ⟨[], o.ty, o.ver + 1, false⟩ := rfl

/-! The same at a loop's head: the other objects, too, are told anew -/
def AO.gv (k ver : Nat) (cs : List SV) (d : Nat) (p : AO) : AO := { p with cells := p.cells.map (SV.gv k ver cs d) }
theorem gv_cell {k ver : Nat} {cs : List SV} {d : Nat} {s : SV} (h : s.isCell = true) : (s.gv k ver cs d).isCell = true := by
  cases d with
  | zero => exact h
  | succ d =>
    unfold SV.gv
    split
    · split
      · rfl
      · exact h
    · simp [SV.isCell] at h
    · simp [SV.isCell] at h
    · exact h
theorem gv_under {k ver n : Nat} {cs : List SV} (hn : n ≤ k) : ∀ (d : Nat) (s : SV), s.under n = true → s.gv k ver cs d = s := by
  intro d
  induction d with
  | zero => intro s _; rfl
  | succ d ih =>
    intro s h
    have hm : ∀ l : List SV, SV.underL n l = true → l.map (SV.gv k ver cs d) = l := by
      intro l hl
      rw [SV.underL_iff] at hl
      have : l.map (SV.gv k ver cs d) = l.map id := List.map_congr_left fun s hs => ih s (hl s hs)
      simpa using this
    unfold SV.gv
    split
    · simp only [SV.under, decide_eq_true_eq] at h
      rw [if_neg (by omega)]
    · simp only [SV.under] at h; rw [hm _ h]
    · simp only [SV.under] at h; rw [hm _ h]
    · rfl

section
variable (k ver : Nat) (cs : List SV) (d : Nat)
@[simp] theorem gv_zero (s : SV) : SV.gv k ver cs 0 s = s := rfl
@[simp] theorem gv_i64 (n : Int) : SV.gv k ver cs d (i64 n) = i64 n := by cases d <;> rfl
@[simp] theorem gv_bl (b : Bool) : SV.gv k ver cs d (bl b) = bl b := by cases d <;> rfl
@[simp] theorem gv_st (s : ByteArray) : SV.gv k ver cs d (st s) = st s := by cases d <;> rfl
@[simp] theorem gv_val (v : Value) : SV.gv k ver cs d (.val v) = .val v := by cases d <;> rfl
@[simp] theorem gv_any : SV.gv k ver cs d .any = .any := by cases d <;> rfl
@[simp] theorem gv_slc (l : List SV) (n : Nat) : SV.gv k ver cs d (.slc l n) = .slc l n := by cases d <;> rfl
@[simp] theorem gv_ptr (s : SV) (n : Nat) : SV.gv k ver cs d (.ptr s n) = .ptr s n := by cases d <;> rfl
@[simp] theorem gv_fn (f : Fn) (a b : List SV) : SV.gv k ver cs d (.fn f a b) = .fn f a b := by cases d <;> rfl
@[simp] theorem gv_gd (b : Bool) (x : SV) : SV.gv k ver cs d (.gd b x) = .gd b x := by cases d <;> rfl
@[simp] theorem gv_agg (l : List SV) : SV.gv k ver cs (d + 1) (.agg l) = .agg (l.map (SV.gv k ver cs d)) := rfl
@[simp] theorem gv_tup (l : List SV) : SV.gv k ver cs (d + 1) (.tup l) = .tup (l.map (SV.gv k ver cs d)) := rfl
@[simp] theorem gv_own (i off len sz v : Nat) : SV.gv k ver cs (d + 1) (.own i off len sz v) = if i = k ∧ v = ver ∧ off + len * sz ≤ cs.length then .slc ((cs.drop off).take (len * sz)) len else .own i off len sz v := rfl
end
/-- A call at which the object i is given up. -/
theorem call_give {P : Program} {k : FuncId} {args args' : List SV} {H H' : List AO} {out : Out} {K : Out → List AO → Prop} (i : Nat) (d : Nat) {o : AO} (ho : H[i]? = some o) (hl : o.live = true)
    (ha : args.map (SV.gv i o.ver o.cells d) = args') (h : Ok P k args' (setObj H i AO.dead) out H') (hk : K out H') : CallTo P (.fn (.func k) [] []) args H K :=
  call_go (Ok.give i d ho hl (by rw [ha]; exact h)) hk

theorem gv_below {k ver n : Nat} {cs : List SV} (hc : SV.underL n cs = true) : ∀ (d : Nat) (s : SV), s.under n = true → (s.gv k ver cs d).under n = true := by
  intro d
  induction d with
  | zero => intro s h; exact h
  | succ d ih =>
    intro s h
    have hm : ∀ l : List SV, SV.underL n l = true → SV.underL n (l.map (SV.gv k ver cs d)) = true := by
      intro l hl
      rw [SV.underL_iff] at hl ⊢
      intro s hs
      obtain ⟨t, ht, rfl⟩ := List.mem_map.1 hs
      exact ih t (hl t ht)
    unfold SV.gv
    split
    · split
      · rw [SV.under, SV.underL_iff]
        rw [SV.underL_iff] at hc
        intro s hs
        exact hc s (List.mem_of_mem_drop (List.mem_of_mem_take hs))
      · exact h
    · simp only [SV.under] at h ⊢; exact hm _ h
    · simp only [SV.under] at h ⊢; exact hm _ h
    · exact h
section
variable {S : St} {H0 L : List AO} {k d : Nat} {o : AO}
def givS (S : St) (H0 L : List AO) (k d : Nat) (o : AO) : St := ⟨S.ρ, H0 ++ (L.set k o.dead).map (AO.gv (H0.length + k) o.ver o.cells d), S.w⟩
theorem giv_at {i : Nat} {p : AO} (h : (givS S H0 L k d o).H[i]? = some p) (ho : L[k]? = some o) :
    (i < H0.length ∧ H0[i]? = some p) ∨ (i = H0.length + k ∧ p = AO.gv (H0.length + k) o.ver o.cells d o.dead) ∨ (∃ p0 j, i = H0.length + j ∧ j ≠ k ∧ L[j]? = some p0 ∧ p = AO.gv (H0.length + k) o.ver o.cells d p0) := by
  simp only [givS] at h
  by_cases hi : i < H0.length
  · rw [List.getElem?_append_left hi] at h; exact .inl ⟨hi, h⟩
  · rw [List.getElem?_append_right (by omega), List.getElem?_map, Option.map_eq_some_iff] at h
    obtain ⟨p0, h1, rfl⟩ := h
    right
    by_cases hk : i - H0.length = k
    · left
      rw [hk, List.getElem?_set_self (getElem?_lt ho)] at h1
      cases h1
      exact ⟨by omega, rfl⟩
    · right
      rw [List.getElem?_set_ne (by omega)] at h1
      exact ⟨p0, i - H0.length, by omega, hk, h1, rfl⟩
theorem giv_ext (hH : S.H = H0 ++ L) (ho : L[k]? = some o) : Ext S.H.length S (givS S H0 L k d o) where
  obj := by
    intro i p hi hp
    rw [hH] at hp hi
    by_cases hlt : i < H0.length
    · rw [List.getElem?_append_left hlt] at hp
      exact ⟨p, by simp only [givS]; rw [List.getElem?_append_left hlt]; exact hp, Nat.le_refl _, fun _ => rfl⟩
    · rw [List.getElem?_append_right (by omega)] at hp
      by_cases hk : i - H0.length = k
      · rw [hk, ho] at hp; cases hp
        refine ⟨AO.gv (H0.length + k) o.ver o.cells d o.dead, ?_, by simp [AO.gv, AO.dead], fun _ => rfl⟩
        simp only [givS]
        rw [List.getElem?_append_right (by omega), List.getElem?_map, hk, List.getElem?_set_self (getElem?_lt ho)]; rfl
      · refine ⟨AO.gv (H0.length + k) o.ver o.cells d p, ?_, Nat.le_refl _, fun _ => rfl⟩
        simp only [givS]
        rw [List.getElem?_append_right (by omega), List.getElem?_map, List.getElem?_set_ne (by omega), hp]; rfl
  imm := by
    intro b hb hn
    refine ⟨rfl, ?_⟩
    rintro ⟨i, p, hp, hl, hρ⟩
    rcases giv_at hp ho with ⟨h1, h2⟩ | ⟨rfl, rfl⟩ | ⟨p0, j, rfl, h1, h2, rfl⟩
    · exact hn ⟨i, p, by rw [hH, List.getElem?_append_left h1]; exact h2, hl, hρ⟩
    · simp [AO.gv, AO.dead] at hl
    · exact hn ⟨H0.length + j, p0, by rw [hH, List.getElem?_append_right (by omega)]; simpa using h2, hl, hρ⟩
  size := Nat.le_refl _
  shape := fun _ _ _ h => h
  os := rfl
  tape := rfl
  output := rfl
theorem giv_rel (hS : Sim S) (hH : S.H = H0 ++ L) (ho : L[k]? = some o) (hl : o.live = true) (s : SV) (v : Value) (h : VR S s v) : VR (givS S H0 L k d o) (s.gv (H0.length + k) o.ver o.cells d) v := by
  have ho' : S.H[H0.length + k]? = some o := by rw [hH, List.getElem?_append_right (by omega)]; simpa using ho
  have h1 := gv_rel hS ho' hl d s v h
  refine h1.ext (S := ⟨S.ρ, S.H.set (H0.length + k) o.dead, S.w⟩) ?_
  have hsz : (S.H.set (H0.length + k) o.dead).length = S.H.length := by simp
  constructor
  · intro i p hi hp
    simp only at hp hi
    by_cases hik : i = H0.length + k
    · subst hik
      rw [List.getElem?_set_self (getElem?_lt ho')] at hp; cases hp
      refine ⟨AO.gv (H0.length + k) o.ver o.cells d o.dead, ?_, Nat.le_refl _, fun _ => rfl⟩
      simp only [givS]
      rw [List.getElem?_append_right (by omega), List.getElem?_map, Nat.add_sub_cancel_left, List.getElem?_set_self (getElem?_lt ho)]; rfl
    · rw [List.getElem?_set_ne (by omega), hH] at hp
      by_cases hlt : i < H0.length
      · rw [List.getElem?_append_left hlt] at hp
        exact ⟨p, by simp only [givS]; rw [List.getElem?_append_left hlt]; exact hp, Nat.le_refl _, fun _ => rfl⟩
      · rw [List.getElem?_append_right (by omega)] at hp
        refine ⟨AO.gv (H0.length + k) o.ver o.cells d p, ?_, Nat.le_refl _, fun _ => rfl⟩
        simp only [givS]
        rw [List.getElem?_append_right (by omega), List.getElem?_map, List.getElem?_set_ne (by omega), hp]; rfl
  · intro b hb hn
    refine ⟨rfl, ?_⟩
    rintro ⟨i, p, hp, hpl, hρ⟩
    rcases giv_at hp ho with ⟨h1, h2⟩ | ⟨rfl, rfl⟩ | ⟨p0, j, rfl, h1, h2, rfl⟩
    · refine hn ⟨i, p, ?_, hpl, hρ⟩
      simp only
      rw [List.getElem?_set_ne (by omega), hH, List.getElem?_append_left h1]; exact h2
    · simp [AO.gv, AO.dead] at hpl
    · refine hn ⟨H0.length + j, p0, ?_, hpl, hρ⟩
      simp only
      rw [List.getElem?_set_ne (by omega), hH, List.getElem?_append_right (by omega)]; simpa using h2
  · exact Nat.le_refl _
  · exact fun _ _ _ h => h
  · rfl
  · rfl
  · rfl
theorem giv_sim (hS : Sim S) (hH : S.H = H0 ++ L) (hcl : closed H0) (ho : L[k]? = some o) (hl : o.live = true) : Sim (givS S H0 L k d o) := by
  have ho' : S.H[H0.length + k]? = some o := by rw [hH, List.getElem?_append_right (by omega)]; simpa using ho
  have hlen : (givS S H0 L k d o).H.length = S.H.length := by simp [givS, hH]
  have at0 : ∀ {i : Nat} {p : AO}, H0[i]? = some p → S.H[i]? = some p := by
    intro i p h; rw [hH, List.getElem?_append_left (getElem?_lt h)]; exact h
  have at1 : ∀ {j : Nat} {p : AO}, L[j]? = some p → S.H[H0.length + j]? = some p := by
    intro j p h; rw [hH, List.getElem?_append_right (by omega)]; simpa using h
  constructor
  · intro i p hp hpl
    have key : ∀ (p0 : AO), S.H[i]? = some p0 → p0.live = true → p.ty = p0.ty → (p.cells = p0.cells.map (SV.gv (H0.length + k) o.ver o.cells d)) →
        match S.ρ i with
        | none => p.cells = []
        | some b => ∃ us rest, S.w.heap[b]? = some (.cells (us ++ rest).toArray p.ty (0, 0)) ∧ VRs (givS S H0 L k d o) p.cells us := by
      intro p0 h0 h0l hty hce
      have h1 := hS.live i p0 h0 h0l
      cases hρ : S.ρ i with
      | none => rw [hρ] at h1; simp only at h1 ⊢; rw [hce, h1]; rfl
      | some b =>
        rw [hρ] at h1
        obtain ⟨us, rest, h2, h3⟩ := h1
        exact ⟨us, rest, by rw [hty]; exact h2, by rw [hce]; exact h3.map fun s v h => giv_rel hS hH ho hl s v h⟩
    show match S.ρ i with
      | none => p.cells = []
      | some b => ∃ us rest, S.w.heap[b]? = some (.cells (us ++ rest).toArray p.ty (0, 0)) ∧ VRs (givS S H0 L k d o) p.cells us
    rcases giv_at hp ho with ⟨h1, h2⟩ | ⟨rfl, rfl⟩ | ⟨p0, j, rfl, h1, h2, rfl⟩
    · refine key p (at0 h2) hpl rfl ?_
      have : p.cells.map (SV.gv (H0.length + k) o.ver o.cells d) = p.cells.map id := List.map_congr_left fun s hs => gv_under (Nat.le_add_right _ _) d s (hcl i p h2 s hs)
      rw [this]; simp
    · simp [AO.gv, AO.dead] at hpl
    · exact key p0 (at1 h2) hpl rfl rfl
  · intro i p hp s hs
    rw [hlen]
    rcases giv_at hp ho with ⟨h1, h2⟩ | ⟨rfl, rfl⟩ | ⟨p0, j, rfl, h1, h2, rfl⟩
    · exact hS.bel i p (at0 h2) s hs
    · simp [AO.gv, AO.dead] at hs
    · simp only [AO.gv, List.mem_map] at hs
      obtain ⟨t, ht, rfl⟩ := hs
      have h3 := hS.bel _ p0 (at1 h2) t ht
      refine ⟨gv_below ?_ d t h3.1, gv_cell h3.2⟩
      rw [SV.underL_iff]
      exact fun u hu => (hS.bel _ o ho' u hu).1
  · intro i j p q b hi hj hil hjl hρi hρj
    have key : ∀ {i : Nat} {p : AO}, (givS S H0 L k d o).H[i]? = some p → p.live = true → ∃ p0, S.H[i]? = some p0 ∧ p0.live = true := by
      intro i p hp hpl
      rcases giv_at hp ho with ⟨h1, h2⟩ | ⟨rfl, rfl⟩ | ⟨p0, j, rfl, h1, h2, rfl⟩
      · exact ⟨p, at0 h2, hpl⟩
      · simp [AO.gv, AO.dead] at hpl
      · exact ⟨p0, at1 h2, hpl⟩
    obtain ⟨p0, h1, h2⟩ := key hi hil
    obtain ⟨q0, h3, h4⟩ := key hj hjl
    exact hS.inj i j p0 q0 b h1 h3 h2 h4 hρi hρj
theorem get_map (e : Env) (f : SV → SV) (hf : f .any = .any) (t : Nat) : Env.get (e.map fun p => (p.1, f p.2)) t = f (e.get t) := by
  induction e with
  | nil => exact hf.symm
  | cons p r ih =>
    obtain ⟨k, v⟩ := p
    simp only [List.map_cons, Env.get]
    split
    · rfl
    · exact ih
end
theorem LI.give {P : Program} {N : Nat} {D : Array Oper → List Nat → List Ins → Bool} {i : IC} {env : Env} {H0 L : List AO} {K : XE → Env → List AO → Prop} (hcl : closed H0) (k d : Nat) {o : AO} (ho : L[k]? = some o) (hl : o.live = true)
    (h : LI P N D i (env.map fun p => (p.1, p.2.gv (H0.length + k) o.ver o.cells d)) (H0 ++ (L.set k o.dead).map (AO.gv (H0.length + k) o.ver o.cells d)) K) : LI P N D i env (H0 ++ L) K := by
  intro c hc S a hH hS he hN hd
  refine loopIn_mono (h c hc (givS S H0 L k d o) a rfl (giv_sim hS hH hcl ho hl) ⟨fun t => ?_⟩ hN hd) fun e a w hp => Post.trans (giv_ext hH ho) hp
  rw [get_map env (SV.gv (H0.length + k) o.ver o.cells d) (gv_any _ _ _ _)]
  exact giv_rel hS hH ho hl _ _ (he.get t)
attribute [simp] AO.gv
@[simp] theorem dep_q (f : Od) (args : List Od) : J.dep (.q f args) = true := rfl
attribute [simp] List.filter_cons
end Go.Ab
