/-
  Steps of the proof: contracts of functions and plain facts that the statement rests on.
-/
import Derived.Test.YtbfeaikiiamhaaaPart2
import Derived.Test.YtbfeaikiiamhaaaUG11
import Derived.Test.YtbfeaikiiamhaaaPart1
set_option linter.all false
/- I2 -/
namespace Go.Proofs.Ytbfeaikiiamhaaa.Rc
open Go.Ab
/-- By what a node's seeds are divided among its children. -/
def sm (ns : List Nd) (i : Nat) : Nat := match ns[i]? with | some x => if x.k = 1 then x.ws.sum.toNat else 1 | none => 1
def TT (ns : List Nd) : Nat → Nat
  | 0 => 1
  | n + 1 => TT ns n * sm ns n
theorem three_pow : ∀ l : Nat, 1 ≤ l → 3 * l ≤ 3 ^ l
  | 1, _ => by decide
  | l + 2, _ => by have := three_pow (l + 1) (by omega); rw [Nat.pow_succ]; omega
theorem sum_le3 : ∀ {l : List Int}, (∀ w ∈ l, 1 ≤ w ∧ w ≤ 3) → (l.length : Int) ≤ l.sum ∧ l.sum ≤ 3 * l.length
  | [], _ => by simp
  | w :: l, h => by
    have h1 := h w (by simp)
    have h2 := sum_le3 (l := l) fun y hy => h y (by simp [hy])
    simp only [List.sum_cons, List.length_cons]; omega
/-- The nodes of a game that numbers select. -/
structure Small (g : Gm) : Prop where
  f : g.formR = 0
  n : g.ns.length ≤ 30
  ch : ∀ (i : Nat) (x : Nd), g.ns[i]? = some x → x.k = 1 → 1 ≤ x.nx.length ∧ x.ws.length = x.nx.length ∧ ∀ w ∈ x.ws, 1 ≤ w ∧ w ≤ 3
  mv : ∀ (i : Nat) (x : Nd), g.ns[i]? = some x → x.k = 2 → 1 ≤ x.nx.length
  kk : ∀ (i : Nat) (x : Nd), g.ns[i]? = some x → x.k = 1 ∨ x.k = 2 ∨ x.k = 3
  en : ∀ (i : Nat) (x : Nd), g.ns[i]? = some x → x.k = 3 → x.nx = []
theorem Made.small {pl most : Int} {g : Gm} (h : Made pl most g) (p1 : 1 ≤ pl) (p4 : pl ≤ 4) (hm : most ≤ 30) : Small g := by
  have hf := h.form p1 p4 (by omega)
  rw [form_eq] at hf
  have hml := h.ml
  have hg : ∀ (i : Nat) (x : Nd), g.ns[i]? = some x → x.good pl g.is := fun i x hx => h.good x (List.mem_of_getElem? hx)
  refine ⟨hf, by omega, fun i x hx hk => ?_, fun i x hx hk => ?_, fun i x hx => ?_, fun i x hx hk => ?_⟩
  · rcases hg i x hx with ⟨a1, a2, a3, a4, a5, a6, a7, a8⟩ | ⟨a1, _⟩ | ⟨a1, _⟩
    · exact ⟨a5, a7, a8⟩
    · omega
    · omega
  · rcases hg i x hx with ⟨a1, _⟩ | ⟨a1, a2, a3, a4, _⟩ | ⟨a1, _⟩
    · omega
    · exact a4
    · omega
  · rcases hg i x hx with ⟨a1, _⟩ | ⟨a1, _⟩ | ⟨a1, _⟩
    · exact .inl a1
    · exact .inr (.inl a1)
    · exact .inr (.inr a1)
  · rcases hg i x hx with ⟨a1, _⟩ | ⟨a1, _⟩ | ⟨a1, _, _, a4, _⟩
    · omega
    · omega
    · exact a4
section
variable {g : Gm} (hs : Small g)
include hs
theorem sm_pos (i : Nat) : 1 ≤ sm g.ns i := by
  unfold sm
  split
  · rename_i x hx
    split
    · rename_i hk
      obtain ⟨h1, h2, h3⟩ := hs.ch i x hx hk
      have := sum_le3 h3
      omega
    · exact Nat.le_refl _
  · exact Nat.le_refl _
theorem sm_le (i : Nat) : sm g.ns i ≤ 3 ^ nxl g.ns i := by
  unfold sm nxl
  cases hx : g.ns[i]? with
  | none => exact Nat.le_refl _
  | some x =>
    simp only
    split
    · rename_i hk
      obtain ⟨h1, h2, h3⟩ := hs.ch i x hx hk
      have h4 := sum_le3 h3
      have h5 := three_pow _ h1
      omega
    · exact Nat.one_le_pow _ _ (by decide)
theorem TT_pos : ∀ n, 1 ≤ TT g.ns n
  | 0 => Nat.le_refl _
  | n + 1 => Nat.mul_pos (TT_pos n) (sm_pos hs n)
theorem TT_le : ∀ n, TT g.ns n ≤ 3 ^ nxS g.ns n 0
  | 0 => Nat.le_refl _
  | n + 1 => by
    rw [TT, nxS_add g.ns n 1 0, Nat.pow_add]
    have h1 := TT_le n
    have h2 := sm_le hs n
    have e : nxS g.ns 1 (0 + n) = nxl g.ns n := by simp [nxS]
    rw [e]
    exact Nat.mul_le_mul h1 h2
omit hs in
theorem nxS_mono (ns : List Nd) {a b : Nat} (h : a ≤ b) : nxS ns a 0 ≤ nxS ns b 0 := by
  obtain ⟨c, rfl⟩ : ∃ c, b = a + c := ⟨b - a, by omega⟩
  rw [nxS_add]; omega
theorem TT_big {i : Nat} (hi : i ≤ g.ns.length) : TT g.ns i ≤ 1000000000000000 := by
  have h1 := TT_le hs i
  have h2 := (game_e hs.f).sum
  have h3 := nxS_mono g.ns hi
  have h4 := hs.n
  rw [Nat.sub_zero] at h2
  have h5 : (3 : Nat) ^ nxS g.ns i 0 ≤ 3 ^ 29 := Nat.pow_le_pow_right (by decide) (by omega)
  have h6 : (3 : Nat) ^ 29 ≤ 1000000000000000 := by decide
  omega
end
/-- What is known on the way through the nodes. -/
structure RI (ns : List Nd) (i : Nat) (pr : List Nat) (m : Nat) : Prop where
  len : pr.length = ns.length
  p0 : pr.getD 0 0 = 1
  m1 : 1 ≤ m
  mT : m ∣ TT ns i
  pT : ∀ t, pr.getD t 0 = 0 ∨ pr.getD t 0 ∣ TT ns i
  ps : ∀ j : Nat, (j = 0 ∨ ∃ i' p, i' < i ∧ Eg ns i' p j) → 1 ≤ pr.getD j 0
  ed : ∀ (i' p : Nat) (c : Int), i' < i → Eg ns i' p c → pr.getD c.toNat 0 = pr.getD i' 0 * sm ns i'
  en : ∀ (e : Nat) (x : Nd), e < i → ns[e]? = some x → x.k = 3 → pr.getD e 0 ∣ m
theorem RI.step {g : Gm} (hs : Small g) {i : Nat} (hi : i < g.ns.length) {pr : List Nat} {m : Nat} (h : RI g.ns i pr m) : ∃ pr' m', stp g.ns i (pr, m) = some (pr', m') ∧ RI g.ns (i + 1) pr' m' := by
  have ht := game_e hs.f
  obtain ⟨x, hx⟩ : ∃ x, g.ns[i]? = some x := ⟨_, List.getElem?_eq_getElem hi⟩
  have hpi : 1 ≤ pr.getD i 0 := by
    by_cases h0 : i = 0
    · subst h0; rw [h.p0]; exact Nat.le_refl _
    · obtain ⟨i', p, g1, g2, g3⟩ := ht.inc i (by omega) hi
      exact h.ps i (.inr ⟨i', p, g2, g3⟩)
  have hpT : pr.getD i 0 ∣ TT g.ns i := by
    rcases h.pT i with h1 | h1
    · omega
    · exact h1
  have hb : pr.getD i 0 * sm g.ns i ∣ TT g.ns (i + 1) := Nat.mul_dvd_mul_right hpT _
  have hTd : TT g.ns i ∣ TT g.ns (i + 1) := Nat.dvd_mul_right _ _
  have hTb := TT_big hs (i := i + 1) hi
  have hTp := TT_pos hs (i + 1)
  have hnx : ∀ c ∈ x.nx, (i : Int) < c ∧ c < g.ns.length := fun c hc => by
    obtain ⟨p, hp⟩ := List.getElem?_of_mem hc
    exact ht.tgt i p c (by omega) hi ⟨x, hx, hp⟩
  -- what the children get
  have key : ∀ m', 1 ≤ m' → m ∣ m' → m' ∣ TT g.ns (i + 1) → (x.k = 3 → pr.getD i 0 ∣ m') → RI g.ns (i + 1) (setC pr x.nx (pr.getD i 0 * sm g.ns i)) m' := by
    intro m' k1 k2 k3 k4
    have hout : ∀ t, (∀ c ∈ x.nx, c.toNat ≠ t) → (setC pr x.nx (pr.getD i 0 * sm g.ns i)).getD t 0 = pr.getD t 0 := fun t ht => setC_out _ _ _ _ ht
    have hlow : ∀ t, t ≤ i → (setC pr x.nx (pr.getD i 0 * sm g.ns i)).getD t 0 = pr.getD t 0 := fun t ht => hout t fun c hc => by have := hnx c hc; omega
    have hin : ∀ c ∈ x.nx, (setC pr x.nx (pr.getD i 0 * sm g.ns i)).getD c.toNat 0 = pr.getD i 0 * sm g.ns i := fun c hc => setC_in _ _ _ _ (by have := hnx c hc; rw [h.len]; omega) ⟨c, hc, rfl⟩
    refine ⟨by rw [setC_len, h.len], by rw [hlow 0 (by omega), h.p0], k1, k3, fun t => ?_, fun j hj => ?_, fun i' p c hi' he => ?_, fun e y he hy hk => ?_⟩
    · by_cases hc : ∃ c ∈ x.nx, c.toNat = t
      · obtain ⟨c, hc, rfl⟩ := hc
        rw [hin c hc]; exact .inr hb
      · rw [hout t fun c hc' e => hc ⟨c, hc', e⟩]
        rcases h.pT t with h1 | h1
        · exact .inl h1
        · exact .inr (Nat.dvd_trans h1 hTd)
    · by_cases hc : ∃ c ∈ x.nx, c.toNat = j
      · obtain ⟨c, hc, rfl⟩ := hc
        rw [hin c hc]
        exact Nat.mul_pos hpi (sm_pos hs i)
      · rw [hout j fun c hc' e => hc ⟨c, hc', e⟩]
        rcases hj with rfl | ⟨i', p, h1, h2⟩
        · exact h.ps 0 (.inl rfl)
        · by_cases e : i' = i
          · subst e
            obtain ⟨y, hy, hp⟩ := h2
            rw [hx] at hy; cases hy
            exact (hc ⟨_, List.mem_of_getElem? hp, by simp⟩).elim
          · exact h.ps j (.inr ⟨i', p, by omega, h2⟩)
    · by_cases e : i' = i
      · subst e
        obtain ⟨y, hy, hp⟩ := he
        rw [hx] at hy; cases hy
        rw [hin c (List.mem_of_getElem? hp), hlow i' (Nat.le_refl _)]
      · have hlt : i' < i := by omega
        have h1 := h.ed i' p c hlt he
        have h2 := ht.tgt i' p c (by omega) (by omega) he
        rw [hlow i' (by omega), hout c.toNat fun d hd e2 => ?_, h1]
        have h3 := hnx d hd
        have e3 : d = c := by omega
        subst e3
        obtain ⟨q, hq⟩ := List.getElem?_of_mem hd
        have := (ht.uniq i' i p q d (by omega) (by omega) (by omega) hi he ⟨x, hx, hq⟩).1
        omega
    · by_cases e2 : e = i
      · subst e2
        rw [hx] at hy; cases hy
        rw [hlow e (Nat.le_refl _)]; exact k4 hk
      · rw [hlow e (by omega)]
        exact Nat.dvd_trans (h.en e y (by omega) hy hk) k2
  have hmT : m ∣ TT g.ns (i + 1) := Nat.dvd_trans h.mT hTd
  unfold stp
  rw [hx]
  simp only
  rcases hs.kk i x hx with hk | hk | hk
  · have hsm : sm g.ns i = x.ws.sum.toNat := by unfold sm; rw [hx]; simp only; rw [if_pos hk]
    have hle : pr.getD i 0 * x.ws.sum.toNat ≤ 1000000000000000 := by
      rw [← hsm]; exact Nat.le_trans (Nat.le_of_dvd hTp hb) hTb
    have h1 : ¬ 1000000000000000 / x.ws.sum.toNat < pr.getD i 0 := by
      have hp : 0 < x.ws.sum.toNat := by rw [← hsm]; exact sm_pos hs i
      have := (Nat.le_div_iff_mul_le hp).2 hle
      omega
    rw [if_pos hk, if_neg h1, ← hsm]
    exact ⟨_, _, rfl, key m h.m1 (Nat.dvd_refl _) hmT (fun h3 => by omega)⟩
  · have hsm : sm g.ns i = 1 := by unfold sm; rw [hx]; simp only; rw [if_neg (by omega)]
    rw [if_neg (by omega), if_neg (by omega)]
    have := key m h.m1 (Nat.dvd_refl _) hmT (fun h3 => by omega)
    rw [hsm, Nat.mul_one] at this
    exact ⟨_, _, rfl, this⟩
  · have hsm : sm g.ns i = 1 := by unfold sm; rw [hx]; simp only; rw [if_neg (by omega)]
    have hl : Nat.lcm m (pr.getD i 0) ∣ TT g.ns (i + 1) := Nat.lcm_dvd hmT (Nat.dvd_trans hpT hTd)
    have hlp : 0 < Nat.lcm m (pr.getD i 0) := Nat.lcm_pos h.m1 hpi
    have hlo : lcmO m (pr.getD i 0) = some (Nat.lcm m (pr.getD i 0)) := by
      unfold lcmO
      rw [if_neg]
      have := Nat.le_of_dvd hTp hl
      omega
    rw [if_neg (by omega), if_pos hk, hlo]
    have := key (Nat.lcm m (pr.getD i 0)) hlp (Nat.dvd_lcm_left _ _) hl (fun _ => Nat.dvd_lcm_right _ _)
    rw [hsm, Nat.mul_one] at this
    exact ⟨_, _, rfl, this⟩
theorem run_ri {g : Gm} (hs : Small g) : ∀ (n i : Nat) (pr : List Nat) (m : Nat), i + n = g.ns.length → RI g.ns i pr m → ∃ pr' m', run g.ns n i (pr, m) = some (pr', m') ∧ RI g.ns g.ns.length pr' m'
  | 0, i, pr, m, hn, h => by
    have : i = g.ns.length := by omega
    subst this
    exact ⟨pr, m, rfl, h⟩
  | n + 1, i, pr, m, hn, h => by
    obtain ⟨pr', m', h1, h2⟩ := h.step hs (by omega)
    obtain ⟨pr2, m2, h3, h4⟩ := run_ri hs n (i + 1) pr' m' (by omega) h2
    exact ⟨pr2, m2, by rw [run, h1]; exact h3, h4⟩
theorem RI.zero {g : Gm} (hs : Small g) : RI g.ns 0 ((List.replicate g.ns.length 0).set 0 1) 1 := by
  have hn : 0 < g.ns.length := (game_e hs.f).lt
  have e : ∀ t, ((List.replicate g.ns.length 0).set 0 1).getD t 0 = if t = 0 then 1 else 0 := fun t => by
    rw [List.getD_eq_getElem?_getD, List.getElem?_set]
    by_cases h : 0 = t
    · subst h; simp [hn]
    · rw [if_neg h, if_neg (fun e => h e.symm), List.getElem?_replicate]; split <;> rfl
  refine ⟨by simp, by rw [e]; rfl, Nat.le_refl _, Nat.dvd_refl _, fun t => ?_, fun j hj => ?_, fun i' p c h => by omega, fun e x h => by omega⟩
  · rw [e]; split
    · exact .inr (Nat.dvd_refl _)
    · exact .inl rfl
  · rcases hj with rfl | ⟨i', p, h, _⟩
    · rw [e]; exact Nat.le_refl _
    · omega
/-- THE SIZE, and the products above the nodes. -/
theorem size_ok {g : Gm} (hs : Small g) : ∃ (S : Nat) (P : Nat → Nat), g.siz = some S ∧ 1 ≤ S ∧ S ≤ 1000000000000000 ∧ P 0 = 1 ∧ (∀ i < g.ns.length, 1 ≤ P i ∧ P i * sm g.ns i ∣ S) ∧ ∀ (i p : Nat) (c : Int), Eg g.ns i p c → P c.toNat = P i * sm g.ns i := by
  obtain ⟨pr, S, h1, h2⟩ := run_ri hs g.ns.length 0 _ 1 (by omega) (RI.zero hs)
  have ht := game_e hs.f
  have hsz := siz_run hs.f
  rw [h1] at hsz
  have hp : ∀ j < g.ns.length, 1 ≤ pr.getD j 0 := fun j hj => by
    by_cases h0 : j = 0
    · exact h2.ps j (.inl h0)
    · obtain ⟨i', p, g1, g2, g3⟩ := ht.inc j (by omega) hj
      exact h2.ps j (.inr ⟨i', p, by omega, g3⟩)
  have hd : ∀ (d i : Nat), i + d + 1 = g.ns.length → pr.getD i 0 * sm g.ns i ∣ S := by
    intro d
    induction d using Nat.strongRecOn with
    | _ d ih =>
      intro i hi
      have hil : i < g.ns.length := by omega
      obtain ⟨x, hx⟩ : ∃ x, g.ns[i]? = some x := ⟨_, List.getElem?_eq_getElem hil⟩
      have child : 1 ≤ x.nx.length → pr.getD i 0 * sm g.ns i ∣ S := by
        intro hl
        have he : Eg g.ns i 0 x.nx[0] := ⟨x, hx, List.getElem?_eq_getElem hl⟩
        have h3 := ht.tgt i 0 _ (by omega) hil he
        have h4 := h2.ed i 0 _ hil he
        have h5 := ih (g.ns.length - 1 - (x.nx[0]).toNat) (by omega) (x.nx[0]).toNat (by omega)
        rw [h4] at h5
        exact Nat.dvd_trans (Nat.dvd_mul_right _ _) h5
      rcases hs.kk i x hx with hk | hk | hk
      · exact child (hs.ch i x hx hk).1
      · exact child (hs.mv i x hx hk)
      · have hsm : sm g.ns i = 1 := by unfold sm; rw [hx]; simp only; rw [if_neg (by omega)]
        rw [hsm, Nat.mul_one]
        exact h2.en i x hil hx hk
  have hSb : S ≤ 1000000000000000 := Nat.le_trans (Nat.le_of_dvd (TT_pos hs _) h2.mT) (TT_big hs (Nat.le_refl _))
  refine ⟨S, fun i => pr.getD i 0, hsz.symm, h2.m1, hSb, h2.p0, fun i hi => ⟨hp i hi, hd (g.ns.length - 1 - i) i (by omega)⟩, fun i p c he => ?_⟩
  have hh := he
  obtain ⟨x, hx, _⟩ := hh
  exact h2.ed i p c (getElem?_lt hx) he
end Go.Proofs.Ytbfeaikiiamhaaa.Rc

/- I3 -/
namespace Go.Proofs.Ytbfeaikiiamhaaa.Rc
open Go.Ab
theorem setV_none : ∀ (l : List Int) (vs cs : List Nat) (t : Nat), (∀ c ∈ l, c.toNat ≠ t) → (setV cs l vs).getD t 0 = cs.getD t 0
  | [], vs, cs, t, h => by simp [setV]
  | c :: l, [], cs, t, h => by simp [setV]
  | c :: l, v :: vs, cs, t, h => by
    rw [setV, setV_none l vs _ t fun x hx => h x (by simp [hx])]
    simp only [List.getD_eq_getElem?_getD]
    rw [List.getElem?_set_ne (h c (by simp))]
theorem setV_get : ∀ (l : List Int) (vs cs : List Nat) (p : Nat) (c : Int) (v : Nat), l[p]? = some c → vs[p]? = some v → c.toNat < cs.length → (∀ q d, l[q]? = some d → d.toNat = c.toNat → q = p) → (setV cs l vs).getD c.toNat 0 = v
  | [], vs, cs, p, c, v, h, _, _, _ => by simp at h
  | a :: l, [], cs, p, c, v, _, h, _, _ => by simp at h
  | a :: l, b :: vs, cs, 0, c, v, h, h2, hl, hu => by
    simp at h h2
    subst h h2
    rw [setV, setV_none]
    · simp only [List.getD_eq_getElem?_getD]
      rw [List.getElem?_set_self hl]; rfl
    · intro d hd e
      obtain ⟨q, hq⟩ := List.getElem?_of_mem hd
      have := hu (q + 1) d (by simpa using hq) e
      omega
  | a :: l, b :: vs, cs, p + 1, c, v, h, h2, hl, hu => by
    simp at h h2
    rw [setV]
    exact setV_get l vs _ p c v h h2 (by simpa using hl) (fun q d hq e => by
      have := hu (q + 1) d (by simpa using hq) e
      omega)
theorem crun_none {ns : List Nd} {t : Nat} : ∀ (n i : Nat) (cs : List Nat), (∀ i' p c, i ≤ i' → i' < i + n → Eg ns i' p c → c.toNat ≠ t) → (crun ns n i cs).getD t 0 = cs.getD t 0
  | 0, i, cs, h => rfl
  | n + 1, i, cs, h => by
    rw [crun, crun_none n (i + 1) _ fun i' p c h1 h2 he => h i' p c (by omega) (by omega) he]
    unfold cst
    split
    · rfl
    · rename_i x hx
      refine setV_none _ _ _ _ fun c hc => ?_
      obtain ⟨p, hp⟩ := List.getElem?_of_mem hc
      exact h i p c (Nat.le_refl _) (by omega) ⟨x, hx, hp⟩
theorem cstL (ns : List Nd) (i : Nat) (cs : List Nat) : (cst ns i cs).length = cs.length := by
  unfold cst; split
  · rfl
  · exact setV_len _ _ _
theorem crunL (ns : List Nd) : ∀ (n i : Nat) (cs : List Nat), (crun ns n i cs).length = cs.length
  | 0, i, cs => rfl
  | n + 1, i, cs => by rw [crun, crunL ns n, cstL]
section
variable {g : Gm} (hs : Small g)
include hs
theorem cnt_root (S : Nat) : g.cnt S 0 = S := by
  have hn : 0 < g.ns.length := (game_e hs.f).lt
  unfold Gm.cnt cs0
  simp [crun, hn]
/-- From a node to its child. -/
theorem cnt_edge {S i p : Nat} {c : Int} (he : Eg g.ns i p c) {x : Nd} (hx : g.ns[i]? = some x) : g.cnt S c.toNat = (if x.k = 1 then g.cnt S i / x.ws.sum.toNat * (x.ws.getD p 0).toNat else g.cnt S i) := by
  have ht := game_e hs.f
  have hil := getElem?_lt hx
  have htg := ht.tgt i p c (by omega) hil he
  have hf := fwd0 hs.f
  obtain ⟨y, hy, hp⟩ := he
  rw [hx] at hy; cases hy
  have hc1 := cnt_all hf (m := S) (k := c.toNat) (by omega)
  have hc2 := cnt_all hf (m := S) (k := i) (by omega)
  obtain ⟨d, hd⟩ : ∃ d, g.ns.length = i + (1 + d) := ⟨g.ns.length - (i + 1), by omega⟩
  have hsp : crun g.ns g.ns.length 0 (cs0 g.ns.length S) = crun g.ns d (i + 1) (cst g.ns i (crun g.ns i 0 (cs0 g.ns.length S))) := by
    have h1 := crun_add g.ns i (1 + d) 0 (cs0 g.ns.length S)
    have h2 := crun_add g.ns 1 d i (crun g.ns i 0 (cs0 g.ns.length S))
    rw [← hd, Nat.zero_add] at h1
    rw [h1, h2]
    rfl
  have hA : (crun g.ns i 0 (cs0 g.ns.length S)).getD i 0 = g.cnt S i := rfl
  rw [← hc1, hsp, crun_none]
  · unfold cst
    rw [hx]
    simp only
    have hplt : p < x.nx.length := getElem?_lt hp
    have hval : (x.vals ((crun g.ns i 0 (cs0 g.ns.length S)).getD i 0))[p]? = some (if x.k = 1 then g.cnt S i / x.ws.sum.toNat * (x.ws.getD p 0).toNat else g.cnt S i) := by
      rw [hA]
      unfold Nd.vals
      by_cases hk : x.k = 1
      · rw [if_pos hk, if_pos hk]
        obtain ⟨_, h2, _⟩ := hs.ch i x hx hk
        have hpw : p < x.ws.length := by omega
        simp [hpw]
      · rw [if_neg hk, if_neg hk]
        simp [hplt]
    refine setV_get _ _ _ p c _ hp hval (by rw [crunL]; simp [cs0]; omega) fun q e hq he => ?_
    have h3 := ht.tgt i q e (by omega) hil ⟨x, hx, hq⟩
    have h4 : e = c := by omega
    subst h4
    exact (ht.uniq i i q p e (by omega) hil (by omega) hil ⟨x, hx, hq⟩ ⟨x, hx, hp⟩).2
  · intro i' p' c' h1 h2 he' e
    have h3 := ht.tgt i' p' c' (by omega) (by omega) he'
    have h4 : c' = c := by omega
    subst h4
    have := (ht.uniq i' i p' p c' (by omega) (by omega) (by omega) hil he' ⟨x, hx, hp⟩).1
    omega
end
end Go.Proofs.Ytbfeaikiiamhaaa.Rc

/- I4 -/
namespace Go.Proofs.Ytbfeaikiiamhaaa.Rc
open Go.Ab
def sumTo : Nat → (Nat → Nat) → Nat
  | 0, _ => 0
  | n + 1, f => sumTo n f + f n
theorem sumTo_add (f : Nat → Nat) : ∀ (a b : Nat), sumTo (a + b) f = sumTo a f + sumTo b (fun d => f (a + d))
  | a, 0 => by simp [sumTo]
  | a, b + 1 => by rw [← Nat.add_assoc, sumTo, sumTo_add f a b, sumTo]; omega
theorem sumTo_cong {f h : Nat → Nat} : ∀ (n : Nat), (∀ d < n, f d = h d) → sumTo n f = sumTo n h
  | 0, _ => rfl
  | n + 1, e => by rw [sumTo, sumTo, sumTo_cong n fun d hd => e d (by omega), e n (by omega)]
theorem sumTo_plus (f h : Nat → Nat) : ∀ (n : Nat), sumTo n (fun d => f d + h d) = sumTo n f + sumTo n h
  | 0 => rfl
  | n + 1 => by simp only [sumTo, sumTo_plus f h n]; omega
theorem sumTo_const (c : Nat) : ∀ n, sumTo n (fun _ => c) = n * c
  | 0 => by simp [sumTo]
  | n + 1 => by rw [sumTo, sumTo_const c n, Nat.succ_mul]
theorem sumTo_mul (c : Nat) (f : Nat → Nat) : ∀ n, sumTo n (fun d => c * f d) = c * sumTo n f
  | 0 => by simp [sumTo]
  | n + 1 => by rw [sumTo, sumTo, sumTo_mul c f n, Nat.mul_add]
theorem sumTo_one {a : Nat → Nat} {d0 : Nat} : ∀ (n : Nat), sumTo n (fun d => if d = d0 then a d else 0) = if d0 < n then a d0 else 0
  | 0 => by simp [sumTo]
  | n + 1 => by
    rw [sumTo, sumTo_one n]
    by_cases h : n = d0
    · subst h; simp
    · rw [if_neg h]
      by_cases h2 : d0 < n
      · rw [if_pos h2, if_pos (by omega), Nat.add_zero]
      · rw [if_neg h2, if_neg (by omega)]
/-- Which child a digit selects. -/
def pk : List Int → Nat → Nat
  | [], _ => 0
  | [_], _ => 0
  | w :: w' :: r, d => if w.toNat ≤ d then pk (w' :: r) (d - w.toNat) + 1 else 0
def tw : List Int → Nat
  | [] => 0
  | w :: r => w.toNat + tw r
theorem pk_count : ∀ (ws : List Int) (p : Nat), p < ws.length → sumTo (tw ws) (fun d => if pk ws d = p then 1 else 0) = (ws.getD p 0).toNat
  | [], p, h => by simp at h
  | [w], p, h => by
    have : p = 0 := by simpa using h
    subst this
    simp only [pk, if_true]
    rw [sumTo_const]; simp [tw]
  | w :: w' :: r, p, h => by
    rw [tw, sumTo_add]
    have h1 : sumTo w.toNat (fun d => if pk (w :: w' :: r) d = p then 1 else 0) = if p = 0 then w.toNat else 0 := by
      rw [sumTo_cong (h := fun _ => if p = 0 then 1 else 0) _ fun d hd => by
        have e : pk (w :: w' :: r) d = 0 := by unfold pk; rw [if_neg (by omega)]
        rw [e]
        by_cases hp : p = 0
        · simp [hp]
        · rw [if_neg (fun e => hp e.symm), if_neg hp], sumTo_const]
      split <;> simp
    have h2 : sumTo (tw (w' :: r)) (fun d => if pk (w :: w' :: r) (w.toNat + d) = p then 1 else 0) = if p = 0 then 0 else ((w' :: r).getD (p - 1) 0).toNat := by
      cases p with
      | zero =>
        rw [sumTo_cong (h := fun _ => 0) _ fun d hd => by
          have e : pk (w :: w' :: r) (w.toNat + d) = pk (w' :: r) (w.toNat + d - w.toNat) + 1 := by
            conv => lhs; unfold pk
            rw [if_pos (by omega)]
          rw [e, if_neg (by omega)], sumTo_const]
        simp
      | succ p =>
        rw [sumTo_cong (h := fun d => if pk (w' :: r) d = p then 1 else 0) _ fun d hd => by
          have e : pk (w :: w' :: r) (w.toNat + d) = pk (w' :: r) d + 1 := by
            conv => lhs; unfold pk
            rw [if_pos (by omega), Nat.add_sub_cancel_left]
          rw [e]
          by_cases hq : pk (w' :: r) d = p
          · rw [if_pos (by omega), if_pos hq]
          · rw [if_neg (by omega), if_neg hq]]
        rw [pk_count (w' :: r) p (by simp at h ⊢; omega)]
        simp
    rw [h1, h2]
    cases p with
    | zero => simp
    | succ p => simp
theorem tw_sum : ∀ {ws : List Int}, (∀ w ∈ ws, 0 ≤ w) → (tw ws : Int) = ws.sum
  | [], _ => rfl
  | w :: r, h => by
    have h1 := h w (by simp)
    have h2 := tw_sum (ws := r) fun y hy => h y (by simp [hy])
    rw [tw, List.sum_cons]; omega
theorem pk_lt : ∀ (ws : List Int) (d : Nat), 1 ≤ ws.length → pk ws d < ws.length
  | [], d, h => by simp at h
  | [w], d, h => by simp [pk]
  | w :: w' :: r, d, h => by
    simp only [pk]
    split
    · have := pk_lt (w' :: r) (d - w.toNat) (by simp)
      simp at this ⊢; omega
    · simp
/-- What a node's rest makes of a child's. -/
def phi (ws : List Int) (p : Nat) (v : Int) : Int := if v < 0 then -1 else if pk ws (v % (tw ws : Int)).toNat = p then v / (tw ws : Int) else -1
theorem phi_one {ws : List Int} {p r : Nat} (hw : 1 ≤ tw ws) (v : Int) : (if phi ws p v = (r : Int) then 1 else 0) = sumTo (tw ws) (fun d => if pk ws d = p then (if v = ((r * tw ws + d : Nat) : Int) then 1 else 0) else 0) := by
  by_cases hv : v < 0
  · have : phi ws p v = -1 := by unfold phi; rw [if_pos hv]
    rw [this, if_neg (by omega), sumTo_cong (h := fun _ => 0) _ fun d hd => by
      split
      · rw [if_neg (by omega)]
      · rfl]
    rw [sumTo_const]; simp
  · obtain ⟨n, rfl⟩ : ∃ n : Nat, v = n := ⟨v.toNat, by omega⟩
    have hdm := Nat.div_add_mod n (tw ws)
    have hml := Nat.mod_lt n (show 0 < tw ws by omega)
    have e1 : (((n : Int) % (tw ws : Int)).toNat) = n % tw ws := by omega
    have e2 : ((n : Int) / (tw ws : Int)) = ((n / tw ws : Nat) : Int) := by omega
    have key : ∀ d < tw ws, ((n : Int) = ((r * tw ws + d : Nat) : Int)) ↔ (n / tw ws = r ∧ d = n % tw ws) := by
      intro d hd
      constructor
      · intro e
        have e' : n = r * tw ws + d := by omega
        rw [e']
        rw [Nat.mul_comm r, Nat.mul_add_div (by omega), Nat.div_eq_of_lt hd, Nat.mul_add_mod, Nat.mod_eq_of_lt hd]
        exact ⟨by omega, rfl⟩
      · rintro ⟨h1, h2⟩
        subst h1 h2
        rw [Nat.mul_comm]; omega
    rw [sumTo_cong (h := fun d => if d = n % tw ws then (if pk ws d = p ∧ n / tw ws = r then 1 else 0) else 0) _ fun d hd => by
      have hk := key d hd
      by_cases h1 : d = n % tw ws
      · rw [if_pos h1]
        by_cases h2 : pk ws d = p
        · rw [if_pos h2]
          by_cases h3 : n / tw ws = r
          · rw [if_pos (hk.2 ⟨h3, h1⟩), if_pos ⟨h2, h3⟩]
          · rw [if_neg (fun e => h3 (hk.1 e).1), if_neg (fun e => h3 e.2)]
        · rw [if_neg h2, if_neg (fun e => h2 e.1)]
      · rw [if_neg h1]
        split
        · rw [if_neg (fun e => h1 (hk.1 e).2)]
        · rfl]
    rw [sumTo_one, if_pos hml]
    unfold phi
    rw [if_neg hv, e1, e2]
    by_cases h2 : pk ws (n % tw ws) = p
    · rw [if_pos h2]
      by_cases h3 : n / tw ws = r
      · rw [if_pos (by omega), if_pos ⟨h2, h3⟩]
      · rw [if_neg (by omega), if_neg (fun e => h3 e.2)]
    · rw [if_neg h2, if_neg (by omega), if_neg (fun e => h2 e.1)]
theorem phi_count {ws : List Int} {p r : Nat} (hw : 1 ≤ tw ws) : ∀ (L : List Int), (L.map (phi ws p)).count (r : Int) = sumTo (tw ws) (fun d => if pk ws d = p then L.count ((r * tw ws + d : Nat) : Int) else 0)
  | [] => by
    rw [sumTo_cong (h := fun _ => 0) _ fun d hd => by split <;> rfl, sumTo_const]; simp
  | v :: L => by
    have h1 := phi_one (ws := ws) (p := p) (r := r) hw v
    have h2 := phi_count (p := p) (r := r) hw L
    rw [List.map_cons, List.count_cons, h2]
    have : (if phi ws p v == (r : Int) then 1 else 0) = (if phi ws p v = (r : Int) then 1 else 0) := by simp
    rw [this, h1, ← sumTo_plus]
    refine sumTo_cong _ fun d hd => ?_
    split
    · rw [List.count_cons]; simp
    · rfl
theorem countP_sum {M : Nat} : ∀ (L : List Int), (∀ v ∈ L, 0 ≤ v → v < M) → L.countP (fun v => decide (0 ≤ v)) = sumTo M (fun r => L.count (r : Int))
  | [], _ => by
    rw [sumTo_cong (f := fun r : Nat => ([] : List Int).count (r : Int)) (h := fun _ => 0) M (fun d hd => by simp), sumTo_const]; simp
  | v :: L, h => by
    have ih := countP_sum L fun y hy => h y (by simp [hy])
    have hv := h v (by simp)
    rw [List.countP_cons, ih, sumTo_cong (f := fun r : Nat => (v :: L).count (r : Int)) (h := fun r => L.count (r : Int) + if r = v.toNat then (if 0 ≤ v then 1 else 0) else 0) _ fun d hd => by
      rw [List.count_cons]
      congr 1
      by_cases h0 : 0 ≤ v
      · by_cases h1 : d = v.toNat
        · rw [if_pos h1, if_pos h0]
          have : (v == (d : Int)) = true := by rw [beq_iff_eq]; omega
          rw [this]; rfl
        · rw [if_neg h1]
          have : (v == (d : Int)) = false := by rw [beq_eq_false_iff_ne]; omega
          rw [this]; rfl
      · have : (v == (d : Int)) = false := by rw [beq_eq_false_iff_ne]; omega
        rw [this, if_neg h0]; simp]
    rw [sumTo_plus, sumTo_one]
    congr 1
    by_cases h0 : 0 ≤ v
    · have h1 : v.toNat < M := by have := hv h0; omega
      simp [h0, h1]
    · simp [h0]
theorem range_count (S r : Nat) : ((List.range S).map fun s : Nat => (s : Int)).count (r : Int) = if r < S then 1 else 0 := by
  induction S with
  | zero => simp
  | succ S ih =>
    rw [List.range_succ, List.map_append, List.count_append, ih]
    simp only [List.map_cons, List.map_nil, List.count_cons, List.count_nil]
    by_cases h : S = r
    · subst h; simp
    · have e : ((S : Int) == (r : Int)) = false := by rw [beq_eq_false_iff_ne]; omega
      rw [e]
      by_cases h2 : r < S
      · have h3 : r < S + 1 := by omega
        simp [h2, h3]
      · have h3 : ¬ r < S + 1 := by omega
        simp [h2, h3]
end Go.Proofs.Ytbfeaikiiamhaaa.Rc

/- I5 -/
namespace Go.Proofs.Ytbfeaikiiamhaaa.Rc
open Go.Ab
/-- All children get a rest. -/
def setR (rs : List Int) : List Int → Int → List Int
  | [], _ => rs
  | c :: cs, b => setR (rs.set c.toNat b) cs b
def rst (ns : List Nd) (i : Nat) (rs : List Int) : List Int :=
  match ns[i]? with
  | none => rs
  | some x => if rs.getD i 0 < 0 then rs else
    if x.k = 1 then rs.set (x.nx.getD (pk x.ws (rs.getD i 0 % (tw x.ws : Int)).toNat) 0).toNat (rs.getD i 0 / (tw x.ws : Int))
    else setR rs x.nx (rs.getD i 0)
def rrun (ns : List Nd) : Nat → Nat → List Int → List Int
  | 0, _, rs => rs
  | n + 1, i, rs => rrun ns n (i + 1) (rst ns i rs)
theorem rrun_add (ns : List Nd) : ∀ (a b i : Nat) (rs : List Int), rrun ns (a + b) i rs = rrun ns b (i + a) (rrun ns a i rs)
  | 0, b, i, rs => by simp [rrun]
  | a + 1, b, i, rs => by rw [show a + 1 + b = (a + b) + 1 by omega, rrun, rrun, rrun_add ns a b (i + 1), show i + 1 + a = i + (a + 1) by omega]
theorem setR_none : ∀ (cs : List Int) (rs : List Int) (b : Int) (t : Nat), (∀ c ∈ cs, c.toNat ≠ t) → (setR rs cs b).getD t 0 = rs.getD t 0
  | [], rs, b, t, h => rfl
  | c :: cs, rs, b, t, h => by
    rw [setR, setR_none cs _ b t fun x hx => h x (by simp [hx])]
    simp only [List.getD_eq_getElem?_getD]
    rw [List.getElem?_set_ne (h c (by simp))]
theorem setR_len : ∀ (cs : List Int) (rs : List Int) (b : Int), (setR rs cs b).length = rs.length
  | [], rs, b => rfl
  | c :: cs, rs, b => by rw [setR, setR_len cs]; simp
theorem setR_in : ∀ (cs : List Int) (rs : List Int) (b : Int) (t : Nat), t < rs.length → (∃ c ∈ cs, c.toNat = t) → (setR rs cs b).getD t 0 = b
  | [], rs, b, t, hl, h => by obtain ⟨c, hc, _⟩ := h; simp at hc
  | c :: cs, rs, b, t, hl, h => by
    rw [setR]
    by_cases h2 : ∃ c ∈ cs, c.toNat = t
    · exact setR_in cs _ b t (by simpa using hl) h2
    · rw [setR_none cs _ b t fun x hx e => h2 ⟨x, hx, e⟩]
      obtain ⟨c', hc', e⟩ := h
      rcases List.mem_cons.1 hc' with rfl | hc'
      · subst e
        simp only [List.getD_eq_getElem?_getD]
        rw [List.getElem?_set_self hl]; rfl
      · exact absurd ⟨c', hc', e⟩ h2
theorem rst_len (ns : List Nd) (i : Nat) (rs : List Int) : (rst ns i rs).length = rs.length := by
  unfold rst
  split
  · rfl
  · split
    · rfl
    · split
      · simp
      · exact setR_len _ _ _
theorem rrun_len (ns : List Nd) : ∀ (n i : Nat) (rs : List Int), (rrun ns n i rs).length = rs.length
  | 0, i, rs => rfl
  | n + 1, i, rs => by rw [rrun, rrun_len ns n, rst_len]
/-- The rest at a node of a seed. -/
def Rr (ns : List Nd) (s i : Nat) : Int := (rrun ns ns.length 0 ((List.replicate ns.length (-1)).set 0 (s : Int))).getD i 0
section
variable {g : Gm} (hs : Small g)
include hs
theorem rst_none {t i : Nat} (rs : List Int) (h : ∀ p c, Eg g.ns i p c → c.toNat ≠ t) : (rst g.ns i rs).getD t 0 = rs.getD t 0 := by
  unfold rst
  split
  · rfl
  · rename_i x hx
    split
    · rfl
    · split
      · rename_i hk
        obtain ⟨h1, h2, h3⟩ := hs.ch i x hx hk
        have hpl := pk_lt x.ws (rs.getD i 0 % (tw x.ws : Int)).toNat (by omega)
        obtain ⟨q, hq⟩ : ∃ q, pk x.ws (rs.getD i 0 % (tw x.ws : Int)).toNat = q := ⟨_, rfl⟩
        rw [hq] at hpl ⊢
        have hql : q < x.nx.length := by omega
        have hc : x.nx[q]? = some (x.nx.getD q 0) := by simp [hql]
        simp only [List.getD_eq_getElem?_getD] at hc ⊢
        rw [List.getElem?_set_ne (h q _ ⟨x, hx, hc⟩)]
      · refine setR_none _ _ _ _ fun c hc => ?_
        obtain ⟨p, hp⟩ := List.getElem?_of_mem hc
        exact h p c ⟨x, hx, hp⟩
theorem rrun_none {t : Nat} : ∀ (n i : Nat) (rs : List Int), (∀ i' p c, i ≤ i' → i' < i + n → Eg g.ns i' p c → c.toNat ≠ t) → (rrun g.ns n i rs).getD t 0 = rs.getD t 0
  | 0, i, rs, h => rfl
  | n + 1, i, rs, h => by
    rw [rrun, rrun_none n (i + 1) _ fun i' p c h1 h2 he => h i' p c (by omega) (by omega) he, rst_none hs _ fun p c he => h i p c (Nat.le_refl _) (by omega) he]
theorem Rr_root (s : Nat) : Rr g.ns s 0 = s := by
  have ht := game_e hs.f
  unfold Rr
  rw [rrun_none hs]
  · have := ht.lt
    rw [List.getD_eq_getElem?_getD, List.getElem?_set_self (by simpa using this)]; rfl
  · intro i' p c h1 h2 he e
    have := ht.tgt i' p c h1 (by omega) he
    omega
/-- The rest at a node when it is come to. -/
theorem Rr_at (s i : Nat) (hi : i ≤ g.ns.length) : (rrun g.ns i 0 ((List.replicate g.ns.length (-1)).set 0 (s : Int))).getD i 0 = Rr g.ns s i := by
  have ht := game_e hs.f
  unfold Rr
  obtain ⟨d, hd⟩ : ∃ d, g.ns.length = i + d := ⟨g.ns.length - i, by omega⟩
  generalize hrs : (List.replicate g.ns.length (-1)).set 0 (s : Int) = rs
  conv => rhs; rw [hd, rrun_add]
  refine (rrun_none hs d (0 + i) _ ?_).symm
  intro i' p c h1 h2 he e
  have := ht.tgt i' p c (by omega) (by omega) he
  omega
theorem Rr_edge (s : Nat) {i p : Nat} {c : Int} (he : Eg g.ns i p c) {x : Nd} (hx : g.ns[i]? = some x) :
    Rr g.ns s c.toNat = if Rr g.ns s i < 0 then -1 else if x.k = 1 then phi x.ws p (Rr g.ns s i) else Rr g.ns s i := by
  have ht := game_e hs.f
  have hil := getElem?_lt hx
  have htg := ht.tgt i p c (by omega) hil he
  have hati := Rr_at hs s i (by omega)
  have hp := he
  obtain ⟨y, hy, hp⟩ := hp
  rw [hx] at hy; cases hy
  have huni : ∀ i' p' c', i' < g.ns.length → Eg g.ns i' p' c' → c'.toNat = c.toNat → i' = i ∧ p' = p := fun i' p' c' hi' he' e => by
    have h3 := ht.tgt i' p' c' (by omega) hi' he'
    have h4 : c' = c := by omega
    subst h4
    exact ht.uniq i' i p' p c' (by omega) hi' (by omega) hil he' he
  unfold Rr at hati ⊢
  obtain ⟨d, hd⟩ : ∃ d, g.ns.length = i + (1 + d) := ⟨g.ns.length - (i + 1), by omega⟩
  generalize hrs : (List.replicate g.ns.length (-1)).set 0 (s : Int) = rs at hati ⊢
  have hrl : rs.length = g.ns.length := by rw [← hrs]; simp
  have hsp : rrun g.ns g.ns.length 0 rs = rrun g.ns d (i + 1) (rst g.ns i (rrun g.ns i 0 rs)) := by
    have h1 := rrun_add g.ns i (1 + d) 0 rs
    have h2 := rrun_add g.ns 1 d i (rrun g.ns i 0 rs)
    rw [← hd, Nat.zero_add] at h1
    rw [h1, h2]; rfl
  have hbefore : (rrun g.ns i 0 rs).getD c.toNat 0 = -1 := by
    rw [rrun_none hs i 0 rs fun i' p' c' h1 h2 he' e => by
      have := (huni i' p' c' (by omega) he' e).1; omega]
    rw [← hrs, List.getD_eq_getElem?_getD, List.getElem?_set_ne (by omega), List.getElem?_replicate, if_pos (by omega)]; rfl
  rw [← hati]
  generalize hv : (rrun g.ns i 0 rs).getD i 0 = v
  rw [hsp, rrun_none hs]
  · unfold rst
    rw [hx]
    simp only
    rw [hv]
    by_cases h0 : v < 0
    · rw [if_pos h0, if_pos h0, hbefore]
    · rw [if_neg h0, if_neg h0]
      by_cases hk : x.k = 1
      · rw [if_pos hk, if_pos hk]
        obtain ⟨h1, h2, h3⟩ := hs.ch i x hx hk
        have hpl := pk_lt x.ws (v % (tw x.ws : Int)).toNat (by omega)
        unfold phi
        rw [if_neg h0]
        obtain ⟨q, hq⟩ : ∃ q, pk x.ws (v % (tw x.ws : Int)).toNat = q := ⟨_, rfl⟩
        rw [hq] at hpl ⊢
        have hql : q < x.nx.length := by omega
        have hc : x.nx[q]? = some (x.nx.getD q 0) := by simp [hql]
        by_cases hqp : q = p
        · rw [if_pos hqp]
          rw [hqp, hp] at hc
          rw [hqp, ← Option.some.inj hc]
          rw [List.getD_eq_getElem?_getD, List.getElem?_set_self (by rw [rrun_len]; omega)]; rfl
        · rw [if_neg hqp]
          rw [List.getD_eq_getElem?_getD, List.getElem?_set_ne (fun e => hqp (huni i q _ hil ⟨x, hx, hc⟩ e).2), ← List.getD_eq_getElem?_getD]
          exact hbefore
      · rw [if_neg hk, if_neg hk]
        exact setR_in _ _ _ _ (by rw [rrun_len]; omega) ⟨c, List.mem_of_getElem? hp, rfl⟩
  · intro i' p' c' h1 h2 he' e
    have := (huni i' p' c' (by omega) he' e).1; omega
/-- HOW OFTEN EACH REST IS MET AT A NODE. -/
theorem met {S : Nat} {P : Nat → Nat} (hS : g.siz = some S) (hP0 : P 0 = 1) (hP : ∀ i < g.ns.length, 1 ≤ P i ∧ P i * sm g.ns i ∣ S) (hPe : ∀ (i p : Nat) (c : Int), Eg g.ns i p c → P c.toNat = P i * sm g.ns i) :
    ∀ j, j < g.ns.length → ∃ W, 1 ≤ W ∧ g.cnt S j = S / P j * W ∧ (∀ v ∈ (List.range S).map (Rr g.ns · j), -1 ≤ v) ∧ ∀ r : Nat, ((List.range S).map (Rr g.ns · j)).count (r : Int) = if r < S / P j then W else 0 := by
  have ht := game_e hs.f
  intro j
  induction j using Nat.strongRecOn with
  | _ j ih =>
    intro hj
    by_cases h0 : j = 0
    · subst h0
      have e : (List.range S).map (Rr g.ns · 0) = (List.range S).map fun s : Nat => (s : Int) := List.map_congr_left fun s _ => Rr_root hs s
      refine ⟨1, Nat.le_refl _, by rw [cnt_root hs, hP0]; simp, fun v hv => ?_, fun r => ?_⟩
      · rw [e] at hv
        obtain ⟨s, _, rfl⟩ := List.mem_map.1 hv
        omega
      · rw [e, range_count, hP0]; simp
    · obtain ⟨i, p, _, hij, he⟩ := ht.inc j (by omega) hj
      have hil : i < g.ns.length := by omega
      obtain ⟨W, hW, hcnt, hge, hcount⟩ := ih i hij hil
      obtain ⟨x, hx, hp⟩ := id he
      have hPj := hPe i p j he
      have hpi := hP i hil
      rw [Int.toNat_natCast] at hPj
      have hcj := cnt_edge hs (S := S) he hx
      rw [Int.toNat_natCast] at hcj
      have hRj : ∀ s, Rr g.ns s j = if Rr g.ns s i < 0 then -1 else if x.k = 1 then phi x.ws p (Rr g.ns s i) else Rr g.ns s i := fun s => by
        have := Rr_edge hs s he hx
        rwa [Int.toNat_natCast] at this
      by_cases hk : x.k = 1
      · obtain ⟨h1, h2, h3⟩ := hs.ch i x hx hk
        have hpl : p < x.ws.length := by rw [h2]; exact getElem?_lt hp
        have htw : (tw x.ws : Int) = x.ws.sum := tw_sum fun w hw => by have := h3 w hw; omega
        have hsm : sm g.ns i = tw x.ws := by unfold sm; rw [hx]; simp only; rw [if_pos hk]; omega
        have htp : 1 ≤ tw x.ws := by rw [← hsm]; exact sm_pos hs i
        have hmap : (List.range S).map (Rr g.ns · j) = ((List.range S).map (Rr g.ns · i)).map (phi x.ws p) := by
          rw [List.map_map]
          refine List.map_congr_left fun s _ => ?_
          simp only [Function.comp]
          rw [hRj s, if_pos hk]
          by_cases hv : Rr g.ns s i < 0
          · rw [if_pos hv]; unfold phi; rw [if_pos hv]
          · rw [if_neg hv]
        obtain ⟨q, hq⟩ := hpi.2
        rw [hsm] at hq hPj
        have hd1 : S / P i = tw x.ws * q := by rw [hq, Nat.mul_assoc, Nat.mul_div_cancel_left _ (by omega)]
        have hd2 : S / P j = q := by rw [hPj, hq, Nat.mul_div_cancel_left _ (Nat.mul_pos (by omega) (by omega))]
        have hwp : 1 ≤ (x.ws.getD p 0).toNat := by
          have : x.ws.getD p 0 ∈ x.ws := by simp [hpl]
          have := h3 _ this; omega
        refine ⟨W * (x.ws.getD p 0).toNat, Nat.mul_pos hW hwp, ?_, fun v hv => ?_, fun r => ?_⟩
        · rw [hcj, if_pos hk, hcnt, hd1, hd2, show x.ws.sum.toNat = tw x.ws by omega, Nat.mul_assoc, Nat.mul_div_cancel_left _ (by omega), Nat.mul_assoc]
        · rw [hmap] at hv
          obtain ⟨u, hu, rfl⟩ := List.mem_map.1 hv
          unfold phi
          split
          · omega
          · split
            · have : 0 ≤ u / (tw x.ws : Int) := Int.ediv_nonneg (by omega) (by omega)
              omega
            · omega
        · rw [hmap, phi_count htp, hd2]
          by_cases hr : r < q
          · rw [if_pos hr, sumTo_cong (h := fun d => W * (if pk x.ws d = p then 1 else 0)) _ fun d hd => by
              split
              · rw [hcount, hd1, if_pos, Nat.mul_one]
                have : r * tw x.ws + tw x.ws ≤ q * tw x.ws := by
                  rw [← Nat.succ_mul]; exact Nat.mul_le_mul_right _ hr
                rw [Nat.mul_comm (tw x.ws) q]; omega
              · simp, sumTo_mul, pk_count x.ws p hpl]
          · rw [if_neg hr, sumTo_cong (h := fun _ => 0) _ fun d hd => by
              split
              · rw [hcount, hd1, if_neg]
                have : q * tw x.ws ≤ r * tw x.ws := Nat.mul_le_mul_right _ (by omega)
                rw [Nat.mul_comm (tw x.ws) q]; omega
              · rfl, sumTo_const]
            simp
      · have hsm : sm g.ns i = 1 := by unfold sm; rw [hx]; simp only; rw [if_neg hk]
        rw [hsm, Nat.mul_one] at hPj
        have hmap : (List.range S).map (Rr g.ns · j) = (List.range S).map (Rr g.ns · i) := by
          refine List.map_congr_left fun s hsr => ?_
          rw [hRj s, if_neg hk]
          split
          · have := hge (Rr g.ns s i) (List.mem_map.2 ⟨s, hsr, rfl⟩); omega
          · rfl
        refine ⟨W, hW, ?_, ?_, ?_⟩
        · rw [hcj, if_neg hk, hcnt, hPj]
        · rw [hmap]; exact hge
        · rw [hmap, hPj]; exact hcount
/-- GOING THROUGH ALL SEEDS COUNTS AS MANY. -/
theorem found_ok {S : Nat} (hS : g.siz = some S) {j : Nat} (hj : j < g.ns.length) : ((List.range S).map (Rr g.ns · j)).countP (fun v => decide (0 ≤ v)) = g.cnt S j ∧ 1 ≤ g.cnt S j := by
  obtain ⟨S', P, h1, h2, h3, h4, h5, h6⟩ := size_ok hs
  rw [hS] at h1
  obtain rfl := Option.some.inj h1
  obtain ⟨W, hW, hcnt, hge, hcount⟩ := met hs hS h4 h5 h6 j hj
  have hpj := h5 j hj
  have hq : 1 ≤ S / P j := by
    have h7 : P j ∣ S := Nat.dvd_trans (Nat.dvd_mul_right _ _) hpj.2
    obtain ⟨q, hq⟩ := h7
    rw [hq, Nat.mul_div_cancel_left _ (by omega)]
    rcases q with _ | q
    · simp at hq; omega
    · omega
  refine ⟨?_, by rw [hcnt]; exact Nat.mul_pos hq hW⟩
  rw [countP_sum (M := S / P j), sumTo_cong (h := fun _ => W) _ fun d hd => by rw [hcount, if_pos hd], sumTo_const, hcnt]
  intro v hv h0
  have hc : 0 < ((List.range S).map (Rr g.ns · j)).count v := List.count_pos_iff.2 hv
  have := hcount v.toNat
  rw [show ((v.toNat : Nat) : Int) = v by omega] at this
  rw [this] at hc
  split at hc
  · omega
  · omega
end
end Go.Proofs.Ytbfeaikiiamhaaa.Rc

/- I6 -/
namespace Go.Proofs.Ytbfeaikiiamhaaa.Rc
open Go.Ab
/-- All objects are laid down behind the k-th step. -/
def icFrz (ks : List Nat) (d : Nat) : Nat → IC → IC
  | 0, a => .keep ks (.frz d a)
  | k + 1, .seq a b => .seq a (icFrz ks d k b)
  | _, a => a
@[simp] theorem icFrz_zero (ks : List Nat) (d : Nat) (a : IC) : icFrz ks d 0 a = .keep ks (.frz d a) := by cases a <;> rfl
@[simp] theorem icFrz_succ (ks : List Nat) (d k : Nat) (a b : IC) : icFrz ks d (k + 1) (.seq a b) = .seq a (icFrz ks d k b) := rfl
@[simp] theorem env_frz_nil (H : List AO) (d : Nat) : Env.frz [] H d = [] := rfl
@[simp] theorem env_frz_cons (k : Nat) (v : SV) (e : Env) (H : List AO) (d : Nat) : Env.frz ((k, v) :: e) H d = (k, v.fz 0 [] H d) :: Env.frz e H d := rfl
@[simp] theorem X_frz {P : Program} {N : Nat} {D : Array Oper → List Nat → List Ins → Bool} (d : Nat) (a : IC) (env : Env) (H : List AO) (K : XE → Env → List AO → Prop) : X P N D (.frz d a) env H K = X P N D a (env.frz H d) (H.map AO.dead) K := rfl
theorem fz0_ptr {L : List AO} (d k off len sz ver p : Nat) : SV.fz 0 [] L (d + 1) (.ptr (.own k off len sz ver) p) = (match L[k]? with
      | some o => if o.live = true ∧ o.ver = ver ∧ off < o.cells.length then .ptr (.slc ((o.cells.drop off).map (SV.fz 0 [] L d)) 0) p else .any
      | none => .any) := by
  have := fz_ptr (n := 0) (L := L) (d := d) k off len sz ver p
  rw [Nat.zero_add] at this
  exact this
theorem fz0_own {L : List AO} (d k off len sz ver : Nat) : SV.fz 0 [] L (d + 1) (.own k off len sz ver) = (match L[k]? with
      | some o => if o.live = true ∧ o.ver = ver ∧ off + len * sz ≤ o.cells.length then .slc (((o.cells.drop off).take (len * sz)).map (SV.fz 0 [] L d)) len else .any
      | none => .any) := by
  have := fz_own 0 [] L d k off len sz ver
  rw [Nat.zero_add] at this
  simp only [placeOf] at this
  exact this
section
variable {H : List AO} {x : SV} {l : List Int}
theorem sumT_rng : ∀ {l : List Int} (k : Nat), (∀ w ∈ l, 0 ≤ w ∧ w ≤ 1000) → 0 ≤ (l.take k).sum ∧ (l.take k).sum ≤ 1000 * l.length
  | [], k, _ => by simp
  | w :: l, 0, _ => by simp; omega
  | w :: l, k + 1, h => by
    have h1 := h w (by simp)
    have h2 := sumT_rng (l := l) k fun y hy => h y (by simp [hy])
    simp only [List.take_succ_cons, List.sum_cons, List.length_cons]; omega
theorem loop20 (hx : IsI H x l) (hb : ∀ w ∈ l, 0 ≤ w ∧ w ≤ 1000) (hl : l.length ≤ 100) {N : Nat} {K : XE → Env → List AO → Prop} (hexit : ∀ env, env.get 3 = i64 l.sum → K (.exit 0) env H) :
    ∀ (n i : Nat) (env : Env), i + n = l.length → env.get 0 = x → env.get 3 = i64 (l.take i).sum → env.get 4 = i64 i → LI Try.prog N drawB l20_0 env H K := by
  intro n
  induction n with
  | zero =>
    intro i env hi h0 h3 h4
    refine li_go hm l20_0.eq_1 ?_
    have e : i = l.length := by omega
    subst e
    rw [List.take_length] at h3
    simp -implicitDefEqProofs [h0, h3, h4, hx.vd, hx.ug, hx.sl, hx.len]
    exact hexit _ (by simp [h3])
  | succ n ih =>
    intro i env hi h0 h3 h4
    refine li_go hm l20_0.eq_1 ?_
    have hlt : i < l.length := by omega
    have hs := sumT_rng i hb
    have hw := hb _ (List.getElem_mem hlt)
    have w1 : IntKind.i64.wrap ((i : Int) + 1) = ((i + 1 : Nat) : Int) := wrap_succ (by omega)
    have w2 : IntKind.i64.wrap ((l.take i).sum + l[i]) = (l.take (i + 1)).sum := by
      rw [wrap_id (by omega) (by omega), List.take_succ_eq_append_getElem hlt, List.sum_append]; simp
    simp -implicitDefEqProofs [h0, h3, h4, hlt, hx.vd, hx.ug, hx.sl, hx.len, hx.v hlt, hx.ok hlt, w1, w2]
    refine ih (i + 1) _ (by omega) (by simp [h0]) (by simp) (by simp)
theorem ok20 (hx : IsI H x l) (hb : ∀ w ∈ l, 0 ≤ w ∧ w ≤ 1000) (hl : l.length ≤ 100) : Ok Try.prog 20 [x] H (.ret (i64 l.sum)) H := by
  refine ok_fn hm Try.func20 c20 (by simp) fun hcl => ?_
  simp -implicitDefEqProofs [i20, r20]
  refine loop20 hx hb hl (fun env k3 => ?_) l.length 0 _ (by omega) (by simp) (by simp) (by simp)
  simp -implicitDefEqProofs [k3]
  exact cv_id
end
/-- What the counts are, for the nodes up to one. -/
def cnts (g : Gm) (S n : Nat) : List Int := (List.range n).map fun j => (g.cnt S j : Int)
theorem cnts_len (g : Gm) (S n : Nat) : (cnts g S n).length = n := by simp [cnts]
theorem cnts_snoc (g : Gm) (S n : Nat) : cnts g S (n + 1) = cnts g S n ++ [(g.cnt S n : Int)] := by simp [cnts, List.range_succ]
def sC (g : Gm) (S n : Nat) (M : List AO) : List AO := gbox g :: ⟨ints (cnts g S n), 3, n, true⟩ :: M
theorem loop4_0 {g : Gm} (hs : Small g) {S : Nat} (hS : g.siz = some S) (hSb : S ≤ 1000000000000000) {N : Nat} {K : XE → Env → List AO → Prop}
    (hexit : ∀ env M, env.get 5 = .ptr (.own 0 0 0 0 0) 0 → env.get 6 = i64 S → env.get 10 = .own 1 0 g.ns.length 1 g.ns.length → K (.exit 0) env (sC g S g.ns.length M)) :
    ∀ (n i : Nat) (env : Env) (M : List AO), i + n = g.ns.length → env.get 5 = .ptr (.own 0 0 0 0 0) 0 → env.get 6 = i64 S → env.get 10 = .own 1 0 i 1 i → env.get 11 = i64 i → LI Try.prog N drawB l4_0 env (sC g S i M) K := by
  have hn30 := hs.n
  intro n
  induction n with
  | zero =>
    intro i env M hi h5 h6 h10 h11
    refine li_go hm l4_0.eq_1 ?_
    have e : i = g.ns.length := by omega
    subst e
    simp -implicitDefEqProofs [h5, h6, h10, h11, sC, gbox]
    exact hexit _ M (by simp [h5]) (by simp [h6]) (by simp [h10])
  | succ n ih =>
    intro i env M hi h5 h6 h10 h11
    refine li_go hm l4_0.eq_1 ?_
    have hlt : i < g.ns.length := by omega
    have w1 : IntKind.i64.wrap ((i : Int) + 1) = ((i + 1 : Nat) : Int) := wrap_succ (by omega)
    have hf := found_ok hs hS hlt
    have h15 := fun H => ok15 (H := H) (g := g) (i : Int)
    have hc : cntR g i = ((g.cnt S i : Int), 0) := by
      unfold cntR
      rw [if_neg (by simpa using hs.f), hS]
      simp only
      rw [if_neg (by omega)]
      simp
    simp only [hc, tupI, Gm.cells] at h15
    have il : (ints (cnts g S i)).length = i := by simp [ints, cnts]
    simp -implicitDefEqProofs [h5, h6, h10, h11, hlt, sC, gbox]
    refine call_go (h15 _) ?_
    have h1 : ¬ (g.cnt S i : Int) < 1 := by omega
    simp -implicitDefEqProofs [h5, h6, h10, h11, h1, il, w1]
    refine ⟨by omega, by omega, LI.cong (H' := sC g S (i + 1) (M ++ [⟨[i64 (g.cnt S i)], 3, 0, true⟩])) (by simp [sC, gbox, cnts_snoc, ints]) (ih (i + 1) _ _ (by omega) ?_ ?_ ?_ ?_)⟩
    all_goals simp [h5, h6]
/-- A game that is laid down, and a row. -/
def gp (g : Gm) : SV := .ptr (.slc [i64 g.pl, .slc (nds g.ns) g.ns.length, .slc (infs g.is) g.is.length] 0) 0
def xO (x : Nd) : AO := ⟨[i64 x.k, i64 x.p, i64 x.i, .slc (ints x.nx) x.nx.length, .slc (ints x.ws) x.ws.length, .slc (ints x.ps) x.ps.length], 39, 0, true⟩
/-- What is checked of a node and its child. -/
theorem cnt_chk {g : Gm} (hs : Small g) {S : Nat} (hS : g.siz = some S) {i p : Nat} {c : Int} (he : Eg g.ns i p c) {x : Nd} (hx : g.ns[i]? = some x) :
    (x.k = 1 → (g.cnt S c.toNat : Int) * x.ws.sum = (g.cnt S i : Int) * x.ws.getD p 0) ∧ (x.k ≠ 1 → g.cnt S c.toNat = g.cnt S i) := by
  have hil := getElem?_lt hx
  have hcj := cnt_edge hs (S := S) he hx
  refine ⟨fun hk => ?_, fun hk => by rw [hcj, if_neg hk]⟩
  obtain ⟨S', P, h1, h2, h3, h4, h5, h6⟩ := size_ok hs
  rw [hS] at h1
  obtain rfl := Option.some.inj h1
  obtain ⟨W, hW, hcnt, hge, hcount⟩ := met hs hS h4 h5 h6 i hil
  obtain ⟨g1, g2, g3⟩ := hs.ch i x hx hk
  have hsm : sm g.ns i = x.ws.sum.toNat := by unfold sm; rw [hx]; simp only; rw [if_pos hk]
  have hsp := sm_pos hs i
  obtain ⟨q, hq⟩ := (h5 i hil).2
  have hpi := (h5 i hil).1
  have hd1 : S / P i = x.ws.sum.toNat * q := by rw [hq, hsm, Nat.mul_assoc, Nat.mul_div_cancel_left _ (by omega)]
  obtain ⟨y, hy, hp⟩ := he
  rw [hx] at hy; cases hy
  have hpl : p < x.ws.length := by rw [g2]; exact getElem?_lt hp
  have hwp : 1 ≤ x.ws.getD p 0 := by
    have : x.ws.getD p 0 ∈ x.ws := by simp [hpl]
    exact (g3 _ this).1
  obtain ⟨w, hw⟩ : ∃ w : Nat, x.ws.getD p 0 = w := ⟨(x.ws.getD p 0).toNat, by omega⟩
  obtain ⟨t, ht⟩ : ∃ t : Nat, x.ws.sum = t := ⟨x.ws.sum.toNat, by rw [hsm] at hsp; omega⟩
  rw [hcj, if_pos hk, hcnt, hd1, hw, ht]
  simp only [Int.toNat_natCast]
  rw [hsm, ht, Int.toNat_natCast] at hsp
  rw [Nat.mul_assoc, Nat.mul_div_cancel_left _ (by omega)]
  have : q * W * w * t = t * (q * W) * w := by
    rw [Nat.mul_comm _ t, ← Nat.mul_assoc]
  exact_mod_cast this
section
variable {g : Gm} (hs : Small g) {S : Nat} (hS : g.siz = some S) (hSb : S ≤ 1000000000000000)
include hs hS hSb
theorem cnt_le (j : Nat) (hj : j < g.ns.length) : g.cnt S j ≤ 1000000000000000 := by
  have h := (found_ok hs hS hj).1
  have h2 := List.countP_le_length (p := fun v => decide (0 ≤ v)) (l := (List.range S).map (Rr g.ns · j))
  rw [h, List.length_map, List.length_range] at h2
  omega
theorem loop4_2 {i : Nat} {x : Nd} (hx : g.ns[i]? = some x) {Hh : List AO} {j : Nat} (hj : Hh[j]? = some (xO x)) {N : Nat} {K : XE → Env → List AO → Prop}
    (hexit : ∀ env, env.get 5 = gp g → env.get 6 = i64 S → env.get 10 = .slc (ints (cnts g S g.ns.length)) g.ns.length → env.get 14 = i64 i → K (.exit 4) env Hh) :
    ∀ (n p : Nat) (env : Env), p + n = x.nx.length → env.get 5 = gp g → env.get 6 = i64 S → env.get 10 = .slc (ints (cnts g S g.ns.length)) g.ns.length → env.get 14 = i64 i → env.get 15 = .ptr (.own j 0 0 0 0) 0 → env.get 16 = i64 p → LI Try.prog N drawB l4_2 env Hh K := by
  have hil := getElem?_lt hx
  have ht := game_e hs.f
  have hn30 := hs.n
  have ex : objCells Hh j 0 = [i64 x.k, i64 x.p, i64 x.i, .slc (ints x.nx) x.nx.length, .slc (ints x.ws) x.ws.length, .slc (ints x.ps) x.ps.length] := objCells_of (o := xO x) hj rfl
  intro n
  induction n with
  | zero =>
    intro p env hp h5 h6 h10 h14 h15 h16
    refine li_go hm l4_2.eq_1 ?_
    have e : p = x.nx.length := by omega
    subst e
    simp -implicitDefEqProofs [h5, h6, h10, h14, h15, h16, ex]
    exact hexit _ (by simp [h5]) (by simp [h6]) (by simp [h10]) (by simp [h14])
  | succ n ih =>
    intro p env hp h5 h6 h10 h14 h15 h16
    refine li_go hm l4_2.eq_1 ?_
    have hlt : p < x.nx.length := by omega
    have he : Eg g.ns i p x.nx[p] := ⟨x, hx, List.getElem?_eq_getElem hlt⟩
    have htg := ht.tgt i p _ (by omega) hil he
    have hchk := cnt_chk hs hS he hx
    obtain ⟨c, hc⟩ : ∃ c : Nat, x.nx[p] = c := ⟨(x.nx[p]).toNat, by omega⟩
    have hcl : c < g.ns.length := by omega
    rw [hc] at hchk
    rw [Int.toNat_natCast] at hchk
    have hfew := (form0 hs.f).1.few (List.mem_of_getElem? hx)
    have w1 : IntKind.i64.wrap ((p : Int) + 1) = ((p + 1 : Nat) : Int) := wrap_succ (by omega)
    have g2 : (ints (cnts g S g.ns.length))[c]? = some (i64 (g.cnt S c)) := by simp [ints, cnts, hcl]
    have g3 : (ints (cnts g S g.ns.length))[i]? = some (i64 (g.cnt S i)) := by simp [ints, cnts, hil]
    have hc0 : (0 : Int) ≤ (c : Int) ∧ (c : Int) < g.ns.length := by omega
    have hcl2 := cnt_le hs hS hSb c hcl
    have hil2 := cnt_le hs hS hSb i hil
    have lc : (cnts g S g.ns.length).length = g.ns.length := cnts_len _ _ _
    have e3 : ∀ (k : Nat) h, (cnts g S g.ns.length)[k]'h = (g.cnt S k : Int) := fun k h => by simp [cnts]
    rcases hs.kk i x hx with hk | hk | hk
    · obtain ⟨q1, q2, q3⟩ := hs.ch i x hx hk
      have hws : ∀ w ∈ x.ws, 0 ≤ w ∧ w ≤ 1000 := fun w hw => by have := q3 w hw; omega
      have hpl : p < x.ws.length := by omega
      have hwp := q3 _ (List.getElem_mem hpl)
      have hsum := sum_le3 q3
      have hgd : x.ws.getD p 0 = x.ws[p] := by simp [hpl]
      have hh := hchk.1 hk
      rw [hgd] at hh
      have b1 : (g.cnt S i : Int) * x.ws[p] ≤ 1000000000000000 * 3 := by
        have h1 : (g.cnt S i : Int) * x.ws[p] ≤ (g.cnt S i : Int) * 3 := Int.mul_le_mul_of_nonneg_left hwp.2 (by omega)
        omega
      have b0 : 0 ≤ (g.cnt S i : Int) * x.ws[p] := Int.mul_nonneg (by omega) (by omega)
      have w2 : IntKind.i64.wrap ((g.cnt S i : Int) * x.ws[p]) = (g.cnt S i : Int) * x.ws[p] := wrap_id (by omega) (by omega)
      have w3 : IntKind.i64.wrap ((g.cnt S c : Int) * x.ws.sum) = (g.cnt S i : Int) * x.ws[p] := by rw [hh]; exact w2
      simp -implicitDefEqProofs [h5, h6, h10, h14, h15, h16, ex, hlt, hc, hc0, g2, g3, hk, gp, lc]
      refine ⟨by omega, by omega, ?_⟩
      refine callq_st (r := i64 x.ws.sum) (fun _ => by simpa [SV.strip] using ok20 (IsI.slc _ x.ws) hws (by omega)) ?_
      simp -implicitDefEqProofs [h5, h6, h10, h14, h15, h16, ex, hlt, hc, hc0, g2, g3, hk, w2, w3, hil, hpl, lc, e3]
      refine ⟨by omega, by omega, ?_⟩
      refine ih (p + 1) _ (by omega) ?_ ?_ ?_ ?_ ?_ ?_
      all_goals simp [h5, h6, h10, h14, h15, w1, gp]
    · have hk1 : ¬ x.k = 1 := by omega
      have hh := hchk.2 hk1
      simp -implicitDefEqProofs [h5, h6, h10, h14, h15, h16, ex, hlt, hc, hc0, g2, g3, hk, gp, lc]
      refine ⟨by omega, by omega, ?_⟩
      refine callq_off _ _ _ _ ?_
      simp -implicitDefEqProofs [h5, h6, h10, h14, h15, h16, ex, hlt, hc, hc0, g2, g3, hk, hil, lc, e3, hh]
      refine ⟨by omega, ?_⟩
      refine ih (p + 1) _ (by omega) ?_ ?_ ?_ ?_ ?_ ?_
      all_goals simp [h5, h6, h10, h14, h15, w1, gp]
    · have := hs.en i x hx hk
      rw [this] at hlt
      simp at hlt
theorem loop4_1 {N : Nat} {K : XE → Env → List AO → Prop}
    (hexit : ∀ env Hh, env.get 5 = gp g → env.get 6 = i64 S → env.get 10 = .slc (ints (cnts g S g.ns.length)) g.ns.length → K (.exit 2) env Hh) :
    ∀ (n i : Nat) (env : Env) (Hh : List AO), i + n = g.ns.length → env.get 5 = gp g → env.get 6 = i64 S → env.get 10 = .slc (ints (cnts g S g.ns.length)) g.ns.length → env.get 14 = i64 i → LI Try.prog N drawB l4_1 env Hh K := by
  have hn30 := hs.n
  intro n
  induction n with
  | zero =>
    intro i env Hh hi h5 h6 h10 h14
    refine li_go hm l4_1.eq_1 ?_
    have e : i = g.ns.length := by omega
    subst e
    simp -implicitDefEqProofs [h5, h6, h10, h14, gp]
    exact hexit _ _ (by simp [h5, gp]) (by simp [h6]) (by simp [h10])
  | succ n ih =>
    intro i env Hh hi h5 h6 h10 h14
    refine li_go hm l4_1.eq_1 ?_
    have hlt : i < g.ns.length := by omega
    have w1 : IntKind.i64.wrap ((i : Int) + 1) = ((i + 1 : Nat) : Int) := wrap_succ (by omega)
    simp -implicitDefEqProofs [h5, h6, h10, h14, gp, hlt, nds_at hlt, nds_min hlt, nds_ge hlt, sl]
    refine loop4_2 hs hS hSb (x := g.ns[i]) (List.getElem?_eq_getElem hlt) (j := Hh.length) (by simp [xO]) (fun env k5 k6 k10 k14 => ?_) (g.ns[i]).nx.length 0 _ (by omega) ?_ ?_ ?_ ?_ ?_ ?_
    · simp -implicitDefEqProofs [k5, k6, k10, k14, w1]
      refine ih (i + 1) _ _ (by omega) ?_ ?_ ?_ ?_
      all_goals simp [k5, k6, k10]
    all_goals simp [h5, h6, h10, h14, gp]
end
end Go.Proofs.Ytbfeaikiiamhaaa.Rc

/- I7 -/
namespace Go.Proofs.Ytbfeaikiiamhaaa.Rc
open Go.Ab
def rest0 (n s : Nat) : List Int := (List.replicate n (-1)).set 0 (s : Int)
def FDv (g : Gm) (s i j : Nat) : Nat := ((List.range s).map (Rr g.ns · j)).countP (fun v => decide (0 ≤ v)) + if j < i ∧ 0 ≤ Rr g.ns s j then 1 else 0
def FD (g : Gm) (s i : Nat) : List Int := (List.range g.ns.length).map fun j => (FDv g s i j : Int)
theorem FD_len (g : Gm) (s i : Nat) : (FD g s i).length = g.ns.length := by simp [FD]
theorem FD_at (g : Gm) (s i : Nat) {j : Nat} (h : j < g.ns.length) : (FD g s i)[j]? = some (FDv g s i j : Int) := by simp [FD, h]
theorem FD_go (g : Gm) (s i : Nat) (h : ¬ 0 ≤ Rr g.ns s i) : FD g s (i + 1) = FD g s i := by
  unfold FD
  refine List.map_congr_left fun j _ => ?_
  unfold FDv
  by_cases e : j = i
  · subst e; rw [if_neg (fun h' => h h'.2), if_neg (fun h' => h h'.2)]
  · by_cases h2 : j < i ∧ 0 ≤ Rr g.ns s j
    · rw [if_pos ⟨by omega, h2.2⟩, if_pos h2]
    · rw [if_neg (fun h' => h2 ⟨by omega, h'.2⟩), if_neg h2]
theorem FD_up (g : Gm) (s i : Nat) (hi : i < g.ns.length) (h : 0 ≤ Rr g.ns s i) : FD g s (i + 1) = (FD g s i).set i ((FDv g s i i : Int) + 1) := by
  apply List.ext_getElem?
  intro j
  by_cases hj : j < g.ns.length
  · rw [FD_at _ _ _ hj, List.getElem?_set]
    by_cases e : i = j
    · subst e
      rw [if_pos rfl, if_pos (by rw [FD_len]; exact hj)]
      unfold FDv
      rw [if_pos ⟨by omega, h⟩, if_neg (fun h' => by omega)]
      simp
    · rw [if_neg e, FD_at _ _ _ hj]
      unfold FDv
      by_cases h2 : j < i ∧ 0 ≤ Rr g.ns s j
      · rw [if_pos ⟨by omega, h2.2⟩, if_pos h2]
      · rw [if_neg (fun h' => h2 ⟨by omega, h'.2⟩), if_neg h2]
  · rw [List.getElem?_eq_none (by rw [FD_len]; omega), List.getElem?_eq_none (by rw [List.length_set, FD_len]; omega)]
theorem FD_next (g : Gm) (s : Nat) : FD g (s + 1) 0 = FD g s g.ns.length := by
  unfold FD
  refine List.map_congr_left fun j hj => ?_
  have hj := List.mem_range.1 hj
  unfold FDv
  rw [List.range_succ, List.map_append, List.countP_append]
  simp [hj]
theorem FD_end {g : Gm} (hs : Small g) {S : Nat} (hS : g.siz = some S) : FD g S 0 = cnts g S g.ns.length := by
  unfold FD cnts
  refine List.map_congr_left fun j hj => ?_
  have := (found_ok hs hS (List.mem_range.1 hj)).1
  unfold FDv
  rw [this, if_neg (fun h' => by omega)]; simp
def sS (B : List AO) (f : List Int) (M1 : List AO) (r : List Int) (M2 : List AO) : List AO := B ++ ⟨ints f, 3, 0, true⟩ :: (M1 ++ ⟨ints r, 3, 0, true⟩ :: M2)
section
variable {B M1 M2 : List AO} {f r : List Int}
theorem sS_f : (sS B f M1 r M2)[B.length]? = some ⟨ints f, 3, 0, true⟩ := by unfold sS; rw [get_app0]; rfl
theorem sS_r : (sS B f M1 r M2)[B.length + (M1.length + 1)]? = some ⟨ints r, 3, 0, true⟩ := by
  unfold sS; rw [get_app]; simp
theorem sS_sf (f' : List Int) : (sS B f M1 r M2).set B.length ⟨ints f', 3, 0, true⟩ = sS B f' M1 r M2 := by simp [sS]
theorem sS_sr (r' : List Int) : (sS B f M1 r M2).set (B.length + (M1.length + 1)) ⟨ints r', 3, 0, true⟩ = sS B f M1 r' M2 := by
  unfold sS; rw [set_app]; simp
theorem sS_cf : objCells (sS B f M1 r M2) B.length 0 = ints f := objCells_of (o := ⟨ints f, 3, 0, true⟩) sS_f rfl
theorem sS_cr : objCells (sS B f M1 r M2) (B.length + (M1.length + 1)) 0 = ints r := objCells_of (o := ⟨ints r, 3, 0, true⟩) sS_r rfl
theorem sS_of (F : AO → AO) : Ab.setObj (sS B f M1 r M2) B.length F = (sS B f M1 r M2).set B.length (F ⟨ints f, 3, 0, true⟩) := setObj_some sS_f F
theorem sS_or (F : AO → AO) : Ab.setObj (sS B f M1 r M2) (B.length + (M1.length + 1)) F = (sS B f M1 r M2).set (B.length + (M1.length + 1)) (F ⟨ints r, 3, 0, true⟩) := setObj_some sS_r F
theorem ints_put {l : List Int} {i : Nat} {v : Int} (h : i < l.length) : List.take i (ints l) ++ i64 v :: List.drop (i + 1) (ints l) = ints (l.set i v) := by
  rw [ints, ints, List.map_set, List.set_eq_take_append_cons_drop, if_pos (by simpa using h)]
variable {n : Nat} {e5 e6 e10 e18 e19 : SV}
theorem loop4_4 {g : Gm} (hg5 : e5 = gp g) (hn : g.ns.length ≤ 30) {N : Nat} {K : XE → Env → List AO → Prop}
    (hexit : ∀ env, env.get 5 = e5 → env.get 6 = e6 → env.get 10 = e10 → env.get 18 = e18 → env.get 19 = e19 → env.get 20 = .own (B.length + (M1.length + 1)) 0 g.ns.length 1 0 → K (.exit 8) env (sS B f M1 (List.replicate g.ns.length (-1)) [])) :
    ∀ (k i : Nat) (env : Env), i + k = g.ns.length → env.get 5 = e5 → env.get 6 = e6 → env.get 10 = e10 → env.get 18 = e18 → env.get 19 = e19 → env.get 20 = .own (B.length + (M1.length + 1)) 0 g.ns.length 1 0 → env.get 21 = i64 i →
      LI Try.prog N drawB l4_4 env (sS B f M1 (List.replicate i (-1) ++ List.replicate k 0) []) K := by
  subst hg5
  intro k
  induction k with
  | zero =>
    intro i env hi h5 h6 h10 h18 h19 h20 h21
    refine li_go hm l4_4.eq_1 ?_
    have e : i = g.ns.length := by omega
    subst e
    simp -implicitDefEqProofs [h5, h6, h10, h18, h19, h20, h21, gp]
    exact hexit _ (by simp [h5, gp]) (by simp [h6]) (by simp [h10]) (by simp [h18]) (by simp [h19]) (by simp [h20])
  | succ k ih =>
    intro i env hi h5 h6 h10 h18 h19 h20 h21
    refine li_go hm l4_4.eq_1 ?_
    have hlt : i < g.ns.length := by omega
    have w1 : IntKind.i64.wrap ((i : Int) + 1) = ((i + 1 : Nat) : Int) := wrap_succ (by omega)
    have hput := ints_put (l := List.replicate i (-1) ++ List.replicate (k + 1) 0) (i := i) (v := -1) (by simp)
    have hset : (List.replicate i (-1 : Int) ++ List.replicate (k + 1) 0).set i (-1) = List.replicate (i + 1) (-1) ++ List.replicate k 0 := by
      rw [List.set_append_right _ _ (by simp), List.length_replicate, Nat.sub_self, List.replicate_succ, List.set_cons_zero, List.replicate_succ', List.append_assoc]; rfl
    simp -implicitDefEqProofs [h5, h6, h10, h18, h19, h20, h21, gp, hlt, sS_cr, sS_or]
    rw [hput, hset, sS_sr]
    refine ih (i + 1) _ (by omega) ?_ ?_ ?_ ?_ ?_ ?_ ?_
    all_goals simp [h5, h6, h10, h18, h19, h20, w1, gp]
/-- All children of a node get its rest. -/
theorem loop4_7 {g : Gm} (hs : Small g) (hg5 : e5 = gp g) {i : Nat} {x : Nd} (hx : g.ns[i]? = some x) {jx : Nat} {M2' : List AO} (hM2 : M2 = M2' ++ [xO x]) (hjx : jx = B.length + (M1.length + (M2'.length + 2))) {r0 : List Int} (hr : r0.length = g.ns.length) {v : Int} (hv : r0[i]? = some v) {N : Nat} {K : XE → Env → List AO → Prop}
    (hexit : ∀ env, env.get 5 = e5 → env.get 6 = e6 → env.get 10 = e10 → env.get 18 = e18 → env.get 19 = e19 → env.get 20 = .own (B.length + (M1.length + 1)) 0 g.ns.length 1 0 → env.get 22 = i64 i → K (.exit 14) env (sS B f M1 (setR r0 x.nx v) M2)) :
    ∀ (k p : Nat) (r : List Int) (env : Env), p + k = x.nx.length → setR r (x.nx.drop p) v = setR r0 x.nx v → r.length = g.ns.length → r[i]? = some v → env.get 5 = e5 → env.get 6 = e6 → env.get 10 = e10 → env.get 18 = e18 → env.get 19 = e19 → env.get 20 = .own (B.length + (M1.length + 1)) 0 g.ns.length 1 0 → env.get 22 = i64 i → env.get 23 = .ptr (.own jx 0 0 0 0) 0 → env.get 29 = i64 p →
      LI Try.prog N drawB l4_7 env (sS B f M1 r M2) K := by
  subst hg5 hM2 hjx
  have hil := getElem?_lt hx
  have ht := game_e hs.f
  have hn30 := hs.n
  have hfew := (form0 hs.f).1.few (List.mem_of_getElem? hx)
  intro k
  induction k with
  | zero =>
    intro p r env hp hr1 hr2 hr3 h5 h6 h10 h18 h19 h20 h22 h23 h29
    refine li_go hm l4_7.eq_1 ?_
    have e : p = x.nx.length := by omega
    subst e
    rw [List.drop_length] at hr1
    simp only [setR] at hr1
    have ex : objCells (sS B f M1 r (M2' ++ [xO x])) (B.length + (M1.length + (M2'.length + 2))) 0 = [i64 x.k, i64 x.p, i64 x.i, .slc (ints x.nx) x.nx.length, .slc (ints x.ws) x.ws.length, .slc (ints x.ps) x.ps.length] := objCells_of (o := xO x) (by
      unfold sS; rw [get_app, show M1.length + (M2'.length + 2) = (M1.length + (M2'.length + 1)) + 1 by omega, List.getElem?_cons_succ, get_app, List.getElem?_cons_succ, get_app0]; rfl) rfl
    simp -implicitDefEqProofs [h5, h6, h10, h18, h19, h20, h22, h23, h29, ex]
    rw [hr1]
    exact hexit _ (by simp [h5]) (by simp [h6]) (by simp [h10]) (by simp [h18]) (by simp [h19]) (by simp [h20]) (by simp [h22])
  | succ k ih =>
    intro p r env hp hr1 hr2 hr3 h5 h6 h10 h18 h19 h20 h22 h23 h29
    refine li_go hm l4_7.eq_1 ?_
    have hlt : p < x.nx.length := by omega
    have ex : objCells (sS B f M1 r (M2' ++ [xO x])) (B.length + (M1.length + (M2'.length + 2))) 0 = [i64 x.k, i64 x.p, i64 x.i, .slc (ints x.nx) x.nx.length, .slc (ints x.ws) x.ws.length, .slc (ints x.ps) x.ps.length] := objCells_of (o := xO x) (by
      unfold sS; rw [get_app, show M1.length + (M2'.length + 2) = (M1.length + (M2'.length + 1)) + 1 by omega, List.getElem?_cons_succ, get_app, List.getElem?_cons_succ, get_app0]; rfl) rfl
    have he : Eg g.ns i p x.nx[p] := ⟨x, hx, List.getElem?_eq_getElem hlt⟩
    have htg := ht.tgt i p _ (by omega) hil he
    obtain ⟨c, hc⟩ : ∃ c : Nat, x.nx[p] = c := ⟨(x.nx[p]).toNat, by omega⟩
    have hcl : c < g.ns.length := by omega
    have hic : i < c := by omega
    have w1 : IntKind.i64.wrap ((p : Int) + 1) = ((p + 1 : Nat) : Int) := wrap_succ (by omega)
    have hc0 : (0 : Int) ≤ (c : Int) ∧ (c : Int) < g.ns.length := by omega
    have hri : (ints r)[i]? = some (i64 v) := by simp [ints, hr3]
    have hril : i < r.length := by omega
    have hrc : c < r.length := by omega
    have hrg : ∀ h, r[i]'h = v := fun h => by rw [List.getElem?_eq_getElem h] at hr3; exact Option.some.inj hr3
    have hput := ints_put (l := r) (i := c) (v := v) hrc
    have hd : x.nx.drop p = (c : Int) :: x.nx.drop (p + 1) := by rw [List.drop_eq_getElem_cons hlt, hc]
    rw [hd, setR, Int.toNat_natCast] at hr1
    simp -implicitDefEqProofs [h5, h6, h10, h18, h19, h20, h22, h23, h29, ex, hlt, hc, hc0, hri, hril, hrg, hr2, hcl, hil, sS_cr, sS_or]
    rw [hput, sS_sr]
    refine ⟨by omega, by omega, by omega, ih (p + 1) (r.set c v) _ (by omega) hr1 (by simpa using hr2) ?_ ?_ ?_ ?_ ?_ ?_ ?_ ?_ ?_ ?_⟩
    · rw [List.getElem?_set_ne (by omega)]; exact hr3
    all_goals simp [h5, h6, h10, h18, h19, h20, h22, h23, w1]
theorem pk_cons {w w' : Int} {t : List Int} {d : Nat} : pk (w :: w' :: t) d = if w.toNat ≤ d then pk (w' :: t) (d - w.toNat) + 1 else 0 := rfl
theorem loop4_6 {x : Nd} (hw : ∀ w ∈ x.ws, 1 ≤ w ∧ w ≤ 3) (hwl : x.ws.length ≤ 60) {Hh : List AO} {jx : Nat} (hj : Hh[jx]? = some (xO x)) {d : Nat} (hd : d < 1000000) {e20 e22 e25 : SV} {N : Nat} {K : XE → Env → List AO → Prop}
    (hexit : ∀ env, env.get 5 = e5 → env.get 6 = e6 → env.get 10 = e10 → env.get 18 = e18 → env.get 19 = e19 → env.get 20 = e20 → env.get 22 = e22 → env.get 23 = .ptr (.own jx 0 0 0 0) 0 → env.get 25 = e25 → env.get 27 = i64 (pk x.ws d) → K (.exit 12) env Hh) :
    ∀ (n k u : Nat) (env : Env), k + n + 1 = x.ws.length → u ≤ d → pk x.ws d = k + pk (x.ws.drop k) (d - u) → env.get 5 = e5 → env.get 6 = e6 → env.get 10 = e10 → env.get 18 = e18 → env.get 19 = e19 → env.get 20 = e20 → env.get 22 = e22 → env.get 23 = .ptr (.own jx 0 0 0 0) 0 → env.get 24 = .slc [i64 d] 1 → env.get 25 = e25 → env.get 27 = i64 k → env.get 28 = i64 (u + x.ws.getD k 0) →
      LI Try.prog N drawB l4_6 env Hh K := by
  have ex : objCells Hh jx 0 = [i64 x.k, i64 x.p, i64 x.i, .slc (ints x.nx) x.nx.length, .slc (ints x.ws) x.ws.length, .slc (ints x.ps) x.ps.length] := objCells_of (o := xO x) hj rfl
  intro n
  induction n with
  | zero =>
    intro k u env hk hu hpk h5 h6 h10 h18 h19 h20 h22 h23 h24 h25 h27 h28
    refine li_go hm l4_6.eq_1 ?_
    have hkl : k < x.ws.length := by omega
    have w1 : IntKind.i64.wrap ((k : Int) + 1) = ((k + 1 : Nat) : Int) := wrap_succ (by omega)
    have hnl : ¬ ((k : Int) + 1) < x.ws.length := by omega
    have hnl' : ¬ k + 1 < x.ws.length := by omega
    have hdr : x.ws.drop k = [x.ws[k]] := by rw [List.drop_eq_getElem_cons hkl, List.drop_of_length_le (by omega)]
    rw [hdr] at hpk
    have hpk : pk x.ws d = k := by simpa [pk] using hpk
    simp -implicitDefEqProofs [h5, h6, h10, h18, h19, h20, h22, h23, h24, h25, h27, h28, ex, w1, hnl, hnl']
    refine hexit _ ?_ ?_ ?_ ?_ ?_ ?_ ?_ ?_ ?_ ?_ <;> simp [h5, h6, h10, h18, h19, h20, h22, h23, h25, h27, hpk]
  | succ n ih =>
    intro k u env hk hu hpk h5 h6 h10 h18 h19 h20 h22 h23 h24 h25 h27 h28
    refine li_go hm l4_6.eq_1 ?_
    have hkl : k < x.ws.length := by omega
    have hkl2 : k + 1 < x.ws.length := by omega
    have w1 : IntKind.i64.wrap ((k : Int) + 1) = ((k + 1 : Nat) : Int) := wrap_succ (by omega)
    have hnl : ((k : Int) + 1) < x.ws.length := by omega
    have hwk := hw _ (List.getElem_mem hkl)
    have hwk2 := hw _ (List.getElem_mem hkl2)
    have hgk : x.ws.getD k 0 = x.ws[k] := by simp [hkl]
    have hgk2 : x.ws.getD (k + 1) 0 = x.ws[k + 1] := by simp [hkl2]
    have hdr : x.ws.drop k = x.ws[k] :: x.ws[k + 1] :: x.ws.drop (k + 2) := by rw [List.drop_eq_getElem_cons hkl, List.drop_eq_getElem_cons hkl2]
    have hdr2 : x.ws.drop (k + 1) = x.ws[k + 1] :: x.ws.drop (k + 2) := by rw [List.drop_eq_getElem_cons hkl2]
    rw [hdr, pk_cons] at hpk
    rw [hgk] at h28
    by_cases hc : (x.ws[k]).toNat ≤ d - u
    · rw [if_pos hc, ← hdr2] at hpk
      have hle : (u : Int) + x.ws[k] ≤ d := by omega
      have w2 : IntKind.i64.wrap ((u : Int) + x.ws[k] + x.ws[k + 1]) = (u : Int) + x.ws[k] + x.ws[k + 1] := wrap_id (by omega) (by omega)
      simp -implicitDefEqProofs [h5, h6, h10, h18, h19, h20, h22, h23, h24, h25, h27, h28, ex, w1, hnl, hkl2, hle, w2]
      refine ⟨by omega, by omega, ih (k + 1) (u + (x.ws[k]).toNat) _ (by omega) (by omega) (by rw [hpk, show d - (u + (x.ws[k]).toNat) = d - u - (x.ws[k]).toNat by omega]; omega) ?_ ?_ ?_ ?_ ?_ ?_ ?_ ?_ ?_ ?_ ?_ ?_⟩
      all_goals first | (simp [h5, h6, h10, h18, h19, h20, h22, h23, h24, h25]; done) | skip
      have hc4 : ((u + (x.ws[k]).toNat : Nat) : Int) = (u : Int) + x.ws[k] := by omega
      rw [hgk2, hc4]; simp
    · rw [if_neg hc] at hpk
      have hle : ¬ (u : Int) + x.ws[k] ≤ d := by omega
      simp -implicitDefEqProofs [h5, h6, h10, h18, h19, h20, h22, h23, h24, h25, h27, h28, ex, w1, hnl, hkl2, hle]
      refine hexit _ ?_ ?_ ?_ ?_ ?_ ?_ ?_ ?_ ?_ ?_ <;> simp [h5, h6, h10, h18, h19, h20, h22, h23, h25, h27, hpk]
end
end Go.Proofs.Ytbfeaikiiamhaaa.Rc

/- I8 -/
namespace Go.Proofs.Ytbfeaikiiamhaaa.Rc
open Go.Ab
theorem isI_at {H : List AO} {T : TypeId} {l : List Int} {j v : Nat} (h : H[j]? = some ⟨ints l, T, v, true⟩) : IsI H (.own j 0 l.length 1 v) l := by
  simpa using IsI.own0 [] H j v l [] T (by simpa using h)
theorem Rr_lt {g : Gm} (hs : Small g) {S : Nat} (hS : g.siz = some S) {s j : Nat} (hsS : s < S) (hj : j < g.ns.length) : Rr g.ns s j < S ∧ -1 ≤ Rr g.ns s j := by
  obtain ⟨S', P, h1, h2, h3, h4, h5, h6⟩ := size_ok hs
  rw [hS] at h1
  obtain rfl := Option.some.inj h1
  obtain ⟨W, hW, hcnt, hge, hcount⟩ := met hs hS h4 h5 h6 j hj
  have hmem : Rr g.ns s j ∈ (List.range S).map (Rr g.ns · j) := List.mem_map.2 ⟨s, List.mem_range.2 hsS, rfl⟩
  refine ⟨?_, hge _ hmem⟩
  by_cases h0 : Rr g.ns s j < 0
  · omega
  · have hc : 0 < ((List.range S).map (Rr g.ns · j)).count (Rr g.ns s j) := List.count_pos_iff.2 hmem
    have h7 := hcount (Rr g.ns s j).toNat
    rw [show (((Rr g.ns s j).toNat : Nat) : Int) = Rr g.ns s j by omega] at h7
    rw [h7] at hc
    split at hc
    · have := Nat.div_le_self S (P j); omega
    · omega
def RS (g : Gm) (s i : Nat) : List Int := rrun g.ns i 0 (rest0 g.ns.length s)
theorem RS_len (g : Gm) (s i : Nat) : (RS g s i).length = g.ns.length := by unfold RS rest0; rw [rrun_len]; simp
theorem RS_next (g : Gm) (s i : Nat) : RS g s (i + 1) = rst g.ns i (RS g s i) := by
  unfold RS
  have := rrun_add g.ns i 1 0 (rest0 g.ns.length s)
  rw [this]; simp [rrun]
section
variable {B M1 : List AO} {e6 e10 e19 : SV}
theorem loop4_5 {g : Gm} (hs : Small g) {S : Nat} (hS : g.siz = some S) (hSb : S ≤ 3000) {s : Nat} (hsS : s < S) {N : Nat} {K : XE → Env → List AO → Prop}
    (hexit : ∀ env M2, env.get 5 = gp g → env.get 6 = e6 → env.get 10 = e10 → env.get 18 = .own B.length 0 g.ns.length 1 0 → env.get 19 = e19 → K (.exit 10) env (sS B (FD g s g.ns.length) M1 (RS g s g.ns.length) M2)) :
    ∀ (k i : Nat) (env : Env) (M2 : List AO), i + k = g.ns.length → env.get 5 = gp g → env.get 6 = e6 → env.get 10 = e10 → env.get 18 = .own B.length 0 g.ns.length 1 0 → env.get 19 = e19 → env.get 20 = .own (B.length + (M1.length + 1)) 0 g.ns.length 1 0 → env.get 22 = i64 i →
      LI Try.prog N drawB l4_5 env (sS B (FD g s i) M1 (RS g s i) M2) K := by
  have hn30 := hs.n
  have ht := game_e hs.f
  intro k
  induction k with
  | zero =>
    intro i env M2 hi h5 h6 h10 h18 h19 h20 h22
    refine li_go hm l4_5.eq_1 ?_
    have e : i = g.ns.length := by omega
    subst e
    simp -implicitDefEqProofs [h5, h6, h10, h18, h19, h20, h22, gp]
    exact hexit _ M2 (by simp [h5, gp]) (by simp [h6]) (by simp [h10]) (by simp [h18]) (by simp [h19])
  | succ k ih =>
    intro i env M2 hi h5 h6 h10 h18 h19 h20 h22
    refine li_go hm l4_5.eq_1 ?_
    have hlt : i < g.ns.length := by omega
    have w1 : IntKind.i64.wrap ((i : Int) + 1) = ((i + 1 : Nat) : Int) := wrap_succ (by omega)
    obtain ⟨x, hx⟩ : ∃ x, g.ns[i]? = some x := ⟨_, List.getElem?_eq_getElem hlt⟩
    have hxe : g.ns[i] = x := by rw [List.getElem?_eq_getElem hlt] at hx; exact Option.some.inj hx
    have hat := Rr_at hs s i (by omega)
    have hat : (RS g s i).getD i 0 = Rr g.ns s i := hat
    have hrl := RS_len g s i
    have hfl := FD_len g s i
    have hvr := Rr_lt hs hS hsS hlt
    obtain ⟨v, hv⟩ : ∃ v, Rr g.ns s i = v := ⟨_, rfl⟩
    rw [hv] at hat hvr
    have hri : (RS g s i)[i]? = some v := by
      have : i < (RS g s i).length := by omega
      rw [List.getD_eq_getElem?_getD, List.getElem?_eq_getElem this] at hat
      rw [List.getElem?_eq_getElem this]; exact congrArg some hat
    have hrg : ∀ h, (RS g s i)[i]'h = v := fun h => by rw [List.getElem?_eq_getElem h] at hri; exact Option.some.inj hri
    have hfi := FD_at g s i hlt
    have hfg : ∀ h, (FD g s i)[i]'h = (FDv g s i i : Int) := fun h => by rw [List.getElem?_eq_getElem h] at hfi; exact Option.some.inj hfi
    have hnxt := RS_next g s i
    unfold rst at hnxt
    rw [hx] at hnxt
    simp only [hat] at hnxt
    have esx : ∀ f r M o, sS B f M1 r M ++ [o] = sS B f M1 r (M ++ [o]) := fun f r M o => by simp [sS]
    have elen : ∀ f r M, (sS B f M1 r M).length = B.length + (M1.length + (M.length + 2)) := fun f r M => by simp [sS]
    have esg : ∀ f r o, (sS B f M1 r (M2 ++ [o]))[B.length + (M1.length + (M2.length + 2))]? = some o := fun f r o => by
      unfold sS; rw [get_app, show M1.length + (M2.length + 2) = (M1.length + (M2.length + 1)) + 1 by omega, List.getElem?_cons_succ, get_app, List.getElem?_cons_succ, get_app0]; rfl
    have ess : ∀ f r o o', (sS B f M1 r (M2 ++ [o])).set (B.length + (M1.length + (M2.length + 2))) o' = sS B f M1 r (M2 ++ [o']) := fun f r o o' => by
      unfold sS; rw [set_app, show M1.length + (M2.length + 2) = (M1.length + (M2.length + 1)) + 1 by omega, List.set_cons_succ, set_app, List.set_cons_succ, set_app0]; rfl
    have eC0 : ∀ f r, objCells (sS B f M1 r (M2 ++ [⟨[i64 0, i64 0, i64 0, nl, nl, nl], 39, 0, true⟩])) (B.length + (M1.length + (M2.length + 2))) 0 = [i64 0, i64 0, i64 0, nl, nl, nl] := fun f r => objCells_of (o := ⟨[i64 0, i64 0, i64 0, nl, nl, nl], 39, 0, true⟩) (esg f r _) rfl
    have eS0 : ∀ f r F, Ab.setObj (sS B f M1 r (M2 ++ [⟨[i64 0, i64 0, i64 0, nl, nl, nl], 39, 0, true⟩])) (B.length + (M1.length + (M2.length + 2))) F = sS B f M1 r (M2 ++ [F ⟨[i64 0, i64 0, i64 0, nl, nl, nl], 39, 0, true⟩]) := fun f r F => by rw [setObj_some (esg f r _), ess]
    have ex0 : (⟨[i64 x.k, i64 x.p, i64 x.i, .slc (ints x.nx) x.nx.length, .slc (ints x.ws) x.ws.length, .slc (ints x.ps) x.ps.length], 39, 0, true⟩ : AO) = xO x := rfl
    simp only [nl] at eC0 eS0
    simp -implicitDefEqProofs [h5, h6, h10, h18, h19, h20, h22, gp, hlt, nds_at hlt, nds_min hlt, nds_ge hlt, sl, hxe, esx, elen, eC0, eS0, ex0, sS_cr, sS_cf, hrl, hrg]
    by_cases hv0 : v < 0
    · rw [if_pos hv0] at hnxt
      simp -implicitDefEqProofs [hv0, w1]
      refine ⟨by omega, ?_⟩
      rw [← hnxt, ← FD_go g s i (by rw [hv]; omega)]
      refine ih (i + 1) _ _ (by omega) ?_ ?_ ?_ ?_ ?_ ?_ ?_
      all_goals simp [h6, h10, h18, h19, h20, gp]
    · rw [if_neg hv0] at hnxt
      have efi : (ints (FD g s i))[i]? = some (i64 (FDv g s i i)) := by simp [ints, hfi]
      have hfb : FDv g s i i ≤ 4000 := by
        unfold FDv
        have h2 := List.countP_le_length (p := fun v => decide (0 ≤ v)) (l := (List.range s).map (Rr g.ns · i))
        rw [List.length_map, List.length_range] at h2
        split <;> omega
      have wf : IntKind.i64.wrap ((FDv g s i i : Int) + 1) = (FDv g s i i : Int) + 1 := wrap_id (by omega) (by omega)
      have hput := ints_put (l := FD g s i) (i := i) (v := (FDv g s i i : Int) + 1) (by omega)
      have hup := FD_up g s i hlt (by rw [hv]; omega)
      rw [← hup] at hput
      have exx : ∀ f r, objCells (sS B f M1 r (M2 ++ [xO x])) (B.length + (M1.length + (M2.length + 2))) 0 = [i64 x.k, i64 x.p, i64 x.i, .slc (ints x.nx) x.nx.length, .slc (ints x.ws) x.ws.length, .slc (ints x.ps) x.ps.length] := fun f r => objCells_of (o := xO x) (esg f r _) rfl
      simp -implicitDefEqProofs [hv0, efi, hfl, wf, sS_of, sS_sf, hput, exx, sS_cr, sS_cf, hfg, hrl, hrg]
      by_cases hk : x.k = 1
      · rw [if_pos hk] at hnxt
        obtain ⟨q1, q2, q3⟩ := hs.ch i x hx hk
        have hfew := (form0 hs.f).1.few (List.mem_of_getElem? hx)
        have hws : ∀ w ∈ x.ws, 0 ≤ w ∧ w ≤ 1000 := fun w hw => by have := q3 w hw; omega
        have hsum := sum_le3 q3
        have htw : (tw x.ws : Int) = x.ws.sum := tw_sum fun w hw => by have := q3 w hw; omega
        have htp : 1 ≤ tw x.ws := by omega
        obtain ⟨vn, rfl⟩ : ∃ n : Nat, v = n := ⟨v.toNat, by omega⟩
        have hd0 : (vn : Int) % x.ws.sum = ((vn % tw x.ws : Nat) : Int) := by rw [← htw]; omega
        have hl0 : (vn : Int) / x.ws.sum = ((vn / tw x.ws : Nat) : Int) := by rw [← htw]; omega
        have hml := Nat.mod_lt vn (show 0 < tw x.ws by omega)
        have hspl : splitV (vn : Int) [x.ws.sum] = .tup [.slc [i64 ((vn % tw x.ws : Nat) : Int)] 1, i64 ((vn / tw x.ws : Nat) : Int), i64 0] := by
          have hr : radE [x.ws.sum] = 0 := by
            unfold radE radR radR
            rw [if_neg (by simp), if_neg (by omega)]
          unfold splitV
          rw [if_neg (by simpa using hr), if_neg (by omega)]
          simp only [digs, rest, hd0, hl0]
          rfl
        have hpkl := pk_lt x.ws (vn % tw x.ws) (by omega)
        obtain ⟨q, hq⟩ : ∃ q, pk x.ws (vn % tw x.ws) = q := ⟨_, rfl⟩
        have e1 : (((vn : Int) % (tw x.ws : Int)).toNat) = vn % tw x.ws := by omega
        have e2 : ((vn : Int) / (tw x.ws : Int)) = ((vn / tw x.ws : Nat) : Int) := by omega
        rw [e1, e2, hq] at hnxt
        rw [hq] at hpkl
        have hql : q < x.nx.length := by omega
        have hqg : x.nx.getD q 0 = x.nx[q] := by simp [hql]
        have htg := ht.tgt i q _ (by omega) hlt ⟨x, hx, List.getElem?_eq_getElem hql⟩
        obtain ⟨c, hc⟩ : ∃ c : Nat, x.nx[q] = c := ⟨(x.nx[q]).toNat, by omega⟩
        rw [hqg, hc, Int.toNat_natCast] at hnxt
        have hcl : c < g.ns.length := by omega
        have hc0 : (0 : Int) ≤ (c : Int) ∧ (c : Int) < g.ns.length := by omega
        have hw0 : 0 < x.ws.length := by omega
        simp -implicitDefEqProofs [hk]
        refine ⟨by omega, by omega, by omega, ?_⟩
        refine callq_go (fun _ => ok20 (IsI.slc _ x.ws) hws (by omega)) ?_
        have eri : (ints (RS g s i))[i]? = some (i64 (vn : Int)) := by simp [ints, hri]
        simp -implicitDefEqProofs [exx, esx, elen, sS_of, sS_sf, efi, wf, hput, sS_cr, sS_cf, hrl, hrg, hfl, eri]
        have h21 := fun (H : List AO) y (hy : IsI H y [x.ws.sum]) => ok21 hy (by simp) (vn : Int)
        simp only [hspl] at h21
        have hxs : IsI (sS B (FD g s (i + 1)) M1 (RS g s i) (M2 ++ [xO x, ⟨[i64 x.ws.sum], 3, 0, true⟩])) (.own (B.length + (M1.length + (M2.length + 1 + 2))) 0 1 1 0) [x.ws.sum] := by
          refine isI_at (T := 3) (l := [x.ws.sum]) (v := 0) ?_
          unfold sS
          rw [get_app, show M1.length + (M2.length + 1 + 2) = (M1.length + (M2.length + 2)) + 1 by omega, List.getElem?_cons_succ, get_app, show M2.length + 2 = (M2.length + 1) + 1 by omega, List.getElem?_cons_succ, get_app]; rfl
        refine And.intro (by omega) (callq_go (fun _ => h21 _ _ hxs) ?_)
        have hxj : (sS B (FD g s (i + 1)) M1 (RS g s i) (M2 ++ [xO x, ⟨[i64 x.ws.sum], 3, 0, true⟩]))[B.length + (M1.length + (M2.length + 2))]? = some (xO x) := by
          unfold sS
          rw [get_app, show M1.length + (M2.length + 2) = (M1.length + (M2.length + 1)) + 1 by omega, List.getElem?_cons_succ, get_app, List.getElem?_cons_succ, get_app0]; rfl
        have exj : objCells (sS B (FD g s (i + 1)) M1 (RS g s i) (M2 ++ [xO x, ⟨[i64 x.ws.sum], 3, 0, true⟩])) (B.length + (M1.length + (M2.length + 2))) 0 = [i64 x.k, i64 x.p, i64 x.i, .slc (ints x.nx) x.nx.length, .slc (ints x.ws) x.ws.length, .slc (ints x.ps) x.ps.length] := objCells_of (o := xO x) hxj rfl
        have hw00 : (ints x.ws).head? = some (i64 x.ws[0]) := by simp [ints, List.head?_eq_getElem?, hw0]
        have hg0 : x.ws.getD 0 0 = x.ws[0] := by simp [hw0]
        simp -implicitDefEqProofs [exj, hw00, hw0]
        refine ⟨by omega, ?_⟩
        refine loop4_6 q3 hfew.2.1 hxj (d := vn % tw x.ws) (by omega) (e5 := gp g) (e6 := e6) (e10 := e10) (e18 := .own B.length 0 g.ns.length 1 0) (e19 := e19) (e20 := .own (B.length + (M1.length + 1)) 0 g.ns.length 1 0) (e22 := i64 i) (e25 := i64 ((vn / tw x.ws : Nat) : Int)) (fun env k5 k6 k10 k18 k19 k20 k22 k23 k25 k27 => ?_) (x.ws.length - 1) 0 0 _ (by omega) (by omega) (by simp) ?_ ?_ ?_ ?_ ?_ ?_ ?_ ?_ ?_ ?_ ?_ ?_
        · rw [hq] at k27
          have hrc : c < (RS g s i).length := by omega
          have hput2 := ints_put (l := RS g s i) (i := c) (v := ((vn / tw x.ws : Nat) : Int)) hrc
          have hl1 : ((vn / tw x.ws : Nat) : Int) = (vn : Int) / (tw x.ws : Int) := by simp
          rw [hl1] at hput2 hnxt
          simp -implicitDefEqProofs [k5, k6, k10, k18, k19, k20, k22, k23, k25, k27, exj, hql, hc, hc0, sS_cr, sS_or, sS_sr, hput2, hrl, w1]
          refine ⟨by omega, by omega, ?_⟩
          rw [← hnxt]
          refine ih (i + 1) _ _ (by omega) ?_ ?_ ?_ ?_ ?_ ?_ ?_
          all_goals simp [k5, k6, k10, k18, k19, k20]
        all_goals first | (simp [h5, h6, h10, h18, h19, h20, h22, gp]; done) | (rw [hg0]; simp)
      · rw [if_neg hk] at hnxt
        simp -implicitDefEqProofs [hk]
        refine ⟨by omega, by omega, ?_⟩
        refine loop4_7 hs rfl hx (M2 := M2 ++ [xO x]) (M2' := M2) rfl rfl hrl hri (e6 := e6) (e10 := e10) (e18 := .own B.length 0 g.ns.length 1 0) (e19 := e19) (fun env k5 k6 k10 k18 k19 k20 k22 => ?_) x.nx.length 0 (RS g s i) _ (by omega) rfl hrl hri ?_ ?_ ?_ ?_ ?_ ?_ ?_ ?_ ?_
        · simp -implicitDefEqProofs [k5, k6, k10, k18, k19, k20, k22, w1]
          rw [← hnxt]
          refine ih (i + 1) _ _ (by omega) ?_ ?_ ?_ ?_ ?_ ?_ ?_
          all_goals simp [k5, k6, k10, k18, k19, k20]
        all_goals simp [h6, h10, h18, h19, h20, gp]
end
end Go.Proofs.Ytbfeaikiiamhaaa.Rc

/- I9 -/
namespace Go.Proofs.Ytbfeaikiiamhaaa.Rc
open Go.Ab
def sF (B : List AO) (f : List Int) (M1 : List AO) : List AO := B ++ ⟨ints f, 3, 0, true⟩ :: M1
theorem loop4_3 {B : List AO} {e10 : SV} {g : Gm} (hs : Small g) {S : Nat} (hS : g.siz = some S) (hSb : S ≤ 3000) {N : Nat} {K : XE → Env → List AO → Prop}
    (hexit : ∀ env M1, env.get 10 = e10 → env.get 18 = .own B.length 0 g.ns.length 1 0 → K (.exit 6) env (sF B (FD g S 0) M1)) :
    ∀ (k s : Nat) (env : Env) (M1 : List AO), s + k = S → env.get 5 = gp g → env.get 6 = i64 S → env.get 10 = e10 → env.get 18 = .own B.length 0 g.ns.length 1 0 → env.get 19 = i64 s → LI Try.prog N drawB l4_3 env (sF B (FD g s 0) M1) K := by
  have hn30 := hs.n
  have hn1 := (game_e hs.f).lt
  intro k
  induction k with
  | zero =>
    intro s env M1 hk h5 h6 h10 h18 h19
    refine li_go hm l4_3.eq_1 ?_
    have e : s = S := by omega
    subst e
    simp -implicitDefEqProofs [h5, h6, h10, h18, h19]
    exact hexit _ M1 (by simp [h10]) (by simp [h18])
  | succ k ih =>
    intro s env M1 hk h5 h6 h10 h18 h19
    refine li_go hm l4_3.eq_1 ?_
    have hlt : s < S := by omega
    have w1 : IntKind.i64.wrap ((s : Int) + 1) = ((s + 1 : Nat) : Int) := wrap_succ (by omega)
    have hlen : (sF B (FD g s 0) M1).length = B.length + (M1.length + 1) := by simp [sF]
    have hmk : sF B (FD g s 0) M1 ++ [⟨List.replicate g.ns.length (i64 0), 3, 0, true⟩] = sS B (FD g s 0) M1 (List.replicate 0 (-1) ++ List.replicate g.ns.length 0) [] := by simp [sF, sS, ints]
    simp -implicitDefEqProofs [h5, h6, h10, h18, h19, hlt, gp, hlen, hmk]
    refine ⟨by omega, by omega, ?_⟩
    refine loop4_4 (e5 := gp g) (e6 := i64 S) (e10 := e10) (e18 := .own B.length 0 g.ns.length 1 0) (e19 := i64 s) rfl hs.n (fun env k5 k6 k10 k18 k19 k20 => ?_) g.ns.length 0 _ (by omega) ?_ ?_ ?_ ?_ ?_ ?_ ?_
    · have hput := ints_put (l := List.replicate g.ns.length (-1)) (i := 0) (v := (s : Int)) (by simpa using hn1)
      simp only [List.take_zero, List.nil_append, Nat.zero_add, List.drop_one] at hput
      have hr0 : (List.replicate g.ns.length (-1 : Int)).set 0 (s : Int) = RS g s 0 := rfl
      rw [hr0] at hput
      simp -implicitDefEqProofs [k5, k6, k10, k18, k19, k20, sS_cr, sS_or, sS_sr, hput]
      refine ⟨hn1, by omega, ?_⟩
      refine LI.cong ?_ (loop4_5 (B := B) (M1 := M1) (e6 := i64 S) (e10 := e10) (e19 := i64 s) hs hS hSb hlt (fun env M2 k5 k6 k10 k18 k19 => ?_) g.ns.length 0 _ [] (by omega) ?_ ?_ ?_ ?_ ?_ ?_ ?_)
      · rfl
      · simp -implicitDefEqProofs [k5, k6, k10, k18, k19, w1]
        refine LI.cong (H' := sF B (FD g (s + 1) 0) (M1 ++ ⟨ints (RS g s g.ns.length), 3, 0, true⟩ :: M2)) (by rw [FD_next]; simp [sF, sS]) (ih (s + 1) _ _ (by omega) ?_ ?_ ?_ ?_ ?_)
        all_goals simp [k5, k6, k10, k18]
      all_goals simp [k5, k6, k10, k18, k19, k20]
    all_goals simp [h5, h6, h10, h18, h19, gp]
theorem c4f : chkF Try.prog drawB Try.f4 (icFrz [5, 6, 10] 4 7 i4) r4 = true := by kernel_rfl
theorem ok4 {l : List Int} (hl : l.length < 4611686018427387904) (pl : Int) : Ok Try.prog 4 [.slc (ints l) l.length, i64 pl] [] (.ret (bl true)) [] := by
  refine ok_fn hm Try.func4 c4f (by simp) fun hcl => ?_
  have w0 : IntKind.i64.wrap (1 + pl % 3) = 1 + pl % 3 := wrap_id (by omega) (by omega)
  simp -implicitDefEqProofs [i4, r4]
  refine call_go (ok19 pl (by omega) (by omega)) ?_
  simp -implicitDefEqProofs [w0]
  refine call_goP (ok18 (H := []) (zero := false) hl (by omega) (by omega) (by omega) (by omega)) ?_
  rintro o H' ⟨g, hg, rfl, rfl⟩
  have hs := hg.small (by omega) (by omega) (by omega)
  obtain ⟨S, P, hS, hS1, hSb, _⟩ := size_ok hs
  have hn30 := hs.n
  have hn1 := (game_e hs.f).lt
  have h13 := fun H => ok13 (H := H) (g := g)
  have hz : sizV g = .tup [i64 S, i64 0] := by unfold sizV; rw [if_neg (by simpa using hs.f), hS]
  simp only [hz, Gm.cells] at h13
  have h15 := fun H => ok15 (H := H) (g := g) 0
  have hc : cntR g 0 = ((S : Int), 0) := by
    unfold cntR
    rw [if_neg (by simpa using hs.f), hS]
    simp only
    rw [if_neg (by omega), Int.toNat_zero, cnt_root hs]
  simp only [hc, tupI, Gm.cells] at h15
  simp -implicitDefEqProofs [Gm.cells]
  refine call_go (h13 _) ?_
  simp -implicitDefEqProofs
  refine call_go (h15 _) ?_
  have hS1' : ¬ (S : Int) < 1 := by omega
  have hS1'' : ¬ S < 1 := by omega
  simp -implicitDefEqProofs [hS1', hS1'']
  refine LI.cong (H' := sC g S 0 []) (by simp [sC, gbox, cnts, ints]) (loop4_0 hs hS hSb (fun env M k5 k6 k10 => ?_) g.ns.length 0 _ [] (by omega) ?_ ?_ ?_ ?_)
  · have hfn : ∀ (L : List AO) (d : Nat), SV.fz 0 [] L (d + 1) (.slc (nds g.ns) g.ns.length) = .slc (nds g.ns) g.ns.length := fun L d => fz_under (by simp [SV.under, nds_under])
    have hfi : ∀ (L : List AO) (d : Nat), SV.fz 0 [] L (d + 1) (.slc (infs g.is) g.is.length) = .slc (infs g.is) g.is.length := fun L d => fz_under (by simp [SV.under, infs_under])
    have lc : (ints (cnts g S g.ns.length)).length = g.ns.length := by simp [ints, cnts]
    have htk : (ints (cnts g S g.ns.length)).take g.ns.length = ints (cnts g S g.ns.length) := List.take_of_length_le (by omega)
    have hfm : ∀ (L : List AO) (d : Nat), (ints (cnts g S g.ns.length)).map (SV.fz 0 [] L (d + 1)) = ints (cnts g S g.ns.length) := fun L d => by
      conv => rhs; rw [← List.map_id (ints (cnts g S g.ns.length))]
      exact List.map_congr_left fun s hs => by
        obtain ⟨n, _, rfl⟩ := List.mem_map.1 hs
        exact fz_i64 _ _ _ _ _
    simp -implicitDefEqProofs [k5, k6, k10, sC, gbox, fz0_ptr, fz0_own, hfn, hfi, lc, htk, hfm]
    refine loop4_1 hs hS hSb (fun env Hh k5 k6 k10 => ?_) g.ns.length 0 _ _ (by omega) ?_ ?_ ?_ ?_
    · by_cases h3 : 3000 < S
      · have h3' : 3000 < (S : Int) := by omega
        simp -implicitDefEqProofs [k5, k6, k10, h3, h3']
        refine call_go awake_ok ?_
        simp -implicitDefEqProofs
        exact (show ∀ L, Cv 0 (bl true) L (bl true) [] from fun L => by simpa using cv_fz (n0 := 0) (H := []) (L := L) (r := bl true) (r1 := bl true) 1 (by intro i o h; simp at h) rfl (by simp)) _
      · have h3' : ¬ 3000 < (S : Int) := by omega
        simp -implicitDefEqProofs [k5, k6, k10, h3, h3', gp]
        refine ⟨by omega, by omega, ?_⟩
        have hf0 : FD g 0 0 = List.replicate g.ns.length 0 := by
          unfold FD FDv
          apply List.ext_getElem
          · simp
          · intro i h1 h2; simp
        refine LI.cong (H' := sF Hh (FD g 0 0) []) (by simp [sF, hf0, ints]) (loop4_3 hs hS (by omega) (e10 := .slc (ints (cnts g S g.ns.length)) g.ns.length) (fun env M1 k10 k18 => ?_) S 0 _ [] (by omega) ?_ ?_ ?_ ?_ ?_)
        · simp -implicitDefEqProofs [k10, k18]
          rw [FD_end hs hS]
          have hx : IsI (sF Hh (cnts g S g.ns.length) M1) (.own Hh.length 0 g.ns.length 1 0) (cnts g S g.ns.length) := by
            have := isI_at (H := sF Hh (cnts g S g.ns.length) M1) (T := 3) (l := cnts g S g.ns.length) (j := Hh.length) (v := 0) (by unfold sF; rw [get_app0]; rfl)
            rwa [cnts_len] at this
          have hy : IsI (sF Hh (cnts g S g.ns.length) M1) (.slc (ints (cnts g S g.ns.length)) g.ns.length) (cnts g S g.ns.length) := by
            have := IsI.slc (sF Hh (cnts g S g.ns.length) M1) (cnts g S g.ns.length)
            rwa [cnts_len] at this
          refine call_go (ok22s hx hy (by rw [cnts_len]; omega)) ?_
          simp -implicitDefEqProofs
          refine callq_go (fun _ => awake_ok) ?_
          simp -implicitDefEqProofs
          exact (show ∀ L, Cv 0 (bl true) L (bl true) [] from fun L => by simpa using cv_fz (n0 := 0) (H := []) (L := L) (r := bl true) (r1 := bl true) 1 (by intro i o h; simp at h) rfl (by simp)) _
        all_goals simp [k5, k6, k10, gp]
    all_goals simp [gp]
  all_goals simp
end Go.Proofs.Ytbfeaikiiamhaaa.Rc

