/-
  Steps of the proof: contracts of functions and plain facts that the statement rests on.
-/
import Derived.Test.YtiikfkacbglblaaD31
set_option linter.all false
namespace Go.Proofs.Ytiikfkacbglblaa
open Go.Ab
section
variable {g : Gm}
def upf (g : Gm) (pl : Int) (f node : Nat) (l : List (Int × Int)) : List (Int × Int) := abv g pl (fun _ _ _ => true) (fun l k a => l ++ [(infoAt g k, a)]) f node l
theorem upf_root (hW : Wg g) {pl : Int} {f : Nat} {l : List (Int × Int)} : upf g pl (f + 1) 0 l = l := by
  unfold upf abv; rw [if_pos (by rw [hW.wf.p0]; omega)]
theorem upf_app (hW : Wg g) {pl : Int} : ∀ (f node : Nat) (l : List (Int × Int)), node < f → node < g.ns.length → upf g pl f node l = l ++ upf g pl f node []
  | 0, node, l, h, _ => by omega
  | f + 1, node, l, h, hn => by
    rcases Nat.eq_zero_or_pos node with hz | hz
    · subst hz; rw [upf_root hW, upf_root hW]; simp
    · obtain ⟨p, hp, k1, k2, k3⟩ := hW.wf.pf node hz hn
      unfold upf
      rw [up_step hW hp k1, up_step hW hp k1]
      have h1 := upf_app hW (pl := pl) f p
      unfold upf at h1
      by_cases hc : g.ns[p].k = 2 ∧ g.ns[p].p = pl
      · rw [if_pos hc, if_pos hc, h1 _ (by omega) hp, h1 ([] ++ _) (by omega) hp]
        simp
      · rw [if_neg hc, if_neg hc, h1 _ (by omega) hp]
theorem upf_fuel (hW : Wg g) {pl : Int} : ∀ (f f' node : Nat) (l : List (Int × Int)), node < f → node < f' → node < g.ns.length → upf g pl f node l = upf g pl f' node l
  | 0, f', node, l, h, _, _ => by omega
  | f + 1, 0, node, l, _, h, _ => by omega
  | f + 1, f' + 1, node, l, h, h', hn => by
    rcases Nat.eq_zero_or_pos node with hz | hz
    · subst hz; rw [upf_root hW, upf_root hW]
    · obtain ⟨p, hp, k1, k2, k3⟩ := hW.wf.pf node hz hn
      unfold upf
      rw [up_step hW hp k1, up_step hW hp k1]
      exact upf_fuel hW f f' p _ (by omega) (by omega) hp
theorem up_len (hW : Wg g) {pl : Int} {node : Nat} (hn : node < g.ns.length) (f : Nat) (hf : node < f) : (g.way node pl).length = (upf g pl f node []).length := by
  unfold Gm.way Gm.up
  rw [List.length_reverse]
  show (upf g pl g.ns.length node []).length = _
  rw [upf_fuel hW g.ns.length f node [] hn hf hn]
/-- Where the set is met again above. -/
theorem dq_up (hW : Wg g) {info : Nat} (hinfo : info < g.is.length) : ∀ (f node : Nat), node < f → node < g.ns.length → 0 ≤ dq g g.is[info].1 info f node →
    ∃ p, ∃ h : p < g.ns.length, p < node ∧ g.ns[p].k = 2 ∧ g.ns[p].i = info ∧ (g.way p g.is[info].1).length < (g.way node g.is[info].1).length
  | 0, node, h, _, _ => by omega
  | f + 1, node, h, hn, hd => by
    rcases Nat.eq_zero_or_pos node with hz | hz
    · subst hz; rw [dq_neg (by rw [hW.wf.p0]; omega)] at hd; omega
    · obtain ⟨p, hp, k1, k2, k3⟩ := hW.wf.pf node hz hn
      rw [dq_step hW hinfo hp k1] at hd
      have hlen : (g.way node g.is[info].1).length = (if g.ns[p].k = 2 ∧ g.ns[p].p = g.is[info].1 then 1 else 0) + (g.way p g.is[info].1).length := by
        rw [up_len hW hn (node + 1 + 1) (by omega), up_len hW hp (node + 1) (by omega)]
        have : upf g g.is[info].1 (node + 1 + 1) node [] = upf g g.is[info].1 (node + 1) p (if g.ns[p].k = 2 ∧ g.ns[p].p = g.is[info].1 then [] ++ [(g.ns[p].i, fstAt node g.ns[p].nx)] else []) := up_step hW hp k1
        rw [this, upf_app hW _ _ _ (by omega) hp]
        split <;> simp <;> omega
      by_cases hc : g.ns[p].k = 2 ∧ g.ns[p].i = info
      · have hty := hW.ty (List.getElem_mem hp) hc.1
        rw [hc.2, show ((info : Nat) : Int).toNat = info by omega, List.getElem?_eq_getElem hinfo] at hty
        simp only [Option.some.injEq] at hty
        refine ⟨p, hp, k2, hc.1, hc.2, ?_⟩
        rw [hlen, if_pos ⟨hc.1, by rw [hty]⟩]; omega
      · rw [if_neg hc] at hd
        obtain ⟨q, hq, m1, m2, m3, m4⟩ := dq_up hW hinfo f p (by omega) hp hd
        refine ⟨q, hq, by omega, m2, m3, ?_⟩
        omega
theorem mem_occ {s : Nat} : ∀ {l : List Nd} {o t : Nat} (ht : t < l.length), l[t].k = 2 → l[t].i.toNat = s → ((o + t : Nat) : Int) ∈ occ s l o
  | [], o, t, ht, _, _ => by simp at ht
  | x :: r, o, 0, ht, h1, h2 => by
    unfold occ
    rw [if_pos ⟨h1, h2⟩]
    simp
  | x :: r, o, t + 1, ht, h1, h2 => by
    have := mem_occ (s := s) (l := r) (o := o + 1) (t := t) (by simpa using ht) h1 h2
    rw [show o + 1 + t = o + (t + 1) by omega] at this
    unfold occ
    split
    · exact List.mem_cons_of_mem _ this
    · exact this
/-- Not all ways to the nodes of a set are equal. -/
def Bad (g : Gm) (i : Nat) : Prop := ∃ h : i < g.sets.length, ∃ h' : i < g.is.length, ∃ v ∈ g.sets[i], g.way v.toNat g.is[i].1 ≠ g.way (g.sets[i].headD 0).toNat g.is[i].1
theorem bad_of_again (hW : Wg g) {i : Nat} (hs : i < g.sets.length) (hi : i < g.is.length) {v : Int} (hv : v ∈ g.sets[i]) (hd : 0 ≤ g.deep v.toNat g.is[i].1 i) : Bad g i := by
  have hr := sets_mem hs hv
  obtain ⟨p, hp, k1, k2, k3, k4⟩ := dq_up hW hi g.ns.length v.toNat (by omega) (by omega) hd
  have hpm : ((p : Nat) : Int) ∈ g.sets[i] := by
    rw [sets_occ hs]
    have := mem_occ (s := i) (l := g.ns) (o := 0) (t := p) hp k2 (by omega)
    simpa using this
  by_cases h1 : g.way v.toNat g.is[i].1 = g.way (g.sets[i].headD 0).toNat g.is[i].1
  · refine ⟨hs, hi, p, hpm, fun h2 => ?_⟩
    rw [show ((p : Nat) : Int).toNat = p by omega] at h2
    rw [h1, h2] at k4; omega
  · exact ⟨hs, hi, v, hv, h1⟩
/-- A set, as Perfect goes through it. -/
theorem seekP {i : Nat} {pl n0 : Int} {first : List (Int × Int)} : ∀ (l : List Int), seekS g nxP nxP i pl n0 first l true = if ∃ v ∈ l, g.way v.toNat pl ≠ first then (false, false) else (true, true)
  | [] => by simp [seekS]
  | v :: r => by
    have e1 : nxP true ⟨1, v, i, g.deep v.toNat pl i⟩ = true := by simp [nxP]
    have e2 : ∀ b, nxP b ⟨2, v, i, n0⟩ = false := fun b => by simp [nxP]
    unfold seekS
    simp only
    rw [if_neg (by rw [e1]; simp), e1]
    have e3 : (if 0 ≤ g.deep v.toNat pl i then true else true) = true := by split <;> rfl
    rw [e3]
    by_cases hw : g.way v.toNat pl = first
    · rw [if_pos hw, seekP r]
      by_cases hx : ∃ u ∈ r, g.way u.toNat pl ≠ first
      · obtain ⟨u, hu, hh⟩ := hx
        rw [if_pos ⟨u, hu, hh⟩, if_pos ⟨u, List.mem_cons_of_mem _ hu, hh⟩]
      · rw [if_neg hx, if_neg]
        rintro ⟨u, hu, hh⟩
        rcases List.mem_cons.1 hu with rfl | hu
        · exact hh hw
        · exact hx ⟨u, hu, hh⟩
    · rw [if_neg hw, e2, if_neg (by simp), if_pos ⟨v, List.mem_cons_self, hw⟩]
theorem setsP (hW : Wg g) {pl : Int} : ∀ (n i : Nat), i + n = g.is.length → (setsL g nxP nxP (fun p => decide (p = pl)) true n i true = true ↔ ∀ t, i ≤ t → (h : t < g.is.length) → g.is[t].1 = pl → ¬ Bad g t)
  | 0, i, hi => by
    simp only [setsL, true_iff]
    intro t h1 h2; omega
  | n + 1, i, hi => by
    have hlt : i < g.is.length := by omega
    have hls : i < g.sets.length := by rw [sets_len]; exact hlt
    unfold setsL
    rw [List.getElem?_eq_getElem hlt, List.getElem?_eq_getElem hls]
    simp only
    have ih := setsP hW (pl := pl) n (i + 1) (by omega)
    by_cases hp : g.is[i].1 = pl
    · rw [if_pos (by simpa using hp), seekP]
      by_cases hb : ∃ v ∈ g.sets[i], g.way v.toNat g.is[i].1 ≠ g.way (g.sets[i].headD 0).toNat g.is[i].1
      · rw [if_pos hb]
        simp only [and_self, if_true]
        constructor
        · intro h; cases h
        · intro h; exact (h i (Nat.le_refl _) hlt hp ⟨hls, hlt, hb⟩).elim
      · rw [if_neg hb]
        rw [if_neg (by simp), ih]
        constructor
        · intro h t h1 h2 h3
          by_cases e : t = i
          · subst e; rintro ⟨_, _, h4⟩; exact hb h4
          · exact h t (by omega) h2 h3
        · intro h t h1 h2 h3; exact h t (by omega) h2 h3
    · rw [if_neg (by simpa using hp), ih]
      constructor
      · intro h t h1 h2 h3
        by_cases e : t = i
        · subst e; exact (hp h3).elim
        · exact h t (by omega) h2 h3
      · intro h t h1 h2 h3; exact h t (by omega) h2 h3
/-- A set, as Flaws goes through it. -/
theorem seekF_mem {i : Nat} {pl n0 : Int} {first : List (Int × Int)} : ∀ (r : List Int) (l : List Fl) (f : Fl), f ∈ (seekS g (fun _ _ => true) nxF i pl n0 first r l).2 ↔ f ∈ l ∨ ∃ v ∈ r, (0 ≤ g.deep v.toNat pl i ∧ f = ⟨1, v, i, g.deep v.toNat pl i⟩) ∨ (g.way v.toNat pl ≠ first ∧ f = ⟨2, v, i, n0⟩)
  | [], l, f => by simp [seekS]
  | v :: r, l, f => by
    rw [seek_true, seekF_mem r]
    have : f ∈ stepF g pl i n0 first v l ↔ f ∈ l ∨ (0 ≤ g.deep v.toNat pl i ∧ f = ⟨1, v, i, g.deep v.toNat pl i⟩) ∨ (g.way v.toNat pl ≠ first ∧ f = ⟨2, v, i, n0⟩) := by
      unfold stepF
      by_cases hw : g.way v.toNat pl = first
      · rw [if_pos hw]
        by_cases hd : 0 ≤ g.deep v.toNat pl i
        · rw [if_pos hd]; simp [hw, hd]
        · rw [if_neg hd]; simp [hw, hd]
      · rw [if_neg hw]
        by_cases hd : 0 ≤ g.deep v.toNat pl i
        · rw [if_pos hd]; simp [hw, hd]
        · rw [if_neg hd]; simp [hw, hd]
    rw [this]
    simp only [List.mem_cons, exists_eq_or_imp, or_assoc]
theorem setsF_mem (hW : Wg g) : ∀ (n i : Nat) (l : List Fl), i + n = g.is.length → ∀ f, f ∈ setsL g (fun _ _ => true) nxF (fun _ => true) false n i l ↔ f ∈ l ∨ ∃ t, i ≤ t ∧ ∃ h : t < g.is.length, ∃ h' : t < g.sets.length, ∃ v ∈ g.sets[t],
      (0 ≤ g.deep v.toNat g.is[t].1 t ∧ f = ⟨1, v, t, g.deep v.toNat g.is[t].1 t⟩) ∨ (g.way v.toNat g.is[t].1 ≠ g.way (g.sets[t].headD 0).toNat g.is[t].1 ∧ f = ⟨2, v, t, g.sets[t].headD 0⟩)
  | 0, i, l, hi, f => by
    simp only [setsL]
    constructor
    · exact .inl
    · rintro (h | ⟨t, h1, h2, _⟩)
      · exact h
      · omega
  | n + 1, i, l, hi, f => by
    have hlt : i < g.is.length := by omega
    have hls : i < g.sets.length := by rw [sets_len]; exact hlt
    unfold setsL
    rw [List.getElem?_eq_getElem hlt, List.getElem?_eq_getElem hls]
    simp only [if_true]
    rw [if_neg (by simp), setsF_mem hW n (i + 1) _ (by omega), seekF_mem]
    constructor
    · rintro ((h | h) | ⟨t, h1, h2⟩)
      · exact .inl h
      · exact .inr ⟨i, Nat.le_refl _, hlt, hls, h⟩
      · exact .inr ⟨t, by omega, h2⟩
    · rintro (h | ⟨t, h1, h2, h3, h4⟩)
      · exact .inl (.inl h)
      · by_cases e : t = i
        · subst e; exact .inl (.inr h4)
        · exact .inr ⟨t, by omega, h2, h3, h4⟩
theorem flaws_bad (hW : Wg g) {t : Nat} (ht : t < g.is.length) : (∃ f ∈ g.flaws, f.i = (t : Int)) ↔ Bad g t := by
  have hs : t < g.sets.length := by rw [sets_len]; exact ht
  constructor
  · rintro ⟨f, hf, hi⟩
    unfold Gm.flaws at hf
    rw [setsF_mem hW _ _ _ (by omega)] at hf
    rcases hf with hf | ⟨u, _, h2, h3, v, hv, ⟨h4, h5⟩ | ⟨h4, h5⟩⟩
    · simp at hf
    · have : u = t := by rw [h5] at hi; simp only at hi; omega
      subst this
      exact bad_of_again hW h3 h2 hv h4
    · have : u = t := by rw [h5] at hi; simp only at hi; omega
      subst this
      exact ⟨h3, h2, v, hv, h4⟩
  · rintro ⟨h3, h2, v, hv, h4⟩
    refine ⟨⟨2, v, t, g.sets[t].headD 0⟩, ?_, rfl⟩
    unfold Gm.flaws
    rw [setsF_mem hW _ _ _ (by omega)]
    exact .inr ⟨t, by omega, h2, h3, v, hv, .inr ⟨h4, rfl⟩⟩
theorem perf_iff (hW : Wg g) {pl : Int} : g.perf pl = true ↔ ∀ t, (h : t < g.is.length) → g.is[t].1 = pl → ¬ Bad g t := by
  unfold Gm.perf
  rw [setsP hW _ _ (by omega)]
  constructor
  · intro h t h1 h2; exact h t (by omega) h1 h2
  · intro h t _ h1 h2; exact h t h1 h2
theorem perf_eq (hW : Wg g) {pl : Int} : g.perf pl = g.perfR pl := by
  rw [Bool.eq_iff_iff, perf_iff hW]
  unfold Gm.perfR
  rw [decide_eq_true_iff]
  constructor
  · rintro h ⟨f, hf, hp⟩
    have hr := flaws_info hf
    have ht : f.i.toNat < g.is.length := by omega
    have e : plAt g f.i = g.is[f.i.toNat].1 := by unfold plAt; rw [List.getElem?_eq_getElem ht]
    exact h f.i.toNat ht (by rw [← e]; exact hp) ((flaws_bad hW ht).1 ⟨f, hf, by omega⟩)
  · intro h t ht hp hb
    obtain ⟨f, hf, hi⟩ := (flaws_bad hW ht).2 hb
    refine h ⟨f, hf, ?_⟩
    unfold plAt
    rw [hi, show ((t : Nat) : Int).toNat = t by omega, List.getElem?_eq_getElem ht]
    exact hp
theorem perfV_eq (pl : Int) : g.perfV pl = g.perfRV pl := by
  unfold Gm.perfV Gm.perfRV
  by_cases h : g.perfE pl = 0
  · rw [if_pos h, if_pos h]
    have hf : g.formE = 0 := by
      unfold Gm.perfE at h
      by_cases h0 : g.formE = 0
      · exact h0
      · have h1 : g.formE ≠ 0 := h0
        rw [if_pos h1] at h; exact h
    exact perf_eq (wg_of hf)
  · rw [if_neg h, if_neg h]
end
end Go.Proofs.Ytiikfkacbglblaa
