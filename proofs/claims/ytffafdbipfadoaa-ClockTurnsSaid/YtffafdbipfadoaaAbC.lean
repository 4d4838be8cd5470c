/-
  All the instructions that make or write memory, but for calls.
-/
import Derived.Test.YtffafdbipfadoaaAbB
import Derived.Laws.Cover3
set_option linter.all false
namespace Go.Ab

section
variable {P : Program} {S : St} {e : Env} {a : Act}

def E.isCall : E → Bool
  | .call _ _ => true
  | _ => false

theorem objCells_of {H : List AO} {i : Nat} {o : AO} (ho : H[i]? = some o) (hl : o.live = true) : objCells H i o.ver = o.cells := by
  unfold objCells; rw [ho]; simp [hl]

theorem AO.grow_eq {o : AO} (h : o.live = true) (cs : List SV) : o.grow cs = ⟨o.cells ++ cs, o.ty, o.ver + 1, true⟩ := by cases o; simp [AO.grow] at *; exact h
theorem VR.own_inv {i off n sz ver : Nat} {v : Value} {o : AO} (h : VR S (.own i off n sz ver) v) (ho : S.H[i]? = some o) (hv : o.ver = ver) :
    ∃ ad cap, v = .slice ad n cap ∧ n ≤ cap ∧ (ad = none → n = 0) ∧ S.OwnAt i off n sz ad cap := by
  cases h with
  | own _ _ _ _ _ ad cap o' ho' hvl hcap hz hat =>
    rw [ho] at ho'; cases ho'
    exact ⟨ad, cap, rfl, hcap, hz, hat hv⟩

theorem VR.nil_len {s : SV} {n c : Nat} (h : VR S s (.slice none n c)) (hn : n = s.slen) : n = 0 := by
  generalize hv : Value.slice none n c = v at h
  cases h with
  | nilslc => exact hn
  | own i off len sz ver ad cap o ho hv' hc hz hat => cases hv; exact hz rfl
  | val v => exact hn
  | any v => exact hn
  | gd b x v h0 h => exact hn
  | _ => cases hv
theorem eval_const (a : Act) (v : Value) : a.eval (.const v) = v := rfl
theorem run_eq_nil_sl (d : Nat) {t el : TypeId} (h : P.underlying t = some (.slice el)) (ad : Option Addr) (n c : Nat) (w : World) : (Op.equalIn (d + 1) t (.slice none 0 0) (.slice ad n c)).run P w = .ok ad.isNone w := by
  cases ad <;> simp [Op.equalIn, run_underlying h]
theorem VR.isNil {s : SV} {v : Value} (h : VR S s v) (hs : s.isNil = true) : v = .slice none 0 0 := by
  unfold SV.isNil at hs
  split at hs
  · cases h; rfl
  · cases hs
theorem arr_app (l : List Value) (z : Array Value) : l.toArray ++ z = (l ++ z.toList).toArray := by apply Array.ext'; simp
theorem zeroCells_length (z : Array Value) (n : Nat) : (Builtin.zeroCells z n).toList.length = n * z.size := by simp [Builtin.zeroCells]

theorem append_own (hS : Sim S) {t T ty : TypeId} {sz bytes : Nat} (hu : P.underlying t = some (.slice T)) (hinf : infoB P T sz bytes = true)
    {i0 n ver : Nat} {ob : AO} (ho : S.H[i0]? = some ob) (hl : ob.live = true) (hver : ob.ver = ver) (hty : ob.ty = T) (hlen : ob.cells.length = n * sz)
    {ads : Option Addr} {cap : Nat} (hcap : n ≤ cap) (hz : ads = none → n = 0) (h6 : S.OwnAt i0 0 n sz ads cap)
    {adx : Option Addr} {m capx : Nat} {news : List Value} {xs : List SV} (hx2 : news.length = m * sz) (hx3 : VRs S xs news)
    (hx4 : ∀ x, adx = some x → ∀ j u, news[j]? = some u → S.w.cell? (x.add j) = some u) (hx5 : adx = none → m = 0) (g5 : cellsOk xs)
    (g6 : (n + m) * bytes ≤ 140737488355328) (g7 : n + m ≤ 140737488355328) :
    ∃ v' S', (Builtin.append_ #[t, t] ty #[.slice ads n cap, .slice adx m capx]).run P S.w = .ok v' S'.w ∧ Ext S.H.length S S' ∧ Sim S' ∧
      VR S' (.own i0 0 (n + m) sz (ver + 1)) v' ∧ S'.H = S.H.set i0 (ob.grow xs) := by
  obtain ⟨i, zv, hi, hzv, hsz, hby, hzs⟩ := infoB_spec hinf
  have hone := hx3.oneCells g5
  have hlt : i0 < S.H.length := getElem?_lt ho
  have hself : ∀ q : AO, (S.H.set i0 q)[i0]? = some q := fun q => List.getElem?_set_self hlt
  have hgrow : ∀ s ∈ (ob.cells ++ xs), s.under S.H.length = true ∧ s.isCell = true := by
    intro s hs
    simp only [List.mem_append] at hs
    rcases hs with hs | hs
    · exact hS.bel _ _ ho s hs
    · exact hx3.unders g5 s hs
  rw [AO.grow_eq hl]
  unfold St.OwnAt at h6
  cases hρ : S.ρ i0 with
  | none =>
    rw [hρ] at h6
    obtain ⟨rfl, rfl⟩ := h6
    have hcl : ob.cells = [] := List.eq_nil_of_length_eq_zero (by simpa using hlen)
    by_cases hm0 : m = 0
    · subst hm0
      have hxs : xs = [] := List.eq_nil_of_length_eq_zero (by rw [← hx3.1, hx2]; simp)
      subst hxs
      have hr := run_append_zero (P := P) (ty := ty) hu hi ads 0 0 (Nat.le_refl _) adx capx S.w
      have hext : Ext S.H.length S ⟨S.ρ, S.H.set i0 ⟨ob.cells ++ [], ob.ty, ob.ver + 1, true⟩, S.w⟩ := by
        refine ⟨fun j p hj hp => ?_, fun k hk hn => ⟨rfl, ?_⟩, Nat.le_refl _, fun _ _ _ h => h, rfl, rfl, rfl⟩
        · by_cases hij : j = i0
          · subst hij
            rw [ho] at hp; cases hp
            exact ⟨_, hself _, by simp, fun _ => rfl⟩
          · exact ⟨p, by show (S.H.set i0 _)[j]? = _; rw [List.getElem?_set_ne (by omega)]; exact hp, Nat.le_refl _, fun _ => rfl⟩
        · rintro ⟨j, p, hp, hpl, hpρ⟩
          by_cases hij : j = i0
          · simp only at hpρ; rw [hij, hρ] at hpρ; cases hpρ
          · simp only at hp; rw [List.getElem?_set_ne (by omega)] at hp; exact hn ⟨j, p, hp, hpl, hpρ⟩
      refine ⟨.slice ads 0 0, ⟨S.ρ, S.H.set i0 ⟨ob.cells ++ [], ob.ty, ob.ver + 1, true⟩, S.w⟩, hr, hext, ?_, ?_, rfl⟩
      · refine hS.step hext (by simp) ?_ ?_
        · intro j p hp
          by_cases hij : j = i0
          · subst hij
            simp only [hself] at hp; cases hp
            refine .inr ⟨fun _ => by simp only [hρ]; simp [hcl], fun s hs => ?_⟩
            simpa using hgrow s hs
          · exact .inl ⟨by simp only at hp; rw [List.getElem?_set_ne (by omega)] at hp; exact hp, rfl, fun _ _ _ => rfl⟩
        · intro j k p q b' hj hk hjl hkl hρj hρk
          have key : ∀ (j : Nat) (p : AO), (S.H.set i0 ⟨ob.cells ++ [], ob.ty, ob.ver + 1, true⟩)[j]? = some p → S.ρ j = some b' → S.H[j]? = some p := by
            intro j' p' hp' hq'
            by_cases hij : j' = i0
            · rw [hij, hρ] at hq'; cases hq'
            · rw [List.getElem?_set_ne (by omega)] at hp'; exact hp'
          exact hS.inj j k p q b' (key j p hj hρj) (key k q hk hρk) hjl hkl hρj hρk
      · refine .own i0 0 0 sz _ ads 0 _ (hself _) (by simp [hver]) (Nat.le_refl _) (fun _ => rfl) fun _ => ?_
        simp [St.OwnAt, hρ]
    · obtain ⟨ax, rfl⟩ : ∃ x, adx = some x := by
        cases adx with
        | none => exact absurd (hx5 rfl) hm0
        | some x => exact ⟨x, rfl⟩
      simp only [Nat.zero_add] at g6 g7
      have hr : (Builtin.append_ #[t, t] ty #[.slice ads 0 0, .slice (some ax) m capx]).run P S.w =
          .ok (.slice (some ⟨S.w.heap.size, 0, none⟩) m (grownCap S.w m 0 T)) (S.w.drew.alloc (.cells (news.toArray ++ Builtin.zeroCells zv.cells (grownCap S.w m 0 T - m)) T)) := by
        cases ads with
        | none => exact run_append_nil (P := P) S.w t ty T i zv hu hi hzv ax m capx news (by rw [hx2, hsz]) (hx4 ax rfl) (by omega) (by omega) (by rw [hby]; omega)
        | some bb =>
          have := run_append_grow (P := P) S.w t ty T i zv hu hi hzv bb 0 0 [] (by simp) (fun j v hj => by simp at hj) ax m capx news (by rw [hx2, hsz]) (hx4 ax rfl) (by omega) (by omega)
            (growslice_fits (by omega) (by rw [hby]; simpa using g6))
          simp only [Nat.zero_add] at this
          rw [this]; simp
      generalize hg : grownCap S.w m 0 T = gc at hr
      have hge : m ≤ gc := by rw [← hg]; exact grownCap_ge _ _ _ _
      have hS' := sim_same hS (w' := S.w.drew) rfl rfl rfl rfl
      have hE' := ext_same (S := S) (w' := S.w.drew) rfl rfl rfl rfl
      have hmv := sim_move hS' (i := i0) (o := ob) (o' := ⟨ob.cells ++ xs, ob.ty, ob.ver + 1, true⟩) (us := news) (Builtin.zeroCells zv.cells (gc - m)).toList ho (by simp)
        (by simp only [hcl, List.nil_append]; exact hx3.ext hE') hgrow
      have hme := ext_move (S := ⟨S.ρ, S.H, S.w.drew⟩) (i := i0) (o := ob) (o' := ⟨ob.cells ++ xs, ob.ty, ob.ver + 1, true⟩) (us := news) (rest := (Builtin.zeroCells zv.cells (gc - m)).toList) ho (by simp)
      refine ⟨.slice (some ⟨S.w.heap.size, 0, none⟩) m gc, _, hr.trans ?_, hE'.trans hme, hmv, ?_, rfl⟩
      · rw [arr_app, ← hty]; rfl
      · simp only [Nat.zero_add]
        refine .own i0 0 _ sz _ _ _ _ (hself _) (by simp [hver]) hge (fun h => by cases h) fun _ => ?_
        simp only [St.OwnAt, St.move, upd_same]
        refine .inr ⟨rfl, T, (news ++ (Builtin.zeroCells zv.cells (gc - m)).toList).length, ?_, ?_⟩
        · unfold World.shape?
          have h9 := heap_alloc_at S.w.drew (.cells (news ++ (Builtin.zeroCells zv.cells (gc - m)).toList).toArray ob.ty)
          simp only [World.size_drew] at h9 ⊢
          rw [h9]; simp [hty]
        · simp only [List.length_append, hx2, zeroCells_length, hzs]
          rw [← Nat.add_mul]
          have : m + (gc - m) = gc := by omega
          rw [this]; simp
  | some b =>
    have h7 := hS.live i0 ob ho hl
    rw [hρ] at h7 h6
    obtain ⟨us, rest, hh, hvr⟩ := h7
    have hblt : b < S.w.heap.size := hS.lt ⟨i0, ob, ho, hl, hρ⟩
    have husl : us.length = n * sz := by rw [hvr.1, hlen]
    by_cases hroom : n + m ≤ cap
    · -- there is room
      by_cases hm0 : m = 0
      · subst hm0
        have hxs : xs = [] := List.eq_nil_of_length_eq_zero (by rw [← hx3.1, hx2]; simp)
        subst hxs
        have hr := run_append_zero (P := P) (ty := ty) hu hi ads n cap hcap adx capx S.w
        obtain ⟨hs1, hs2⟩ := sim_put hS (cells := ob.cells ++ []) (ver := ob.ver + 1) ho hl hρ (by omega) (us := us) (rest := rest) hh (by simp) (by simpa using hvr) hgrow (w' := S.w) (by
          have : S.w.heap.setIfInBounds b (.cells (us ++ rest).toArray ob.ty (0, 0)) = S.w.heap := by
            apply Array.ext_getElem?
            intro j
            rw [Array.getElem?_setIfInBounds]
            by_cases h : b = j
            · subst h; rw [if_pos rfl, if_pos hblt, hh]
            · rw [if_neg h]
          rw [this])
        refine ⟨.slice ads n cap, ⟨S.ρ, S.H.set i0 ⟨ob.cells ++ [], ob.ty, ob.ver + 1, true⟩, S.w⟩, hr, hs2, hs1, ?_, rfl⟩
        refine .own i0 0 _ sz _ ads cap _ (hself _) (by simp [hver]) (by omega) (by simpa using hz) fun _ => ?_
        simpa [St.OwnAt, hρ] using h6
      · obtain ⟨ax, rfl⟩ : ∃ x, adx = some x := by
          cases adx with
          | none => exact absurd (hx5 rfl) hm0
          | some x => exact ⟨x, rfl⟩
        rcases h6 with h6 | ⟨h6, T', N, h8, h9⟩
        · omega
        subst h6
        have hN : N = us.length + rest.length := by
          unfold World.shape? at h8; rw [hh] at h8; simp at h8; omega
        have hfit : n * sz + m * sz ≤ us.length + rest.length := by
          have : (n + m) * sz ≤ cap * sz := Nat.mul_le_mul_right _ hroom
          rw [Nat.add_mul] at this; omega
        have hr := run_append_room (P := P) S.w t ty T i hu hi b n cap (us ++ rest).toArray (by rw [← hty]; exact hh) ax m capx news (by rw [hx2, hsz]) (hx4 ax rfl) hone hroom
          (by rw [hx2, hsz]; simpa using hfit)
        rw [setRow_eq S.w b _ _ ob.ty (0, 0) hh] at hr
        have hcells : ((us ++ rest).toArray.toList.take (n * i.size) ++ news ++ (us ++ rest).toArray.toList.drop (n * i.size + news.length)) = (us ++ news) ++ rest.drop (m * sz) := by
          rw [hsz, ← husl, hx2]
          simp [List.drop_append]
        rw [hcells] at hr
        obtain ⟨hs1, hs2⟩ := sim_put hS (cells := ob.cells ++ xs) (ver := ob.ver + 1) ho hl hρ (by omega) (us := us ++ news) (rest := rest.drop (m * sz)) hh (by simp [hx2]; omega) (hvr.append hx3) hgrow (w' := _) rfl
        refine ⟨_, _, hr, hs2, hs1, ?_, rfl⟩
        refine .own i0 0 _ sz _ _ cap _ (hself _) (by simp [hver]) hroom (fun h => by cases h) fun _ => ?_
        simp only [St.OwnAt, hρ]
        exact .inr ⟨trivial, T', N, hs2.shape _ _ _ h8, h9⟩
    · -- a new row
      have hm0 : m ≠ 0 := by omega
      obtain ⟨ax, rfl⟩ : ∃ x, adx = some x := by
        cases adx with
        | none => exact absurd (hx5 rfl) hm0
        | some x => exact ⟨x, rfl⟩
      have holds : ∀ j v, us[j]? = some v → S.w.cell? ((⟨b, 0, none⟩ : Addr).add j) = some v := by
        intro j v hj
        have hadd : (⟨b, 0, none⟩ : Addr).add j = ⟨b, j, none⟩ := by unfold Addr.add; split <;> simp_all
        rw [hadd]
        unfold World.cell?
        simp only [hh, Option.isSome_none, Bool.false_eq_true, if_false]
        simp [List.getElem?_append_left (getElem?_lt hj), hj]
      have hr : ∃ bb : Addr, (ads = some bb ∧ ∀ j v, us[j]? = some v → S.w.cell? (bb.add j) = some v) ∨ ads = none := by
        cases ads with
        | none => exact ⟨default, .inr rfl⟩
        | some bb =>
          refine ⟨bb, .inl ⟨rfl, ?_⟩⟩
          rcases h6 with h6 | ⟨h6, _⟩
          · have : n = 0 := by omega
            subst this
            have : us = [] := List.eq_nil_of_length_eq_zero (by simpa using husl)
            subst this
            intro j v hj; simp at hj
          · cases h6; exact holds
      have hrun : ∃ gc, n + m ≤ gc ∧ (Builtin.append_ #[t, t] ty #[.slice ads n cap, .slice (some ax) m capx]).run P S.w =
          .ok (.slice (some ⟨S.w.heap.size, 0, none⟩) (n + m) gc) (S.w.drew.alloc (.cells ((us ++ news) ++ (Builtin.zeroCells zv.cells (gc - (n + m))).toList).toArray T)) := by
        obtain ⟨bb, hr | hr⟩ := hr
        · obtain ⟨rfl, hol⟩ := hr
          refine ⟨grownCap S.w (n + m) cap T, grownCap_ge _ _ _ _, ?_⟩
          rw [run_append_grow (P := P) S.w t ty T i zv hu hi hzv bb n cap us (by rw [husl, hsz]) hol ax m capx news (by rw [hx2, hsz]) (hx4 ax rfl) (by omega) (by omega)
            (growslice_fits (by omega) (by rw [hby]; exact g6))]
          congr 2
          simp
        · subst hr
          have : n = 0 := hz rfl
          subst this
          have hus : us = [] := List.eq_nil_of_length_eq_zero (by simpa using husl)
          subst hus
          have hc0 : cap = 0 := by
            rcases h6 with h6 | ⟨h6, _⟩
            · exact h6
            · cases h6
          subst hc0
          simp only [Nat.zero_add] at g6 g7 ⊢
          refine ⟨grownCap S.w m 0 T, grownCap_ge _ _ _ _, ?_⟩
          rw [run_append_nil (P := P) S.w t ty T i zv hu hi hzv ax m capx news (by rw [hx2, hsz]) (hx4 ax rfl) (by omega) (by omega) (by rw [hby]; omega), arr_app, List.nil_append]
      obtain ⟨gc, hge, hrun⟩ := hrun
      have hS' := sim_same hS (w' := S.w.drew) rfl rfl rfl rfl
      have hE' := ext_same (S := S) (w' := S.w.drew) rfl rfl rfl rfl
      have hmv := sim_move hS' (i := i0) (o := ob) (o' := ⟨ob.cells ++ xs, ob.ty, ob.ver + 1, true⟩) (us := us ++ news) (Builtin.zeroCells zv.cells (gc - (n + m))).toList ho (by simp)
        ((hvr.append hx3).ext hE') hgrow
      have hme := ext_move (S := ⟨S.ρ, S.H, S.w.drew⟩) (i := i0) (o := ob) (o' := ⟨ob.cells ++ xs, ob.ty, ob.ver + 1, true⟩) (us := us ++ news) (rest := (Builtin.zeroCells zv.cells (gc - (n + m))).toList) ho (by simp)
      refine ⟨.slice (some ⟨S.w.heap.size, 0, none⟩) (n + m) gc, _, hrun.trans ?_, hE'.trans hme, hmv, ?_, rfl⟩
      · simp [St.move, hty]
      · refine .own i0 0 _ sz _ _ _ _ (hself _) (by simp [hver]) hge (fun h => by cases h) fun _ => ?_
        simp only [St.OwnAt, St.move, upd_same]
        refine .inr ⟨rfl, T, ((us ++ news) ++ (Builtin.zeroCells zv.cells (gc - (n + m))).toList).length, ?_, ?_⟩
        · unfold World.shape?
          have h9 := heap_alloc_at S.w.drew (.cells ((us ++ news) ++ (Builtin.zeroCells zv.cells (gc - (n + m))).toList).toArray ob.ty)
          simp only [World.size_drew] at h9 ⊢
          rw [h9]; simp [hty]
        · simp only [List.length_append, hx2, husl, zeroCells_length, hzs]
          rw [← Nat.add_mul, ← Nat.add_mul]
          have : n + m + (gc - (n + m)) = gc := by omega
          rw [this]; simp

theorem eff_sound (hS : Sim S) (he : EnvR S e a.tmps) {o : Oper} {i : E} (hc : chkE P o.op i = true) (hcall : i.isCall = false) {K : SV → List AO → Prop} (hs : xe i e.ev S.H K) :
    Eff P S a o K := by
  generalize hop : o.op = op at hc
  cases i with
  | alc T z =>
    simp only [chkE] at hc
    split at hc
    · rw [Bool.and_eq_true, beq_iff_eq] at hc
      obtain ⟨rfl, hz⟩ := hc
      obtain ⟨zv, hrun, hv, hcl⟩ := zeroB_spec (S := S) hz
      refine eff_ptr hS hv (fun s h => (hcl s h).1) ?_ hs
      simp [execOp, hop, Instr.alloc, hrun, newVar, newRow]
    · cases hc
  | box T x' =>
    simp only [chkE] at hc
    split at hc
    · rw [Bool.and_eq_true, beq_iff_eq] at hc
      obtain ⟨rfl, h1⟩ := hc
      obtain ⟨g1, g2, g3⟩ := hs
      obtain ⟨us, h2, h3⟩ := ((chkOd_spec h1 he).ug g1).flat g2
      refine eff_ptr hS h3 g2 ?_ g3
      simp [execOp, hop, Instr.box, newVar, newRow, h2]
    · cases hc
  | bsl T sz len z parts =>
    simp only [chkE] at hc
    split at hc
    · rename_i t len' ps
      simp only [Bool.and_eq_true, beq_iff_eq, decide_eq_true_eq] at hc
      obtain ⟨⟨⟨⟨⟨⟨h1, h2⟩, rfl⟩, h4⟩, h5⟩, h6⟩, h7⟩ := hc
      obtain ⟨g1, g2, g3⟩ := hs
      have hu := slTB_spec h1
      obtain ⟨zv, hrun, hv, hcl⟩ := zeroB_spec (S := S) h4
      obtain ⟨hl, hq⟩ := bslB_spec (e := e) h7 he
      have hzl : zv.cells.toList.length = sz := by rw [hv.1, h5]
      have hvz := hv.zeros len'
      obtain ⟨cells, hf, hvf⟩ := fill_sound (S := S) (fun i => some (i * sz, sz)) (ps.toList.map fun p => (p.1, a.eval p.2)) (parts.map fun p => (p.1 * sz, e.ev p.2))
        (List.replicate len' z).flatten (List.replicate len' zv.cells.toList).flatten hvz (by simpa using hl) (by
          intro j p q hpj hqj
          rw [List.getElem?_map] at hpj hqj
          cases hp0 : ps.toList[j]? with
          | none => rw [hp0] at hpj; cases hpj
          | some p0 =>
            cases hq0 : parts[j]? with
            | none => rw [hq0] at hqj; cases hqj
            | some q0 =>
              rw [hp0] at hpj; rw [hq0] at hqj
              simp at hpj hqj
              subst hpj hqj
              obtain ⟨k1, k2⟩ := hq j p0 q0 hp0 hq0
              obtain ⟨k3, k4⟩ := g1 q0 (List.mem_of_getElem? hq0)
              exact ⟨sz, by simp [k1], k3, by rw [length_zeros, h5]; exact k4, k2⟩)
      have hlen : cells.length = len' * sz := by
        rw [hvf.1]
        have : ∀ (qs : List (Nat × SV)) (z : List SV), (∀ q ∈ qs, q.1 + q.2.ug.flat.length ≤ z.length) → (fillS z qs).length = z.length := by
          intro qs
          induction qs with
          | nil => intro z _; rfl
          | cons q r ih =>
            intro z hz
            obtain ⟨off, v⟩ := q
            have h8 := hz (off, v) (by simp)
            simp only [fillS]
            have h9 : (z.take off ++ v.ug.flat ++ z.drop (off + v.ug.flat.length)).length = z.length := by simp at h8 ⊢; omega
            rw [ih _ (by intro q hq; rw [h9]; exact hz q (by simp [hq]))]
            exact h9
        rw [this, length_zeros, h5]
        intro q hq
        simp only [List.mem_map] at hq
        obtain ⟨p, hp, rfl⟩ := hq
        obtain ⟨k3, k4⟩ := g1 p hp
        have k5 : (e.ev p.2).ug.flat.length = sz := by
          unfold partOk at k3
          split at k3
          · rename_i l hl; rw [hl]; exact k3.1
          · rename_i x hx
            unfold SV.flat; split
            · rename_i l hl; exact absurd hl (hx l)
            · simp [k3.1]
        rw [length_zeros, h5, k5]; exact k4
      refine eff_slice (rest := []) (cap := len') hS hvf g2 (Nat.le_refl _) (by simp [hlen]) ?_ g3
      simp only [execOp, hop, Instr.buildSlice, Sem.run_bind, run_underlying hu, Result.andThen_ok, run_sizeOf' h2]
      rw [if_neg (by omega)]
      have hzz : (Array.range (len' * sz)).map (fun x => zv.cells[x % zv.cells.size]!) = (List.replicate len' zv.cells.toList).flatten.toArray := by
        have := made_eq (z := zv.cells.toList) len'
        rw [hzl] at this
        rw [← this]; simp [madeCells]
      have e1 : (ps.map fun x => (x.1, a.eval x.2)).toList = ps.toList.map fun p => (p.1, a.eval p.2) := by simp
      by_cases h0 : len' * sz = 0
      · have hz0 : (List.replicate len' zv.cells.toList).flatten = [] := by
          apply List.eq_nil_of_length_eq_zero; rw [length_zeros, hzl]; exact h0
        rw [hz0] at hf
        simp only [h0, if_true, Sem.run_pure, Result.andThen_ok, Array.range_zero', Array.map_empty, e1, hf]
        simp [newRow]
      · simp only [h0, if_false, Sem.run_bind, hrun, Result.andThen_ok, Sem.run_pure, hzz, e1, hf]
        simp [newRow]
    · cases hc
  | mks T sz bytes z len cap =>
    simp only [chkE] at hc
    split at hc
    · rename_i t l c
      simp only [Bool.and_eq_true, beq_iff_eq] at hc
      obtain ⟨⟨⟨⟨⟨h1, h2⟩, h4⟩, h5⟩, h6⟩, h7⟩ := hc
      obtain ⟨g1, g2, g3, g4, g5, g6, g7⟩ := hs
      have hu := slTB_spec h1
      obtain ⟨i, zv, hi, hzv, hsz, hby, hzs⟩ := infoB_spec h2
      obtain ⟨zv', hrun, hv, hcl⟩ := zeroB_spec (S := S) h4
      have e1 : zv' = zv := by
        have := hrun S.w
        simp [zeroValue, typeInfo, hi, hzv] at this
        exact this.symm
      subst e1
      have hzl : zv'.cells.toList.length = sz := by rw [hv.1, h5]
      obtain ⟨kl, hkl⟩ := (chkOd_spec h6 he).isN g1
      obtain ⟨kc, hkc⟩ := (chkOd_spec h7 he).isN g2
      have hm := run_make (P := P) S.w t T i zv' hu hi hzv kl kc (e.ev len).int (e.ev cap).int g3 g4 (by rw [hby]; omega) (by omega)
      have hme : madeCells zv'.cells ((e.ev cap).int.toNat * i.size) = ((List.replicate (e.ev len).int.toNat zv'.cells.toList).flatten ++ (List.replicate ((e.ev cap).int.toNat - (e.ev len).int.toNat) zv'.cells.toList).flatten).toArray := by
        have h8 := made_eq (z := zv'.cells.toList) (e.ev cap).int.toNat
        rw [hzl] at h8
        rw [hsz]
        have h9 : (e.ev cap).int.toNat = (e.ev len).int.toNat + ((e.ev cap).int.toNat - (e.ev len).int.toNat) := by omega
        rw [← List.flatten_append, List.replicate_append_replicate, ← h9, ← h8]
      refine eff_slice (cap := (e.ev cap).int.toNat) (rest := (List.replicate ((e.ev cap).int.toNat - (e.ev len).int.toNat) zv'.cells.toList).flatten) hS (hv.zeros _) (cellsOk_zeros (fun s h => (hcl s h).1) _) (by omega) ?_ ?_ g7
      · rw [List.length_append, length_zeros, length_zeros, hzl, ← Nat.add_mul]
        apply Nat.mul_le_mul_right; omega
      · rw [← hme]
        simp [execOp, hop, hkl, hkc, hm]
    · cases hc
  | app T sz bytes s x =>
    simp only [chkE] at hc
    split at hc
    · rename_i as ts
      split at hc
      · rename_i s' x' t t' ha ht
        simp only [Bool.and_eq_true, beq_iff_eq, decide_eq_true_eq] at hc
        obtain ⟨⟨⟨⟨⟨rfl, h1⟩, h2⟩, h3⟩, h4⟩, h5⟩ := hc
        obtain ⟨g1, g2, g3, g4, g5, g6, g7, g8⟩ := hs
        have ha' : as = #[s', x'] := by rw [← ha]
        have ht' : ts = #[t, t] := by rw [← ht]
        subst ha' ht'
        obtain ⟨adx, capx, news, hx1, hx2, hx3, hx4, hx5⟩ := VR.els hS ((chkOd_spec h2 he).ug g2) g3 g4
        have hs0 := (chkOd_spec h1 he).ug g1
        split at g8
        · rename_i i0 n sz' ver hown
          rw [hown] at g6 g7 hs0
          simp only [SV.slen] at g6 g7
          obtain ⟨rfl, ⟨ob, ho, hl, hver, hty, hlen⟩, hK⟩ := g8
          rw [setObj_some ho] at hK
          obtain ⟨ads, cap, hsv, hcap, hz, hat⟩ := hs0.own_inv ho hver
          obtain ⟨v', S', hr, hext, hsim, hvr, hH⟩ := append_own (ty := o.type) hS (slTB_spec h3) h4 ho hl hver hty hlen hcap hz hat hx2 hx3 hx4 hx5 g5 g6 g7
          refine ⟨v', S', _, .inl ?_, hext, hsim, hvr, ?_⟩
          · have h9 : (execOp a.eval o).run P S.w = ((Builtin.append_ #[t, t] o.type #[.slice ads n cap, .slice adx (e.ev x).ug.slen capx]).run P S.w).andThen fun v w' => .ok (.value v) w' := by
              simp [execOp, hop, resolve, invoke, builtin, hsv, hx1]
            rw [h9, hr]; rfl
          · rw [hH]; exact hK
        · exact g8.elim
      · cases hc
    · cases hc
  | st n p x =>
    simp only [chkE] at hc
    split at hc
    · rename_i t p' x'
      simp only [Bool.and_eq_true] at hc
      obtain ⟨⟨h1, h2⟩, h3⟩ := hc
      obtain ⟨g1, g2, g3, g4, g5, g6⟩ := hs
      obtain ⟨us, hx1, hx2⟩ := ((chkOd_spec h2 he).ug g2).flat g3
      have hp := (chkOd_spec h1 he).ug g1
      split at g6
      · rename_i i0 off l0 s0 ver k hpt
        rw [hpt] at hp
        obtain ⟨g6, hK⟩ := g6
        have hk0 : off + k < (objCells S.H i0 ver).length := by omega
        obtain ⟨ob, b, us0, rest, u, ho, hl, hver, hρ, hh, hvr, _⟩ := hS.read (List.getElem?_eq_getElem hk0)
        have hob : objCells S.H i0 ver = ob.cells := by rw [← hver]; exact objCells_of ho hl
        rw [hob] at g6
        rw [setObj_some ho] at hK
        have husl : us.length = n := by rw [hx2.1, g4]
        have hus0 : us0.length = ob.cells.length := hvr.1
        generalize hpv : a.eval p' = pv at hp
        cases hp with
        | ptrO _ _ _ _ _ _ ad o' ho' hvl hat =>
          rw [ho] at ho'; cases ho'
          obtain ⟨b', hb', had⟩ := hat hver
          rw [hρ] at hb'; cases hb'
          subst had
          have hst := run_storeCells_at P b (off + k) ob.ty us 0 (us0 ++ rest).toArray S.w hh (by simp; omega) (hx2.oneCells g3)
          simp only [Nat.add_zero] at hst
          rw [setRow_eq S.w b _ _ ob.ty (0, 0) hh] at hst
          have hcells : ((us0 ++ rest).toArray.toList.take (off + k) ++ us ++ (us0 ++ rest).toArray.toList.drop (off + k + us.length)) = (us0.take (off + k) ++ us ++ us0.drop (off + k + us.length)) ++ rest := by
            have e1 : off + k ≤ us0.length := by omega
            have e2 : off + k + us.length ≤ us0.length := by omega
            simp [List.take_append_of_le_length e1, List.drop_append_of_le_length e2]
          rw [hcells] at hst
          have hv' : VRs S (ob.cells.take (off + k) ++ (e.ev x).ug.flat ++ ob.cells.drop (off + k + (e.ev x).ug.flat.length)) (us0.take (off + k) ++ us ++ us0.drop (off + k + us.length)) := by
            have : us.length = (e.ev x).ug.flat.length := hx2.1
            rw [this]
            exact ((hvr.take _).append hx2).append (hvr.drop _)
          have hput : ob.put (off + k) (e.ev x).ug.flat = ⟨ob.cells.take (off + k) ++ (e.ev x).ug.flat ++ ob.cells.drop (off + k + (e.ev x).ug.flat.length), ob.ty, ob.ver, true⟩ := by
            cases ob; simp [AO.put] at *; exact hl
          rw [hput] at hK
          obtain ⟨hs1, hs2⟩ := sim_put hS (cells := ob.cells.take (off + k) ++ (e.ev x).ug.flat ++ ob.cells.drop (off + k + (e.ev x).ug.flat.length)) (ver := ob.ver) ho hl hρ (Nat.le_refl _)
            (us := us0.take (off + k) ++ us ++ us0.drop (off + k + us.length)) (rest := rest) hh (by simp; omega) hv' (by
              intro s hs
              simp only [List.mem_append] at hs
              rcases hs with (hs | hs) | hs
              · exact hS.bel _ _ ho s (List.mem_of_mem_take hs)
              · exact hx2.unders g3 s hs
              · exact hS.bel _ _ ho s (List.mem_of_mem_drop hs)) (w' := _) rfl
          refine ⟨undef, _, _, .inr ⟨?_, rfl⟩, hs2, hs1, .val _, hK⟩
          simp only [execOp, hop, hpv, Instr.storeAt, Instr.sureAddr, Sem.run_bind, Sem.run_pure, Result.andThen_ok, storeVar, run_sizeOf' h3, hx1]
          rw [if_neg (by simp [husl])]
          simp only [hst, Result.andThen_ok]
      · exact g6.elim
    · cases hc
  | nil T sz x =>
    obtain ⟨g1, g2, g3⟩ := hs
    have hv : ∀ (x' : Operand), chkOd x' x = true → a.eval x' = .slice none 0 0 := by
      intro x' h
      exact ((chkOd_spec h he).ug g1).isNil g2
    have main : (execOp a.eval o).run P S.w = .ok (.value (.slice none 0 0)) S.w := by
      simp only [chkE] at hc
      split at hc
      · simp [execOp, hop, hv _ hc]
      · simp [execOp, hop, hv _ hc]
      · cases hc
    refine ⟨_, S.newNil T, _, .inl main, ext_newNil S T, sim_newNil hS T, ?_, g3⟩
    refine .own _ 0 0 sz 0 none 0 ⟨[], T, 0, true⟩ (by simp [St.newNil]) (Nat.le_refl _) (Nat.le_refl _) (fun _ => rfl) fun _ => ?_
    simp [St.OwnAt, St.newNil, upd_same]
  | sl0 T sz x =>
    obtain ⟨g1, g2, g3⟩ := hs
    simp only [chkE] at hc
    split at hc
    · rename_i t x' k1 k2
      rw [Bool.and_eq_true, Bool.and_eq_true] at hc
      obtain ⟨⟨h1, h2⟩, h3⟩ := hc
      have hu := slTB_spec h2
      obtain ⟨i, hi⟩ := Option.isSome_iff_exists.1 h3
      obtain ⟨ad, cap, hv⟩ := ((chkOd_spec h1 he).ug g1).slen_spec g2
      have main : ∃ ad', (execOp a.eval o).run P S.w = .ok (.value (.slice ad' 0 0)) S.w := by
        refine ⟨ad, ?_⟩
        simp [execOp, hop, hv, Instr.sliceAt, Instr.slice, run_underlying hu, Instr.sliceBounds, Instr.sliceBound, asIntOf, eval_const, sizeOf, typeInfo, hi]
      obtain ⟨ad', main⟩ := main
      refine ⟨_, S.newNil T, _, .inl main, ext_newNil S T, sim_newNil hS T, ?_, g3⟩
      refine .own _ 0 0 sz 0 ad' 0 ⟨[], T, 0, true⟩ (by simp [St.newNil]) (Nat.le_refl _) (Nat.le_refl _) (fun _ => rfl) fun _ => ?_
      simp [St.OwnAt, St.newNil, upd_same]
    · cases hc
  | snil neg right x =>
    obtain ⟨g1, g2, g3, g4⟩ := hs
    simp only [chkE] at hc
    split at hc
    · rename_i op2 t x' y' yt
      rw [Bool.and_eq_true, Bool.and_eq_true, Bool.and_eq_true] at hc
      obtain ⟨⟨⟨h1, h2⟩, h3⟩, h4⟩ := hc
      split at h4
      · rename_i el hu
        have main : ∀ (ad : Option Addr) (n cap : Nat), (a.eval (if right then x' else y')) = .slice ad n cap →
            (execOp a.eval o).run P S.w = .ok (.value (.bool (if neg then !ad.isNone else ad.isNone))) S.w := by
          intro ad n cap hv
          have r1 := run_equal_slice_nil (P := P) S.w t el ad n cap hu
          have r2 : (Op.equal t (.slice none 0 0) (.slice ad n cap)).run P S.w = .ok ad.isNone S.w := run_eq_nil_sl 9999 hu ad n cap S.w
          cases right with
          | true =>
            simp only [if_true] at h3 hv
            split at h3
            · cases neg with
              | true => simp at h1; subst h1; simp [execOp, hop, hv, eval_const, eqGuard, binOp, r1]
              | false => simp at h1; subst h1; simp [execOp, hop, hv, eval_const, eqGuard, binOp, r1]
            · cases h3
          | false =>
            simp only [Bool.false_eq_true, if_false] at h3 hv
            split at h3
            · cases neg with
              | true => simp at h1; subst h1; simp [execOp, hop, hv, eval_const, eqGuard, binOp, r2]
              | false => simp at h1; subst h1; simp [execOp, hop, hv, eval_const, eqGuard, binOp, r2]
            · cases h3
        have hx := (chkOd_spec h2 he).ug g1
        obtain ⟨ad, cap, hv⟩ := hx.slen_spec g2
        have hrun := main ad _ cap hv
        rw [hv] at hx
        cases ad with
        | none =>
          have h0 : (e.ev x).ug.slen = 0 := by
            obtain ⟨nn, hnn⟩ : ∃ nn, nn = (e.ev x).ug.slen := ⟨_, rfl⟩
            rw [← hnn] at hx ⊢
            exact hx.nil_len hnn
          have g5 := (g4 h0).2
          refine ⟨_, S, _, .inl hrun, Ext.refl _ S, hS, .val _, ?_⟩
          cases neg <;> simpa [bl] using g5
        | some ad =>
          have g5 : K (bl neg) S.H := by
            by_cases h0 : (e.ev x).ug.slen = 0
            · exact (g4 h0).1
            · exact g3 h0
          refine ⟨_, S, _, .inl hrun, Ext.refl _ S, hS, .val _, ?_⟩
          cases neg <;> simpa [bl] using g5
      · cases h4
    · cases hc
  | cpy sz d s => exact hs.elim
  | call f args => cases hcall

end
end Go.Ab
