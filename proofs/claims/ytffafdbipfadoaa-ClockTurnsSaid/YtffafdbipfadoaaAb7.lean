/-
  The rest of the instructions without an effect, and all of them together.
-/
import Derived.Test.YtffafdbipfadoaaAb6
set_option linter.all false
namespace Go.Ab

section
variable {P : Program} {S : St} {e : Env} {a : Act}

theorem run_iap {t el : TypeId} {n sz : Nat} (hu : P.underlying t = some (.array n el)) (hsz : sizeB P el sz = true) (ad : Addr) {k : IntKind} {j : Int} (h0 : 0 ≤ j) (h1 : j < n) (w : World) :
    (Instr.indexAt t (.pointer (some ad)) (.int k j)).run P w = .ok (.pointer (some (ad.add (j.toNat * sz)))) w := by
  simp [Instr.indexAt, run_asIntOf, run_underlying hu, h0, h1, run_sizeOf' hsz, Instr.sureAddr]

theorem run_ixs {t : TypeId} (hu : P.underlying t = some .string) (s : ByteArray) {k : IntKind} {j : Int} (h0 : 0 ≤ j) (h1 : j < s.size) (w : World) :
    (Instr.index t (.string s) (.int k j)).run P w = .ok (.int .u8 (s.data.toList.getD j.toNat 0).toNat) w := by
  have hlt : j.toNat < s.size := by omega
  have hlt' : j.toNat < s.data.toList.length := by simpa using hlt
  have : s[j.toNat]? = some s[j.toNat] := getElem?_pos s j.toNat hlt
  simp only [Instr.index, Sem.run_bind, run_asIntOf, run_underlying hu, Result.andThen_ok, h0, if_true, this]
  rw [List.getD_eq_getElem?_getD, List.getElem?_eq_getElem hlt']
  rfl

theorem run_ixa {t el : TypeId} {n sz : Nat} {one : Bool} (hu : P.underlying t = some (.array n el)) (hsz : sizeB P el sz = true) (hone : (if one then oneB P el else aggB P el) = true)
    {l : List SV} {us : List Value} (hv : VRs S l us) (hl : l.length = n * sz) (h1z : one = true → sz = 1) {k : IntKind} {j : Int} (h0 : 0 ≤ j) (h1 : j < n) :
    ∃ u, (Instr.index t (.agg us.toArray) (.int k j)).run P S.w = .ok u S.w ∧ VR S (if one then l.getD j.toNat .any else .agg ((l.drop (j.toNat * sz)).take sz)) u := by
  have hj : j.toNat < n := by omega
  simp only [Instr.index, Sem.run_bind, run_asIntOf, run_underlying hu, Result.andThen_ok, h0, h1, and_self, if_true, run_sizeOf' hsz]
  cases one with
  | true =>
    obtain rfl := h1z rfl
    obtain ⟨u, hu1, hu2⟩ := hv.getD (j := j.toNat) (by rw [hl]; omega)
    refine ⟨u, ?_, by simpa using hu2⟩
    exact run_part_one (by simpa using hone) (by simpa using hu1) _
  | false =>
    refine ⟨_, run_part_agg (by simpa using hone) hsz _, ?_⟩
    rw [extract_toArray]
    simp only [Bool.false_eq_true, if_false]
    have : j.toNat * sz + sz - j.toNat * sz = sz := by omega
    rw [this]
    exact VR.of_agg ((hv.drop _).take _)

theorem chkOp_spec {x : Option Operand} {y : Option Od} (h : chkOp x y = true) (he : EnvR S e a.tmps) :
    (x = none ∧ y = none) ∨ ∃ x' y', x = some x' ∧ y = some y' ∧ VR S (e.ev y') (a.eval x') := by
  unfold chkOp at h
  split at h
  · exact .inl ⟨rfl, rfl⟩
  · exact .inr ⟨_, _, rfl, rfl, chkOd_spec h he⟩
  · cases h

theorem run_bounds {isS : Bool} {len cap : Nat} {lo hi : Option Operand} {lo' hi' : Option Od} (hlo : chkOp lo lo' = true) (hhi : chkOp hi hi' = true) (he : EnvR S e a.tmps)
    (b1 : bdOf (lo'.map e.ev)) (b2 : bdOf (hi'.map e.ev)) (h1 : loOf (lo'.map e.ev) ≤ hiOf len (hi'.map e.ev)) (h2 : hiOf len (hi'.map e.ev) ≤ len) (hc : len ≤ cap) (w : World) :
    (Instr.sliceBounds isS len cap (lo.map a.eval) (hi.map a.eval) none).run P w = .ok (loOf (lo'.map e.ev), hiOf len (hi'.map e.ev), cap) w := by
  rcases chkOp_spec hlo he with ⟨rfl, rfl⟩ | ⟨x, y, rfl, rfl, hv⟩ <;> rcases chkOp_spec hhi he with ⟨rfl, rfl⟩ | ⟨x', y', rfl, rfl, hv'⟩
  · simp [Instr.sliceBounds, loOf, hiOf]
  · obtain ⟨k, hk⟩ := hv'.isN b2.1
    have b3 := b2.2
    simp only [Option.map_some, hiOf, loOf] at h1 h2 ⊢
    have : (e.ev y').int ≤ cap := by omega
    simp [Instr.sliceBounds, Instr.sliceBound, hk, run_asIntOf, this, b3]
  · obtain ⟨k, hk⟩ := hv.isN b1.1
    have b3 := b1.2
    simp only [Option.map_some, hiOf, loOf, Option.map_none] at h1 h2 ⊢
    have : (e.ev y).int ≤ len := by omega
    simp [Instr.sliceBounds, Instr.sliceBound, hk, run_asIntOf, this, b3]
  · obtain ⟨k, hk⟩ := hv.isN b1.1
    have b3 := b1.2
    obtain ⟨k', hk'⟩ := hv'.isN b2.1
    have b4 := b2.2
    simp only [Option.map_some, hiOf, loOf] at h1 h2 ⊢
    have h5 : (e.ev y').int ≤ cap := by omega
    have h6 : (e.ev y).int ≤ (e.ev y').int := by omega
    have h7 : (e.ev y).int ≤ max (e.ev y').int 0 := by omega
    simp [Instr.sliceBounds, Instr.sliceBound, hk, hk', run_asIntOf, h5, h6, h7, b3, b4]

theorem run_sl {t el : TypeId} {sz : Nat} (hu : P.underlying t = some (.slice el)) (hsz : sizeB P el sz = true) {x : SV} {v : Value} (hx : VR S x v) (hsl : x.isSl = true)
    {lo hi : Option Operand} {lo' hi' : Option Od} (hlo : chkOp lo lo' = true) (hhi : chkOp hi hi' = true) (he : EnvR S e a.tmps)
    (b1 : bdOf (lo'.map e.ev)) (b2 : bdOf (hi'.map e.ev)) (h1 : loOf (lo'.map e.ev) ≤ hiOf x.slen (hi'.map e.ev)) (h2 : hiOf x.slen (hi'.map e.ev) ≤ x.slen)
    (hown : x.szIs sz = true) :
    ∃ u, (Instr.sliceAt t v (lo.map a.eval) (hi.map a.eval) none).run P S.w = .ok u S.w ∧ VR S (x.cut sz (loOf (lo'.map e.ev)) (hiOf x.slen (hi'.map e.ev))) u := by
  have run : ∀ (ad : Option Addr) (cap : Nat), x.slen ≤ cap →
      (Instr.sliceAt t (.slice ad x.slen cap) (lo.map a.eval) (hi.map a.eval) none).run P S.w =
        .ok (.slice (if cap = loOf (lo'.map e.ev) then ad else ad.map (·.add (loOf (lo'.map e.ev) * sz))) (hiOf x.slen (hi'.map e.ev) - loOf (lo'.map e.ev)) (cap - loOf (lo'.map e.ev))) S.w := by
    intro ad cap hc
    have hb := run_bounds (P := P) (isS := true) hlo hhi he b1 b2 h1 h2 hc S.w
    simp only [Instr.sliceAt, Instr.slice, Sem.run_bind, run_underlying hu, Result.andThen_ok, hb, run_sizeOf' hsz, Sem.run_pure]
  revert run h1 h2
  generalize loOf (lo'.map e.ev) = l
  generalize hiOf x.slen (hi'.map e.ev) = h
  intro h1 h2 run
  cases hx with
  | slc cells len ad cap us hc hl hi2 hh =>
    simp only [SV.slen] at h1 h2 run
    simp only [SV.cut]
    refine ⟨_, run (some ad) cap hc, ?_⟩
    by_cases hcap : cap = l
    · rw [if_pos hcap]
      have e0 : h - l = 0 := by omega
      rw [e0]
      simp only [Nat.zero_mul, List.take_zero]
      exact .slc [] 0 ad _ [] (by omega) rfl ⟨fun j u hj => by simp at hj, fun hne => absurd rfl hne⟩ fun j s u hj => by simp at hj
    · rw [if_neg hcap]
      have hv : VRs S cells us := ⟨hl, hh⟩
      have hv' := (hv.drop (l * sz)).take ((h - l) * sz)
      refine .slc _ _ _ _ _ (by omega) hv'.1 ⟨?_, ?_⟩ hv'.2
      · intro j u hj
        rw [List.getElem?_take] at hj
        by_cases hjl : j < (h - l) * sz
        · rw [if_pos hjl, List.getElem?_drop] at hj
          rw [add_add]; exact hi2.1 _ _ hj
        · rw [if_neg hjl] at hj; cases hj
      · intro hne
        rw [add_block]
        apply hi2.2
        intro e0; subst e0; simp at hne
  | nilslc =>
    simp only [SV.slen] at h1 h2 run
    simp only [SV.cut]
    have hh : h = 0 := by omega
    have hl : l = 0 := by omega
    subst hh hl
    refine ⟨_, run none 0 (Nat.le_refl _), ?_⟩
    simpa using VR.nilslc
  | own i off len sz' ver ad cap o ho hv hc hz hat =>
    obtain rfl : sz' = sz := by simpa [SV.szIs] using hown
    simp only [SV.slen] at h1 h2 run
    simp only [SV.cut]
    refine ⟨_, run ad cap hc, .own i _ _ _ ver _ _ o ho hv (by omega) ?_ fun hver => ?_⟩
    · intro hn
      have : ad = none := by
        split at hn
        · exact hn
        · cases ad with
          | none => rfl
          | some x => simp at hn
      have := hz this; omega
    · have h3 := hat hver
      unfold St.OwnAt at *
      cases hρ : S.ρ i with
      | none =>
        rw [hρ] at h3
        obtain ⟨rfl, rfl⟩ := h3
        simp; omega
      | some b =>
        rw [hρ] at h3
        rcases h3 with h3 | ⟨h3, T, n, h4, h5⟩
        · left; omega
        · by_cases hcap : cap = l
          · left; omega
          · right
            rw [if_neg hcap, h3]
            refine ⟨?_, T, n, h4, ?_⟩
            · simp only [Option.map_some, Option.some.injEq]
              unfold Addr.add; split
              · rename_i h6; simp [h6]
              · rfl
            · have e1 : (cap - l) * sz' + l * sz' = cap * sz' := by rw [← Nat.add_mul]; congr 1; omega
              omega
  | val v =>
    have : v = .slice none 0 0 := by cases v <;> simp [SV.isSl] at hsl; rename_i a b c; revert hsl; cases a <;> cases b <;> cases c <;> simp [SV.isSl]
    subst this
    simp only [SV.slen] at h1 h2 run
    simp only [SV.cut]
    have hh : h = 0 := by omega
    have hl : l = 0 := by omega
    subst hh hl
    refine ⟨_, run none 0 (Nat.le_refl _), ?_⟩
    simpa using VR.nilslc
  | _ => simp [SV.isSl] at hsl

/-! A literal -/
theorem foldl_set (cs : List Value) : ∀ (j : Nat) (cells : List Value) (off : Nat), off + j + cs.length ≤ cells.length →
    ((cs.zipIdx j).foldl (fun (acc : Array Value) (x : Value × Nat) => acc.setIfInBounds (off + x.2) x.1) cells.toArray) =
      (cells.take (off + j) ++ cs ++ cells.drop (off + j + cs.length)).toArray := by
  induction cs with
  | nil => intro j cells off h; simp
  | cons c r ih =>
    intro j cells off h
    simp only [List.zipIdx_cons, List.foldl_cons, List.setIfInBounds_toArray]
    rw [ih (j + 1) _ off (by simp at *; omega)]
    congr 1
    apply List.ext_getElem?
    intro k
    simp only [List.getElem?_append, List.length_append, List.length_take, List.length_set, List.getElem?_take, List.getElem?_drop, List.getElem?_set, List.length_cons]
    simp only [List.length_cons] at h
    rcases Nat.lt_or_ge k (off + j) with h1 | h1
    · rw [if_pos (by omega), if_pos (by omega), if_pos (by omega), if_neg (by omega), if_pos (by omega), if_pos (by omega), if_pos (by omega)]
    · rcases Nat.lt_or_ge k (off + j + 1) with h2 | h2
      · have : k = off + j := by omega
        subst this
        rw [if_pos (by omega), if_pos (by omega), if_pos (by omega), if_pos (by omega), if_pos (by omega), if_pos (by omega), if_neg (by omega)]
        have : off + j - min (off + j) cells.length = 0 := by omega
        simp [this]
      · rcases Nat.lt_or_ge k (off + j + 1 + r.length) with h3 | h3
        · rw [if_pos (by omega), if_neg (by omega), if_pos (by omega), if_neg (by omega)]
          have e1 : k - min (off + (j + 1)) cells.length = k - (off + j + 1) := by omega
          have e2 : k - min (off + j) cells.length = (k - (off + j + 1)) + 1 := by omega
          rw [e1, e2]; simp
        · rw [if_neg (by omega), if_neg (by omega), if_neg (by omega)]
          congr 1; omega

theorem fill_sound (place : Nat → Option (Nat × Nat)) : ∀ (ps : List (Nat × Value)) (qs : List (Nat × SV)) (z : List SV) (zs : List Value), VRs S z zs → ps.length = qs.length →
    (∀ (j : Nat) (p : Nat × Value) (q : Nat × SV), ps[j]? = some p → qs[j]? = some q → ∃ size, place p.1 = some (q.1, size) ∧ partOk size q.2 ∧ q.1 + size ≤ z.length ∧ VR S q.2 p.2) →
    ∃ cells, Instr.fill place zs.toArray ps = some cells.toArray ∧ VRs S (fillS z qs) cells
  | [], [], z, zs, hz, _, _ => ⟨zs, rfl, hz⟩
  | [], q :: qs, z, zs, hz, hl, _ => by simp at hl
  | p :: ps, [], z, zs, hz, hl, _ => by simp at hl
  | (f, v) :: ps, (off, s) :: qs, z, zs, hz, hl, h => by
    obtain ⟨size, h1, h2, h3, h4⟩ := h 0 (f, v) (off, s) rfl rfl
    have key : ∃ cs : List SV, ∃ us : List Value, s.ug.flat = cs ∧ v.cells = us.toArray ∧ VRs S cs us ∧ cs.length = size := by
      unfold partOk at h2
      simp only at h2
      split at h2
      · rename_i l hl
        have h5 := h4.ug h2.2
        rw [hl] at h5
        obtain ⟨us, he, hus⟩ := h5.agg_inv
        simp only at he
        exact ⟨l, us, by rw [hl]; rfl, by rw [he]; rfl, hus, h2.1⟩
      · rename_i x hx
        have h5 := h4.ug h2.2.2
        refine ⟨[s.ug], [v], ?_, ?_, VRs.cons h5 (VRs.nil S), by simp [h2.1]⟩
        · unfold SV.flat; split
          · rename_i l hl; exact absurd hl (hx l)
          · rfl
        · have := h5.oneCell h2.2.1
          simp only at this
          cases v <;> simp_all [Value.cells, Value.oneCell']
    obtain ⟨cs, us, e1, e2, hus, hsz⟩ := key
    have hlen : us.length = size := by rw [hus.1, hsz]
    simp only [Instr.fill, h1, fillS]
    have hno : ¬ (v.cells.size ≠ size ∨ off + v.cells.size > zs.toArray.size) := by
      rw [e2]; simp [hlen, hz.1]; omega
    have hb : (decide (v.cells.size ≠ size) || decide (off + v.cells.size > zs.toArray.size)) = false := by
      simp only [Bool.or_eq_false_iff, decide_eq_false_iff_not]
      exact ⟨fun h => hno (.inl h), fun h => hno (.inr h)⟩
    have hfold := foldl_set us 0 zs off (by rw [hlen, hz.1]; omega)
    have e3 : v.cells.zipIdx.foldl (fun cs x => cs.setIfInBounds (off + x.2) x.1) zs.toArray = (zs.take (off + 0) ++ us ++ zs.drop (off + 0 + us.length)).toArray := by
      rw [e2, ← hfold, ← Array.foldl_toList]
      simp
    rw [if_neg (by simpa using hno)]
    have ih := fill_sound place ps qs (z.take off ++ cs ++ z.drop (off + cs.length)) (zs.take off ++ us ++ zs.drop (off + us.length))
      (by
        have : us.length = cs.length := hus.1
        rw [this]
        exact ((hz.take off).append hus).append (hz.drop _)) (by simpa using hl) (by
        intro j p q hp hq
        obtain ⟨size', g1, g2, g3, g4⟩ := h (j + 1) p q (by simpa using hp) (by simpa using hq)
        refine ⟨size', g1, g2, ?_, g4⟩
        simp; omega)
    obtain ⟨cells, i1, i2⟩ := ih
    refine ⟨cells, ?_, ?_⟩
    · rw [← i1]
      congr 1
    · rw [e1]; exact i2

end
end Go.Ab
