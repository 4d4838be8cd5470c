/-
  The model's operations give what the instructions without an effect say.
-/
import Derived.Test.YtffafdbipfadoaaAb4
set_option linter.all false
namespace Go.Ab

section
variable {P : Program} {S : St} {e : Env} {a : Act} {w : World}

theorem run_value (s : Sem Value) (v : Value) (h : s.run P w = .ok v w) : (do pure (Next.value (← s)) : Sem Next).run P w = .ok (.value v) w := by
  simp [h]

theorem run_asIntOf (k : IntKind) (n : Int) : (asIntOf (.int k n)).run P w = .ok (k, n) w := rfl
theorem run_sizeOf' {t : TypeId} {n : Nat} (h : sizeB P t n = true) : (sizeOf t).run P w = .ok n w := by
  unfold sizeB at h
  split at h
  · rename_i i hi; simp at h; simp [sizeOf, typeInfo, hi, h]
  · cases h
theorem run_isAgg_one {t : TypeId} (h : oneB P t = true) : (isAgg t).run P w = .ok false w := by
  unfold oneB at h
  split at h
  · cases h
  · cases h
  · rename_i d h1 h2 hd; simp only [isAgg, Sem.run_bind, run_underlying hd, Result.andThen_ok]
    cases d <;> simp_all
  · cases h
theorem run_isAgg_agg {t : TypeId} (h : aggB P t = true) : (isAgg t).run P w = .ok true w := by
  unfold aggB at h
  split at h
  · rename_i hd; simp [isAgg, run_underlying hd]
  · rename_i hd; simp [isAgg, run_underlying hd]
  · cases h

theorem decide_beq (x y : Int) : (x == y) = decide (x = y) := rfl
theorem decide_bne (x y : Int) : (x != y) = !decide (x = y) := rfl

theorem isI_of {k : IntKind} {x : SV} {v : Value} (h : VR S x v) (hk : x.isI k = true) : v = .int k x.int := h.isI hk

theorem run_eq_ptr_nil (d : Nat) {t el : TypeId} (h : P.underlying t = some (.pointer el)) (p : Option Addr) : (Op.equalIn (d + 1) t (.pointer p) (.pointer none)).run P w = .ok p.isNone w := by
  cases p <;> simp [Op.equalIn, run_underlying h]
theorem run_eq_nil_ptr (d : Nat) {t el : TypeId} (h : P.underlying t = some (.pointer el)) (p : Option Addr) : (Op.equalIn (d + 1) t (.pointer none) (.pointer p)).run P w = .ok p.isNone w := by
  simp [Op.equalIn, run_underlying h]

theorem pbin_sound {op : BinOp} {t : TypeId} {ox oy : Operand} {k : BK} {x y : SV} {u v : Value} (hc : chkBin P op t ox oy k = true) (hx : VR S x u) (hy : VR S y v)
    (hn : (k = .pnil true → v = .pointer none) ∧ (k = .pnil false → u = .pointer none))
    (hs : (pbin op k x y).1) :
    ∃ z, (do eqGuard op t ox oy u v; binOp op t u v : Sem Value).run P w = .ok z w ∧ VR S (pbin op k x y).2 z := by
  cases k with
  | i k =>
    cases op <;> simp only [pbin] at hs ⊢ <;> (try exact hs.elim)
    all_goals (
      obtain ⟨h1, h2⟩ := hs
      first | (obtain ⟨h2, h3⟩ := h2; have e1 := hx.isI h1; have e2 := hy.isI h2; subst e1 e2) | (have e1 := hx.isI h1; have e2 := hy.isI h2; subst e1 e2)
      refine ⟨_, ?_, .val _⟩
      first
        | (simp [eqGuard, binOp, Op.intArith]; done)
        | (simp [eqGuard, binOp, Op.intDiv, h3]; done)
        | (simp [eqGuard, binOp, Op.intBits, bitsI]; done)
        | (simp [eqGuard, binOp, Op.intCmp, decide_beq, decide_bne]; done)
        | (simp [eqGuard, binOp, Op.intCmp]; rfl))
  | sh k yk =>
    cases op <;> simp only [pbin] at hs ⊢ <;> (try exact hs.elim)
    all_goals (
      obtain ⟨h1, h2, h3⟩ := hs
      have e1 := hx.isI h1; have e2 := hy.isI h2; subst e1 e2
      refine ⟨_, ?_, .val _⟩
      have h4 : ¬ y.int < 0 := by omega
      simp [eqGuard, binOp, Op.shift, h4])
  | s =>
    cases op <;> simp only [pbin] at hs ⊢ <;> (try exact hs.elim)
    all_goals (
      obtain ⟨h1, h2⟩ := hs
      first | (obtain ⟨h2, h3⟩ := h2; have e1 := hx.isS h1; have e2 := hy.isS h2; subst e1 e2) | (have e1 := hx.isS h1; have e2 := hy.isS h2; subst e1 e2)
      refine ⟨_, ?_, .val _⟩)
    case add => simp [eqGuard, binOp, Op.stringOp, IntKind.max, IntKind.signed, IntKind.bits]; omega
    all_goals (simp [eqGuard, binOp, Op.stringOp, ByteArray.toList_eq, Bool.beq_eq_decide_eq])
  | b =>
    simp only [chkBin, Bool.and_eq_true] at hc
    have hb : P.underlying t = some .bool := by
      have := hc.1; unfold boolTB at this; split at this
      · assumption
      · cases this
    cases op <;> simp only [pbin] at hs ⊢ <;> (try exact hs.elim)
    all_goals (
      obtain ⟨h1, h2⟩ := hs
      have e1 := hx.isB h1; have e2 := hy.isB h2; subst e1 e2
      refine ⟨_, ?_, .val _⟩
      simp [eqGuard, binOp, run_equal_bool w _ _ _ hb, bne])
  | pnil right =>
    simp only [chkBin, Bool.and_eq_true] at hc
    obtain ⟨⟨hp, hop⟩, _⟩ := hc
    obtain ⟨el, hel⟩ : ∃ el, P.underlying t = some (.pointer el) := by
      unfold ptrTB at hp; split at hp
      · exact ⟨_, by assumption⟩
      · cases hp
    have key : ∀ (p : Option Addr), (Op.equal t (.pointer p) (.pointer none)).run P w = .ok p.isNone w ∧ (Op.equal t (.pointer none) (.pointer p)).run P w = .ok p.isNone w :=
      fun p => ⟨run_eq_ptr_nil 9999 hel p, run_eq_nil_ptr 9999 hel p⟩
    have main : ∀ (z : SV) (zv : Value), VR S z zv → (∃ s k, z.ug = .ptr s k) ∨ z.ug = .val (.pointer none) → z.vd = true →
        ∃ p : Option Addr, zv = .pointer p ∧ ((∃ s k, z.ug = .ptr s k) → p.isNone = false) ∧ (z.ug = .val (.pointer none) → p.isNone = true) := by
      intro z zv hz hsh hvd
      have h1 := hz.ug hvd
      rcases hsh with ⟨s, k, hsk⟩ | hsk
      · rw [hsk] at h1 ⊢
        cases h1 <;> exact ⟨_, rfl, (fun _ => rfl), (fun h => by cases h)⟩
      · rw [hsk] at h1 ⊢
        cases h1; exact ⟨none, rfl, (fun h => by obtain ⟨_, _, h⟩ := h; cases h), (fun _ => rfl)⟩
    simp only [pbin] at hs ⊢
    cases right with
    | true =>
      obtain rfl := hn.1 rfl
      simp only [if_true] at hs ⊢
      split at hs
      all_goals first
        | exact hs.elim
        | (rename_i hz
           obtain ⟨p, rfl, hp1, hp2⟩ := main x u hx (by first | exact .inl ⟨_, _, hz⟩ | exact .inr hz) hs
           simp only [hz]
           refine ⟨_, ?_, .val _⟩
           first
             | (have hp3 : p.isNone = false := hp1 ⟨_, _, hz⟩; simp [eqGuard, binOp, (key p).1, hp3]; done)
             | (have hp3 : p.isNone = true := hp2 hz; simp [eqGuard, binOp, (key p).1, hp3]))
    | false =>
      obtain rfl := hn.2 rfl
      simp only [Bool.false_eq_true, if_false] at hs ⊢
      split at hs
      all_goals first
        | exact hs.elim
        | (rename_i hz
           obtain ⟨p, rfl, hp1, hp2⟩ := main y v hy (by first | exact .inl ⟨_, _, hz⟩ | exact .inr hz) hs
           simp only [hz]
           refine ⟨_, ?_, .val _⟩
           first
             | (have hp3 : p.isNone = false := hp1 ⟨_, _, hz⟩; simp [eqGuard, binOp, (key p).2, hp3]; done)
             | (have hp3 : p.isNone = true := hp2 hz; simp [eqGuard, binOp, (key p).2, hp3]))

end
end Go.Ab
