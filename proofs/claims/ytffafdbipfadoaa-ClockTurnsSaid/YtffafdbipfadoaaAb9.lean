/-
  All the instructions without an effect.
-/
import Derived.Test.YtffafdbipfadoaaAb8
set_option linter.all false
namespace Go.Ab

section
variable {P : Program} {S : St} {e : Env} {a : Act}

theorem VR.fn_of {f : Fn} {x y : List SV} {us vs : List Value} (h : VRs S x us) (h' : VRs S y vs) : VR S (.fn f x y) (.func f us.toArray vs.toArray) := .fn f x y us vs h.1 h.2 h'.1 h'.2

theorem VR.slen_spec {x : SV} {v : Value} (hx : VR S x v) (hs : x.isSl = true) : ∃ ad cap, v = .slice ad x.slen cap := by
  cases hx with
  | slc => exact ⟨_, _, rfl⟩
  | nilslc => exact ⟨_, _, rfl⟩
  | own => exact ⟨_, _, rfl⟩
  | val v =>
    have : v = .slice none 0 0 := by cases v <;> simp [SV.isSl] at hs; rename_i a b c; revert hs; cases a <;> cases b <;> cases c <;> simp [SV.isSl]
    subst this; exact ⟨_, _, rfl⟩
  | _ => simp [SV.isSl] at hs

theorem map_list (f : Operand → Value) (as : Array Operand) : as.map f = (as.toList.map f).toArray := by cases as; simp
theorem VR.fn_inv {f : Fn} {x y : List SV} {v : Value} (h : VR S (.fn f x y) v) : ∃ us vs, v = .func f us.toArray vs.toArray ∧ VRs S x us ∧ VRs S y vs := by
  cases h with
  | fn f x y us vs hl h hl' h' => exact ⟨us, vs, rfl, ⟨hl, h⟩, ⟨hl', h'⟩⟩

theorem pure_sound (hS : Sim S) (he : EnvR S e a.tmps) {o : Oper} {i : I} (hc : chkI P o.op i = true) (hs : (pv i e.ev S.H).1) :
    ∃ v, (execOp a.eval o).run P S.w = .ok (.value v) S.w ∧ VR S (pv i e.ev S.H).2 v := by
  generalize hop : o.op = op at hc
  have fin : ∀ (m : Sem Value) (s : SV), (∃ v, m.run P S.w = .ok v S.w ∧ VR S s v) →
      ∃ v, (do pure (Next.value (← m)) : Sem Next).run P S.w = .ok (.value v) S.w ∧ VR S s v := by
    rintro m s ⟨v, h1, h2⟩; exact ⟨v, by simp [h1], h2⟩
  cases i with
  | eqf neg ks x' y' =>
    simp only [chkI] at hc
    split at hc
    · rename_i op2 t x y yt
      rw [Bool.and_eq_true, Bool.and_eq_true, Bool.and_eq_true] at hc
      obtain ⟨⟨⟨h1, h2⟩, h3⟩, h4⟩ := hc
      simp only [pv] at hs ⊢
      simp only [execOp, hop]
      split at hs
      · rename_i l m hl hm
        simp only [hl, hm]
        obtain ⟨g1, g2, g3⟩ := hs
        have k1 := (chkOd_spec h1 he).ug g1
        have k2 := (chkOd_spec h2 he).ug g2
        rw [hl] at k1; rw [hm] at k2
        obtain ⟨us, hu, hus⟩ := k1.agg_inv
        obtain ⟨vs, hv, hvs⟩ := k2.agg_inv
        unfold flatT at h3
        rw [Bool.and_eq_true, Bool.and_eq_true, Bool.not_eq_true', Bool.not_eq_true'] at h3
        obtain ⟨⟨q1, q2⟩, q3⟩ := h3
        split at q3
        · rename_i fs hst
          have hfo : P.fieldsOf t = fs := by simp [Program.fieldsOf, hst]
          have hrun := run_equalIn_struct (P := P) S.w 9999 t us.toArray vs.toArray (by rw [hfo]; exact hst) q1
          rw [hfo, eqFields_sound (S := S) 9998 S.w fs.toList ks 0 l m us vs q3 hus hvs (by simp) (by simp) g3] at hrun
          have heq : (Op.equal t (.agg us.toArray) (.agg vs.toArray)).run P S.w = .ok (eqAll ks l m) S.w := hrun
          refine fin _ _ ⟨_, ?_, .val _⟩
          rw [hu, hv]
          cases neg with
          | true =>
            simp at h4; subst h4
            simp [eqGuard, q2, binOp, heq]
          | false =>
            simp at h4; subst h4
            simp [eqGuard, q2, binOp, heq]
        · cases q3
      · exact hs.elim
    · cases hc
  | mov y =>
    simp only [chkI] at hc
    split at hc
    · exact ⟨_, by simp only [execOp, hop]; rfl, chkOd_spec hc he⟩
    · exact ⟨_, by simp only [execOp, hop]; rfl, chkOd_spec hc he⟩
    · cases hc
  | pick c' a' b' =>
    simp only [chkI] at hc
    split at hc
    · rename_i c x y
      simp only [Bool.and_eq_true] at hc
      obtain ⟨⟨h1, h2⟩, h3⟩ := hc
      simp only [pv] at hs ⊢
      obtain ⟨g1, g2, g3⟩ := hs
      have e1 := (chkOd_spec h1 he).isB g1
      have e2 := chkOd_spec h2 he
      have e3 := chkOd_spec h3 he
      simp only [execOp, hop]
      cases hb : (e.ev c').bool with
      | true =>
        have e4 := e2.isB (g2 hb)
        refine ⟨.bool (e.ev a').bool, ?_, .val _⟩
        simp [asBool, e1, hb, e4]
      | false =>
        have e4 := e3.isB (g3 hb)
        refine ⟨.bool (e.ev b').bool, ?_, .val _⟩
        simp [asBool, e1, hb, e4]
    · cases hc
  | bin op' k x' y' =>
    simp only [chkI] at hc
    split at hc
    · rename_i op2 t x y yt
      simp only [Bool.and_eq_true, beq_iff_eq] at hc
      obtain ⟨⟨⟨h1, h2⟩, h3⟩, h4⟩ := hc
      subst h1
      simp only [pv] at hs ⊢
      simp only [execOp, hop]
      refine fin _ _ (pbin_sound h4 (chkOd_spec h2 he) (chkOd_spec h3 he) ⟨?_, ?_⟩ hs)
      · rintro rfl
        simp only [chkBin, Bool.and_eq_true, if_true] at h4
        have := h4.2
        split at this
        · rfl
        · cases this
      · rintro rfl
        simp only [chkBin, Bool.and_eq_true, Bool.false_eq_true, if_false] at h4
        have := h4.2
        split at this
        · rfl
        · cases this
    · cases hc
  | neg k x' =>
    simp only [chkI] at hc
    split at hc
    · have h1 := (chkOd_spec hc he).isI hs
      refine ⟨_, ?_, .val _⟩
      simp [execOp, hop, h1, Op.unary, Op.intArith]
    · cases hc
  | not x' =>
    simp only [chkI] at hc
    split at hc
    · have h1 := (chkOd_spec hc he).isB hs
      refine ⟨_, ?_, .val _⟩
      simp [execOp, hop, h1, Op.unary]
    · cases hc
  | cvi k x' =>
    simp only [chkI] at hc
    split at hc
    · rename_i s d x
      simp only [Bool.and_eq_true] at hc
      obtain ⟨⟨h1, h2⟩, h3⟩ := hc
      obtain ⟨ds, hds⟩ := Option.isSome_iff_exists.1 h2
      obtain ⟨k', hk⟩ := (chkOd_spec h1 he).isN hs
      split at h3
      · rename_i k2 hd
        simp at h3; subst h3
        refine ⟨_, ?_, .val _⟩
        simp [execOp, hop, hk, convert, run_underlying hds, run_underlying hd, Conv.intToInt]
      · cases h3
    · cases hc
  | ld1 p =>
    simp only [chkI] at hc
    split at hc
    · simp only [Bool.and_eq_true] at hc
      simp only [pv] at hs ⊢
      simp only [execOp, hop]
      exact fin _ _ (run_ld1 hS ((chkOd_spec hc.1 he).ug hs.1) hc.2 hs.2)
    · cases hc
  | ldn n p =>
    simp only [chkI] at hc
    split at hc
    · simp only [Bool.and_eq_true] at hc
      simp only [pv] at hs ⊢
      simp only [execOp, hop]
      exact fin _ _ (run_ldn hS ((chkOd_spec hc.1.1 he).ug hs.1) hc.1.2 hc.2 hs.2.1 hs.2.2)
    · cases hc
  | fa off p =>
    simp only [chkI] at hc
    split at hc
    · rename_i s x f
      rw [Bool.and_eq_true] at hc
      simp only [pv] at hs ⊢
      simp only [execOp, hop]
      split at hs
      · rename_i s' k hp
        simp only [hp]
        have h1 := (chkOd_spec hc.1 he).ug hs
        rw [hp] at h1
        obtain ⟨ad, h2, h3⟩ := ptr_add (off := off) h1
        refine fin _ _ ⟨_, ?_, h3⟩
        rw [h2]
        exact run_fieldAt hc.2 _
      · exact hs.elim
    · cases hc
  | fld1 off x' =>
    simp only [chkI] at hc
    split at hc
    · simp only [Bool.and_eq_true] at hc
      simp only [pv] at hs ⊢
      simp only [execOp, hop]
      split at hs
      · rename_i l hl
        simp only [hl]
        exact fin _ _ ((run_field (chkOd_spec hc.1.1 he) hs.1 hl hc.1.2 hc.2 S.w).1 rfl hs.2)
      · exact hs.elim
    · cases hc
  | fldn off n x' =>
    simp only [chkI] at hc
    split at hc
    · simp only [Bool.and_eq_true] at hc
      simp only [pv] at hs ⊢
      simp only [execOp, hop]
      split at hs
      · rename_i l hl
        simp only [hl]
        exact fin _ _ ((run_field (chkOd_spec hc.1.1 he) hs.1 hl hc.1.2 hc.2 S.w).2 rfl)
      · exact hs.elim
    · cases hc
  | ia sz s j =>
    simp only [chkI] at hc
    split at hc
    · simp only [Bool.and_eq_true] at hc
      simp only [pv] at hs ⊢
      simp only [execOp, hop]
      obtain ⟨g1, g2, g3, g4, g5⟩ := hs
      obtain ⟨k, hk⟩ := (chkOd_spec hc.1.2 he).isN g3
      rw [hk]
      exact fin _ _ (run_indexAt ((chkOd_spec hc.1.1 he).ug g1) g2 hc.2 g4 g5)
    · cases hc
  | iap len sz p j =>
    simp only [chkI] at hc
    split at hc
    · rename_i t x ix
      rw [Bool.and_eq_true, Bool.and_eq_true] at hc
      obtain ⟨⟨h1, h2⟩, h3⟩ := hc
      simp only [pv] at hs ⊢
      simp only [execOp, hop]
      split at h3
      · rename_i n el hu
        simp only [Bool.and_eq_true, beq_iff_eq] at h3
        split at hs
        · rename_i s' k hp
          simp only [hp]
          obtain ⟨g1, g2, g3, g4⟩ := hs
          have h4 := (chkOd_spec h1 he).ug g1
          rw [hp] at h4
          obtain ⟨ad, h5, h6⟩ := ptr_add (off := (e.ev j).int.toNat * sz) h4
          obtain ⟨kk, hk⟩ := (chkOd_spec h2 he).isN g2
          refine fin _ _ ⟨_, ?_, h6⟩
          rw [h5, hk]
          exact run_iap hu h3.2 ad g3 (by rw [h3.1]; exact g4) S.w
        · exact hs.elim
      · cases h3
    · cases hc
  | ixs s j =>
    simp only [chkI] at hc
    split at hc
    · rename_i t x ix
      rw [Bool.and_eq_true, Bool.and_eq_true] at hc
      obtain ⟨⟨h1, h2⟩, h3⟩ := hc
      simp only [pv] at hs ⊢
      simp only [execOp, hop]
      split at h3
      · rename_i hu
        obtain ⟨g1, g2, g3, g4⟩ := hs
        obtain ⟨kk, hk⟩ := (chkOd_spec h2 he).isN g2
        have h4 := (chkOd_spec h1 he).isS g1
        refine fin _ _ ⟨_, ?_, .val _⟩
        rw [h4, hk]
        exact run_ixs hu _ g3 g4 S.w
      · cases h3
    · cases hc
  | ixa len sz one s j =>
    simp only [chkI] at hc
    split at hc
    · rename_i t x ix
      rw [Bool.and_eq_true, Bool.and_eq_true] at hc
      obtain ⟨⟨h1, h2⟩, h3⟩ := hc
      simp only [pv] at hs ⊢
      simp only [execOp, hop]
      split at h3
      · rename_i n el hu
        rw [Bool.and_eq_true, Bool.and_eq_true, beq_iff_eq] at h3
        split at hs
        · rename_i l hl
          simp only [hl]
          obtain ⟨g1, g2, g3, g4, g5, g6⟩ := hs
          have h4 := (chkOd_spec h1 he).ug g1
          rw [hl] at h4
          obtain ⟨us, h5, h6⟩ := h4.agg_inv
          obtain ⟨kk, hk⟩ := (chkOd_spec h2 he).isN g2
          rw [h5, hk]
          exact fin _ _ (run_ixa hu h3.1.2 h3.2 h6 (by rw [h3.1.1]; exact g5) g6 g3 (by rw [h3.1.1]; exact g4))
        · exact hs.elim
      · cases h3
    · cases hc
  | sl sz x' lo' hi' =>
    simp only [chkI] at hc
    split at hc
    · simp only [Bool.and_eq_true] at hc
      obtain ⟨⟨⟨h1, h2⟩, h3⟩, h4⟩ := hc
      simp only [pv] at hs ⊢
      simp only [execOp, hop]
      obtain ⟨g1, g2, g3, g4, g5, g6, g7⟩ := hs
      obtain ⟨el, hu, hsz⟩ := slB_spec h4
      exact fin _ _ (run_sl hu hsz ((chkOd_spec h1 he).ug g1) g2 h2 h3 he g4 g5 g6 g7 g3)
    · cases hc
  | sls x' lo' hi' =>
    simp only [chkI] at hc
    split at hc
    · rename_i t x lo hi
      rw [Bool.and_eq_true, Bool.and_eq_true, Bool.and_eq_true] at hc
      obtain ⟨⟨⟨h1, h2⟩, h3⟩, h4⟩ := hc
      simp only [pv] at hs ⊢
      simp only [execOp, hop]
      obtain ⟨g1, g4, g5, g6, g7⟩ := hs
      split at h4
      · rename_i hu
        have h5 := (chkOd_spec h1 he).isS g1
        refine fin _ _ ⟨_, ?_, .val _⟩
        rw [h5]
        simp only [Instr.sliceAt, Instr.slice, Sem.run_bind, run_underlying hu, Result.andThen_ok]
        rw [if_neg (by simp)]
        simp only [Option.map_none, Sem.run_bind, run_bounds (P := P) (isS := false) h2 h3 he g4 g5 g6 g7 (Nat.le_refl _) S.w, Result.andThen_ok, Sem.run_pure]
      · cases h4
    · cases hc
  | ext x' j =>
    simp only [chkI] at hc
    split at hc
    · simp only [Bool.and_eq_true, beq_iff_eq] at hc
      obtain ⟨h1, rfl⟩ := hc
      simp only [pv] at hs ⊢
      simp only [execOp, hop]
      split at hs
      · rename_i l hl
        simp only [hl]
        have h4 := (chkOd_spec h1 he).ug hs.1
        rw [hl] at h4
        obtain ⟨us, h5, h6⟩ := h4.tup_inv
        obtain ⟨u, h7, h8⟩ := h6.getD hs.2
        refine fin _ _ ⟨u, ?_, h8⟩
        simp [h5, Instr.extract, h7]
      · exact hs.elim
    · cases hc
  | len x' =>
    simp only [chkI] at hc
    split at hc
    · rename_i as ts
      split at hc
      · rename_i x t ha ht
        rw [Bool.and_eq_true] at hc
        obtain ⟨h1, h2⟩ := hc
        split at h2
        · rename_i el hu
          simp only [pv] at hs ⊢
          obtain ⟨ad, cap, hv⟩ := ((chkOd_spec h1 he).ug hs.1).slen_spec hs.2
          refine ⟨_, ?_, .val _⟩
          have ha' : as = #[x] := by rw [← ha]
          have ht' : ts = #[t] := by rw [← ht]
          subst ha' ht'
          simp [execOp, hop, resolve, invoke, builtin, Builtin.len_, run_underlying hu, hv, goInt]
        · cases h2
      · cases hc
    · cases hc
  | lens x' =>
    simp only [chkI] at hc
    split at hc
    · rename_i as ts
      split at hc
      · rename_i x t ha ht
        rw [Bool.and_eq_true] at hc
        obtain ⟨h1, h2⟩ := hc
        split at h2
        · rename_i hu
          have h5 := (chkOd_spec h1 he).isS hs
          refine ⟨_, ?_, .val _⟩
          have ha' : as = #[x] := by rw [← ha]
          have ht' : ts = #[t] := by rw [← ht]
          subst ha' ht'
          simp [execOp, hop, resolve, invoke, builtin, Builtin.len_, run_underlying hu, h5, goInt]
        · cases h2
      · cases hc
    · cases hc
  | mm mx k x' y' =>
    simp only [chkI] at hc
    split at hc
    · rename_i b as ts
      split at hc
      · rename_i x y ha
        rw [Bool.and_eq_true, Bool.and_eq_true] at hc
        obtain ⟨⟨h1, h2⟩, h3⟩ := hc
        simp only [pv] at hs ⊢
        have h5 := (chkOd_spec h1 he).isI hs.1
        have h6 := (chkOd_spec h2 he).isI hs.2
        have ha' : as = #[x, y] := by rw [← ha]
        subst ha'
        refine ⟨_, ?_, .val _⟩
        cases mx with
        | true =>
          cases b <;> simp at h3
          simp [execOp, hop, resolve, invoke, builtin, Builtin.max_, Builtin.max2, h5, h6]
          omega
        | false =>
          cases b <;> simp at h3
          simp [execOp, hop, resolve, invoke, builtin, Builtin.min_, Builtin.min2, h5, h6]
          omega
      · cases hc
    · cases hc
  | mkf f first cap =>
    simp only [chkI] at hc
    split at hc
    · rename_i f' x y
      rw [Bool.and_eq_true, Bool.and_eq_true] at hc
      obtain ⟨⟨h1, h2⟩, h3⟩ := hc
      split at h1
      · simp at h1; subst h1
        simp only [pv] at hs ⊢
        simp only [execOp, hop]
        refine fin _ _ ⟨_, ?_, VR.fn_of (chkOds_spec h2 he) (chkOds_spec h3 he)⟩
        rw [map_list, map_list]; rfl
      · cases h1
    · cases hc
  | mki t x' =>
    simp only [chkI] at hc
    split at hc
    · rename_i t' x
      rw [Bool.and_eq_true, Bool.and_eq_true, beq_iff_eq] at hc
      obtain ⟨⟨rfl, h2⟩, h3⟩ := hc
      simp only [pv] at hs ⊢
      simp only [execOp, hop]
      refine fin _ _ ⟨_, run_makeInterface S.w _ _ ?_, .ifc _ _ _ (chkOd_spec h2 he)⟩
      unfold Program.concrete
      cases hu : P.underlying t' with
      | none => rw [hu] at h3; cases h3
      | some d => rw [hu] at h3; cases d <;> simp_all
    · cases hc
  | nck x' =>
    simp only [chkI] at hc
    split at hc
    · simp only [pv] at hs ⊢
      split at hs
      · rename_i s k hp
        simp only [hp]
        have h1 := (chkOd_spec hc he).ug hs
        rw [hp] at h1
        obtain ⟨ad, h2, _⟩ := ptr_add (off := 0) h1
        refine ⟨_, ?_, h1⟩
        simp [execOp, hop, h2]
      · rename_i f x y hp
        simp only [hp]
        have h1 := (chkOd_spec hc he).ug hs
        rw [hp] at h1
        obtain ⟨us, vs, hv, h2, h3⟩ := h1.fn_inv
        exact ⟨.func (.func f) us.toArray vs.toArray, by simp [execOp, hop, hv], VR.fn_of h2 h3⟩
      · exact hs.elim
    · cases hc
  | bld z parts =>
    simp only [chkI] at hc
    split at hc
    · rename_i t ps
      simp only [Bool.and_eq_true] at hc
      simp only [pv] at hs ⊢
      simp only [execOp, hop]
      have := run_bld (ps := ps.toList) hc.1.1 hc.1.2 hc.2 he hs
      refine fin _ _ ?_
      have e1 : (ps.map fun x => (x.1, a.eval x.2)) = (ps.toList.map fun p => (p.1, a.eval p.2)).toArray := by cases ps; simp
      obtain ⟨u, h1, h2⟩ := this
      refine ⟨u, ?_, h2⟩
      rw [← h1, ← e1]
    · cases hc

end
end Go.Ab
