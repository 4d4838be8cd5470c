/-
  Steps of the proof: contracts of functions and plain facts that the statement rests on.
-/
import Derived.Test.YthmdmnfojbnobaaGreatDoorPart3
set_option linter.all false
namespace Go.Proofs.YthmdmnfojbnobaaGreatDoor
open Go Go.Ab
noncomputable def fieldT (t : TypeId) : Option (List TypeId) := match Tryz.prog.underlying t with
 | some (.struct fs) => some (fs.toList.map (·.type))
 | _ => none
theorem f25 : fieldT 25 = some [9, 3, 22, 23] := by kernel_rfl
theorem f77 : fieldT 77 = some [9, 3, 3] := by kernel_rfl
theorem f45 : fieldT 45 = some [3, 9, 9, 3, 3, 42, 4, 38, 42, 43, 42, 3] := by kernel_rfl
theorem f53 : fieldT 53 = some [3, 3, 9, 42, 3] := by kernel_rfl
theorem f51 : fieldT 51 = some [9, 42, 4, 49, 9, 3] := by kernel_rfl
theorem f55 : fieldT 55 = some [9, 53, 3] := by kernel_rfl
theorem u3 : Tryz.prog.underlying 3 = some (.int .i64) := by kernel_rfl
theorem u4 : Tryz.prog.underlying 4 = some .bool := by kernel_rfl
theorem u9 : Tryz.prog.underlying 9 = some .string := by kernel_rfl
theorem u22 : Tryz.prog.underlying 22 = some (.slice 77) := by kernel_rfl
theorem u23 : Tryz.prog.underlying 23 = some (.slice 45) := by kernel_rfl
theorem u38 : Tryz.prog.underlying 38 = some (.slice 3) := by kernel_rfl
theorem u42 : Tryz.prog.underlying 42 = some (.slice 53) := by kernel_rfl
theorem u43 : Tryz.prog.underlying 43 = some (.slice 51) := by kernel_rfl
theorem u49 : Tryz.prog.underlying 49 = some (.slice 55) := by kernel_rfl
theorem int_of {d : Dt} (h : d.ty Tryz.prog 3) : ∃ n, d = .int .i64 n := by
 cases d with
 | int k n => have := h.1; rw [u3] at this; cases this; exact ⟨n, rfl⟩
 | bool b => have h : Tryz.prog.underlying 3 = _ := h; rw [u3] at h; cases h
 | str s => have h := h.1; rw [u3] at h; cases h
 | sl l => obtain ⟨e, h, _⟩ := h; rw [u3] at h; cases h
 | agg l => obtain ⟨e, h, _⟩ := h; rw [u3] at h; cases h
theorem bool_of {d : Dt} (h : d.ty Tryz.prog 4) : ∃ n, d = .bool n := by
 cases d with
 | int k n => have h := h.1; rw [u4] at h; cases h
 | bool b => exact ⟨b, rfl⟩
 | str s => have h := h.1; rw [u4] at h; cases h
 | sl l => obtain ⟨e, h, _⟩ := h; rw [u4] at h; cases h
 | agg l => obtain ⟨e, h, _⟩ := h; rw [u4] at h; cases h
theorem str_of {d : Dt} (h : d.ty Tryz.prog 9) : ∃ s, d = .str s ∧ s.size ≤ reachBytes := by
 cases d with
 | int k n => have := h.1; rw [u9] at this; cases this
 | bool b => have h : Tryz.prog.underlying 9 = _ := h; rw [u9] at h; cases h
 | str s => exact ⟨s, rfl, h.2⟩
 | sl l => obtain ⟨e, h, _⟩ := h; rw [u9] at h; cases h
 | agg l => obtain ⟨e, h, _⟩ := h; rw [u9] at h; cases h
theorem sl_of {d : Dt} {t e : TypeId} (ht : Tryz.prog.underlying t = some (.slice e)) (h : d.ty Tryz.prog t) : ∃ l, d = .sl l ∧ l.length ≤ reachBytes ∧ ∀ x ∈ l, x.ty Tryz.prog e := by
 cases d with
 | int k n => have := h.1; rw [ht] at this; cases this
 | bool b => have h : Tryz.prog.underlying t = _ := h; rw [ht] at h; cases h
 | str s => have h := h.1; rw [ht] at h; cases h
 | sl l => obtain ⟨e', h, h2, h3⟩ := h; rw [ht] at h; cases h; exact ⟨l, rfl, h2, tyA_iff.1 h3⟩
 | agg l => obtain ⟨e, h, _⟩ := h; rw [ht] at h; cases h
theorem st_of {d : Dt} {t : TypeId} {ts : List TypeId} (ht : fieldT t = some ts) (h : d.ty Tryz.prog t) : ∃ l, d = .agg l ∧ Dt.tyL Tryz.prog l ts := by
 unfold fieldT at ht
 cases d with
 | int k n => have := h.1; rw [this] at ht; cases ht
 | bool b => have h : Tryz.prog.underlying t = _ := h; rw [h] at ht; cases ht
 | str s => have h := h.1; rw [h] at ht; cases ht
 | sl l => obtain ⟨e', h, h2, h3⟩ := h; rw [h] at ht; cases ht
 | agg l => obtain ⟨e, h, h2⟩ := h; rw [h] at ht; cases ht; exact ⟨l, rfl, h2⟩
theorem blk_pos (d : Dt) : 1 ≤ d.blk := by cases d <;> simp [Dt.blk]
theorem blk_len : ∀ l : List Dt, l.length ≤ Dt.blkL l
 | [] => by simp [Dt.blkL]
 | d :: r => by have := blk_pos d; have := blk_len r; simp only [Dt.blkL, List.length_cons]; omega
theorem ex_of : ∀ (n : Nat) (d : Dt), SizeOf.sizeOf d < n → d.ty Tryz.prog 53 → ∃ e : Ex, d.cells = e.c ∧ d.sv = e.v ∧ e.lim := by
 intro n
 induction n with
 | zero => intro d h; omega
 | succ n ih =>
   intro d hs h
   obtain ⟨l, rfl, hl⟩ := st_of f53 h
   match l, hl with
   | [d1, d2, d3, d4, d5], hl =>
     obtain ⟨h1, h2, h3, h4, h5, _⟩ := hl
     obtain ⟨op, rfl⟩ := int_of h1
     obtain ⟨m, rfl⟩ := int_of h2
     obtain ⟨s, rfl, hsz⟩ := str_of h3
     obtain ⟨zs, rfl, hlen, has⟩ := sl_of u42 h4
     obtain ⟨p, rfl⟩ := int_of h5
     have key : ∀ zs2 : List Dt, SizeOf.sizeOf zs2 ≤ SizeOf.sizeOf zs → (∀ x ∈ zs2, x.ty Tryz.prog 53) → ∃ es : List Ex, Dt.cellsL zs2 = Ex.cL es ∧ es.length = zs2.length ∧ Ex.limL es := by
       intro zs2
       induction zs2 with
       | nil => intro _ _; exact ⟨[], rfl, rfl, by unfold Ex.limL; trivial⟩
       | cons x r ihr =>
         intro hsz2 hty
         have e1 : SizeOf.sizeOf (x :: r) = 1 + SizeOf.sizeOf x + SizeOf.sizeOf r := rfl
         obtain ⟨es, g1, g2, g3⟩ := ihr (by omega) (fun y hy => hty y (by simp [hy]))
         obtain ⟨e, k1, _, k3⟩ := ih x (by
           simp at hs
           omega) (hty x (by simp))
         exact ⟨e :: es, by simp only [Dt.cellsL, Ex.cL, k1, g1], by simp [g2], by unfold Ex.limL; exact ⟨k3, g3⟩⟩
     obtain ⟨es, g1, g2, g3⟩ := key zs (Nat.le_refl _) has
     refine ⟨.mk op m s.data.toList es p, ?_, ?_, ?_⟩
     · simp only [Dt.cells, Dt.cellsL, g1, g2, Ex.c]
       rw [← B_of s]; rfl
     · simp only [Dt.sv, Dt.cells, Dt.cellsL, g1, g2, Ex.v, Ex.c]
       rw [← B_of s]; rfl
     · unfold Ex.lim
       refine ⟨?_, g3⟩
       rw [g2]; unfold reachBytes at hlen; omega
theorem exs_of {d : Dt} (h : d.ty Tryz.prog 42) : ∃ es : List Ex, d.cells = [exS es] ∧ es.length < d.blk ∧ ∀ e ∈ es, e.lim := by
 obtain ⟨zs, rfl, hlen, has⟩ := sl_of u42 h
 have key : ∀ zs2 : List Dt, (∀ x ∈ zs2, x.ty Tryz.prog 53) → ∃ es : List Ex, Dt.cellsL zs2 = Ex.cL es ∧ es.length = zs2.length ∧ ∀ e ∈ es, e.lim := by
   intro zs2
   induction zs2 with
   | nil => intro _; exact ⟨[], rfl, rfl, fun e he => by cases he⟩
   | cons x r ihr =>
     intro hty
     obtain ⟨es, g1, g2, g3⟩ := ihr (fun y hy => hty y (by simp [hy]))
     obtain ⟨e, k1, _, k3⟩ := ex_of _ x (Nat.lt_succ_self _) (hty x (by simp))
     refine ⟨e :: es, by simp only [Dt.cellsL, Ex.cL, k1, g1], by simp [g2], fun y hy => ?_⟩
     rw [List.mem_cons] at hy
     rcases hy with rfl | hy
     · exact k3
     · exact g3 y hy
 obtain ⟨es, g1, g2, g3⟩ := key zs has
 refine ⟨es, by simp only [Dt.cells, g1, exS, g2], ?_, g3⟩
 have := blk_len zs
 simp only [Dt.blk]; omega
theorem row_of {α : Type} {f : α → List SV} {Q : α → Prop} {t : TypeId} {n : Nat} (hf : ∀ d : Dt, d.ty Tryz.prog t → d.blk ≤ n → ∃ a, d.cells = f a ∧ Q a) :
   ∀ zs : List Dt, (∀ x ∈ zs, x.ty Tryz.prog t) → Dt.blkL zs ≤ n → ∃ l : List α, Dt.cellsL zs = rws f l ∧ l.length = zs.length ∧ ∀ a ∈ l, Q a
 | [], _, _ => ⟨[], rfl, rfl, fun e he => by cases he⟩
 | x :: r, hty, hb => by
   simp only [Dt.blkL] at hb
   obtain ⟨l, g1, g2, g3⟩ := row_of hf r (fun y hy => hty y (by simp [hy])) (by omega)
   obtain ⟨a, k1, k2⟩ := hf x (hty x (by simp)) (by omega)
   refine ⟨a :: l, by simp only [Dt.cellsL, k1, g1]; simp [rws], by simp [g2], fun y hy => ?_⟩
   rw [List.mem_cons] at hy
   rcases hy with rfl | hy
   · exact k2
   · exact g3 y hy
theorem var_of {d : Dt} (h : d.ty Tryz.prog 77) : ∃ v : VarP, d.cells = v.c := by
 obtain ⟨l, rfl, hl⟩ := st_of f77 h
 match l, hl with
 | [d1, d2, d3], hl =>
   obtain ⟨h1, h2, h3, _⟩ := hl
   obtain ⟨s, rfl, _⟩ := str_of h1
   obtain ⟨n, rfl⟩ := int_of h2
   obtain ⟨p, rfl⟩ := int_of h3
   refine ⟨⟨s.data.toList, n, p⟩, ?_⟩
   simp only [Dt.cells, Dt.cellsL, VarP.c]
   rw [← B_of s]; rfl
theorem set_of {d : Dt} (h : d.ty Tryz.prog 55) : ∃ s : SetP, d.cells = s.c ∧ s.e.lim := by
 obtain ⟨l, rfl, hl⟩ := st_of f55 h
 match l, hl with
 | [d1, d2, d3], hl =>
   obtain ⟨h1, h2, h3, _⟩ := hl
   obtain ⟨s, rfl, _⟩ := str_of h1
   obtain ⟨e, g1, _, g3⟩ := ex_of _ d2 (Nat.lt_succ_self _) h2
   obtain ⟨p, rfl⟩ := int_of h3
   refine ⟨⟨s.data.toList, e, p⟩, ?_, g3⟩
   simp only [Dt.cells, Dt.cellsL, SetP.c, g1]
   rw [← B_of s]; rfl
theorem act_of {d : Dt} (h : d.ty Tryz.prog 51) (hb : d.blk ≤ 1048576) : ∃ a : ActP, d.cells = a.c ∧ a.Bd := by
 obtain ⟨l, rfl, hl⟩ := st_of f51 h
 match l, hl with
 | [d1, d2, d3, d4, d5, d6], hl =>
   obtain ⟨h1, h2, h3, h4, h5, h6, _⟩ := hl
   obtain ⟨s, rfl, _⟩ := str_of h1
   obtain ⟨es, g1, g2, g3⟩ := exs_of h2
   obtain ⟨b, rfl⟩ := bool_of h3
   obtain ⟨zs, rfl, hlen, has⟩ := sl_of u49 h4
   obtain ⟨s2, rfl, _⟩ := str_of h5
   obtain ⟨p, rfl⟩ := int_of h6
   simp only [Dt.blk, Dt.blkL] at hb
   obtain ⟨ss, k1, k2, k3⟩ := row_of (f := SetP.c) (Q := fun s => s.e.lim) (n := 1048576) (fun d hd _ => set_of hd) zs has (by omega)
   have hzl := blk_len zs
   refine ⟨⟨s.data.toList, es, b, ss, s2.data.toList, p⟩, ?_, ⟨?_, ?_, ?_⟩⟩
   · simp only [Dt.cells, Dt.cellsL, ActP.c, g1, k1, k2]
     rw [← B_of s, ← B_of s2]; rfl
   · show es.length ≤ 1048576; omega
   · show ss.length ≤ 1048576; omega
   · intro e he
     simp only [actE, List.mem_append, List.mem_map] at he
     rcases he with he | ⟨x, hx, rfl⟩
     · exact g3 e he
     · exact k3 x hx
theorem ints_of : ∀ zs : List Dt, (∀ x ∈ zs, x.ty Tryz.prog 3) → ∃ l : List Int, Dt.cellsL zs = ints l ∧ l.length = zs.length
 | [], _ => ⟨[], rfl, rfl⟩
 | x :: r, hty => by
   obtain ⟨l, g1, g2⟩ := ints_of r (fun y hy => hty y (by simp [hy]))
   obtain ⟨n, rfl⟩ := int_of (hty x (by simp))
   exact ⟨n :: l, by simp only [Dt.cellsL, Dt.cells, g1]; rfl, by simp [g2]⟩
theorem stg_of {d : Dt} (h : d.ty Tryz.prog 45) (hb : d.blk ≤ 1048576) : ∃ x : StageP, d.cells = x.c ∧ x.Bd := by
 obtain ⟨l, rfl, hl⟩ := st_of f45 h
 match l, hl with
 | [d1, d2, d3, d4, d5, d6, d7, d8, d9, d10, d11, d12], hl =>
   obtain ⟨h1, h2, h3, h4, h5, h6, h7, h8, h9, h10, h11, h12, _⟩ := hl
   obtain ⟨k, rfl⟩ := int_of h1
   obtain ⟨s, rfl, _⟩ := str_of h2
   obtain ⟨s2, rfl, _⟩ := str_of h3
   obtain ⟨lo, rfl⟩ := int_of h4
   obtain ⟨hi, rfl⟩ := int_of h5
   obtain ⟨wt, w1, w2, w3⟩ := exs_of h6
   obtain ⟨b, rfl⟩ := bool_of h7
   obtain ⟨ys, rfl, _, hys⟩ := sl_of u38 h8
   obtain ⟨seen, i1, i2⟩ := ints_of ys hys
   obtain ⟨who, o1, o2, o3⟩ := exs_of h9
   obtain ⟨zs, rfl, _, has⟩ := sl_of u43 h10
   obtain ⟨pays, p1, p2, p3⟩ := exs_of h11
   obtain ⟨p, rfl⟩ := int_of h12
   simp only [Dt.blk, Dt.blkL] at hb
   have hzl := blk_len zs
   have hyl := blk_len ys
   obtain ⟨acts, k1, k2, k3⟩ := row_of (f := ActP.c) (Q := ActP.Bd) (n := 1048576) (fun d hd hn => act_of hd hn) zs has (by omega)
   refine ⟨⟨k, s.data.toList, s2.data.toList, lo, hi, wt, b, seen, who, acts, pays, p⟩, ?_, ⟨?_, ?_, ?_, ?_, ?_, ?_, k3⟩⟩
   · simp only [Dt.cells, Dt.cellsL, StageP.c, w1, o1, p1, k1, k2, i1, i2]
     rw [← B_of s, ← B_of s2]; rfl
   · show wt.length ≤ 1048576; omega
   · show who.length ≤ 1048576; omega
   · show pays.length ≤ 1048576; omega
   · show seen.length ≤ 1048576; omega
   · show acts.length ≤ 1048576; omega
   · intro e he
     simp only [List.mem_append] at he
     rcases he with (he | he) | he
     · exact w3 e he
     · exact o3 e he
     · exact p3 e he
theorem rules_of {d : Dt} (h : d.ty Tryz.prog 25) (hb : d.blk ≤ 1048576) : ∃ r : RulesP, d.sv = rulesV r ∧ r.Bd := by
 obtain ⟨l, rfl, hl⟩ := st_of f25 h
 match l, hl with
 | [d1, d2, d3, d4], hl =>
   obtain ⟨h1, h2, h3, h4, _⟩ := hl
   obtain ⟨s, rfl, _⟩ := str_of h1
   obtain ⟨n, rfl⟩ := int_of h2
   obtain ⟨zs, rfl, _, hz⟩ := sl_of u22 h3
   obtain ⟨ys, rfl, _, hy⟩ := sl_of u23 h4
   simp only [Dt.blk, Dt.blkL] at hb
   have hzl := blk_len zs
   have hyl := blk_len ys
   obtain ⟨vs, v1, v2, _⟩ := row_of (f := VarP.c) (Q := fun _ => True) (n := 1048576) (fun d hd _ => by obtain ⟨v, hv⟩ := var_of hd; exact ⟨v, hv, trivial⟩) zs hz (by omega)
   obtain ⟨ss, s1, s2, s3⟩ := row_of (f := StageP.c) (Q := StageP.Bd) (n := 1048576) (fun d hd hn => stg_of hd hn) ys hy (by omega)
   refine ⟨⟨s.data.toList, n, vs, ss⟩, ?_, ⟨?_, ?_, s3⟩⟩
   · simp only [Dt.sv, Dt.cells, Dt.cellsL, rulesV, RulesP.c, v1, v2, s1, s2]
     rw [← B_of s]; rfl
   · show vs.length ≤ 1048576; omega
   · show ss.length ≤ 1048576; omega
theorem law3 : ∀ dts, Dt.tyL Tryz.prog dts [25, 3, 3] → Dt.blkL dts ≤ 1048576 → Ok Tryz.prog 3 (dts.map Dt.sv) [] (.ret (bl true)) [] := by
 intro dts h hb
 match dts, h with
 | [d1, d2, d3], h =>
   obtain ⟨h1, h2, h3, _⟩ := h
   simp only [Dt.blkL] at hb
   obtain ⟨r, k1, k2⟩ := rules_of h1 (by omega)
   obtain ⟨i, rfl⟩ := int_of h2
   obtain ⟨a, rfl⟩ := int_of h3
   simp only [List.map_cons, List.map_nil, k1]
   exact ok3 k2 i a
mutual
theorem bulkD {H : Type} : ∀ d : DataW H, Rows.uptoBulk d = blkD d
 | .lit (.string b) => by simp only [Rows.uptoBulk, blkD]
 | .lit (.bool b) => by simp only [Rows.uptoBulk, blkD]
 | .lit (.int k b) => by simp only [Rows.uptoBulk, blkD]
 | .lit (.float k b) => by simp only [Rows.uptoBulk, blkD]
 | .lit .nil => by simp only [Rows.uptoBulk, blkD]
 | .nil => by simp only [Rows.uptoBulk, blkD]
 | .ptr d => by simp only [Rows.uptoBulk, blkD, bulkD d]
 | .slice a b => by simp only [Rows.uptoBulk, blkD, bulkA a, bulkA b]
 | .agg a => by simp only [Rows.uptoBulk, blkD, bulkA a]
 | .iface _ d => by simp only [Rows.uptoBulk, blkD, bulkD d]
 | .map e => by simp only [Rows.uptoBulk, blkD, bulkE e]
 | .held _ => by simp only [Rows.uptoBulk, blkD]
theorem bulkA {H : Type} : ∀ l : List (DataW H), Rows.uptoBulkAll l = blkA l
 | [] => by simp only [Rows.uptoBulkAll, blkA]
 | d :: r => by simp only [Rows.uptoBulkAll, blkA, bulkD d, bulkA r]
theorem bulkE {H : Type} : ∀ l : List (Lit × DataW H), Rows.uptoBulkEntries l = blkE l
 | [] => by simp only [Rows.uptoBulkEntries, blkE]
 | x :: r => by simp only [Rows.uptoBulkEntries, blkE, bulkX x, bulkE r]
theorem bulkX {H : Type} : ∀ x : Lit × DataW H, Rows.uptoBulkEntry x = blkX x
 | (.string b, d) => by simp only [Rows.uptoBulkEntry, blkX, bulkD d]
 | (.bool b, d) => by simp only [Rows.uptoBulkEntry, blkX, bulkD d]
 | (.int k b, d) => by simp only [Rows.uptoBulkEntry, blkX, bulkD d]
 | (.float k b, d) => by simp only [Rows.uptoBulkEntry, blkX, bulkD d]
 | (.nil, d) => by simp only [Rows.uptoBulkEntry, blkX, bulkD d]
end
end Go.Proofs.YthmdmnfojbnobaaGreatDoor

