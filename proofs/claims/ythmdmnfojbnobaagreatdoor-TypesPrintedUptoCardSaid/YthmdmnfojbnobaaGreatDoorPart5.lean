/-
  Steps of the proof: contracts of functions and plain facts that the statement rests on.
-/
import Derived.Test.YthmdmnfojbnobaaGreatDoorPart4
import Derived.Test.YthmdmnfojbnobaaGreatDoorPart3
set_option linter.all false
namespace Go.Proofs.YthmdmnfojbnobaaGreatDoor
open Go.Ab
mutual
def Ex.cnt : Ex -> Nat
 | .mk _ _ _ l _ => 1 + Ex.cntL l
def Ex.cntL : List Ex -> Nat
 | [] => 0
 | e :: r => e.cnt + Ex.cntL r
end
mutual
theorem cntE : ∀ (e : Ex) (m : Int), m ≤ 1000 -> sizE e m ≤ m -> (e.cnt : Int) ≤ sizE e m
 | .mk op n nm l p, m, h1, h2 => by
  unfold sizE at h2 ⊢
  unfold Ex.cnt
  have := cntLs l m 1 (by omega) h1 h2
  omega
theorem cntLs : ∀ (l : List Ex) (m n : Int), 1 ≤ n -> m ≤ 1000 -> sizL l m n ≤ m -> (Ex.cntL l : Int) + n ≤ sizL l m n
 | [], m, n, _, _, h => by
  unfold sizL at h ⊢; unfold Ex.cntL; simp
 | e :: r, m, n, h0, h1, h => by
  unfold sizL at h ⊢
  by_cases hn : n ≤ m
  · rw [if_pos hn] at h ⊢
    have b1 := sizE_bd e (m - n)
    have b2 := sizL_bd r m (n + sizE e (m - n))
    have a2 := cntE e (m - n) (by omega) (by omega)
    have c3 := cntLs r m (n + sizE e (m - n)) (by omega) h1 h
    unfold Ex.cntL
    omega
  · rw [if_neg hn] at h; omega
end
theorem cntL_mem : ∀ {l : List Ex} {e : Ex}, e ∈ l -> e.cnt ≤ Ex.cntL l
 | x :: r, e, h => by
  rw [List.mem_cons] at h
  unfold Ex.cntL
  rcases h with rfl | h
  · omega
  · have := cntL_mem h; omega
theorem sizL_cnt {l : List Ex} {n : Int} (h0 : 0 ≤ n) (h : sizL l 200 n ≤ 200) : ∀ e ∈ l, e.cnt ≤ 200 := by
 intro e he
 by_cases h1 : 1 ≤ n
 · have := cntLs l 200 n h1 (by omega) h
   have := cntL_mem he
   omega
 · have hn : n = 0 := by omega
   subst hn
   cases l with
   | nil => cases he
   | cons x r =>
    unfold sizL at h
    rw [if_pos (by omega)] at h
    have b1 := sizE_bd x (200 - 0)
    have b2 := sizL_bd r 200 (0 + sizE x (200 - 0))
    have a2 := cntE x (200 - 0) (by omega) (by omega)
    have c3 := cntLs r 200 (0 + sizE x (200 - 0)) (by omega) (by omega) h
    rw [List.mem_cons] at he
    rcases he with rfl | he
    · omega
    · have := cntL_mem he
      omega
theorem binT_len (op : Int) : (binT op).tx.length ≤ 3 := by
 have key : ∀ i : Nat, (binS.getD i []).length ≤ 3 := by
  intro i
  rcases Nat.lt_or_ge i 13 with h | h
  · have : ∀ i < 13, (binS.getD i []).length ≤ 3 := by decide
    exact this i h
  · rw [List.getD_eq_getElem?_getD, List.getElem?_eq_none (by simpa [binS] using h)]
    simp
 unfold binT
 split <;> exact key _
theorem wrdT_len (op : Int) : (wrdT op).length ≤ 3 := by
 unfold wrdT
 split
 · decide
 · split <;> decide
theorem opP_le (k : Int) (x : List Pc) : (txt (opP (k, x))).length ≤ (txt x).length + 2 := by
 by_cases h : k = 1 ∨ k = 2 ∨ 18 ≤ k
 · rw [opP_pos h]; omega
 · rw [opP_neg h]; simp [txt, txt_app, TK.tx]
theorem lsP_le : ∀ ts : List (Int × List Pc), (txt (lsP ts)).length ≤ (ts.map fun x => (txt x.2).length + 2).sum
 | [] => by simp [lsP, txt]
 | x :: r => by
  have key : ∀ r : List (Int × List Pc), (txt (r.flatMap fun y => .t (.sg [44]) :: .b 32 :: y.2)).length = (r.map fun x => (txt x.2).length + 2).sum := by
   intro r
   induction r with
   | nil => simp [txt]
   | cons y r ih =>
    rw [List.flatMap_cons, txt_app, List.length_append, ih, List.map_cons, List.sum_cons]
    simp [txt, TK.tx]
  have := key r
  unfold lsP
  rw [txt_app, List.length_append, this, List.map_cons, List.sum_cons]
  omega
theorem ndP_le (ts : List (Int × List Pc)) (i : Nat) : (txt (ndP ts i)).length ≤ ((ts[i]?).map fun x => (txt x.2).length + 2).getD 0 := by
 unfold ndP
 cases ts[i]? with
 | none => simp [txt]
 | some x => exact opP_le x.1 x.2
mutual
theorem sh_len : ∀ e : Ex, fineE e = true -> (txt (shP e)).length + 4 ≤ 60 * e.cnt
 | .mk op n nm l p, hf => by
  have hL := shL_sum l (fineE_iff.1 hf).2.2.2.2.2.2
  obtain ⟨f1, f2, f3, f4, f5, f6, f7⟩ := fineE_iff.1 hf
  have hn : ∀ i j, i < j -> (txt (ndP (shL l) i)).length + (txt (ndP (shL l) j)).length ≤ ((shL l).map fun x => (txt x.2).length + 2).sum := by
   intro i j hij
   have h1 := ndP_le (shL l) i
   have h2 := ndP_le (shL l) j
   generalize shL l = ts at h1 h2 ⊢
   have key : ∀ (ts : List (Int × List Pc)) (i j : Nat), i < j -> ((ts[i]?).map fun x => (txt x.2).length + 2).getD 0 + ((ts[j]?).map fun x => (txt x.2).length + 2).getD 0 ≤ (ts.map fun x => (txt x.2).length + 2).sum := by
    have k1 : ∀ (ts : List (Int × List Pc)) (j : Nat), ((ts[j]?).map fun x => (txt x.2).length + 2).getD 0 ≤ (ts.map fun x => (txt x.2).length + 2).sum := by
     intro ts
     induction ts with
     | nil => intro j; simp
     | cons x r ih =>
      intro j
      rw [List.map_cons, List.sum_cons]
      cases j with
      | zero => simp
      | succ j =>
       have := ih j
       rw [List.getElem?_cons_succ]
       omega
    intro ts
    induction ts with
    | nil => intro i j _; simp
    | cons x r ih =>
     intro i j hij
     rw [List.map_cons, List.sum_cons]
     cases j with
     | zero => omega
     | succ j =>
      cases i with
      | zero =>
       have := k1 r j
       rw [List.getElem?_cons_succ, List.getElem?_cons_zero]
       simp only [Option.map_some, Option.getD_some]
       omega
      | succ i =>
       have := ih i j (by omega)
       rw [List.getElem?_cons_succ, List.getElem?_cons_succ]
       omega
   have := key ts i j hij
   omega
  have h01 := hn 0 1 (by omega)
  rw [shP, Ex.cnt]
  unfold shK
  split
  · have := decN_len n.toNat
    simp [txt, TK.tx]; omega
  · split
    · rename_i _ h2
      have := (nmd_of (f4.resolve_left (fun h => h h2))).1.2.2.2
      simp [txt, TK.tx]; omega
    · split
      · simp [txt, TK.tx]; omega
      · split
        · simp [txt, TK.tx]; omega
        · split
          · have := wrdT_len op
            have := lsP_le (shL l)
            simp [txt, txt_app, TK.tx]; omega
          · have := binT_len op
            simp [txt, txt_app]; omega
theorem shL_sum : ∀ l : List Ex, fineL l = true -> ((shL l).map fun x => (txt x.2).length + 2).sum ≤ 60 * Ex.cntL l
 | [], _ => by simp [shL, Ex.cntL]
 | e :: r, hf => by
  rw [fineL, Bool.and_eq_true] at hf
  have h1 := sh_len e hf.1
  have h2 := shL_sum r hf.2
  rw [shL, Ex.cntL, List.map_cons, List.sum_cons]
  simp only
  omega
end
theorem flatP_len {α : Type} (f : α -> List Pc) (k : Nat) : ∀ l : List α, (∀ x ∈ l, (txt (f x)).length ≤ k) -> (txt (l.flatMap f)).length ≤ k * l.length
 | [], _ => by simp [txt]
 | x :: r, h => by
  have h1 := h x (by simp)
  have h2 := flatP_len f k r fun y hy => h y (by simp [hy])
  rw [List.flatMap_cons, txt_app, List.length_append, List.length_cons, Nat.mul_add]
  omega
theorem sh_len' {e : Ex} (hf : fineE e = true) (hc : e.cnt ≤ 200) : (txt (shP e)).length ≤ 12000 := by
 have := sh_len e hf; omega
theorem opt_len {w : List UInt8} {l : List Ex} (hw : w.length ≤ 20) (hf : fineL l = true) (hc : ∀ e ∈ l, e.cnt ≤ 200) : (txt (optPc w l)).length ≤ 12022 := by
 cases l with
 | nil => simp [optPc, txt]
 | cons e r =>
  have := sh_len' (fineL_mem hf e (by simp)) (hc e (by simp))
  simp [optPc, txt, TK.tx]; omega
theorem flag_len {w : List UInt8} (b : Bool) (hw : w.length ≤ 20) : (txt (flagPc w b)).length ≤ 21 := by
 cases b <;> simp [flagPc, txt, TK.tx]; omega
theorem nm_len {s : List UInt8} (h : nmdF s = true) : s.length ≤ 40 := (nmd_of h).1.2.2.2
theorem nm_len' {s : List UInt8} (h : s = [] ∨ nmdF s = true) : s.length ≤ 40 := by
 rcases h with rfl | h
 · simp
 · exact nm_len h
theorem goPc_len {s : List UInt8} (h : s.length ≤ 40) : (txt (goPc s)).length ≤ 100 := by
 unfold goPc
 split
 · simp [txt]
 · simp [txt, TK.tx, kwGo]; omega
theorem set_len {s : SetP} (hf : fineS s = true) (hc : s.e.cnt ≤ 200) : (txt (setPc s)).length ≤ 12100 := by
 unfold fineS at hf
 rw [Bool.and_eq_true] at hf
 have h1 := nm_len hf.1
 have h2 := sh_len' hf.2 hc
 rw [txt_set]
 simp only [List.length_append, List.length_cons, List.length_nil]; omega
theorem act_len {a : ActP} (hf : fineA a = true) (hs : a.sets.length ≤ 1048576) (hc : ∀ e ∈ actE a, e.cnt ≤ 200) : (txt (actPc a)).length ≤ 12700000000 := by
 unfold fineA at hf
 simp only [Bool.and_eq_true, Bool.or_eq_true, decide_eq_true_eq, List.all_eq_true] at hf
 obtain ⟨f1, f2, f3, f4, f5⟩ := hf
 have h1 := nm_len f1
 have h2 := goPc_len (nm_len' f4)
 have h3 := opt_len (w := kwWh) (by decide) f3 fun e he => hc e (by simp [actE, he])
 have h4 := flag_len (w := kwH) a.hid (by decide)
 have h5 := flatP_len setPc 12100 a.sets fun s h => set_len (f5 s h) (hc s.e (by simp only [actE, List.mem_append, List.mem_map]; exact .inr ⟨s, h, rfl⟩))
 unfold actPc
 simp only [txt, txt_app, TK.tx, List.length_append, List.length_cons, List.length_nil, show kwAc.length = 6 from rfl]
 omega
structure StageP.Sm (x : StageP) : Prop where
 acts : x.acts.length ≤ 200
 cn : ∀ e ∈ x.wt ++ x.who ++ x.pays, e.cnt ≤ 200
 act : ∀ a ∈ x.acts, ∀ e ∈ actE a, e.cnt ≤ 200
theorem sizS_sm {x : StageP} {n : Int} (h0 : 0 ≤ n) (h : sizS x n ≤ 200) : x.Sm := by
 unfold sizS at h
 have hbd := sizL_bd (stgE x (n + x.seen.length + x.acts.length)) 200 (n + x.seen.length + x.acts.length)
 have hh := sizL_cnt (by omega) h
 have he : stgE x (n + x.seen.length + x.acts.length) = x.wt ++ x.who ++ x.pays ++ x.acts.flatMap actE := by unfold stgE; rw [if_pos (by omega)]
 rw [he] at hh
 refine ⟨by omega, fun e he => hh e (List.mem_append_left _ he), fun a ha e he => hh e (List.mem_append_right _ (List.mem_flatMap.2 ⟨a, ha, he⟩))⟩
theorem sizT_sm : ∀ {l : List StageP} {n : Int}, 0 ≤ n -> sizT l n ≤ 200 -> ∀ x ∈ l, x.Sm
 | y :: r, n, h0, h, x, hx => by
  unfold sizT at h
  by_cases hn : n ≤ 200
  · rw [if_pos hn] at h
    have h1 := sizS_ge y n
    have h2 := sizT_ge r (sizS y n)
    rw [List.mem_cons] at hx
    rcases hx with rfl | hx
    · exact sizS_sm h0 (by omega)
    · exact sizT_sm (by omega) h x hx
  · rw [if_neg hn] at h; omega
theorem stage_len {x : StageP} (hf : fineSt x = true) (hb : x.Bd) (hs : x.Sm) : (txt (stagePc x)).length ≤ 3000000000000 := by
 unfold fineSt at hf
 simp only [Bool.and_eq_true, Bool.or_eq_true, decide_eq_true_eq] at hf
 obtain ⟨f1, f2, f3, f4, hf⟩ := hf
 have hlb : (txt (lbPc x.lb)).length ≤ 42 := by
  have := nm_len' f1
  unfold lbPc
  split
  · simp [txt]
  · simp [txt, TK.tx]; omega
 obtain ⟨s1, s2, s3⟩ := hs
 obtain ⟨b1, b2, b3, b4, b5, b6, b7⟩ := hb
 have cw : ∀ e ∈ x.wt, e.cnt ≤ 200 := fun e he => s2 e (by simp [he])
 have ch : ∀ e ∈ x.who, e.cnt ≤ 200 := fun e he => s2 e (by simp [he])
 have cp : ∀ e ∈ x.pays, e.cnt ≤ 200 := fun e he => s2 e (by simp [he])
 have hh : (txt (whoP x.who)).length ≤ 12000 := by
  unfold whoP
  split
  · simp [txt]
  · rename_i e r hw
    rw [hw] at f3 ch
    exact sh_len' (fineL_mem f3 e (by simp)) (ch e (by simp))
 have hp : (txt (lsP (shL x.pays))).length ≤ 12010 * x.pays.length := by
  refine Nat.le_trans (lsP_le _) ?_
  generalize x.pays = l at f4 cp ⊢
  induction l with
  | nil => simp [shL]
  | cons e r ih =>
   have h1 := sh_len' (fineL_mem f4 e (by simp)) (cp e (by simp))
   rw [fineL, Bool.and_eq_true] at f4
   have h2 := ih f4.2 fun y hy => cp y (by simp [hy])
   rw [shL, List.map_cons, List.sum_cons, List.length_cons, Nat.mul_add]
   simp only
   omega
 have hall : (txt (allPc x.all)).length ≤ 100 := by
  cases x.all <;> simp [allPc, txt, TK.tx, kwS, kwB, kwA]
 have hseen : (txt (seenPc x.seen)).length ≤ 100 + 30 * x.seen.length := by
  unfold seenPc
  split
  · simp [txt]
  · rename_i n r hs
    rw [hs, List.length_cons]
    have h1 := flatP_len (fun m : Int => [.t (.sg [44]), .b 32, .t (.nm m.toNat)]) 30 r fun m _ => by
     have := decN_len m.toNat
     simp [txt, TK.tx]; omega
    have := decN_len n.toNat
    simp only [txt, TK.tx, List.length_append, List.length_cons, List.length_nil, show kwS.length = 4 from rfl, show kwB.length = 2 from rfl]
    omega
 have hw := opt_len (w := kwW) (by decide) f2 cw
 unfold stagePc
 rw [txt_app, List.length_append]
 split at hf
 · rename_i hk
   simp only [Bool.and_eq_true] at hf
   have := nm_len hf.2.2.2.1
   have := decN_len x.lo.toNat
   have := decN_len x.hi.toNat
   rw [if_pos hk]
   unfold dealPc
   simp only [txt, txt_app, TK.tx, List.length_append, List.length_cons, List.length_nil, show kwD.length = 4 from rfl, show kwI.length = 2 from rfl]
   omega
 · rename_i hk
   rw [if_neg hk]
   split at hf
   · rename_i hk2
     rw [if_pos hk2]
     simp only [Bool.and_eq_true, List.all_eq_true] at hf
     have h5 := flatP_len actPc 12700000000 x.acts fun a h => act_len (hf.1 a h) (b7 a h).sets (s3 a h)
     unfold turnPc
     simp only [txt, txt_app, TK.tx, List.length_append, List.length_cons, List.length_nil, show kwT.length = 4 from rfl]
     omega
   · rename_i hk2
     rw [if_neg hk2]
     unfold endPc
     simp only [txt, txt_app, TK.tx, List.length_append, List.length_cons, List.length_nil, show kwE.length = 3 from rfl, show kwP.length = 3 from rfl]
     omega
theorem sizR_len {r : RulesP} (hb : r.Bd) (h : sizR r ≤ 200) (hf : r.stages.all fineSt = true) : (txt (r.stages.flatMap stagePc)).length ≤ 4611686018327387904 := by
 unfold sizR at h
 have h1 := sizT_ge r.stages (r.vars.length + r.stages.length)
 have h2 := sizT_sm (by omega) h
 rw [List.all_eq_true] at hf
 have := flatP_len stagePc 3000000000000 r.stages fun x hx => stage_len (hf x hx) (hb.st x hx) (h2 x hx)
 omega
end Go.Proofs.YthmdmnfojbnobaaGreatDoor
namespace Go.Proofs.YthmdmnfojbnobaaGreatDoor
open Go.Ab
theorem prn_of {r : RulesP} {s : List UInt8} (h : prnR r = (s, 0)) : s.length ≤ 20000 ∧ (parseR s).1.er = r.er := by
 unfold prnR at h
 split at h
 · rename_i hf
   split at h
   · exact absurd (congrArg Prod.snd h) (by simp)
   · rename_i hl
     split at h
     · rename_i he
       exact absurd (congrArg Prod.snd h) he
     · rename_i he
       have he := Decidable.not_not.1 he
       have e : txt (rulesPc r) = s := congrArg Prod.fst h
       rw [← e]
       exact ⟨by omega, parse_back hf he⟩
 · exact absurd (congrArg Prod.snd h) (by simp)
theorem same_er {q r : RulesP} (h : q.er = r.er) : (checkF q).1 = (checkF r).1 ∧ namesOf q = namesOf r ∧ (∀ i act, tgtF q.stages i act = tgtF r.stages i act) ∧ (q.Ok ↔ r.Ok) ∧ q.vars.length = r.vars.length ∧ q.stages.length = r.stages.length := by
 have hs : q.stages.map StageP.er = r.stages.map StageP.er := congrArg RulesP.stages h
 have hv : q.vars.map VarP.er = r.vars.map VarP.er := congrArg RulesP.vars h
 refine ⟨?_, ?_, fun i act => ?_, ?_, ?_, ?_⟩
 · rw [← check_er q, h, check_er]
 · rw [← names_er q, h, names_er]
 · rw [← tgt_er q.stages, hs, tgt_er]
 · rw [← ok_er (r := q), h, ok_er]
 · have := congrArg List.length hv
   rwa [List.length_map, List.length_map] at this
 · have := congrArg List.length hs
   rwa [List.length_map, List.length_map] at this
section
variable {H : List AO}
theorem ok5 {r : RulesP} (hb : r.Bd) (hn : r.Nb) (i act : Int) : Ok Tryz.prog 5 [rulesV r, i64 i, i64 act] H (.ret (bl true)) H := by
 have b1 := hb.vars
 have b2 := hb.stages
 have h6 := fun H => ok6 (H := H) hb
 have hr := sizR_ok hb
 have hlen := sizR_len hb
 have h19 := fun H hL => ok19 (H := H) hb hn hL
 generalize sizR r = z at h6 hr hlen
 simp only [rulesV, RulesP.c] at h6 h19
 refine ok_fn hm Tryz.func5 c5 (by simp) fun hcl => ?_
 simp -implicitDefEqProofs [i5, r5, rulesV, RulesP.c]
 refine call_go ok15 ?_
 simp -implicitDefEqProofs
 refine call_go (h6 _) ?_
 by_cases hz : 200 < z
 · simp -implicitDefEqProofs [hz]
   exact cv_fz 2 hcl rfl rfl
 · have hr := hr (by omega)
   have h19 := fun H => h19 H (hlen (by omega))
   have hp := fun s => prn_of (r := r) (s := s)
   generalize prnR r = w at h19 hp
   obtain ⟨s, e⟩ := w
   simp -implicitDefEqProofs [hz]
   refine call_go (h19 _) ?_
   by_cases he : e = 0
   · subst he
     obtain ⟨hsl, her⟩ := hp s rfl
     clear hp
     have h16 := fun H => ok16 (H := H) (l := s) (by omega)
     generalize (parseR s).1 = q at h16 her
     obtain ⟨e1, e2, e3, e4, e5, e6⟩ := same_er her
     have hq := e4.2 hr
     have ha : ∀ x ∈ r.stages, x.acts.length < 4611686018427387904 := fun x hx => (hr.st x hx).acts
     have ha' : ∀ x ∈ q.stages, x.acts.length < 4611686018427387904 := fun x hx => (hq.st x hx).acts
     have h8 := fun H => ok8 (H := H) (r := r) (by omega) ha i act
     have h8' := fun H => ok8 (H := H) (r := q) (by omega) ha' i act
     rw [e3] at h8'
     have h10 := fun H => ok10 (H := H) hr
     have h10' := fun H => ok10 (H := H) hq
     rw [e1] at h10'
     have h13 := fun H => ok13 (H := H) (r := r) (by omega)
     have h13' := fun H => ok13 (H := H) (r := q) (by omega)
     rw [e2] at h13'
     generalize tgtF r.stages i act = w at h8 h8'
     generalize (checkF q).2 = f' at h10'
     generalize checkF r = f at h10 h10'
     have hvl : (namesOf r).length < 4611686018427387904 := by simp [namesOf]; omega
     have h12 := fun H => ok12 (H := H) (IsS.slc H (namesOf r)) (IsS.slc H (namesOf r)) hvl hvl
     have h12 : ∀ H, Ok Tryz.prog 12 [namesV (namesOf r), namesV (namesOf r)] H (.ret (bl true)) H := fun H => by
      have := h12 H
      rw [decide_eq_true (rfl : namesOf r = namesOf r)] at this
      exact this
     generalize namesOf r = ns at h12 h13 h13'
     clear e1 e2 e3 e4 e5 e6 her hlen hr hq ha ha' hvl
     simp only [rulesV, RulesP.c] at h8 h8' h10 h10' h13 h13' h16
     simp -implicitDefEqProofs
     refine call_go (h16 _) ?_
     simp -implicitDefEqProofs
     refine call_go (h8 _) ?_
     simp -implicitDefEqProofs
     refine call_go (h8' _) ?_
     simp -implicitDefEqProofs
     refine callq_st (r := .agg [i64 f.1, i64 f']) (fun _ => h10' _) ?_
     simp -implicitDefEqProofs [fltV]
     refine callq_st (r := .agg [i64 f.1, i64 f.2]) (fun _ => h10 _) ?_
     simp -implicitDefEqProofs [fltV]
     refine callq_st (r := namesV ns) (fun _ => h13' _) ?_
     simp -implicitDefEqProofs [namesV]
     refine callq_st (r := namesV ns) (fun _ => h13 _) ?_
     simp -implicitDefEqProofs [namesV]
     refine callq_st (r := bl true) (fun _ => h12 _) ?_
     simp -implicitDefEqProofs
     exact cv_fz 2 hcl rfl rfl
   · simp -implicitDefEqProofs [he]
     exact cv_fz 2 hcl rfl rfl
end
end Go.Proofs.YthmdmnfojbnobaaGreatDoor
namespace Go.Proofs.YthmdmnfojbnobaaGreatDoor
open Go Go.Ab
theorem strN {s : ByteArray} (h : s.size ≤ reachBytes) : s.data.toList.length < 4611686018427387904 := by
 have e : s.data.toList.length = s.size := by rw [Array.length_toList]; rfl
 have e2 : reachBytes = 140737488351232 := by decide
 omega
theorem exn_of : ∀ (n : Nat) (d : Dt), SizeOf.sizeOf d < n -> d.ty Tryz.prog 53 -> ∃ e : Ex, d.cells = e.c ∧ d.sv = e.v ∧ e.lim ∧ e.nmB := by
 intro n
 induction n with
 | zero => intro d h; omega
 | succ n ih =>
  intro d hs h
  obtain ⟨l, rfl, hl⟩ := st_of f53 h
  match l, hl with
  | [d1, d2, d3, d4, d5], hl =>
   obtain ⟨h1, h2, h3, h4, h5, _⟩ := hl
   obtain ⟨op, rfl⟩ := int_of h1
   obtain ⟨m, rfl⟩ := int_of h2
   obtain ⟨s, rfl, hsz⟩ := str_of h3
   obtain ⟨zs, rfl, hlen, has⟩ := sl_of u42 h4
   obtain ⟨p, rfl⟩ := int_of h5
   have key : ∀ zs2 : List Dt, SizeOf.sizeOf zs2 ≤ SizeOf.sizeOf zs -> (∀ x ∈ zs2, x.ty Tryz.prog 53) -> ∃ es : List Ex, Dt.cellsL zs2 = Ex.cL es ∧ es.length = zs2.length ∧ Ex.limL es ∧ Ex.nmBL es := by
    intro zs2
    induction zs2 with
    | nil => intro _ _; exact ⟨[], rfl, rfl, by unfold Ex.limL; trivial, by unfold Ex.nmBL; trivial⟩
    | cons x r ihr =>
     intro hsz2 hty
     have e1 : SizeOf.sizeOf (x :: r) = 1 + SizeOf.sizeOf x + SizeOf.sizeOf r := rfl
     obtain ⟨es, g1, g2, g3, g4⟩ := ihr (by omega) (fun y hy => hty y (by simp [hy]))
     obtain ⟨e, k1, _, k3, k4⟩ := ih x (by
      simp at hs
      omega) (hty x (by simp))
     exact ⟨e :: es, by simp only [Dt.cellsL, Ex.cL, k1, g1], by simp [g2], by unfold Ex.limL; exact ⟨k3, g3⟩, by unfold Ex.nmBL; exact ⟨k4, g4⟩⟩
   obtain ⟨es, g1, g2, g3, g4⟩ := key zs (Nat.le_refl _) has
   refine ⟨.mk op m s.data.toList es p, ?_, ?_, ?_, ?_⟩
   · simp only [Dt.cells, Dt.cellsL, g1, g2, Ex.c]
     rw [← B_of s]; rfl
   · simp only [Dt.sv, Dt.cells, Dt.cellsL, g1, g2, Ex.v, Ex.c]
     rw [← B_of s]; rfl
   · unfold Ex.lim
     refine ⟨?_, g3⟩
     rw [g2]; unfold reachBytes at hlen; omega
   · unfold Ex.nmB
     exact ⟨strN hsz, g4⟩
theorem exsn_of {d : Dt} (h : d.ty Tryz.prog 42) : ∃ es : List Ex, d.cells = [exS es] ∧ es.length < d.blk ∧ (∀ e ∈ es, e.lim) ∧ ∀ e ∈ es, e.nmB := by
 obtain ⟨zs, rfl, hlen, has⟩ := sl_of u42 h
 have key : ∀ zs2 : List Dt, (∀ x ∈ zs2, x.ty Tryz.prog 53) -> ∃ es : List Ex, Dt.cellsL zs2 = Ex.cL es ∧ es.length = zs2.length ∧ ∀ e ∈ es, e.lim ∧ e.nmB := by
  intro zs2
  induction zs2 with
  | nil => intro _; exact ⟨[], rfl, rfl, fun e he => by cases he⟩
  | cons x r ihr =>
   intro hty
   obtain ⟨es, g1, g2, g3⟩ := ihr (fun y hy => hty y (by simp [hy]))
   obtain ⟨e, k1, _, k3⟩ := exn_of _ x (Nat.lt_succ_self _) (hty x (by simp))
   refine ⟨e :: es, by simp only [Dt.cellsL, Ex.cL, k1, g1], by simp [g2], fun y hy => ?_⟩
   rw [List.mem_cons] at hy
   rcases hy with rfl | hy
   · exact k3
   · exact g3 y hy
 obtain ⟨es, g1, g2, g3⟩ := key zs has
 refine ⟨es, by simp only [Dt.cells, g1, exS, g2], ?_, fun e he => (g3 e he).1, fun e he => (g3 e he).2⟩
 have := blk_len zs
 simp only [Dt.blk]; omega
theorem varn_of {d : Dt} (h : d.ty Tryz.prog 77) : ∃ v : VarP, d.cells = v.c ∧ v.nm.length < 4611686018427387904 := by
 obtain ⟨l, rfl, hl⟩ := st_of f77 h
 match l, hl with
 | [d1, d2, d3], hl =>
  obtain ⟨h1, h2, h3, _⟩ := hl
  obtain ⟨s, rfl, hs⟩ := str_of h1
  obtain ⟨n, rfl⟩ := int_of h2
  obtain ⟨p, rfl⟩ := int_of h3
  refine ⟨⟨s.data.toList, n, p⟩, ?_, strN hs⟩
  simp only [Dt.cells, Dt.cellsL, VarP.c]
  rw [← B_of s]; rfl
theorem setn_of {d : Dt} (h : d.ty Tryz.prog 55) : ∃ s : SetP, d.cells = s.c ∧ s.e.lim ∧ s.nm.length < 4611686018427387904 ∧ s.e.nmB := by
 obtain ⟨l, rfl, hl⟩ := st_of f55 h
 match l, hl with
 | [d1, d2, d3], hl =>
  obtain ⟨h1, h2, h3, _⟩ := hl
  obtain ⟨s, rfl, hs⟩ := str_of h1
  obtain ⟨e, g1, _, g3, g4⟩ := exn_of _ d2 (Nat.lt_succ_self _) h2
  obtain ⟨p, rfl⟩ := int_of h3
  refine ⟨⟨s.data.toList, e, p⟩, ?_, g3, strN hs, g4⟩
  simp only [Dt.cells, Dt.cellsL, SetP.c, g1]
  rw [← B_of s]; rfl
theorem actn_of {d : Dt} (h : d.ty Tryz.prog 51) (hb : d.blk ≤ 1048576) : ∃ a : ActP, d.cells = a.c ∧ a.Bd ∧ a.Nb := by
 obtain ⟨l, rfl, hl⟩ := st_of f51 h
 match l, hl with
 | [d1, d2, d3, d4, d5, d6], hl =>
  obtain ⟨h1, h2, h3, h4, h5, h6, _⟩ := hl
  obtain ⟨s, rfl, hs⟩ := str_of h1
  obtain ⟨es, g1, g2, g3, g4⟩ := exsn_of h2
  obtain ⟨b, rfl⟩ := bool_of h3
  obtain ⟨zs, rfl, hlen, has⟩ := sl_of u49 h4
  obtain ⟨s2, rfl, hs2⟩ := str_of h5
  obtain ⟨p, rfl⟩ := int_of h6
  simp only [Dt.blk, Dt.blkL] at hb
  obtain ⟨ss, k1, k2, k3⟩ := row_of (f := SetP.c) (Q := fun s => s.e.lim ∧ s.nm.length < 4611686018427387904 ∧ s.e.nmB) (n := 1048576) (fun d hd _ => setn_of hd) zs has (by omega)
  have hzl := blk_len zs
  refine ⟨⟨s.data.toList, es, b, ss, s2.data.toList, p⟩, ?_, ⟨?_, ?_, ?_⟩, ⟨strN hs, strN hs2, g4, fun s h => (k3 s h).2⟩⟩
  · simp only [Dt.cells, Dt.cellsL, ActP.c, g1, k1, k2]
    rw [← B_of s, <- B_of s2]; rfl
  · show es.length ≤ 1048576; omega
  · show ss.length ≤ 1048576; omega
  · intro e he
    simp only [actE, List.mem_append, List.mem_map] at he
    rcases he with he | ⟨x, hx, rfl⟩
    · exact g3 e he
    · exact (k3 x hx).1
theorem stgn_of {d : Dt} (h : d.ty Tryz.prog 45) (hb : d.blk ≤ 1048576) : ∃ x : StageP, d.cells = x.c ∧ x.Bd ∧ x.Nb := by
 obtain ⟨l, rfl, hl⟩ := st_of f45 h
 match l, hl with
 | [d1, d2, d3, d4, d5, d6, d7, d8, d9, d10, d11, d12], hl =>
  obtain ⟨h1, h2, h3, h4, h5, h6, h7, h8, h9, h10, h11, h12, _⟩ := hl
  obtain ⟨k, rfl⟩ := int_of h1
  obtain ⟨s, rfl, hs⟩ := str_of h2
  obtain ⟨s2, rfl, hs2⟩ := str_of h3
  obtain ⟨lo, rfl⟩ := int_of h4
  obtain ⟨hi, rfl⟩ := int_of h5
  obtain ⟨wt, w1, w2, w3, w4⟩ := exsn_of h6
  obtain ⟨b, rfl⟩ := bool_of h7
  obtain ⟨ys, rfl, _, hys⟩ := sl_of u38 h8
  obtain ⟨seen, i1, i2⟩ := ints_of ys hys
  obtain ⟨who, o1, o2, o3, o4⟩ := exsn_of h9
  obtain ⟨zs, rfl, _, has⟩ := sl_of u43 h10
  obtain ⟨pays, p1, p2, p3, p4⟩ := exsn_of h11
  obtain ⟨p, rfl⟩ := int_of h12
  simp only [Dt.blk, Dt.blkL] at hb
  have hzl := blk_len zs
  have hyl := blk_len ys
  obtain ⟨acts, k1, k2, k3⟩ := row_of (f := ActP.c) (Q := fun a => a.Bd ∧ a.Nb) (n := 1048576) (fun d hd hn => actn_of hd hn) zs has (by omega)
  refine ⟨⟨k, s.data.toList, s2.data.toList, lo, hi, wt, b, seen, who, acts, pays, p⟩, ?_, ⟨?_, ?_, ?_, ?_, ?_, ?_, fun a h => (k3 a h).1⟩, ⟨strN hs, strN hs2, w4, o4, p4, fun a h => (k3 a h).2⟩⟩
  · simp only [Dt.cells, Dt.cellsL, StageP.c, w1, o1, p1, k1, k2, i1, i2]
    rw [← B_of s, <- B_of s2]; rfl
  · show wt.length ≤ 1048576; omega
  · show who.length ≤ 1048576; omega
  · show pays.length ≤ 1048576; omega
  · show seen.length ≤ 1048576; omega
  · show acts.length ≤ 1048576; omega
  · intro e he
    simp only [List.mem_append] at he
    rcases he with (he | he) | he
    · exact w3 e he
    · exact o3 e he
    · exact p3 e he
theorem rulesn_of {d : Dt} (h : d.ty Tryz.prog 25) (hb : d.blk ≤ 1048576) : ∃ r : RulesP, d.sv = rulesV r ∧ r.Bd ∧ r.Nb := by
 obtain ⟨l, rfl, hl⟩ := st_of f25 h
 match l, hl with
 | [d1, d2, d3, d4], hl =>
  obtain ⟨h1, h2, h3, h4, _⟩ := hl
  obtain ⟨s, rfl, hs⟩ := str_of h1
  obtain ⟨n, rfl⟩ := int_of h2
  obtain ⟨zs, rfl, _, hz⟩ := sl_of u22 h3
  obtain ⟨ys, rfl, _, hy⟩ := sl_of u23 h4
  simp only [Dt.blk, Dt.blkL] at hb
  have hzl := blk_len zs
  have hyl := blk_len ys
  obtain ⟨vs, v1, v2, v3⟩ := row_of (f := VarP.c) (Q := fun v => v.nm.length < 4611686018427387904) (n := 1048576) (fun d hd _ => varn_of hd) zs hz (by omega)
  obtain ⟨ss, s1, s2, s3⟩ := row_of (f := StageP.c) (Q := fun x => x.Bd ∧ x.Nb) (n := 1048576) (fun d hd hn => stgn_of hd hn) ys hy (by omega)
  refine ⟨⟨s.data.toList, n, vs, ss⟩, ?_, ⟨?_, ?_, fun x h => (s3 x h).1⟩, ⟨strN hs, v3, fun x h => (s3 x h).2⟩⟩
  · simp only [Dt.sv, Dt.cells, Dt.cellsL, rulesV, RulesP.c, v1, v2, s1, s2]
    rw [← B_of s]; rfl
  · show vs.length ≤ 1048576; omega
  · show ss.length ≤ 1048576; omega
theorem law5 : ∀ dts, Dt.tyL Tryz.prog dts [25, 3, 3] -> Dt.blkL dts ≤ 1048576 -> Ok Tryz.prog 5 (dts.map Dt.sv) [] (.ret (bl true)) [] := by
 intro dts h hb
 match dts, h with
 | [d1, d2, d3], h =>
  obtain ⟨h1, h2, h3, _⟩ := h
  simp only [Dt.blkL] at hb
  obtain ⟨r, k1, k2, k3⟩ := rulesn_of h1 (by omega)
  obtain ⟨i, rfl⟩ := int_of h2
  obtain ⟨a, rfl⟩ := int_of h3
  simp only [List.map_cons, List.map_nil, k1]
  exact ok5 k2 k3 i a
end Go.Proofs.YthmdmnfojbnobaaGreatDoor
