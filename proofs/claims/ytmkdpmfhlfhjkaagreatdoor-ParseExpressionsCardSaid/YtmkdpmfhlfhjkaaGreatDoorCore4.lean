/-
  Steps of the proof: contracts of functions and plain facts that the statement rests on.
-/
import Derived.Test.YtmkdpmfhlfhjkaaGreatDoorCore3
import Derived.Below
import Derived.ChangeArms
import Derived.DataReads
import Derived.WideShapes
import Derived.RowKit
import Derived.WalkKit
import Derived.ProofKit
import Derived.OpenShut
import Derived.ShutString
import Derived.ChangeOld
import Derived.Carry
import Derived.KernelRfl
import Derived.RecoverIn
import Derived.SizedLaws
set_option linter.all false
namespace Go.Ab
variable [GlobEnv] [FrEnv] [KnEnv]
theorem slots_rs (n : Nat) (o : Ins) : (o.rs n).slots = o.slots := by
 obtain ⟨d, g, j⟩ := o
 cases j with
 | e i => cases i <;> rfl
 | _ => rfl
theorem quiet_rs (n : Nat) (o : Ins) : (o.rs n).j.quiet = o.j.quiet := by
 obtain ⟨d, g, j⟩ := o
 cases j <;> rfl
theorem d_rs (n : Nat) (o : Ins) : (o.rs n).d = o.d := rfl
theorem mild_rs (n : Nat) (o : Ins) : (o.rs n).mild = o.mild := by
 obtain ⟨d, g, j⟩ := o
 cases g with
 | some x => rfl
 | none => cases j with
  | e i => cases i <;> rfl
  | _ => rfl
theorem fl_rs (n : Nat) (o : Ins) : (o.rs n).fl = o.fl.map fun x => (n + x.1, x.2) := by
 obtain ⟨d, g, j⟩ := o
 cases g with
 | some x => cases j with
  | e i => cases i <;> rfl
  | _ => rfl
 | none => cases j with
  | e i => cases i <;> rfl
  | _ => rfl
def drawG (free : Ins -> Bool) (ops : Array Oper) (ns : List Nat) (l : List Ins) : Bool :=
 let B := masks ops.toList []
 let n := l.length
 let L := ns.zip l
 (n == ops.size) && (ns.length == n) && ((List.range n).all fun i => ns.contains i) &&
 ((List.range n).all fun i => ((ops.getD i default).after.toList.all fun e => !Region.binds .any e || decide (e.on < i))) &&
 (L.zipIdx.all fun x => L.zipIdx.all fun y =>
  (match x.1.2.d with
   | none => true
   | some d => (x.2 == y.2 || y.1.2.d != some d) && (!y.1.2.slots.contains d || (beforeB B x.1.1 y.1.1 && decide (x.2 < y.2)))) &&
  (free x.1.2 || decide (y.2 ≤ x.2) || beforeB B x.1.1 y.1.1) && (x.2 == y.2 || x.1.1 != y.1.1))
theorem drawG_rs {free : Ins -> Bool} (n : Nat) (hf : ∀ o, free (Ins.rs n o) = free o) {ops : Array Oper} {ns : List Nat} {l : List Ins} (h : drawG free ops ns l = true) : drawG free ops ns (l.map (Ins.rs n)) = true := by
 have e : drawG free ops ns (l.map (Ins.rs n)) = drawG free ops ns l := by
  unfold drawG
  simp only [List.length_map, List.zip_map_right, List.zipIdx_map, List.all_map, Function.comp_def, Prod.map_fst, Prod.map_snd, id_eq, d_rs, slots_rs, hf]
 rw [e]; exact h
theorem draw0_G (ops : Array Oper) (ns : List Nat) (l : List Ins) : drawB0 ops ns l = drawG (fun o => o.j.quiet) ops ns l := rfl
theorem dcG_of {free : Ins -> Bool} {ops : Array Oper} {ns : List Nat} {l : List Ins} (h : drawG free ops ns l = true) : DC ops (ns.zip l) ∧
 (ns.zip l).Pairwise (fun x y => (∀ d, y.2.d = some d -> d ∉ x.2.slots) ∧ (free x.2 = false -> beforeB (masks ops.toList []) x.1 y.1 = true) ∧ x.1 ≠ y.1) ∧ ns.length = l.length ∧ l.length = ops.size := by
 unfold drawG at h
 simp only [Bool.and_eq_true, beq_iff_eq, List.all_eq_true, List.mem_range, Bool.or_eq_true, Bool.not_eq_true', decide_eq_true_eq, List.contains_eq_mem] at h
 obtain ⟨⟨⟨⟨h1, h2⟩, h3⟩, h4⟩, h5⟩ := h
 refine (fun hh => ⟨hh.1, hh.2, h2, h1⟩ : (_ ∧ _) -> _) ?_
 generalize hC : ns.zip l = C at h5 ⊢
 have hp : ∀ (a b : Nat) (x y : CI), C[a]? = some x -> C[b]? = some y →
  (∀ d, x.2.d = some d -> (a = b ∨ y.2.d ≠ some d) ∧ (d ∈ y.2.slots -> beforeB (masks ops.toList []) x.1 y.1 = true ∧ a < b)) ∧
  ((free x.2 = true ∨ b ≤ a) ∨ beforeB (masks ops.toList []) x.1 y.1 = true) ∧ (a = b ∨ x.1 ≠ y.1) := by
  intro a b x y hx hy
  have hxm : (x, a) ∈ C.zipIdx := List.mem_of_getElem? (i := a) (by rw [List.getElem?_zipIdx]; simp [hx])
  have hym : (y, b) ∈ C.zipIdx := List.mem_of_getElem? (i := b) (by rw [List.getElem?_zipIdx]; simp [hy])
  have h6 := h5 (x, a) hxm (y, b) hym
  simp only [bne_iff_ne, ne_eq] at h6
  obtain ⟨⟨h6, h7⟩, h8⟩ := h6
  refine ⟨fun d hd => ?_, h7, h8⟩
  rw [hd] at h6
  simp only [Bool.and_eq_true, Bool.or_eq_true, beq_iff_eq, bne_iff_ne, ne_eq, Bool.not_eq_true', decide_eq_true_eq, List.contains_eq_mem, decide_eq_false_iff_not] at h6
  refine ⟨h6.1, fun hm => ?_⟩
  rcases h6.2 with h9 | h9
  · exact absurd hm h9
  · exact h9
 refine ⟨⟨fun i hi => ?_, ?_, ?_, ?_, ?_⟩, ?_⟩
 · rw [← hC]; exact zip_fst h2 (h3 i (by omega))
 · intro i o ho e he hb
   have hi : i < ops.size := (Array.getElem?_eq_some_iff.1 ho).1
   rcases h4 i (by omega) e (by rw [Array.getD_eq_getD_getElem?, ho]; simpa using he) with h6 | h6
   · rw [hb] at h6; cases h6
   · exact h6
 · intro x hx y hy hne d hd hd'
   obtain ⟨a, ha⟩ := List.getElem?_of_mem hx
   obtain ⟨b, hb⟩ := List.getElem?_of_mem hy
   rcases ((hp a b x y ha hb).1 d hd).1 with h6 | h6
   · subst h6; rw [ha] at hb; cases hb; exact hne rfl
   · exact h6 hd'
 · intro x hx y hy d hd hs
   obtain ⟨a, ha⟩ := List.getElem?_of_mem hx
   obtain ⟨b, hb⟩ := List.getElem?_of_mem hy
   exact (((hp a b x y ha hb).1 d hd).2 hs).1
 · intro x hx d hd hs
   obtain ⟨a, ha⟩ := List.getElem?_of_mem hx
   have := (((hp a a x x ha ha).1 d hd).2 hs).2; omega
 · rw [List.pairwise_iff_getElem]
   intro a b ha hb hab
   have h6 := hp a b C[a] C[b] (List.getElem?_eq_getElem ha) (List.getElem?_eq_getElem hb)
   have h7 := hp b a C[b] C[a] (List.getElem?_eq_getElem hb) (List.getElem?_eq_getElem ha)
   refine ⟨fun d hd hs => ?_, fun hq => ?_, ?_⟩
   · have := ((h7.1 d hd).2 hs).2; omega
   · rcases h6.2.1 with (h8 | h8) | h8
     · rw [hq] at h8; cases h8
     · omega
     · exact h8
   · rcases h6.2.2 with h8 | h8
     · omega
     · exact h8
def flOk : List Ins -> Bool
 | [] => true
 | o :: r => (o.fl.isSome || o.j.quiet || r.all fun p => p.fl.isNone) && (match o.fl with | none => true | some (i, _) => r.all fun p => match p.fl with | none => true | some (k, _) => k != i) && flOk r
def drawF (ops : Array Oper) (ns : List Nat) (l : List Ins) : Bool := (l.all Ins.mild && flOk l) && drawG (fun o => o.j.quiet || o.fl.isSome) ops ns l
theorem flOk_rs (n : Nat) : ∀ (l : List Ins), flOk (l.map (Ins.rs n)) = flOk l
 | [] => rfl
 | o :: r => by
  simp only [List.map_cons, flOk, flOk_rs n r, List.all_map, Function.comp_def, fl_rs, quiet_rs, Option.isSome_map, Option.isNone_map]
  congr 2
  cases o.fl with
  | none => rfl
  | some x =>
   simp only [Option.map_some]
   congr 1
   funext p
   cases p.fl with
   | none => rfl
   | some y =>
    simp only [Option.map_some]
    rw [Bool.eq_iff_iff]; simp
theorem drawF_rs (n : Nat) {ops : Array Oper} {ns : List Nat} {l : List Ins} (h : drawF ops ns l = true) : drawF ops ns (l.map (Ins.rs n)) = true := by
 unfold drawF at h ⊢
 rw [Bool.and_eq_true, Bool.and_eq_true] at h ⊢
 refine ⟨⟨?_, by rw [flOk_rs]; exact h.1.2⟩, drawG_rs n (fun o => by rw [quiet_rs, fl_rs, Option.isSome_map]) h.2⟩
 have := h.1.1
 simp only [List.all_map, Function.comp_def, mild_rs]
 exact this
theorem flOk_pw : ∀ {l : List Ins}, flOk l = true -> l.Pairwise fun x y => (∀ i T T', x.fl = some (i, T) -> y.fl ≠ some (i, T')) ∧ (x.j.quiet = false -> x.fl = none -> y.fl = none)
 | [], _ => .nil
 | o :: r, h => by
  simp only [flOk, Bool.and_eq_true] at h
  obtain ⟨⟨h1, h2⟩, h3⟩ := h
  rw [List.pairwise_cons]
  refine ⟨fun y hy => ⟨fun i T T' hx hy' => ?_, fun hq hx => ?_⟩, flOk_pw h3⟩
  · rw [hx] at h2
    simp only [List.all_eq_true] at h2
    have := h2 y hy
    rw [hy'] at this
    simp at this
  · rw [hx, hq] at h1
    simp only [Option.isSome_none, Bool.false_or, List.all_eq_true] at h1
    have := h1 y hy
    cases hyf : y.fl with
    | none => rfl
    | some z => rw [hyf] at this; cases this
section
variable {P : Program}
theorem draw_okF : DOk0 P drawF := by
 intro N ops ns l env H K hc hdr hx db S a hH hS he hN hdf
 subst hH
 unfold drawF at hdr
 rw [Bool.and_eq_true, Bool.and_eq_true] at hdr
 obtain ⟨⟨hmild, hfl⟩, hdr⟩ := hdr
 obtain ⟨hd, hpw0, hlen⟩ := dcG_of hdr
 have hsnd : (ns.zip l).map (·.2) = l := by rw [List.map_snd_zip]; omega
 have hchk : ∀ x ∈ ns.zip l, ∃ o, ops[x.1]? = some o ∧ chkIns P N ops o x.2 = true := by
  intro x hx
  unfold chkP at hc
  rw [List.all_eq_true] at hc
  have := hc x hx
  split at this
  · rename_i o ho; exact ⟨o, ho, this⟩
  · cases this
 have hmi : ∀ x ∈ ns.zip l, x.2.mild = true := fun x hx => by
  rw [List.all_eq_true] at hmild
  exact hmild _ (List.of_mem_zip hx).2
 have hflp : (ns.zip l).Pairwise fun x y => (∀ i T T', x.2.fl = some (i, T) -> y.2.fl ≠ some (i, T')) ∧ (x.2.j.quiet = false -> x.2.fl = none -> y.2.fl = none) := by
  have := flOk_pw hfl
  rw [← hsnd, List.pairwise_map] at this
  exact this
 have hnone : ∀ i, (Array.replicate ops.size false).getD i false = false := by
  intro i
  rw [Array.getD_eq_getD_getElem?, Array.getElem?_replicate]
  split <;> rfl
 have hE := ext_same (S := S) (w' := S.w.drew) rfl rfl rfl rfl
 have hS' := sim_same hS (w' := S.w.drew) rfl rfl rfl rfl
 obtain ⟨F, rest', pend', Ha, f1, f2, f3, f4, f5, f8, f6, f7, g1, g2, g3, g4⟩ := xd_splitF (ns.zip l) [] env S.H hmi (hflp.imp fun h => h.1) (by rw [hsnd]; exact hx)
 have hFC : ∀ q ∈ F, (q.1, q.2.1) ∈ ns.zip l := fun q hq => by rw [f1]; exact List.mem_append_left _ (List.mem_map.2 ⟨q, hq, rfl⟩)
 have hr'C : ∀ y ∈ rest', y ∈ ns.zip l := fun y hy => by rw [f1]; exact List.mem_append_right _ hy
 have hfu : ∀ x ∈ ns.zip l, ∀ y ∈ ns.zip l, ∀ i T T', x.2.fl = some (i, T) -> y.2.fl = some (i, T') -> x.1 = y.1 := by
  intro x hx y hy i T T' h1 h2
  obtain ⟨k, hk⟩ := List.getElem?_of_mem hx
  obtain ⟨m, hm⟩ := List.getElem?_of_mem hy
  rw [List.pairwise_iff_getElem] at hflp
  have b1 := getElem?_lt hk
  have b2 := getElem?_lt hm
  rcases Nat.lt_trichotomy k m with h | h | h
  · have := (hflp k m b1 b2 h).1
    rw [List.getElem?_eq_getElem b1] at hk; cases hk
    rw [List.getElem?_eq_getElem b2] at hm; cases hm
    exact absurd h2 (this i T T' h1)
  · subst h; rw [hk] at hm; cases hm; rfl
  · have := (hflp m k b2 b1 h).1
    rw [List.getElem?_eq_getElem b1] at hk; cases hk
    rw [List.getElem?_eq_getElem b2] at hm; cases hm
    exact absurd h1 (this i T' T h2)
 have hpw1 := hpw0
 rw [f1, List.pairwise_append] at hpw1
 obtain ⟨hpF, hpr0, hpFr⟩ := hpw1
 -- behind the head none is filled
 have hrf : ∀ y ∈ rest', y.2.fl = none := by
  intro y hy
  rcases f2 with rfl | ⟨c, r, rfl, hcq, hcf⟩
  · simp at hy
  · rw [f1, List.pairwise_append] at hflp
    simp only [List.mem_cons] at hy
    rcases hy with rfl | hy
    · exact hcf
    · exact ((List.pairwise_cons.1 hflp.2.1).1 y hy).2 hcq hcf
 have hpr : rest'.Pairwise fun x y => (∀ d, y.2.d = some d -> d ∉ x.2.slots) ∧ (x.2.j.quiet = false -> beforeB (masks ops.toList []) x.1 y.1 = true) ∧ x.1 ≠ y.1 := by
  refine List.Pairwise.imp_of_mem ?_ hpr0
  intro x y hx hy h
  exact ⟨h.1, fun hq => h.2.1 (by rw [hq, hrf x hx]; rfl), h.2.2⟩
 have hFidx : ∀ (i k : Nat) (x y : QI), F[i]? = some x -> F[k]? = some y -> i < k -> (∀ d, y.2.1.d = some d -> d ∉ x.2.1.slots) ∧ x.1 ≠ y.1 := by
  intro i k x y hx hy hik
  rw [List.pairwise_map, List.pairwise_iff_getElem] at hpF
  have h1 := getElem?_lt hx
  have h2 := getElem?_lt hy
  have h3 := hpF i k h1 h2 hik
  rw [List.getElem?_eq_getElem h1] at hx; cases hx
  rw [List.getElem?_eq_getElem h2] at hy; cases hy
  exact ⟨h3.1, h3.2.2⟩
 have getF : ∀ (t : Nat), (∀ q ∈ F, q.2.1.d ≠ some t) -> (putAll env (F.map (·.2.1)) (F.map (·.2.2))).get t = env.get t := by
  intro t h
  refine putAll_not _ _ _ _ fun p hp => ?_
  obtain ⟨q, hq, rfl⟩ := List.mem_map.1 hp
  exact h q hq
 have getF1 : ∀ q ∈ F, ∀ d, q.2.1.d = some d -> (putAll env (F.map (·.2.1)) (F.map (·.2.2))).get d = q.2.2 := by
  intro q hq d hqd
  obtain ⟨k, hk⟩ := List.getElem?_of_mem hq
  refine putAll_one _ _ _ d k q.2.1 q.2.2 (by simp [hk]) (by simp [hk]) hqd ?_
  intro i p hik hp hpd
  simp only [List.getElem?_map, Option.map_eq_some_iff] at hp
  obtain ⟨y, hy, rfl⟩ := hp
  exact hd.uniq _ (hFC q hq) _ (hFC y (List.mem_of_getElem? hy)) (hFidx k i q y hk hy hik).2 d hqd hpd
 have hback : ∀ q ∈ F, ∀ k, F[k]? = some q -> ∀ t ∈ q.2.1.slots, (putAll env (F.map (·.2.1)) (F.map (·.2.2))).get t = (putAll env ((F.take k).map (·.2.1)) ((F.take k).map (·.2.2))).get t := by
  intro q hq k hk t ht
  by_cases hw : ∃ y ∈ F, y.2.1.d = some t
  · obtain ⟨y, hy, hyd⟩ := hw
    obtain ⟨i, hi⟩ := List.getElem?_of_mem hy
    have hik : i < k := by
     rcases Nat.lt_trichotomy i k with h | h | h
     · exact h
     · subst h; rw [hi] at hk; cases hk
       exact absurd ht (hd.self _ (hFC q hq) t hyd)
     · exact absurd ht ((hFidx k i q y hk hi h).1 t hyd)
    rw [getF1 y hy t hyd]
    refine (putAll_one _ _ _ t i y.2.1 y.2.2 ?_ ?_ hyd ?_).symm
    · simp only [List.getElem?_map, List.getElem?_take, if_pos hik, hi, Option.map_some]
    · simp only [List.getElem?_map, List.getElem?_take, if_pos hik, hi, Option.map_some]
    · intro m p him hp hpd
      simp only [List.getElem?_map, List.getElem?_take, Option.map_eq_some_iff] at hp
      obtain ⟨z, hz, rfl⟩ := hp
      split at hz
      · exact hd.uniq _ (hFC y hy) _ (hFC z (List.mem_of_getElem? hz)) (hFidx i m y z hi hz him).2 t hyd hpd
      · cases hz
  · have hw' : ∀ y ∈ F, y.2.1.d ≠ some t := fun y hy h => hw ⟨y, hy, h⟩
    rw [getF t hw']
    refine (putAll_not _ _ _ _ fun p hp => ?_).symm
    obtain ⟨z, hz, rfl⟩ := List.mem_map.1 hp
    exact hw' z (List.mem_of_mem_take hz)
 have hf2 : rest' = [] ∨ ∃ c r, rest' = c :: r ∧ c.2.j.quiet = false := by
  rcases f2 with h | ⟨c, r, h, h1, _⟩
  · exact .inl h
  · exact .inr ⟨c, r, h, h1⟩
 refine draw_mainF hd hchk hmi hfu ops.size (Array.replicate ops.size false) ⟨S.ρ, S.H, S.w.drew⟩ Ha a F (putAll env (F.map (·.2.1)) (F.map (·.2.2))) pend' rest' ?_ (by simp) ?_ hFC hr'C ?_ (fun r _ => hnone _) hpr hf2 hrf ?_ ?_ f3 getF1 ?_ ?_ f5 (fun p hp => by
  rcases f8 p hp with h | ⟨q, hq, h⟩
  · simp at h
  · exact ⟨q.1, by rw [h]; exact hFC q hq⟩)
  ?_ hE hS' ?_ hN hdf.drew f7
 · have h1 := List.length_filter_le (unl (Array.replicate ops.size false)) F
   have h2 : (ns.zip l).length = ops.size := by rw [List.length_zip]; omega
   rw [f1] at h2
   simp at h2; omega
 · intro j o hj
   simp only [hnone] at hj; cases hj
 · intro i hi _
   obtain ⟨x, hx, rfl⟩ := hd.cov i hi
   rw [f1, List.mem_append, List.mem_map] at hx
   rcases hx with ⟨q, hq, rfl⟩ | hx
   · exact .inl ⟨q, hq, rfl⟩
   · exact .inr ⟨x, hx, rfl⟩
 · intro q hq y hy
   have := hpFr (q.1, q.2.1) (List.mem_map.2 ⟨q, hq, rfl⟩) y hy
   exact ⟨this.1, this.2.2⟩
 · intro q hq q' hq' heq
   obtain ⟨i, hi⟩ := List.getElem?_of_mem hq
   obtain ⟨k, hk⟩ := List.getElem?_of_mem hq'
   rcases Nat.lt_trichotomy i k with h | h | h
   · exact absurd heq (hFidx i k q q' hi hk h).2
   · subst h; rw [hi] at hk; cases hk; rfl
   · exact absurd heq.symm (hFidx k i q' q hk hi h).2
 · intro q hq _ hqu
   obtain ⟨k, hk⟩ := List.getElem?_of_mem hq
   exact quietV_congr ((f6 k q hk).1 hqu) (hback q hq k hk)
 · intro q hq _ hfs
   obtain ⟨k, hk⟩ := List.getElem?_of_mem hq
   exact flV_congr ((f6 k q hk).2 hfs) (hback q hq k hk) (fun _ _ _ => rfl) hfs
 · refine ⟨g1.symm, ?_, ?_, ?_⟩
   · rintro i T ⟨q, hq, _, h⟩; exact (g3 q hq i T h).1
   · rintro i T ⟨q, hq, _, h⟩; exact (g3 q hq i T h).2
   · intro i hi
     exact (g2 i fun ⟨q, hq, T, h⟩ => hi ⟨T, q, hq, hnone _, h⟩).symm
 · refine (he.ext hE).congr fun t => ?_
   by_cases hw : ∃ y ∈ F, y.2.1.d = some t
   · left
     obtain ⟨y, hy, hyd⟩ := hw
     exact mask_any ⟨y, by rw [List.mem_filter]; exact ⟨hy, by simp only [unl, hnone]; rfl⟩, hyd⟩
   · right
     have hw' : ∀ y ∈ F, y.2.1.d ≠ some t := fun y hy h => hw ⟨y, hy, h⟩
     rw [mask_get (fun q hq => hw' q (List.mem_filter.1 hq).1), getF t hw']
end
def drawB (ops : Array Oper) (ns : List Nat) (l : List Ins) : Bool := drawB0 ops ns l || drawF ops ns l
theorem draw_ok {P : Program} (hm : P.follows .mixedOrders = true) : DOk P drawB where
 rs := by
  intro n ops m l h
  unfold drawB at h ⊢
  rw [Bool.or_eq_true] at h ⊢
  rcases h with h | h
  · left; rw [draw0_G] at h ⊢; exact drawG_rs n (fun o => quiet_rs n o) h
  · right; exact drawF_rs n h
 mixed := hm
 ok := by
  intro N ops m l env H K hc hd hx
  unfold drawB at hd
  rw [Bool.or_eq_true] at hd
  rcases hd with h | h
  · exact draw_ok0 N ops m l env H K hc h hx
  · exact draw_okF N ops m l env H K hc h hx
end Go.Ab
namespace Go.Ab
variable [GlobEnv] [FrEnv] [KnEnv]
def chkF (P : Program) (D : Array Oper -> List Nat -> List Ins -> Bool) (fn : Func) (i : IC) (rs : List RS) : Bool :=
 (match fn.body with | some c => chkC P fn.ntmps D c i | none => false) && !(fn.name == "runtime.NumGoroutine") && chkRes P fn.results.toList rs && decide (fn.params.size + fn.nfree ≤ fn.ntmps)
theorem ok_fn {P : Program} (hm : P.follows .mixedOrders = true) {f : FuncId} {fn : Func} {i : IC} {rs : List RS} (hf : P.funcs[f]? = some fn) (hc : chkF P drawB fn i rs = true)
 {args : List SV} {H : List AO} {out : Out} {H' : List AO} (hn : args.length = fn.params.size + fn.nfree)
 (hx : closed H -> X P fn.ntmps drawB i (argsEnv args) H (Fin H.length rs out H')) : Ok P f args H out H' := by
 unfold chkF at hc
 rw [Bool.and_eq_true, Bool.and_eq_true, Bool.and_eq_true] at hc
 obtain ⟨⟨⟨h1, h2⟩, h3⟩, h4⟩ := hc
 split at h1
 · rename_i c hb
   exact ok_of (draw_ok hm) hf hb (by simpa using h2) (by rw [hn]; simpa using h4) h1 h3 hx
 · cases h1
theorem okP_fn {P : Program} (hm : P.follows .mixedOrders = true) {f : FuncId} {fn : Func} {i : IC} {rs : List RS} (hf : P.funcs[f]? = some fn) (hc : chkF P drawB fn i rs = true)
 {args : List SV} {H : List AO} {Pt : Out -> List AO -> Prop} (hn : args.length = fn.params.size + fn.nfree)
 (hx : closed H -> X P fn.ntmps drawB i (argsEnv args) H (FinP H.length rs Pt)) : OkP P f args H Pt := by
 unfold chkF at hc
 rw [Bool.and_eq_true, Bool.and_eq_true, Bool.and_eq_true] at hc
 obtain ⟨⟨⟨h1, h2⟩, h3⟩, h4⟩ := hc
 split at h1
 · rename_i c hb
   exact okP_of (draw_ok hm) hf hb (by simpa using h2) (by rw [hn]; simpa using h4) h1 h3 hx
 · cases h1
theorem li_round {P : Program} (hm : P.follows .mixedOrders = true) {N : Nat} {i : IC} {env : Env} {H : List AO} {K : XE -> Env -> List AO -> Prop}
 (h : X P N drawB i env H fun x env H => match x with | .normal => LI P N drawB i env H K | x => K x env H) : LI P N drawB i env H K := LI.round (draw_ok hm) h
theorem isI_i64 (n : Int) : (i64 n).isI .i64 = true := rfl
theorem int_i64 (n : Int) : (i64 n).int = n := rfl
theorem isN_i64 (n : Int) : (i64 n).isN = true := rfl
theorem isB_bl (b : Bool) : (bl b).isB = true := rfl
theorem bool_bl (b : Bool) : (bl b).bool = b := rfl
theorem ug_i64 (n : Int) : (i64 n).ug = i64 n := rfl
theorem vd_i64 (n : Int) : (i64 n).vd = true := rfl
theorem ug_bl (b : Bool) : (bl b).ug = bl b := rfl
theorem vd_bl (b : Bool) : (bl b).vd = true := rfl
theorem wrap_id {n : Int} (h1 : -9223372036854775808 ≤ n) (h2 : n ≤ 9223372036854775807) : IntKind.i64.wrap n = n := by rw [IntKind.wrap_i64]; omega
theorem val_i64 (n : Int) : SV.val (.int .i64 n) = i64 n := rfl
theorem objCells_new (H L : List AO) (k ver : Nat) : objCells (H ++ L) (H.length + k) ver = objCells L k ver := by
 unfold objCells; rw [List.getElem?_append_right (by omega)]; simp
theorem objCells_new0 (H L : List AO) (ver : Nat) : objCells (H ++ L) H.length ver = objCells L 0 ver := objCells_new H L 0 ver
theorem setObj_new (H L : List AO) (k : Nat) (f : AO -> AO) : setObj (H ++ L) (H.length + k) f = H ++ setObj L k f := by
 unfold setObj
 rw [List.getElem?_append_right (by omega)]
 have : H.length + k - H.length = k := by omega
 rw [this]
 cases L[k]? with
 | none => rfl
 | some o => simp
theorem setObj_new0 (H L : List AO) (f : AO -> AO) : setObj (H ++ L) H.length f = H ++ setObj L 0 f := setObj_new H L 0 f
end Go.Ab
namespace Go.Ab
variable [GlobEnv] [FrEnv] [KnEnv]
theorem cv_keep {n0 : Nat} {H1 H0 L : List AO} {r : SV} (d : Nat) (ks : List Nat) (h : H1 = H0 ++ L) (hn : n0 ≤ H0.length) (hcl : closed H0) (hk : keptOk H0.length ks L d ks) :
 Cv n0 r H1 (r.fz H0.length ks L d) (H0 ++ keptO H0.length ks L d) := by
 intro S v hS hsim hv
 subst h
 exact ⟨_, (ext_kept hS hk).mono hn, sim_kept hsim hS hcl hk, fz_rel hsim hS hk d (Nat.le_refl _) r v hv⟩
theorem cv_none {n0 : Nat} {H1 H0 L : List AO} {r : SV} (d : Nat) (h : H1 = H0 ++ L) (hn : n0 ≤ H0.length) (hcl : closed H0) : Cv n0 r H1 (r.fz H0.length [] L d) H0 := by
 have := cv_keep (r := r) d [] h hn hcl trivial
 simpa [keptO] using this
end Go.Ab
namespace Go.Ab
variable [GlobEnv] [FrEnv] [KnEnv]
section
variable {P : Program} {N : Nat}
def Env.puts (e : Env) : List Nat -> List SV -> Env
 | p :: ps, v :: vs => Env.puts ((p, v) :: e) ps vs
 | _, _ => e
theorem Env.puts_rel {S : St} : ∀ (ps : List Nat) (l : List SV) (vs : List Value) (e : Env) (tmps : Array Value), EnvR S e tmps -> VRs S l vs -> (∀ p ∈ ps, p < tmps.size) →
 EnvR S (e.puts ps l) ((ps.zip vs).foldl (fun t (x : Nat × Value) => t.setIfInBounds x.1 x.2) tmps)
 | [], _, _, e, tmps, h, _, _ => by simpa [Env.puts] using h
 | p :: ps, [], vs, e, tmps, h, hv, _ => by
  have : vs = [] := List.eq_nil_of_length_eq_zero (by simpa using hv.1)
  subst this; simpa [Env.puts] using h
 | p :: ps, v :: l, [], e, tmps, h, hv, _ => by have := hv.1; simp at this
 | p :: ps, v :: l, u :: vs, e, tmps, h, hv, hp => by
  simp only [Env.puts, List.zip_cons_cons, List.foldl_cons]
  have h1 : VR S v u := hv.2 0 v u rfl rfl
  have h2 : VRs S l vs := ⟨by simpa using hv.1, fun j s w h3 h4 => hv.2 (j + 1) s w (by simpa using h3) (by simpa using h4)⟩
  refine Env.puts_rel ps l vs _ _ ?_ h2 (fun q hq => by simpa using hp q (by simp [hq]))
  have h3 := EnvR.put (a := ⟨tmps, []⟩) (d := some p) (v := u) (s := v) h (fun t ht => by cases ht; exact hp p (by simp)) h1
  simpa [Env.put, Act.put] using h3
theorem Env.of_vals {S : St} {e : Env} {N : Nat} {tmps : Array Value} (h : VRs S (e.vals N) tmps.toList) (he : (e.all fun p => decide (p.1 < N)) = true) : EnvR S e tmps := by
 refine ⟨fun t => ?_⟩
 have hN : tmps.size = N := by have := h.1; simpa [Env.vals] using this
 by_cases ht : t < N
 · have h1 : (e.vals N)[t]? = some (e.get t) := by simp [Env.vals, List.getElem?_range ht]
   obtain ⟨u, h2, h3⟩ := h.get h1
   rw [Array.getD_eq_getD_getElem?]
   have : tmps[t]? = some u := by simpa using h2
   rw [this]; exact h3
 · have : e.get t = .any := by
    clear h
    induction e with
    | nil => rfl
    | cons p r ih =>
     simp only [List.all_cons, Bool.and_eq_true, decide_eq_true_eq] at he
     simp only [Env.get]
     rw [if_neg (by omega)]
     exact ih he.2
   rw [this]; exact .any _
def FinR (P : Program) (N kk : Nat) (ps : List Nat) (ia ib : IC) (i n0 : Nat) (Pt : Out -> List AO -> Prop) (x : XE) (_ : Env) (H : List AO) : Prop :=
 ∃ cs, H[i]? = some (lpo P N drawB kk ps ia ib cs .busy) ∧ ∃ (st : LSt) (b : Bool) (H' : List AO),
  (match x with
   | .normal => st = .ready ∧ b = true
   | .exit id => st = .exit id ∧ b = false
   | .goto l => st = .goto l ∧ b = false
   | .ret => st = .ret ∧ b = false
   | .panic _ => False) ∧ Pt (.ret (bl b)) H' ∧ Cv n0 (bl b) (H.set i (lpo P N drawB kk ps ia ib cs st)) (bl b) H'
theorem lp_eq {l l' : Nat} {S S' : St} {i : Nat} {o o' : AO} (he : Ext S.H.length S S') (ho : S.H[i]? = some o) (ho' : S'.H[i]? = some o') (hv : o.ver = o'.ver) (h : S.ρ i = some l) (h' : S'.ρ i = some l') : l' = l := by
 obtain ⟨o1, g1, g2, g3⟩ := he.obj i o (getElem?_lt ho) ho
 rw [ho'] at g1; cases g1
 have := g3 hv
 rw [h, h'] at this
 exact Option.some.inj this
theorem yl_ok0 (hm : P.follows .mixedOrders = true) {i kk : Nat} {ps : List Nat} {ia ib : IC} {env : Env} {args : List SV} {H : List AO} {Pt : Out -> List AO -> Prop}
 {cs0 : List SV} (ho : H[i]? = some (lpo P N drawB kk ps ia ib cs0 .ready)) (he : ∀ (S : St) (tmps : Array Value), VRs S cs0 tmps.toList -> EnvR S env tmps) (hp : (ps.all fun p => decide (p < N)) = true) (hl : args.length = ps.length)
 (hx : closed H -> X P N drawB ia (env.puts ps args) H fun x env1 H1 => x = .normal ∧ ∃ cs, H1[i]? = some (lpo P N drawB kk ps ia ib cs .ready) ∧ X P N drawB ib env1 (H1.set i (lpo P N drawB kk ps ia ib cs .busy)) (FinR P N kk ps ia ib i H.length Pt)) :
 YlP P i args H Pt := by
 refine ⟨⟨_, ho, rfl⟩, ?_⟩
 intro S vs l hH hS hvs hρ
 subst hH
 obtain ⟨l', r, h1, h2, ⟨k1, k2, k3, k4⟩, h4, h5⟩ := hS.loop ho
 rw [hρ] at h1; cases h1
 have hps : r.params.size = ps.length := by rw [← k1]; simp
 have hlen : vs.length = args.length := hvs.1
 refine ⟨r, h2, by omega, ?_⟩
 have htm : (r.params.zip vs.toArray).foldl (fun tmps (x : Nat × Value) => tmps.setIfInBounds x.1 x.2) r.tmps = (ps.zip vs).foldl (fun t (x : Nat × Value) => t.setIfInBounds x.1 x.2) r.tmps := by
  rw [← Array.foldl_toList, Array.toList_zip, k1]
 have hall : ∀ p ∈ ps, p < r.tmps.size := fun p hpp => by rw [List.all_eq_true] at hp; rw [k2]; simpa using hp p hpp
 have henv := Env.puts_rel ps args vs env r.tmps (he S r.tmps h5) hvs hall
 have hsz : ∀ (l : List (Nat × Value)) (t : Array Value), (l.foldl (fun t (x : Nat × Value) => t.setIfInBounds x.1 x.2) t).size = t.size := by
  intro l
  induction l with
  | nil => intro t; rfl
  | cons x l ih => intro t; simp only [List.foldl_cons]; rw [ih]; simp
 have hdb : (⟨S.w.heap.size, [], some l⟩ : DB).Ok S.w [] := ⟨Nat.le_refl _, ⟨[], rfl, List.nodup_nil, fun D hD => by simp at hD⟩, fun l' hl' => by cases hl'; exact ⟨r, h2⟩⟩
 have hW := X_sound (draw_ok hm) ia k3 (hx hS.closed) ⟨S.w.heap.size, [], some l⟩ S ⟨(ps.zip vs).foldl (fun t (x : Nat × Value) => t.setIfInBounds x.1 x.2) r.tmps, []⟩ rfl hS henv (by simp only; rw [hsz]; exact k2) hdb
 refine roundIn_of_wpIn (F := Fr none) trivial ?_
 rw [show (fun tmps (x : Nat × Value) => tmps.setIfInBounds x.1 x.2) = (fun (t : Array Value) (x : Nat × Value) => t.setIfInBounds x.1 x.2) from rfl] at htm
 rw [show ((r.params.zip vs.toArray).foldl (fun tmps (t, a) => tmps.setIfInBounds t a) r.tmps) = (ps.zip vs).foldl (fun t (x : Nat × Value) => t.setIfInBounds x.1 x.2) r.tmps from htm]
 refine wpIn_mono hW ?_
 rintro e a1 w1 ⟨x1, env1, ρ1, H1, g1, g2, g3, g4, g5, g6, rfl, cs, g7, g8⟩
 cases e <;> simp only [ER] at g1
 obtain ⟨l1, r1, j1, j2, j3, j4, j5⟩ := g3.loop g7
 have hl1 : l1 = l := lp_eq g2 ho g7 rfl hρ j1
 subst hl1
 have hbr := run_beginRound (P := P) j2 j4.1
 obtain ⟨e2, s2⟩ := turn_lp g3 (o' := lpo P N drawB kk ps ia ib cs .busy) (r' := { r1 with state := .busy }) g7 rfl (by simp [lpo]) j1 j2 rfl (Nat.le_refl _) (.inr ⟨kk, _, .busy, cs, rfl, j3, rfl, j5⟩)
 simp only at hbr e2 s2 j2
 refine ⟨_, hbr, ?_⟩
 have hW2 := X_sound (draw_ok hm) ib k4 g8 ⟨S.w.heap.size, [], some l1⟩ ⟨ρ1, H1.set i (lpo P N drawB kk ps ia ib cs .busy), w1.putObj l1 (.loop { r1 with state := .busy })⟩ a1 rfl s2 (g4.ext e2) g5 (g6.ext g3 e2)
 refine wpIn_mono hW2 ?_
 rintro e a3 w3 ⟨x3, env3, ρ3, H3, m1, m2, m3, m4, m5, m6, cs3, m7, st, b, H', m8, m9, m10⟩
 obtain ⟨l3, r3, q1, q2, q3, q4, q5⟩ := m3.loop m7
 have hat2 : (⟨ρ1, H1.set i (lpo P N drawB kk ps ia ib cs .busy), w1.putObj l1 (.loop { r1 with state := .busy })⟩ : St).H[i]? = some (lpo P N drawB kk ps ia ib cs .busy) := List.getElem?_set_self (getElem?_lt g7)
 have hl3 : l3 = l1 := lp_eq m2 hat2 m7 rfl (show ρ1 i = some l1 from j1) q1
 subst hl3
 have fin : ∀ (jump : Option Code) (x : LoopState) (hx : x = (if jump.isNone then .ready else .done)), jump.isNone = b -> LpSt { r3 with state := x, pending := jump } st →
  ∃ v w', (Instr.endRound l3 jump).run P w3 = .ok v w' ∧ ∃ (out : Out) (H' : List AO) (v' : Value) (ρ' : Nat -> Option Nat), Pt out H' ∧ Ext S.H.length S ⟨ρ', H', w'⟩ ∧ Sim ⟨ρ', H', w'⟩ ∧
   match out with
   | .ret r => Ending.returned v = .returned v' ∧ VR ⟨ρ', H', w'⟩ r v'
   | .pan x => Ending.returned v = .panicked [{ v := v', recovered := false }] ∧ VR ⟨ρ', H', w'⟩ x v' := by
  intro jump x hx hj hst
  have hend := run_endRound (P := P) jump q2
  rw [← hx, hj] at hend
  obtain ⟨e4, s4⟩ := turn_lp m3 (o' := lpo P N drawB kk ps ia ib cs3 st) (r' := { r3 with state := x, pending := jump }) m7 rfl (by simp [lpo]) q1 q2 rfl (Nat.le_refl _) (.inr ⟨kk, _, st, cs3, rfl, q3, hst, q5⟩)
  obtain ⟨ρ', c1, c2, c3⟩ := m10 _ (.bool b) rfl s4 (.val _)
  refine ⟨_, _, hend, .ret (bl b), H', .bool b, ρ', m9, ?_, c2, rfl, c3⟩
  exact (g2.trans ((e2.trans ((m2.trans (e4.mono (m2.len (Nat.le_refl _)))).mono (e2.len (Nat.le_refl _)))).mono (g2.len (Nat.le_refl _)))).trans c1
 cases x3 <;> cases e <;> simp only [ER] at m1
 · obtain ⟨rfl, rfl⟩ := m8; exact fin none .ready rfl rfl ⟨rfl, rfl⟩
 · subst m1; obtain ⟨rfl, rfl⟩ := m8; exact fin (some (.exit _)) .done rfl rfl ⟨rfl, rfl⟩
 · subst m1; obtain ⟨rfl, rfl⟩ := m8; exact fin (some (.goto _)) .done rfl rfl ⟨rfl, rfl⟩
 · obtain ⟨rfl, rfl⟩ := m8; exact fin (some .ret) .done rfl rfl ⟨rfl, rfl⟩
 · exact m8.elim
theorem yl_ok (hm : P.follows .mixedOrders = true) {i kk : Nat} {ps : List Nat} {ia ib : IC} {env : Env} {args : List SV} {H : List AO} {Pt : Out -> List AO -> Prop}
 (ho : H[i]? = some (lpo P N drawB kk ps ia ib (env.vals N) .ready)) (he : (env.all fun p => decide (p.1 < N)) = true) (hp : (ps.all fun p => decide (p < N)) = true) (hl : args.length = ps.length)
 (hx : closed H -> X P N drawB ia (env.puts ps args) H fun x env1 H1 => x = .normal ∧ ∃ cs, H1[i]? = some (lpo P N drawB kk ps ia ib cs .ready) ∧ X P N drawB ib env1 (H1.set i (lpo P N drawB kk ps ia ib cs .busy)) (FinR P N kk ps ia ib i H.length Pt)) :
 YlP P i args H Pt := yl_ok0 hm ho (fun S tmps h => Env.of_vals h he) hp hl hx
end
end Go.Ab
namespace Go.Ab
variable [GlobEnv] [FrEnv] [KnEnv]
def Ev {α : Type} (v : α) : α := v
@[simp] theorem Ev_eq {α : Type} (v : α) : Ev v = v := Eq.trans rfl rfl
theorem Ev_to {α : Type} {v w : α} (h : Ev v = w) : v = w := h
def Kn (K : XE -> Env -> List AO -> Prop) (x : XE) (env : Env) (d : Option Nat) (v : SV) (H : List AO) : Prop := K x (env.put d v) H
@[congr] theorem Kn_congr {K : XE -> Env -> List AO -> Prop} {x : XE} {env : Env} {d : Option Nat} {v v' : SV} {H H' : List AO} (h1 : Ev v = v') (h2 : Ev H = H') : Kn K x env d v H = Kn K x env d v' H' := by rw [Ev_to h1, Ev_to h2]
@[simp] theorem Kn_some (K : XE -> Env -> List AO -> Prop) (x : XE) (env : Env) (d : Nat) (v : SV) (H : List AO) : Kn K x env (some d) v H = K x ((d, v) :: env) H := rfl
@[simp] theorem Kn_none (K : XE -> Env -> List AO -> Prop) (x : XE) (env : Env) (v : SV) (H : List AO) : Kn K x env none v H = K x env H := rfl
def Ke (K : SV -> List AO -> Prop) (v : SV) (H : List AO) : Prop := K v H
@[congr] theorem Ke_congr {K : SV -> List AO -> Prop} {v v' : SV} {H H' : List AO} (h1 : Ev v = v') (h2 : Ev H = H') : Ke K v H = Ke K v' H' := by rw [Ev_to h1, Ev_to h2]
@[simp] theorem Ke_go (K : SV -> List AO -> Prop) (v : SV) (H : List AO) : Ke K v H = K v H := rfl
section
variable {P : Program} {N : Nat} {D : Array Oper -> List Nat -> List Ins -> Bool}
@[simp ↓] theorem X_skip (env : Env) (H : List AO) (K : XE -> Env -> List AO -> Prop) : X P N D .skip env H K = K .normal env H := rfl
@[simp ↓] theorem X_reg (l : List Ins) (env : Env) (H : List AO) (K : XE -> Env -> List AO -> Prop) : X P N D (.reg l) env H K = xops P l env H K := rfl
@[simp ↓] theorem X_drw (m : List Nat) (l : List Ins) (env : Env) (H : List AO) (K : XE -> Env -> List AO -> Prop) : X P N D (.drw m l) env H K = xd P [] l env H fun x e H' =>
 match x with
 | .normal => K .normal e H'
 | x => K x (offE l env) H' := rfl
@[simp] theorem offE_nil (e : Env) : offE [] e = e := rfl
@[simp] theorem offE_cons (i : Ins) (r : List Ins) (e : Env) : offE (i :: r) e = (offE r e).put i.d .any := rfl
@[simp ↓] theorem X_drt (n0 : Nat) (m : List Nat) (l tl : List Ins) (env : Env) (H : List AO) (K : XE -> Env -> List AO -> Prop) : X P N D (.drt n0 m l tl) env H K = xd P [] l env H fun x env H =>
 match x with
 | .normal => xops P tl env H K
 | x => K x env H := rfl
@[simp ↓] theorem X_dre (os : List (List Nat)) (l : List Ins) (env : Env) (H : List AO) (K : XE -> Env -> List AO -> Prop) : X P N D (.dre os l) env H K = xre P l os env H fun x e H => K x (e.keep (dreK l env)) H := rfl
@[simp ↓] theorem xre_nil (l : List Ins) (env : Env) (H : List AO) (K : XE -> Env -> List AO -> Prop) : xre P l [] env H K = True := rfl
@[simp ↓] theorem xre_cons (l : List Ins) (o : List Nat) (os : List (List Nat)) (env : Env) (H : List AO) (K : XE -> Env -> List AO -> Prop) : xre P l (o :: os) env H K = (xops P (pickI l o) env H K ∧ xre P l os env H K) := rfl
@[simp ↓] theorem pickI_nil (l : List Ins) : pickI l [] = [] := rfl
@[simp ↓] theorem X_seq (a b : IC) (env : Env) (H : List AO) (K : XE -> Env -> List AO -> Prop) : X P N D (.seq a b) env H K = X P N D a env H fun x env H =>
 match x with
 | .normal => X P N D b env H K
 | x => K x env H := rfl
@[simp ↓] theorem X_blk (id : Nat) (a : IC) (env : Env) (H : List AO) (K : XE -> Env -> List AO -> Prop) : X P N D (.blk id a) env H K = X P N D a env H fun x env H =>
 match x with
 | .exit i => if i = id then K .normal env H else K (.exit i) env H
 | x => K x env H := rfl
@[simp ↓] theorem X_scp (a : IC) (env : Env) (H : List AO) (K : XE -> Env -> List AO -> Prop) : X P N D (.scp a) env H K = X P N D a env H fun x env H =>
 match x with
 | .goto _ => False
 | x => K x env H := rfl
@[simp ↓] theorem X_lab (env : Env) (H : List AO) (K : XE -> Env -> List AO -> Prop) : X P N D .lab env H K = K .normal env H := rfl
@[simp ↓] theorem X_exit (id : Nat) (env : Env) (H : List AO) (K : XE -> Env -> List AO -> Prop) : X P N D (.exit id) env H K = K (.exit id) env H := rfl
@[simp ↓] theorem X_ret (env : Env) (H : List AO) (K : XE -> Env -> List AO -> Prop) : X P N D .ret env H K = K .ret env H := rfl
@[simp ↓] theorem X_keep (ks : List Nat) (a : IC) (env : Env) (H : List AO) (K : XE -> Env -> List AO -> Prop) : X P N D (.keep ks a) env H K = X P N D a (env.keep ks) H K := rfl
def sCond (c : SV) (a b : Prop) : Prop := c.isB = true ∧ if c.bool = true then a else b
@[congr] theorem sCond_congr {c c' : SV} {a b : Prop} (h : Ev c = c') : sCond c a b = sCond c' a b := by rw [Ev_to h]
@[simp] theorem sCond_go (c : SV) (a b : Prop) : sCond c a b = (c.isB = true ∧ if c.bool = true then a else b) := rfl
@[simp ↓] theorem X_cond (c : Od) (a b : IC) (env : Env) (H : List AO) (K : XE -> Env -> List AO -> Prop) : X P N D (.cond c a b) env H K = sCond (env.ev c) (X P N D a env H K) (X P N D b env H K) := by
 apply propext
 simp only [X, sCond]
 cases (env.ev c).bool <;> simp
def Lp (P : Program) (N : Nat) (D : Array Oper -> List Nat -> List Ins -> Bool) (i : IC) (env : Env) (H : List AO) (K : XE -> Env -> List AO -> Prop) : Prop := LI P N D i env H K
@[congr] theorem Lp_congr {i : IC} {env env' : Env} {H H' : List AO} {K : XE -> Env -> List AO -> Prop} (h : Ev env = env') (h2 : Ev H = H') : Lp P N D i env H K = Lp P N D i env' H' K := by rw [Ev_to h, Ev_to h2]
@[simp ↓] theorem X_loop (i : IC) (env : Env) (H : List AO) (K : XE -> Env -> List AO -> Prop) : X P N D (.loop i) env H K = Lp P N D i env H K := rfl
@[simp ↓] theorem xops_nil (env : Env) (H : List AO) (K : XE -> Env -> List AO -> Prop) : xops P [] env H K = K .normal env H := rfl
@[simp ↓] theorem xops_cons (o : Ins) (r : List Ins) (env : Env) (H : List AO) (K : XE -> Env -> List AO -> Prop) : xops P (o :: r) env H K = xo P o env H fun x env H =>
 match x with
 | .normal => xops P r env H K
 | x => K x env H := rfl
def CallTo (P : Program) (f : SV) (args : List SV) (H : List AO) (K : Out -> List AO -> Prop) : Prop := ∃ Pt : Out -> List AO -> Prop, OkCP P f args H Pt ∧ ∀ out H', Pt out H' -> K out H'
@[congr] theorem CallTo_congr {f f' : SV} {args args' : List SV} {H H' : List AO} {K : Out -> List AO -> Prop} (h1 : Ev f = f') (h2 : Ev args = args') (h3 : Ev H = H') : CallTo P f args H K = CallTo P f' args' H' K := by rw [Ev_to h1, Ev_to h2, Ev_to h3]
theorem call_of {k : FuncId} {a b args : List SV} {H H' : List AO} {out : Out} {K : Out -> List AO -> Prop} (h : Ok P k (a ++ args ++ b) H out H') (hk : K out H') : CallTo P (.fn (.func k) a b) args H K :=
 ⟨_, ⟨rfl, h.toP⟩, fun o h' hp => by obtain ⟨rfl, rfl⟩ := hp; exact hk⟩
theorem call_ofP {k : FuncId} {a b args : List SV} {H : List AO} {Pt : Out -> List AO -> Prop} {K : Out -> List AO -> Prop} (h : OkP P k (a ++ args ++ b) H Pt) (hk : ∀ out H', Pt out H' -> K out H') : CallTo P (.fn (.func k) a b) args H K :=
 ⟨_, ⟨rfl, h⟩, hk⟩
theorem call_goP {k : FuncId} {args : List SV} {H : List AO} {Pt : Out -> List AO -> Prop} {K : Out -> List AO -> Prop} (h : OkP P k args H Pt) (hk : ∀ out H', Pt out H' -> K out H') : CallTo P (.fn (.func k) [] []) args H K :=
 call_ofP (by simpa using h) hk
theorem call_cP {f : SV} {args : List SV} {H : List AO} {Pt : Out -> List AO -> Prop} {K : Out -> List AO -> Prop} (h : OkCP P f args H Pt) (hk : ∀ out H', Pt out H' -> K out H') : CallTo P f args H K := ⟨_, h, hk⟩
theorem okCP_of {k : FuncId} {a b args : List SV} {H : List AO} {Pt : Out -> List AO -> Prop} (h : OkP P k (a ++ args ++ b) H Pt) : OkCP P (.fn (.func k) a b) args H Pt := ⟨rfl, h⟩
theorem call_go {k : FuncId} {args : List SV} {H H' : List AO} {out : Out} {K : Out -> List AO -> Prop} (h : Ok P k args H out H') (hk : K out H') : CallTo P (.fn (.func k) [] []) args H K :=
 call_of (by simpa using h) hk
def CallQ (P : Program) (on : Bool) (f : SV) (args : List SV) (H : List AO) (K : SV -> Prop) : Prop := ∃ r, (on = true -> OkC P f args H (.ret r) H) ∧ K r
@[congr] theorem CallQ_congr {on on' : Bool} {f f' : SV} {args args' : List SV} {H H' : List AO} {K : SV -> Prop} (h0 : Ev on = on') (h1 : Ev f = f') (h2 : Ev args = args') (h3 : Ev H = H') : CallQ P on f args H K = CallQ P on' f' args' H' K := by rw [Ev_to h0, Ev_to h1, Ev_to h2, Ev_to h3]
theorem callq_of {on : Bool} {k : FuncId} {a b args : List SV} {H : List AO} {r : SV} {K : SV -> Prop} (h : on = true -> Ok P k (a ++ args ++ b) H (.ret r) H) (hk : K r) : CallQ P on (.fn (.func k) a b) args H K :=
 ⟨r, fun ho => ⟨rfl, h ho⟩, hk⟩
theorem callq_go {on : Bool} {k : FuncId} {args : List SV} {H : List AO} {r : SV} {K : SV -> Prop} (h : on = true -> Ok P k args H (.ret r) H) (hk : K r) : CallQ P on (.fn (.func k) [] []) args H K :=
 callq_of (by simpa using h) hk
theorem callq_off (f : SV) (args : List SV) (H : List AO) (K : SV -> Prop) (h : K .any) : CallQ P false f args H K := ⟨.any, fun h => by simp at h, h⟩
theorem okC_go {k : FuncId} {args : List SV} {H H' : List AO} {out : Out} (h : Ok P k args H out H') : OkC P (.fn (.func k) [] []) args H out H' := ⟨rfl, by show Ok P k ([] ++ args ++ []) H out H'; simpa using h⟩
@[simp ↓] theorem xo_p (d : Option Nat) (i : I) (env : Env) (H : List AO) (K : XE -> Env -> List AO -> Prop) : xo P ⟨d, none, .p i⟩ env H K = ((pv i env.ev H).1 ∧ Kn K .normal env d (pv i env.ev H).2 H) := rfl
@[simp ↓] theorem xo_call (d : Option Nat) (f : Od) (args : List Od) (env : Env) (H : List AO) (K : XE -> Env -> List AO -> Prop) : xo P ⟨d, none, .e (.call f args)⟩ env H K = CallTo P (env.ev f) (args.map env.ev) H fun out H' =>
     match out with
     | .ret r => K .normal (env.put d r) H'
     | .pan x => K (.panic x) env H' := rfl
def sOn (c : SV) (want : Bool) (F : Bool -> Prop) : Prop := c.bish = true ∧ F (c.on want)
@[congr] theorem sOn_congr {c c' : SV} {want : Bool} {F : Bool -> Prop} (h : Ev c = c') : sOn c want F = sOn c' want F := by rw [Ev_to h]
def sGo (b : Bool) (F : Bool -> Prop) : Prop := F b
@[congr] theorem sGo_congr {b b' : Bool} {F : Bool -> Prop} (h : Ev b = b') : sGo b F = sGo b' F := by rw [Ev_to h]
@[simp] theorem sGo_go (b : Bool) (F : Bool -> Prop) : sGo b F = F b := rfl
@[simp] theorem sOn_go (c : SV) (want : Bool) (F : Bool -> Prop) : sOn c want F = (c.bish = true ∧ sGo (c.on want) F) := rfl
@[simp ↓] theorem xo_gp (d : Option Nat) (s : Nat) (want : Bool) (i : I) (env : Env) (H : List AO) (K : XE -> Env -> List AO -> Prop) : xo P ⟨d, some (s, want), .p i⟩ env H K = sOn (env.get s) want fun b => (b = true -> (pv i env.ev H).1) ∧ Kn K .normal env d (.gd b (pv i env.ev H).2) H := rfl
@[simp ↓] theorem xo_gq (d : Option Nat) (s : Nat) (want : Bool) (f : Od) (args : List Od) (env : Env) (H : List AO) (K : XE -> Env -> List AO -> Prop) : xo P ⟨d, some (s, want), .q f args⟩ env H K = sOn (env.get s) want fun b => CallQ P b (env.ev f) (args.map env.ev) H fun r => K .normal (env.put d (.gd b r)) H := rfl
@[simp ↓] theorem xo_ge (d : Option Nat) (s : Nat) (want : Bool) (i : E) (env : Env) (H : List AO) (K : XE -> Env -> List AO -> Prop) : xo P ⟨d, some (s, want), .e i⟩ env H K = sOn (env.get s) want fun b => if b = true then xo P ⟨d, none, .e i⟩ env H K else K .normal (env.put d (.val undef)) H := by
 apply propext
 simp only [xo, sOn, xj]
 cases (env.get s).on want <;> simp
def xdn (P : Program) (pend : List (Ins × SV)) (o : Ins) (v : SV) (r : List Ins) (env : Env) (H : List AO) (K : XE -> Env -> List AO -> Prop) : Prop := xd P ((o, v) :: pend) r (env.put o.d v) H K
@[congr] theorem xdn_congr {pend : List (Ins × SV)} {o : Ins} {v v' : SV} {r : List Ins} {env : Env} {H : List AO} {K : XE -> Env -> List AO -> Prop} (h : Ev v = v') : xdn P pend o v r env H K = xdn P pend o v' r env H K := by rw [Ev_to h]
@[simp ↓] theorem xd_nil (pend : List (Ins × SV)) (env : Env) (H : List AO) (K : XE -> Env -> List AO -> Prop) : xd P pend [] env H K = K .normal env H := rfl
@[simp ↓] theorem xd_p (pend : List (Ins × SV)) (d : Option Nat) (i : I) (r : List Ins) (env : Env) (H : List AO) (K : XE -> Env -> List AO -> Prop) : xd P pend (⟨d, none, .p i⟩ :: r) env H K = ((pv i env.ev H).1 ∧ xdn P pend ⟨d, none, .p i⟩ (pv i env.ev H).2 r env H K) := rfl
@[simp ↓] theorem xd_q (pend : List (Ins × SV)) (d : Option Nat) (f : Od) (args : List Od) (r : List Ins) (env : Env) (H : List AO) (K : XE -> Env -> List AO -> Prop) : xd P pend (⟨d, none, .q f args⟩ :: r) env H K = CallQ P true (env.ev f) (args.map env.ev) H fun v => xd P ((⟨d, none, .q f args⟩, v) :: pend) r (env.put d v) H K := by
 simp only [CallQ, true_implies]; rfl
@[simp ↓] theorem xd_gp (pend : List (Ins × SV)) (d : Option Nat) (s : Nat) (want : Bool) (i : I) (r : List Ins) (env : Env) (H : List AO) (K : XE -> Env -> List AO -> Prop) : xd P pend (⟨d, some (s, want), .p i⟩ :: r) env H K = sOn (env.get s) want fun b => (b = true -> (pv i env.ev H).1) ∧ xdn P pend ⟨d, some (s, want), .p i⟩ (.gd b (pv i env.ev H).2) r env H K := rfl
@[simp ↓] theorem xd_gq (pend : List (Ins × SV)) (d : Option Nat) (s : Nat) (want : Bool) (f : Od) (args : List Od) (r : List Ins) (env : Env) (H : List AO) (K : XE -> Env -> List AO -> Prop) : xd P pend (⟨d, some (s, want), .q f args⟩ :: r) env H K = sOn (env.get s) want fun b => CallQ P b (env.ev f) (args.map env.ev) H fun v => xd P ((⟨d, some (s, want), .q f args⟩, .gd b v) :: pend) r (env.put d (.gd b v)) H K := rfl
def owed (P : Program) (env : Env) (H : List AO) : List (Ins × SV) -> Prop
 | [] => True
 | p :: r => quietV P p.1 env H p.2 ∧ owed P env H r
theorem owed_eq (env : Env) (H : List AO) : ∀ l, owed P env H l = ∀ p ∈ l, quietV P p.1 env H p.2
 | [] => by simp [owed]
 | p :: r => by simp only [owed, owed_eq env H r, List.forall_mem_cons]
attribute [simp] loose needed hasD Ins.slots J.slots I.ods E.ods Od.slots
@[simp] theorem owed_nil (env : Env) (H : List AO) : owed P env H [] = True := rfl
@[simp] theorem owed_cons (env : Env) (H : List AO) (o : Ins) (v : SV) (r : List (Ins × SV)) : owed P env H ((o, v) :: r) = (quietV P o env H v ∧ owed P env H r) := rfl
@[simp ↓] theorem xd_e (pend : List (Ins × SV)) (d : Option Nat) (g : Option (Nat × Bool)) (i : E) (r : List Ins) (env : Env) (H : List AO) (K : XE -> Env -> List AO -> Prop) : xd P pend (⟨d, g, .e i⟩ :: r) env H K = xo P ⟨d, g, .e i⟩ env H fun x env' H' =>
     match x with
     | .normal => owed P env' H' (pend.filter fun p => loose ⟨d, g, .e i⟩ pend p.1) ∧ xd P pend r env' H' K
     | x => K x [] H' := by
 rw [xd, if_neg (by simp [J.quiet])]
 congr 1
 funext x env' H'
 cases x <;> try rfl
 simp only [owed_eq, List.mem_filter, and_imp]
@[simp ↓] theorem quietV_p (d : Option Nat) (i : I) (env : Env) (H : List AO) (v : SV) : quietV P ⟨d, none, .p i⟩ env H v = ((pv i env.ev H).1 ∧ v = (pv i env.ev H).2) := rfl
@[simp ↓] theorem quietV_q (d : Option Nat) (f : Od) (args : List Od) (env : Env) (H : List AO) (v : SV) : quietV P ⟨d, none, .q f args⟩ env H v = OkC P (env.ev f) (args.map env.ev) H (.ret v) H := rfl
@[simp ↓] theorem quietV_gp (d : Option Nat) (s : Nat) (want : Bool) (i : I) (env : Env) (H : List AO) (v : SV) : quietV P ⟨d, some (s, want), .p i⟩ env H v = sOn (env.get s) want fun b => (b = true -> (pv i env.ev H).1) ∧ v = .gd b (pv i env.ev H).2 := rfl
@[simp] theorem dep_p (i : I) : J.dep (.p i) = (match i with | .ld1 _ | .ldn _ _ | .sla _ _ _ _ _ | .lkp _ _ _ _ _ | .bys _ => true | _ => false) := by cases i <;> rfl
@[simp] theorem xdn_go (pend : List (Ins × SV)) (o : Ins) (v : SV) (r : List Ins) (env : Env) (H : List AO) (K : XE -> Env -> List AO -> Prop) : xdn P pend o v r env H K = xd P ((o, v) :: pend) r (env.put o.d v) H K := rfl
def s_alc (T : TypeId) (z : List SV) (H : List AO) (K : SV -> List AO -> Prop) : Prop := K (.ptr (.own H.length 0 0 0 0) 0) (H ++ [⟨z, T, 0, true⟩])
@[congr] theorem s_alc_congr {T : TypeId} {z : List SV} {H H' : List AO} {K : SV -> List AO -> Prop} (h9 : Ev H = H') : s_alc T z H K = s_alc T z H' K := by rw [Ev_to h9]
@[simp ↓] theorem xo_alc (d : Option Nat) (T : TypeId) (z : List SV) (env : Env) (H : List AO) (K : XE -> Env -> List AO -> Prop) : xo P ⟨d, none, .e (.alc T z)⟩ env H K = s_alc T z H fun v H' => K .normal (env.put d v) H' := rfl
@[simp] theorem s_alc_go (T : TypeId) (z : List SV) (H : List AO) (K : SV -> List AO -> Prop) : s_alc T z H K = (Ke K (.ptr (.own H.length 0 0 0 0) 0) (H ++ [⟨z, T, 0, true⟩])) := rfl
def s_box (T : TypeId) (x : SV) (H : List AO) (K : SV -> List AO -> Prop) : Prop := x.vd = true ∧ cellsOk x.ug.flat ∧ K (.ptr (.own H.length 0 0 0 0) 0) (H ++ [⟨x.ug.flat, T, 0, true⟩])
@[congr] theorem s_box_congr {T : TypeId} {x x' : SV} {H H' : List AO} {K : SV -> List AO -> Prop} (h0 : Ev x = x') (h9 : Ev H = H') : s_box T x H K = s_box T x' H' K := by rw [Ev_to h0, Ev_to h9]
@[simp ↓] theorem xo_box (d : Option Nat) (T : TypeId) (x : Od) (env : Env) (H : List AO) (K : XE -> Env -> List AO -> Prop) : xo P ⟨d, none, .e (.box T x)⟩ env H K = s_box T (env.ev x) H fun v H' => K .normal (env.put d v) H' := rfl
@[simp] theorem s_box_go (T : TypeId) (x : SV) (H : List AO) (K : SV -> List AO -> Prop) : s_box T x H K = (x.vd = true ∧ cellsOk x.ug.flat ∧ Ke K (.ptr (.own H.length 0 0 0 0) 0) (H ++ [⟨x.ug.flat, T, 0, true⟩])) := rfl
def s_mks (T : TypeId) (sz : Nat) (bytes : Nat) (z : List SV) (len : SV) (cap : SV) (H : List AO) (K : SV -> List AO -> Prop) : Prop := len.isN = true ∧ cap.isN = true ∧ 0 ≤ len.int ∧ len.int ≤ cap.int ∧ bytes * cap.int ≤ 140737488355328 ∧ cap.int ≤ 140737488355328 ∧ K (.own H.length 0 len.int.toNat sz 0) (H ++ [⟨(List.replicate len.int.toNat z).flatten, T, 0, true⟩])
@[simp ↓] theorem xo_mks (d : Option Nat) (T : TypeId) (sz : Nat) (bytes : Nat) (z : List SV) (len : Od) (cap : Od) (env : Env) (H : List AO) (K : XE -> Env -> List AO -> Prop) : xo P ⟨d, none, .e (.mks T sz bytes z len cap)⟩ env H K = s_mks T sz bytes z (env.ev len) (env.ev cap) H fun v H' => K .normal (env.put d v) H' := rfl
@[simp] theorem s_mks_go (T : TypeId) (sz : Nat) (bytes : Nat) (z : List SV) (len : SV) (cap : SV) (H : List AO) (K : SV -> List AO -> Prop) : s_mks T sz bytes z len cap H K = (len.isN = true ∧ cap.isN = true ∧ 0 ≤ len.int ∧ len.int ≤ cap.int ∧ bytes * cap.int ≤ 140737488355328 ∧ cap.int ≤ 140737488355328 ∧ Ke K (.own H.length 0 len.int.toNat sz 0) (H ++ [⟨(List.replicate len.int.toNat z).flatten, T, 0, true⟩])) := rfl
def s_app (T : TypeId) (sz : Nat) (bytes : Nat) (s : SV) (x : SV) (H : List AO) (K : SV -> List AO -> Prop) : Prop := s.vd = true ∧ x.vd = true ∧ x.ug.isSl = true ∧ x.ug.slen * sz ≤ (x.ug.row H).length ∧ cellsOk (x.ug.els H sz) ∧
     (s.ug.slen + x.ug.slen) * bytes ≤ 140737488355328 ∧ s.ug.slen + x.ug.slen ≤ 140737488355328 ∧
     match s.ug with
     | .own i 0 n sz' ver =>
       sz' = sz ∧ (∃ o, H[i]? = some o ∧ o.live = true ∧ o.ver = ver ∧ o.ty = T ∧ o.cells.length = n * sz) ∧ K (.own i 0 (n + x.ug.slen) sz (ver + 1)) (setObj H i fun o => o.grow (x.ug.els H sz))
     | v => v.isNil = true ∧ K (.own H.length 0 x.ug.slen sz 1) (H ++ [⟨x.ug.els H sz, T, 1, true⟩])
@[congr] theorem s_app_congr {T : TypeId} {sz : Nat} {bytes : Nat} {s s' : SV} {x x' : SV} {H H' : List AO} {K : SV -> List AO -> Prop} (h0 : Ev s = s') (h1 : Ev x = x') (h9 : Ev H = H') : s_app T sz bytes s x H K = s_app T sz bytes s' x' H' K := by rw [Ev_to h0, Ev_to h1, Ev_to h9]
@[simp ↓] theorem xo_app (d : Option Nat) (T : TypeId) (sz : Nat) (bytes : Nat) (s : Od) (x : Od) (env : Env) (H : List AO) (K : XE -> Env -> List AO -> Prop) : xo P ⟨d, none, .e (.app T sz bytes s x)⟩ env H K = s_app T sz bytes (env.ev s) (env.ev x) H fun v H' => K .normal (env.put d v) H' := rfl
def objIs (H : List AO) (i ver : Nat) (T : TypeId) (m : Nat) : Prop := ∃ o, H[i]? = some o ∧ o.live = true ∧ o.ver = ver ∧ o.ty = T ∧ o.cells.length = m
@[simp] theorem s_app_own (T : TypeId) (sz bytes i n sz' ver : Nat) (x : SV) (H : List AO) (K : SV -> List AO -> Prop) : s_app T sz bytes (.own i 0 n sz' ver) x H K = (x.vd = true ∧ x.ug.isSl = true ∧ x.ug.slen * sz ≤ (x.ug.row H).length ∧ cellsOk (x.ug.els H sz) ∧
     (n + x.ug.slen) * bytes ≤ 140737488355328 ∧ n + x.ug.slen ≤ 140737488355328 ∧ sz' = sz ∧ objIs H i ver T (n * sz) ∧ Ke K (.own i 0 (n + x.ug.slen) sz (ver + 1)) (setObj H i fun o => o.grow (x.ug.els H sz))) := by
 simp [s_app, SV.vd, SV.ug, SV.slen, objIs, Ke]
def s_st (n : Nat) (p : SV) (x : SV) (H : List AO) (K : SV -> List AO -> Prop) : Prop := p.vd = true ∧ x.vd = true ∧ cellsOk x.ug.flat ∧ x.ug.flat.length = n ∧ 0 < n ∧
     match p.ug with
     | .ptr (.own i off _ _ ver) k => off + k + n ≤ (objCells H i ver).length ∧ K (.val undef) (setObj H i fun o => o.put (off + k) x.ug.flat)
     | _ => False
@[congr] theorem s_st_congr {n : Nat} {p p' : SV} {x x' : SV} {H H' : List AO} {K : SV -> List AO -> Prop} (h0 : Ev p = p') (h1 : Ev x = x') (h9 : Ev H = H') : s_st n p x H K = s_st n p' x' H' K := by rw [Ev_to h0, Ev_to h1, Ev_to h9]
@[simp ↓] theorem xo_st (d : Option Nat) (n : Nat) (p : Od) (x : Od) (env : Env) (H : List AO) (K : XE -> Env -> List AO -> Prop) : xo P ⟨d, none, .e (.st n p x)⟩ env H K = s_st n (env.ev p) (env.ev x) H fun v H' => K .normal (env.put d v) H' := rfl
@[simp] theorem s_st_ptr (n i off len sz ver k : Nat) (x : SV) (H : List AO) (K : SV -> List AO -> Prop) : s_st n (.ptr (.own i off len sz ver) k) x H K = (x.vd = true ∧ cellsOk x.ug.flat ∧ x.ug.flat.length = n ∧ 0 < n ∧
     off + k + n ≤ (objCells H i ver).length ∧ Ke K (.val undef) (setObj H i fun o => o.put (off + k) x.ug.flat)) := by
 simp [s_st, SV.vd, SV.ug, Ke]
def s_pan (x : SV) (K : SV -> Prop) : Prop := x.vd = true ∧ match x.ug with
 | .ifc t y => K (.ifc t y)
 | _ => False
@[congr] theorem s_pan_congr {x x' : SV} {K : SV -> Prop} (h : Ev x = x') : s_pan x K = s_pan x' K := by rw [Ev_to h]
@[simp] theorem s_pan_ifc (t : TypeId) (y : SV) (K : SV -> Prop) : s_pan (.ifc t y) K = K (.ifc t y) := by simp [s_pan, SV.vd, SV.ug]
@[simp ↓] theorem xo_pan (d : Option Nat) (x : Od) (env : Env) (H : List AO) (K : XE -> Env -> List AO -> Prop) : xo P ⟨d, none, .e (.pan x)⟩ env H K = s_pan (env.ev x) fun y => K (.panic y) env H := rfl
@[simp ↓] theorem xo_stw (d : Option Nat) (ws : List Nat) (n : Nat) (p x : Od) (env : Env) (H : List AO) (K : XE -> Env -> List AO -> Prop) : xo P ⟨d, none, .e (.stw ws n p x)⟩ env H K = s_st n (env.ev p) (env.ev x) H fun v H' => K .normal (env.put d v) H' := rfl
def s_nil (T : TypeId) (sz : Nat) (x : SV) (H : List AO) (K : SV -> List AO -> Prop) : Prop := x.vd = true ∧ x.ug.isNil = true ∧ K (.own H.length 0 0 sz 0) (H ++ [⟨[], T, 0, true⟩])
@[congr] theorem s_nil_congr {T : TypeId} {sz : Nat} {x x' : SV} {H H' : List AO} {K : SV -> List AO -> Prop} (h0 : Ev x = x') (h9 : Ev H = H') : s_nil T sz x H K = s_nil T sz x' H' K := by rw [Ev_to h0, Ev_to h9]
@[simp ↓] theorem xo_nil (d : Option Nat) (T : TypeId) (sz : Nat) (x : Od) (env : Env) (H : List AO) (K : XE -> Env -> List AO -> Prop) : xo P ⟨d, none, .e (.nil T sz x)⟩ env H K = s_nil T sz (env.ev x) H fun v H' => K .normal (env.put d v) H' := rfl
@[simp] theorem s_nil_go (T : TypeId) (sz : Nat) (x : SV) (H : List AO) (K : SV -> List AO -> Prop) : s_nil T sz x H K = (x.vd = true ∧ x.ug.isNil = true ∧ Ke K (.own H.length 0 0 sz 0) (H ++ [⟨[], T, 0, true⟩])) := rfl
def s_sl0 (T : TypeId) (sz : Nat) (x : SV) (H : List AO) (K : SV -> List AO -> Prop) : Prop := x.vd = true ∧ x.ug.isSl = true ∧ K (.own H.length 0 0 sz 0) (H ++ [⟨[], T, 0, true⟩])
@[simp ↓] theorem xo_sl0 (d : Option Nat) (T : TypeId) (sz : Nat) (x : Od) (env : Env) (H : List AO) (K : XE -> Env -> List AO -> Prop) : xo P ⟨d, none, .e (.sl0 T sz x)⟩ env H K = s_sl0 T sz (env.ev x) H fun v H' => K .normal (env.put d v) H' := rfl
@[simp] theorem s_sl0_go (T : TypeId) (sz : Nat) (x : SV) (H : List AO) (K : SV -> List AO -> Prop) : s_sl0 T sz x H K = (x.vd = true ∧ x.ug.isSl = true ∧ Ke K (.own H.length 0 0 sz 0) (H ++ [⟨[], T, 0, true⟩])) := rfl
def s_aps (T : TypeId) (s : SV) (x : SV) (H : List AO) (K : SV -> List AO -> Prop) : Prop := s.vd = true ∧ x.isS = true ∧ s.ug.slen + x.str.size ≤ 140737488355328 ∧
     match s.ug with
     | .own i 0 n sz' ver =>
       sz' = 1 ∧ (∃ o, H[i]? = some o ∧ o.live = true ∧ o.ver = ver ∧ o.ty = T ∧ o.cells.length = n * 1) ∧ K (.own i 0 (n + x.str.size) 1 (ver + 1)) (setObj H i fun o => o.grow (sbyts x.str))
     | v => v.isNil = true ∧ K (.own H.length 0 x.str.size 1 1) (H ++ [⟨sbyts x.str, T, 1, true⟩])
@[congr] theorem s_aps_congr {T : TypeId} {s s' : SV} {x x' : SV} {H H' : List AO} {K : SV -> List AO -> Prop} (h0 : Ev s = s') (h1 : Ev x = x') (h9 : Ev H = H') : s_aps T s x H K = s_aps T s' x' H' K := by rw [Ev_to h0, Ev_to h1, Ev_to h9]
@[simp ↓] theorem xo_aps (d : Option Nat) (T : TypeId) (s : Od) (x : Od) (env : Env) (H : List AO) (K : XE -> Env -> List AO -> Prop) : xo P ⟨d, none, .e (.aps T s x)⟩ env H K = s_aps T (env.ev s) (env.ev x) H fun v H' => K .normal (env.put d v) H' := rfl
@[simp] theorem s_aps_own (T : TypeId) (i n sz' ver : Nat) (x : SV) (H : List AO) (K : SV -> List AO -> Prop) : s_aps T (.own i 0 n sz' ver) x H K = (x.isS = true ∧
     n + x.str.size ≤ 140737488355328 ∧ sz' = 1 ∧ objIs H i ver T (n * 1) ∧ Ke K (.own i 0 (n + x.str.size) 1 (ver + 1)) (setObj H i fun o => o.grow (sbyts x.str))) := by
 simp [s_aps, SV.vd, SV.ug, SV.slen, objIs, Ke]
def s_sby (x : SV) (H : List AO) (K : SV -> List AO -> Prop) : Prop := x.isS = true ∧ K (.slc (sbyts x.str) x.str.size) H
@[congr] theorem s_sby_congr {x x' : SV} {H H' : List AO} {K : SV -> List AO -> Prop} (h0 : Ev x = x') (h9 : Ev H = H') : s_sby x H K = s_sby x' H' K := by rw [Ev_to h0, Ev_to h9]
@[simp ↓] theorem xo_sby (d : Option Nat) (x : Od) (env : Env) (H : List AO) (K : XE -> Env -> List AO -> Prop) : xo P ⟨d, none, .e (.sby x)⟩ env H K = s_sby (env.ev x) H fun v H' => K .normal (env.put d v) H' := rfl
@[simp] theorem s_sby_go (x : SV) (H : List AO) (K : SV -> List AO -> Prop) : s_sby x H K = (x.isS = true ∧ Ke K (.slc (sbyts x.str) x.str.size) H) := rfl
def s_mkm (T : TypeId) (H : List AO) (K : SV -> List AO -> Prop) : Prop := K (.mp H.length 0) (H ++ [⟨[.mk []], T, 0, false⟩])
@[congr] theorem s_mkm_congr {T : TypeId} {H H' : List AO} {K : SV -> List AO -> Prop} (h9 : Ev H = H') : s_mkm T H K = s_mkm T H' K := by rw [Ev_to h9]
@[simp ↓] theorem xo_mkm (d : Option Nat) (T : TypeId) (env : Env) (H : List AO) (K : XE -> Env -> List AO -> Prop) : xo P ⟨d, none, .e (.mkm T)⟩ env H K = s_mkm T H fun v H' => K .normal (env.put d v) H' := rfl
@[simp] theorem s_mkm_go (T : TypeId) (H : List AO) (K : SV -> List AO -> Prop) : s_mkm T H K = Ke K (.mp H.length 0) (H ++ [⟨[.mk []], T, 0, false⟩]) := rfl
def s_mup (kk : KK) (m k v : SV) (H : List AO) (K : SV -> List AO -> Prop) : Prop := m.vd = true ∧ k.isK kk = true ∧ v.vd = true ∧
     match m.ug, m.ug.mapOf H with
     | .mp i _, some x => x.1.all kk.is = true ∧ (∀ v ∈ k.key kk :: x.1, kk.knows v) ∧ K (.val undef) (setObj H i fun o => { o with cells := .mk (msetK (k.key kk) x.1) :: msetV (k.key kk) v.ug x.1 x.2 })
     | _, _ => False
@[congr] theorem s_mup_congr {kk : KK} {m m' k k' v v' : SV} {H H' : List AO} {K : SV -> List AO -> Prop} (h0 : Ev m = m') (h1 : Ev k = k') (h2 : Ev v = v') (h9 : Ev H = H') : s_mup kk m k v H K = s_mup kk m' k' v' H' K := by rw [Ev_to h0, Ev_to h1, Ev_to h2, Ev_to h9]
@[simp ↓] theorem xo_mup (d : Option Nat) (kk : KK) (m k v : Od) (env : Env) (H : List AO) (K : XE -> Env -> List AO -> Prop) : xo P ⟨d, none, .e (.mup kk m k v)⟩ env H K = s_mup kk (env.ev m) (env.ev k) (env.ev v) H fun w H' => K .normal (env.put d w) H' := rfl
theorem s_mup_go {kk : KK} {i ver : Nat} {k v : SV} {H : List AO} {K : SV -> List AO -> Prop} {x : List Value × List SV} (hm : (SV.mp i ver).mapOf H = some x) (hk : k.isK kk = true) (hv : v.vd = true) (ha : x.1.all kk.is = true)
 (h : K (.val undef) (setObj H i fun o => { o with cells := .mk (msetK (k.key kk) x.1) :: msetV (k.key kk) v.ug x.1 x.2 })) (hkn : ∀ v ∈ k.key kk :: x.1, kk.knows v := by simp) : s_mup kk (.mp i ver) k v H K := by
 refine ⟨rfl, hk, hv, ?_⟩
 simp only [SV.ug]
 rw [hm]
 exact ⟨ha, hkn, h⟩
def CallN (P : Program) (f : SV) (args : List SV) (H : List AO) (K : SV -> List AO -> Prop) : Prop := ∃ (r : SV) (L : List AO), (∀ H' : List AO, H'.length = H.length -> OkC P f args H' (.ret r) (H' ++ L)) ∧ K r (H ++ L)
@[simp ↓] theorem xo_calln (d : Option Nat) (f : Od) (args : List Od) (env : Env) (H : List AO) (K : XE -> Env -> List AO -> Prop) : xo P ⟨d, none, .e (.calln f args)⟩ env H K = CallN P (env.ev f) (args.map env.ev) H fun r H' => K .normal (env.put d r) H' := rfl
def s_snil (neg : Bool) (right : Bool) (x : SV) (H : List AO) (K : SV -> List AO -> Prop) : Prop := x.vd = true ∧ x.ug.isSl = true ∧ (x.ug.slen ≠ 0 -> K (bl neg) H) ∧ (x.ug.slen = 0 -> K (bl neg) H ∧ K (bl (!neg)) H)
@[simp ↓] theorem xo_snil (d : Option Nat) (neg : Bool) (right : Bool) (x : Od) (env : Env) (H : List AO) (K : XE -> Env -> List AO -> Prop) : xo P ⟨d, none, .e (.snil neg right x)⟩ env H K = s_snil neg right (env.ev x) H fun v H' => K .normal (env.put d v) H' := rfl
@[simp] theorem s_snil_go (neg : Bool) (right : Bool) (x : SV) (H : List AO) (K : SV -> List AO -> Prop) : s_snil neg right x H K = (x.vd = true ∧ x.ug.isSl = true ∧ (x.ug.slen ≠ 0 -> Ke K (bl neg) H) ∧ (x.ug.slen = 0 -> Ke K (bl neg) H ∧ Ke K (bl (!neg)) H)) := rfl
def s_bsl (T : TypeId) (sz len : Nat) (z : List SV) (parts : List (Nat × SV)) (H : List AO) (K : SV -> List AO -> Prop) : Prop :=
 (∀ p ∈ parts, partOk sz p.2 ∧ p.1 * sz + sz ≤ len * sz) ∧ cellsOk (fillS (List.replicate len z).flatten (parts.map fun p => (p.1 * sz, p.2))) ∧
  K (.own H.length 0 len sz 0) (H ++ [⟨fillS (List.replicate len z).flatten (parts.map fun p => (p.1 * sz, p.2)), T, 0, true⟩])
@[congr] theorem s_bsl_congr {T : TypeId} {sz len : Nat} {z : List SV} {parts parts' : List (Nat × SV)} {H H' : List AO} {K : SV -> List AO -> Prop} (h : Ev parts = parts') (h2 : Ev H = H') : s_bsl T sz len z parts H K = s_bsl T sz len z parts' H' K := by rw [Ev_to h, Ev_to h2]
@[simp ↓] theorem xo_bsl (d : Option Nat) (T : TypeId) (sz len : Nat) (z : List SV) (parts : List (Nat × Od)) (env : Env) (H : List AO) (K : XE -> Env -> List AO -> Prop) :
 xo P ⟨d, none, .e (.bsl T sz len z parts)⟩ env H K = s_bsl T sz len z (parts.map fun p => (p.1, env.ev p.2)) H fun v H' => K .normal (env.put d v) H' := by
 simp only [xo, xj, xe, s_bsl, List.map_map, Function.comp_def, List.forall_mem_map]
@[simp] theorem s_bsl_go (T : TypeId) (sz len : Nat) (z : List SV) (parts : List (Nat × SV)) (H : List AO) (K : SV -> List AO -> Prop) : s_bsl T sz len z parts H K = (
 (∀ p ∈ parts, partOk sz p.2 ∧ p.1 * sz + sz ≤ len * sz) ∧ cellsOk (fillS (List.replicate len z).flatten (parts.map fun p => (p.1 * sz, p.2))) ∧
  Ke K (.own H.length 0 len sz 0) (H ++ [⟨fillS (List.replicate len z).flatten (parts.map fun p => (p.1 * sz, p.2)), T, 0, true⟩])) := rfl
def ldv (H : List AO) (p : SV) : SV := (p.at H).headD .any
def ldvs (H : List AO) (p : SV) (n : Nat) : List SV := (p.at H).take n
def ldok (H : List AO) (p : SV) (n : Nat) : Prop := n ≤ (p.at H).length
@[simp] theorem ldv_own (H : List AO) (i off len sz ver k : Nat) : ldv H (.ptr (.own i off len sz ver) k) = (((objCells H i ver).drop off).drop k).headD .any := rfl
@[simp] theorem ldv_slc (H : List AO) (c : List SV) (n k : Nat) : ldv H (.ptr (.slc c n) k) = (c.drop k).headD .any := rfl
@[simp] theorem ldvs_own (H : List AO) (i off len sz ver k n : Nat) : ldvs H (.ptr (.own i off len sz ver) k) n = (((objCells H i ver).drop off).drop k).take n := rfl
@[simp] theorem ldvs_slc (H : List AO) (c : List SV) (m k n : Nat) : ldvs H (.ptr (.slc c m) k) n = (c.drop k).take n := rfl
@[simp] theorem ldok_own (H : List AO) (i off len sz ver k n : Nat) : ldok H (.ptr (.own i off len sz ver) k) n = (n ≤ (((objCells H i ver).drop off).drop k).length) := rfl
@[simp] theorem ldok_slc (H : List AO) (c : List SV) (m k n : Nat) : ldok H (.ptr (.slc c m) k) n = (n ≤ (c.drop k).length) := rfl
variable (g : Od -> SV) (H : List AO)
@[simp ↓] theorem pv1_mov (x : Od) : (pv (.mov x) g H).1 = (True) := rfl
@[simp ↓] theorem pv2_mov (x : Od) : (pv (.mov x) g H).2 = g x := rfl
@[simp ↓] theorem pv1_pick (c : Od) (a : Od) (b : Od) : (pv (.pick c a b) g H).1 = ((g c).isB = true ∧ (if (g c).bool = true then (g a).isB = true else (g b).isB = true)) := by
 first
 | rfl
 | (apply propext; simp only [pv]; cases (g c).bool <;> simp)
@[simp ↓] theorem pv2_pick (c : Od) (a : Od) (b : Od) : (pv (.pick c a b) g H).2 = bl (cond (g c).bool (g a).bool (g b).bool) := by
 first
 | rfl
 | (apply propext; simp only [pv]; cases (g c).bool <;> simp)
@[simp ↓] theorem pv1_neg (k : IntKind) (x : Od) : (pv (.neg k x) g H).1 = ((g x).isI k = true) := rfl
@[simp ↓] theorem pv2_neg (k : IntKind) (x : Od) : (pv (.neg k x) g H).2 = .val (.int k (k.wrap (0 - (g x).int))) := rfl
@[simp ↓] theorem pv1_not (x : Od) : (pv (.not x) g H).1 = ((g x).isB = true) := rfl
@[simp ↓] theorem pv2_not (x : Od) : (pv (.not x) g H).2 = bl (!(g x).bool) := rfl
@[simp ↓] theorem pv1_cvi (k : IntKind) (x : Od) : (pv (.cvi k x) g H).1 = ((g x).isN = true) := rfl
@[simp ↓] theorem pv2_cvi (k : IntKind) (x : Od) : (pv (.cvi k x) g H).2 = .val (.int k (k.wrap (g x).int)) := rfl
@[simp ↓] theorem pv1_ld1 (p : Od) : (pv (.ld1 p) g H).1 = ((g p).vd = true ∧ ldok H (g p).ug 1) := rfl
@[simp ↓] theorem pv2_ld1 (p : Od) : (pv (.ld1 p) g H).2 = ldv H (g p).ug := rfl
@[simp ↓] theorem pv1_ldn (n : Nat) (p : Od) : (pv (.ldn n p) g H).1 = ((g p).vd = true ∧ ldok H (g p).ug n ∧ 0 < n) := rfl
@[simp ↓] theorem pv2_ldn (n : Nat) (p : Od) : (pv (.ldn n p) g H).2 = .agg (ldvs H (g p).ug n) := rfl
@[simp ↓] theorem pv1_ia (sz : Nat) (s : Od) (j : Od) : (pv (.ia sz s j) g H).1 = ((g s).vd = true ∧ (g s).ug.isSl = true ∧ (g j).isN = true ∧ 0 ≤ (g j).int ∧ (g j).int < (g s).ug.slen) := rfl
@[simp ↓] theorem pv2_ia (sz : Nat) (s : Od) (j : Od) : (pv (.ia sz s j) g H).2 = .ptr (g s).ug ((g j).int.toNat * sz) := rfl
@[simp ↓] theorem pv1_ixs (s : Od) (j : Od) : (pv (.ixs s j) g H).1 = ((g s).isS = true ∧ (g j).isN = true ∧ 0 ≤ (g j).int ∧ (g j).int < (g s).str.size) := rfl
@[simp ↓] theorem pv2_ixs (s : Od) (j : Od) : (pv (.ixs s j) g H).2 = .val (.int .u8 ((g s).str.data.toList.getD (g j).int.toNat 0).toNat) := rfl
@[simp ↓] theorem pv1_sl (sz : Nat) (x : Od) (lo : Option Od) (hi : Option Od) : (pv (.sl sz x lo hi) g H).1 = ((g x).vd = true ∧ (g x).ug.isSl = true ∧ (g x).ug.szIs sz = true ∧ bdOf (lo.map g) ∧ bdOf (hi.map g) ∧ loOf (lo.map g) ≤ hiOf (g x).ug.slen (hi.map g) ∧ hiOf (g x).ug.slen (hi.map g) ≤ (g x).ug.slen) := rfl
@[simp ↓] theorem pv2_sl (sz : Nat) (x : Od) (lo : Option Od) (hi : Option Od) : (pv (.sl sz x lo hi) g H).2 = (g x).ug.cut sz (loOf (lo.map g)) (hiOf (g x).ug.slen (hi.map g)) := rfl
@[simp ↓] theorem pv1_sls (x : Od) (lo : Option Od) (hi : Option Od) : (pv (.sls x lo hi) g H).1 = ((g x).isS = true ∧ bdOf (lo.map g) ∧ bdOf (hi.map g) ∧ loOf (lo.map g) ≤ hiOf (g x).str.size (hi.map g) ∧ hiOf (g x).str.size (hi.map g) ≤ (g x).str.size) := rfl
@[simp ↓] theorem pv2_sls (x : Od) (lo : Option Od) (hi : Option Od) : (pv (.sls x lo hi) g H).2 = st ((g x).str.extract (loOf (lo.map g)) (hiOf (g x).str.size (hi.map g))) := rfl
@[simp ↓] theorem pv1_sla (n : Nat) (sz : Nat) (p : Od) (lo : Option Od) (hi : Option Od) : (pv (.sla n sz p lo hi) g H).1 = ((g p).vd = true ∧ ldok H (g p).ug (n * sz) ∧ 0 < n * sz ∧ bdOf (lo.map g) ∧ bdOf (hi.map g) ∧ loOf (lo.map g) ≤ hiOf n (hi.map g) ∧ hiOf n (hi.map g) ≤ n) := rfl
@[simp ↓] theorem pv2_sla (n : Nat) (sz : Nat) (p : Od) (lo : Option Od) (hi : Option Od) : (pv (.sla n sz p lo hi) g H).2 = (g p).ug.cutA sz (loOf (lo.map g)) (hiOf n (hi.map g)) := rfl
@[simp ↓] theorem pv1_len (x : Od) : (pv (.len x) g H).1 = ((g x).vd = true ∧ (g x).ug.isSl = true) := rfl
@[simp ↓] theorem pv2_len (x : Od) : (pv (.len x) g H).2 = i64 (g x).ug.slen := rfl
@[simp ↓] theorem pv1_lens (x : Od) : (pv (.lens x) g H).1 = ((g x).isS = true) := rfl
@[simp ↓] theorem pv2_lens (x : Od) : (pv (.lens x) g H).2 = i64 (g x).str.size := rfl
@[simp ↓] theorem pv1_mm (mx : Bool) (k : IntKind) (x : Od) (y : Od) : (pv (.mm mx k x y) g H).1 = ((g x).isI k = true ∧ (g y).isI k = true) := rfl
@[simp ↓] theorem pv2_mm (mx : Bool) (k : IntKind) (x : Od) (y : Od) : (pv (.mm mx k x y) g H).2 = .val (.int k (if mx = true then max (g x).int (g y).int else min (g x).int (g y).int)) := rfl
@[simp ↓] theorem pv1_mkf (f : Fn) (first : List Od) (cap : List Od) : (pv (.mkf f first cap) g H).1 = (True) := rfl
@[simp ↓] theorem pv2_mkf (f : Fn) (first : List Od) (cap : List Od) : (pv (.mkf f first cap) g H).2 = .fn f (first.map g) (cap.map g) := rfl
@[simp ↓] theorem pv1_mki (t : TypeId) (x : Od) : (pv (.mki t x) g H).1 = (True) := rfl
@[simp ↓] theorem pv2_mki (t : TypeId) (x : Od) : (pv (.mki t x) g H).2 = .ifc t (g x) := rfl
@[simp ↓] theorem pv1_bld (z : List SV) (parts : List (Nat × Nat × Od)) : (pv (.bld z parts) g H).1 = (∀ p ∈ parts.map (fun p => (p.1, p.2.1, g p.2.2)), partOk p.2.1 p.2.2 ∧ p.1 + p.2.1 ≤ z.length) := by
 first
 | rfl
 | (apply propext; simp only [pv, List.forall_mem_map])
@[simp ↓] theorem pv2_bld (z : List SV) (parts : List (Nat × Nat × Od)) : (pv (.bld z parts) g H).2 = .agg (fillS z (parts.map fun p => (p.1, g p.2.2))) := by
 first
 | rfl
 | (apply propext; simp only [pv, List.forall_mem_map])
def SV.isPt : SV -> Bool
 | .ptr _ _ => true
 | _ => false
def SV.isAg : SV -> Bool
 | .agg _ => true
 | _ => false
def SV.isTu : SV -> Bool
 | .tup _ => true
 | _ => false
def SV.isNc : SV -> Bool
 | .ptr _ _ => true
 | .fn (.func _) _ _ => true
 | _ => false
def SV.els' : SV -> List SV
 | .agg l => l
 | .tup l => l
 | _ => []
def SV.mv (off : Nat) : SV -> SV
 | .ptr s k => .ptr s (k + off)
 | _ => .any
@[simp ↓] theorem pv1_fa (off : Nat) (p : Od) : (pv (.fa off p) g H).1 = ((g p).ug.isPt = true ∧ (g p).vd = true) := by
 cases hu : (g p).ug <;> simp [pv, hu, SV.isPt, SV.isAg, SV.isTu, SV.els', SV.mv]
@[simp ↓] theorem pv2_fa (off : Nat) (p : Od) (h : (g p).ug.isPt = true) : (pv (.fa off p) g H).2 = (g p).ug.mv off := by
 cases hu : (g p).ug <;> simp [pv, hu, SV.isPt, SV.isAg, SV.isTu, SV.els', SV.mv] at h ⊢
@[simp ↓] theorem pv1_fld1 (off : Nat) (x : Od) : (pv (.fld1 off x) g H).1 = ((g x).ug.isAg = true ∧ (g x).vd = true ∧ off < (g x).ug.els'.length) := by
 cases hu : (g x).ug <;> simp [pv, hu, SV.isPt, SV.isAg, SV.isTu, SV.els', SV.mv]
@[simp ↓] theorem pv2_fld1 (off : Nat) (x : Od) (h : (g x).ug.isAg = true) : (pv (.fld1 off x) g H).2 = (g x).ug.els'.getD off .any := by
 cases hu : (g x).ug <;> simp [pv, hu, SV.isPt, SV.isAg, SV.isTu, SV.els', SV.mv] at h ⊢
@[simp ↓] theorem pv1_iap (len : Nat) (sz : Nat) (p : Od) (j : Od) : (pv (.iap len sz p j) g H).1 = ((g p).ug.isPt = true ∧ (g p).vd = true ∧ (g j).isN = true ∧ 0 ≤ (g j).int ∧ (g j).int < len) := by
 cases hu : (g p).ug <;> simp [pv, hu, SV.isPt, SV.isAg, SV.isTu, SV.els', SV.mv]
@[simp ↓] theorem pv2_iap (len : Nat) (sz : Nat) (p : Od) (j : Od) (h : (g p).ug.isPt = true) : (pv (.iap len sz p j) g H).2 = (g p).ug.mv ((g j).int.toNat * sz) := by
 cases hu : (g p).ug <;> simp [pv, hu, SV.isPt, SV.isAg, SV.isTu, SV.els', SV.mv] at h ⊢
@[simp ↓] theorem pv1_ixa (len : Nat) (sz : Nat) (one : Bool) (x : Od) (j : Od) : (pv (.ixa len sz one x j) g H).1 = ((g x).ug.isAg = true ∧ (g x).vd = true ∧ (g j).isN = true ∧ 0 ≤ (g j).int ∧ (g j).int < len ∧ (g x).ug.els'.length = len * sz ∧ (one = true -> sz = 1)) := by
 cases hu : (g x).ug <;> simp [pv, hu, SV.isPt, SV.isAg, SV.isTu, SV.els', SV.mv]
@[simp ↓] theorem pv2_ixa (len : Nat) (sz : Nat) (one : Bool) (x : Od) (j : Od) (h : (g x).ug.isAg = true) : (pv (.ixa len sz one x j) g H).2 = if one = true then (g x).ug.els'.getD (g j).int.toNat .any else .agg (((g x).ug.els'.drop ((g j).int.toNat * sz)).take sz) := by
 cases hu : (g x).ug <;> simp [pv, hu, SV.isPt, SV.isAg, SV.isTu, SV.els', SV.mv] at h ⊢
@[simp ↓] theorem pv1_ext (x : Od) (j : Nat) : (pv (.ext x j) g H).1 = ((g x).ug.isTu = true ∧ (g x).vd = true ∧ j < (g x).ug.els'.length) := by
 cases hu : (g x).ug <;> simp [pv, hu, SV.isPt, SV.isAg, SV.isTu, SV.els', SV.mv]
@[simp ↓] theorem pv2_ext (x : Od) (j : Nat) (h : (g x).ug.isTu = true) : (pv (.ext x j) g H).2 = (g x).ug.els'.getD j .any := by
 cases hu : (g x).ug <;> simp [pv, hu, SV.isPt, SV.isAg, SV.isTu, SV.els', SV.mv] at h ⊢
@[simp ↓] theorem pv1_nck (x : Od) : (pv (.nck x) g H).1 = ((g x).ug.isNc = true ∧ (g x).vd = true) := by
 cases hu : (g x).ug with
 | fn f a b => cases f <;> simp [pv, hu, SV.isNc]
 | _ => simp [pv, hu, SV.isNc]
@[simp ↓] theorem pv2_nck (x : Od) (h : (g x).ug.isNc = true) : (pv (.nck x) g H).2 = (g x).ug := by
 cases hu : (g x).ug with
 | fn f a b => rw [hu] at h; cases f <;> simp [pv, hu, SV.isNc] at h ⊢
 | _ => simp [hu, SV.isNc] at h ⊢ <;> simp [pv, hu]
@[simp ↓] theorem pv1_eqf (neg : Bool) (ks : List CK) (x y : Od) : (pv (.eqf neg ks x y) g H).1 = ((g x).ug.isAg = true ∧ (g y).ug.isAg = true ∧ (g x).vd = true ∧ (g y).vd = true ∧ eqSide ks (g x).ug.els' (g y).ug.els') := by
 cases hu : (g x).ug <;> cases hv : (g y).ug <;> simp [pv, hu, hv, SV.isAg, SV.els']
@[simp ↓] theorem pv2_eqf (neg : Bool) (ks : List CK) (x y : Od) (h : ((g x).ug.isAg && (g y).ug.isAg) = true) : (pv (.eqf neg ks x y) g H).2 = bl (if neg = true then !eqAll ks (g x).ug.els' (g y).ug.els' else eqAll ks (g x).ug.els' (g y).ug.els') := by
 cases hu : (g x).ug <;> cases hv : (g y).ug <;> simp [pv, hu, hv, SV.isAg, SV.els'] at h ⊢
@[simp ↓] theorem pv1_bin_add_i (k : IntKind) (x y : Od) : (pv (.bin .add (.i k) x y) g H).1 = ((g x).isI k = true ∧ (g y).isI k = true) := rfl
@[simp ↓] theorem pv2_bin_add_i (k : IntKind) (x y : Od) : (pv (.bin .add (.i k) x y) g H).2 = .val (.int k (k.wrap ((g x).int + (g y).int))) := rfl
@[simp ↓] theorem pv1_bin_sub_i (k : IntKind) (x y : Od) : (pv (.bin .sub (.i k) x y) g H).1 = ((g x).isI k = true ∧ (g y).isI k = true) := rfl
@[simp ↓] theorem pv2_bin_sub_i (k : IntKind) (x y : Od) : (pv (.bin .sub (.i k) x y) g H).2 = .val (.int k (k.wrap ((g x).int - (g y).int))) := rfl
@[simp ↓] theorem pv1_bin_mul_i (k : IntKind) (x y : Od) : (pv (.bin .mul (.i k) x y) g H).1 = ((g x).isI k = true ∧ (g y).isI k = true) := rfl
@[simp ↓] theorem pv2_bin_mul_i (k : IntKind) (x y : Od) : (pv (.bin .mul (.i k) x y) g H).2 = .val (.int k (k.wrap ((g x).int * (g y).int))) := rfl
@[simp ↓] theorem pv1_bin_quo_i (k : IntKind) (x y : Od) : (pv (.bin .quo (.i k) x y) g H).1 = ((g x).isI k = true ∧ (g y).isI k = true ∧ (g y).int ≠ 0) := rfl
@[simp ↓] theorem pv2_bin_quo_i (k : IntKind) (x y : Od) : (pv (.bin .quo (.i k) x y) g H).2 = .val (.int k (k.wrap ((g x).int.tdiv (g y).int))) := rfl
@[simp ↓] theorem pv1_bin_rem_i (k : IntKind) (x y : Od) : (pv (.bin .rem (.i k) x y) g H).1 = ((g x).isI k = true ∧ (g y).isI k = true ∧ (g y).int ≠ 0) := rfl
@[simp ↓] theorem pv2_bin_rem_i (k : IntKind) (x y : Od) : (pv (.bin .rem (.i k) x y) g H).2 = .val (.int k ((g x).int.tmod (g y).int)) := rfl
@[simp ↓] theorem pv1_bin_and_i (k : IntKind) (x y : Od) : (pv (.bin .and (.i k) x y) g H).1 = ((g x).isI k = true ∧ (g y).isI k = true) := rfl
@[simp ↓] theorem pv2_bin_and_i (k : IntKind) (x y : Od) : (pv (.bin .and (.i k) x y) g H).2 = .val (.int k (bitsI .and k (g x).int (g y).int)) := rfl
@[simp ↓] theorem pv1_bin_or_i (k : IntKind) (x y : Od) : (pv (.bin .or (.i k) x y) g H).1 = ((g x).isI k = true ∧ (g y).isI k = true) := rfl
@[simp ↓] theorem pv2_bin_or_i (k : IntKind) (x y : Od) : (pv (.bin .or (.i k) x y) g H).2 = .val (.int k (bitsI .or k (g x).int (g y).int)) := rfl
@[simp ↓] theorem pv1_bin_xor_i (k : IntKind) (x y : Od) : (pv (.bin .xor (.i k) x y) g H).1 = ((g x).isI k = true ∧ (g y).isI k = true) := rfl
@[simp ↓] theorem pv2_bin_xor_i (k : IntKind) (x y : Od) : (pv (.bin .xor (.i k) x y) g H).2 = .val (.int k (bitsI .xor k (g x).int (g y).int)) := rfl
@[simp ↓] theorem pv1_bin_andNot_i (k : IntKind) (x y : Od) : (pv (.bin .andNot (.i k) x y) g H).1 = ((g x).isI k = true ∧ (g y).isI k = true) := rfl
@[simp ↓] theorem pv2_bin_andNot_i (k : IntKind) (x y : Od) : (pv (.bin .andNot (.i k) x y) g H).2 = .val (.int k (bitsI .andNot k (g x).int (g y).int)) := rfl
@[simp ↓] theorem pv1_bin_eql_i (k : IntKind) (x y : Od) : (pv (.bin .eql (.i k) x y) g H).1 = ((g x).isI k = true ∧ (g y).isI k = true) := rfl
@[simp ↓] theorem pv2_bin_eql_i (k : IntKind) (x y : Od) : (pv (.bin .eql (.i k) x y) g H).2 = bl (decide ((g x).int = (g y).int)) := rfl
@[simp ↓] theorem pv1_bin_neq_i (k : IntKind) (x y : Od) : (pv (.bin .neq (.i k) x y) g H).1 = ((g x).isI k = true ∧ (g y).isI k = true) := rfl
@[simp ↓] theorem pv2_bin_neq_i (k : IntKind) (x y : Od) : (pv (.bin .neq (.i k) x y) g H).2 = bl (!decide ((g x).int = (g y).int)) := rfl
@[simp ↓] theorem pv1_bin_lss_i (k : IntKind) (x y : Od) : (pv (.bin .lss (.i k) x y) g H).1 = ((g x).isI k = true ∧ (g y).isI k = true) := rfl
@[simp ↓] theorem pv2_bin_lss_i (k : IntKind) (x y : Od) : (pv (.bin .lss (.i k) x y) g H).2 = bl (decide ((g x).int < (g y).int)) := rfl
@[simp ↓] theorem pv1_bin_leq_i (k : IntKind) (x y : Od) : (pv (.bin .leq (.i k) x y) g H).1 = ((g x).isI k = true ∧ (g y).isI k = true) := rfl
@[simp ↓] theorem pv2_bin_leq_i (k : IntKind) (x y : Od) : (pv (.bin .leq (.i k) x y) g H).2 = bl (decide ((g x).int ≤ (g y).int)) := rfl
@[simp ↓] theorem pv1_bin_gtr_i (k : IntKind) (x y : Od) : (pv (.bin .gtr (.i k) x y) g H).1 = ((g x).isI k = true ∧ (g y).isI k = true) := rfl
@[simp ↓] theorem pv2_bin_gtr_i (k : IntKind) (x y : Od) : (pv (.bin .gtr (.i k) x y) g H).2 = bl (decide ((g y).int < (g x).int)) := rfl
@[simp ↓] theorem pv1_bin_geq_i (k : IntKind) (x y : Od) : (pv (.bin .geq (.i k) x y) g H).1 = ((g x).isI k = true ∧ (g y).isI k = true) := rfl
@[simp ↓] theorem pv2_bin_geq_i (k : IntKind) (x y : Od) : (pv (.bin .geq (.i k) x y) g H).2 = bl (decide ((g y).int ≤ (g x).int)) := rfl
@[simp ↓] theorem pv1_bin_eql_s (x y : Od) : (pv (.bin .eql .s x y) g H).1 = ((g x).isS = true ∧ (g y).isS = true) := rfl
@[simp ↓] theorem pv2_bin_eql_s (x y : Od) : (pv (.bin .eql .s x y) g H).2 = bl (decide ((g x).str.data.toList = (g y).str.data.toList)) := rfl
@[simp ↓] theorem pv1_bin_neq_s (x y : Od) : (pv (.bin .neq .s x y) g H).1 = ((g x).isS = true ∧ (g y).isS = true) := rfl
@[simp ↓] theorem pv2_bin_neq_s (x y : Od) : (pv (.bin .neq .s x y) g H).2 = bl (!decide ((g x).str.data.toList = (g y).str.data.toList)) := rfl
@[simp ↓] theorem pv1_bin_add_s (x y : Od) : (pv (.bin .add .s x y) g H).1 = ((g x).isS = true ∧ (g y).isS = true ∧ (g x).str.size + (g y).str.size ≤ 9223372036854775807) := rfl
@[simp ↓] theorem pv2_bin_add_s (x y : Od) : (pv (.bin .add .s x y) g H).2 = st ((g x).str ++ (g y).str) := rfl
@[simp ↓] theorem pv1_bin_eql_b (x y : Od) : (pv (.bin .eql .b x y) g H).1 = ((g x).isB = true ∧ (g y).isB = true) := rfl
@[simp ↓] theorem pv2_bin_eql_b (x y : Od) : (pv (.bin .eql .b x y) g H).2 = bl ((g x).bool == (g y).bool) := rfl
@[simp ↓] theorem pv1_bin_neq_b (x y : Od) : (pv (.bin .neq .b x y) g H).1 = ((g x).isB = true ∧ (g y).isB = true) := rfl
@[simp ↓] theorem pv2_bin_neq_b (x y : Od) : (pv (.bin .neq .b x y) g H).2 = bl ((g x).bool != (g y).bool) := rfl
@[simp ↓] theorem pv1_gix (k len sz : Nat) (cs : List SV) (j : Od) : (pv (.gix k len sz cs j) g H).1 = ((g j).isN = true ∧ 0 ≤ (g j).int ∧ (g j).int < len) := rfl
@[simp ↓] theorem pv2_gix (k len sz : Nat) (cs : List SV) (j : Od) : (pv (.gix k len sz cs j) g H).2 = .ptr (.slc cs cs.length) ((g j).int.toNat * sz) := rfl
@[simp ↓] theorem pv1_ifn (neg right : Bool) (x : Od) : (pv (.ifn neg right x) g H).1 = ((g x).vd = true ∧ (g x).ug.isIf = true) := rfl
@[simp ↓] theorem pv2_ifn (neg right : Bool) (x : Od) : (pv (.ifn neg right x) g H).2 = bl (if (g x).ug.ifNil = true then !neg else neg) := rfl
@[simp ↓] theorem pv1_rst (x : Od) : (pv (.rst x) g H).1 = ((g x).isN = true) := rfl
@[simp ↓] theorem pv2_rst (x : Od) : (pv (.rst x) g H).2 = .val (.string (Utf8.encode (g x).int)) := rfl
@[simp ↓] theorem pv1_fnn (neg right : Bool) (x : Od) : (pv (.fnn neg right x) g H).1 = ((g x).vd = true ∧ (g x).ug.isFn = true) := rfl
@[simp ↓] theorem pv2_fnn (neg right : Bool) (x : Od) : (pv (.fnn neg right x) g H).2 = bl (if (g x).ug.fnNil = true then !neg else neg) := rfl
@[simp ↓] theorem pv1_tas (t : TypeId) (ok : Bool) (z : SV) (x : Od) : (pv (.tas t ok z x) g H).1 = ((g x).vd = true ∧ (g x).ug.isIf = true ∧ (ok = true ∨ (g x).ug.ifIs t = true)) := rfl
@[simp ↓] theorem pv2_tas (t : TypeId) (ok : Bool) (z : SV) (x : Od) : (pv (.tas t ok z x) g H).2 = if ok = true then (if (g x).ug.ifIs t = true then .tup [(g x).ug.ifVal, bl true] else .tup [z, bl false]) else (g x).ug.ifVal := rfl
@[simp ↓] theorem pv_lkp (kk : KK) (ok : Bool) (z : SV) (m k : Od) : pv (.lkp kk ok z m k) g H = (match (g m).ug.mapOf H with
 | some x => ((g m).vd = true ∧ (g k).isK kk = true ∧ x.1.all kk.is = true ∧ (∀ v ∈ (g k).key kk :: x.1, kk.knows v),
  if ok = true then .tup [(lkm ((g k).key kk) x.1 x.2).getD z, bl (lkm ((g k).key kk) x.1 x.2).isSome] else (lkm ((g k).key kk) x.1 x.2).getD z)
 | none => (False, .any)) := rfl
@[simp ↓] theorem pv_iav (sz : Nat) (s j : Od) : pv (.iav sz s j) g H = (match (g s).ug with
 | .val (.slice (some a) len _) => ((g s).vd = true ∧ (g j).isN = true ∧ 0 ≤ (g j).int ∧ (g j).int < len, .val (.pointer (some (a.add ((g j).int.toNat * sz)))))
 | _ => (False, .any)) := rfl
@[simp ↓] theorem pv_lnv (x : Od) : pv (.lnv x) g H = (match (g x).ug with
 | .val (.slice _ len _) => ((g x).vd = true, i64 len)
 | _ => (False, .any)) := rfl
@[simp ↓] theorem pv1_bys (x : Od) : (pv (.bys x) g H).1 = ((g x).vd = true ∧ (g x).ug.isSl = true ∧ bysB ((g x).ug.row H) (g x).ug.slen = true) := rfl
@[simp ↓] theorem pv2_bys (x : Od) : (pv (.bys x) g H).2 = .val (.string (bysS (((g x).ug.row H).take (g x).ug.slen))) := rfl
@[simp ↓] theorem pv1_no : (pv .no g H).1 = False := rfl
@[simp ↓] theorem pv2_no : (pv .no g H).2 = .any := rfl
@[simp ↓] theorem pv_bin_sh (op : BinOp) (k yk : IntKind) (x y : Od) : pv (.bin op (.sh k yk) x y) g H = pbin op (.sh k yk) (g x) (g y) := rfl
@[simp ↓] theorem pv_bin_pnil (op : BinOp) (r : Bool) (x y : Od) : pv (.bin op (.pnil r) x y) g H = pbin op (.pnil r) (g x) (g y) := rfl
@[simp] theorem pbin_shl (k yk : IntKind) (x y : SV) : pbin .shl (.sh k yk) x y = (x.isI k = true ∧ y.isI yk = true ∧ 0 ≤ y.int, .val (.int k (k.wrap (x.int * 2 ^ (min y.int.toNat k.bits))))) := rfl
@[simp] theorem pbin_shr (k yk : IntKind) (x y : SV) : pbin .shr (.sh k yk) x y = (x.isI k = true ∧ y.isI yk = true ∧ 0 ≤ y.int, .val (.int k (x.int.fdiv (2 ^ (min y.int.toNat k.bits))))) := rfl
@[simp] theorem pbin_pnil (op : BinOp) (r : Bool) (x y : SV) : pbin op (.pnil r) x y = (match op, (if r = true then x else y).ug with
 | .eql, .ptr _ _ => ((if r = true then x else y).vd = true, bl false)
 | .neq, .ptr _ _ => ((if r = true then x else y).vd = true, bl true)
 | .eql, .val (.pointer none) => ((if r = true then x else y).vd = true, bl true)
 | .neq, .val (.pointer none) => ((if r = true then x else y).vd = true, bl false)
 | _, _ => (False, .any)) := rfl
end
@[simp] theorem env_get_cons (e : Env) (k t : Nat) (v : SV) : Env.get ((k, v) :: e) t = if k = t then v else Env.get e t := rfl
@[simp] theorem env_get_nil (t : Nat) : Env.get [] t = .any := rfl
@[simp] theorem env_ev_t (e : Env) (n : Nat) : Env.ev e (.t n) = e.get n := rfl
@[simp] theorem env_ev_c (e : Env) (s : SV) : Env.ev e (.c s) = s := rfl
@[simp] theorem env_put_some (e : Env) (d : Nat) (v : SV) : Env.put e (some d) v = (d, v) :: e := rfl
@[simp] theorem env_put_none (e : Env) (v : SV) : Env.put e none v = e := rfl
@[simp] theorem env_keep_nil (e : Env) : Env.keep e [] = [] := rfl
@[simp] theorem env_keep_cons (e : Env) (k : Nat) (r : List Nat) : Env.keep e (k :: r) = (k, e.get k) :: Env.keep e r := rfl
@[simp] theorem argsEnv_eq (l : List SV) : argsEnv l = (List.range l.length).zip l := rfl
attribute [simp] List.range_succ val_i64 isI_i64 int_i64 isN_i64 isB_bl bool_bl ug_i64 vd_i64 ug_bl vd_bl
@[simp] theorem vd_any  : SV.vd .any = true := rfl
@[simp] theorem ug_any  : SV.ug .any = .any := rfl
@[simp] theorem isCell_any  : SV.isCell .any = false := rfl
@[simp] theorem flat_any  : SV.flat .any = [.any] := rfl
@[simp] theorem isPt_any  : SV.isPt .any = false := rfl
@[simp] theorem isAg_any  : SV.isAg .any = false := rfl
@[simp] theorem isTu_any  : SV.isTu .any = false := rfl
@[simp] theorem vd_val (v : Value) : SV.vd (.val v) = true := rfl
@[simp] theorem ug_val (v : Value) : SV.ug (.val v) = (.val v) := rfl
@[simp] theorem flat_val (v : Value) : SV.flat (.val v) = [(.val v)] := rfl
@[simp] theorem isPt_val (v : Value) : SV.isPt (.val v) = false := rfl
@[simp] theorem isAg_val (v : Value) : SV.isAg (.val v) = false := rfl
@[simp] theorem isTu_val (v : Value) : SV.isTu (.val v) = false := rfl
@[simp] theorem isCell_i64 (n : Int) : SV.isCell (i64 n) = true := rfl
@[simp] theorem flat_i64 (n : Int) : SV.flat (i64 n) = [(i64 n)] := rfl
@[simp] theorem isPt_i64 (n : Int) : SV.isPt (i64 n) = false := rfl
@[simp] theorem isAg_i64 (n : Int) : SV.isAg (i64 n) = false := rfl
@[simp] theorem isTu_i64 (n : Int) : SV.isTu (i64 n) = false := rfl
@[simp] theorem isCell_bl (b : Bool) : SV.isCell (bl b) = true := rfl
@[simp] theorem flat_bl (b : Bool) : SV.flat (bl b) = [(bl b)] := rfl
@[simp] theorem isPt_bl (b : Bool) : SV.isPt (bl b) = false := rfl
@[simp] theorem isAg_bl (b : Bool) : SV.isAg (bl b) = false := rfl
@[simp] theorem isTu_bl (b : Bool) : SV.isTu (bl b) = false := rfl
@[simp] theorem vd_st (s : ByteArray) : SV.vd (st s) = true := rfl
@[simp] theorem ug_st (s : ByteArray) : SV.ug (st s) = (st s) := rfl
@[simp] theorem isCell_st (s : ByteArray) : SV.isCell (st s) = true := rfl
@[simp] theorem flat_st (s : ByteArray) : SV.flat (st s) = [(st s)] := rfl
@[simp] theorem isPt_st (s : ByteArray) : SV.isPt (st s) = false := rfl
@[simp] theorem isAg_st (s : ByteArray) : SV.isAg (st s) = false := rfl
@[simp] theorem isTu_st (s : ByteArray) : SV.isTu (st s) = false := rfl
@[simp] theorem vd_slc (c : List SV) (n : Nat) : SV.vd (.slc c n) = true := rfl
@[simp] theorem ug_slc (c : List SV) (n : Nat) : SV.ug (.slc c n) = (.slc c n) := rfl
@[simp] theorem isCell_slc (c : List SV) (n : Nat) : SV.isCell (.slc c n) = true := rfl
@[simp] theorem flat_slc (c : List SV) (n : Nat) : SV.flat (.slc c n) = [(.slc c n)] := rfl
@[simp] theorem isPt_slc (c : List SV) (n : Nat) : SV.isPt (.slc c n) = false := rfl
@[simp] theorem isAg_slc (c : List SV) (n : Nat) : SV.isAg (.slc c n) = false := rfl
@[simp] theorem isTu_slc (c : List SV) (n : Nat) : SV.isTu (.slc c n) = false := rfl
@[simp] theorem vd_own (i off len sz ver : Nat) : SV.vd (.own i off len sz ver) = true := rfl
@[simp] theorem ug_own (i off len sz ver : Nat) : SV.ug (.own i off len sz ver) = (.own i off len sz ver) := rfl
@[simp] theorem isCell_own (i off len sz ver : Nat) : SV.isCell (.own i off len sz ver) = true := rfl
@[simp] theorem flat_own (i off len sz ver : Nat) : SV.flat (.own i off len sz ver) = [(.own i off len sz ver)] := rfl
@[simp] theorem isPt_own (i off len sz ver : Nat) : SV.isPt (.own i off len sz ver) = false := rfl
@[simp] theorem isAg_own (i off len sz ver : Nat) : SV.isAg (.own i off len sz ver) = false := rfl
@[simp] theorem isTu_own (i off len sz ver : Nat) : SV.isTu (.own i off len sz ver) = false := rfl
@[simp] theorem vd_ptr (s : SV) (k : Nat) : SV.vd (.ptr s k) = true := rfl
@[simp] theorem ug_ptr (s : SV) (k : Nat) : SV.ug (.ptr s k) = (.ptr s k) := rfl
@[simp] theorem isCell_ptr (s : SV) (k : Nat) : SV.isCell (.ptr s k) = true := rfl
@[simp] theorem flat_ptr (s : SV) (k : Nat) : SV.flat (.ptr s k) = [(.ptr s k)] := rfl
@[simp] theorem isPt_ptr (s : SV) (k : Nat) : SV.isPt (.ptr s k) = true := rfl
@[simp] theorem isAg_ptr (s : SV) (k : Nat) : SV.isAg (.ptr s k) = false := rfl
@[simp] theorem isTu_ptr (s : SV) (k : Nat) : SV.isTu (.ptr s k) = false := rfl
@[simp] theorem vd_agg (l : List SV) : SV.vd (.agg l) = true := rfl
@[simp] theorem ug_agg (l : List SV) : SV.ug (.agg l) = (.agg l) := rfl
@[simp] theorem isCell_agg (l : List SV) : SV.isCell (.agg l) = false := rfl
@[simp] theorem isPt_agg (l : List SV) : SV.isPt (.agg l) = false := rfl
@[simp] theorem isAg_agg (l : List SV) : SV.isAg (.agg l) = true := rfl
@[simp] theorem isTu_agg (l : List SV) : SV.isTu (.agg l) = false := rfl
@[simp] theorem vd_tup (l : List SV) : SV.vd (.tup l) = true := rfl
@[simp] theorem ug_tup (l : List SV) : SV.ug (.tup l) = (.tup l) := rfl
@[simp] theorem isCell_tup (l : List SV) : SV.isCell (.tup l) = false := rfl
@[simp] theorem flat_tup (l : List SV) : SV.flat (.tup l) = [(.tup l)] := rfl
@[simp] theorem isPt_tup (l : List SV) : SV.isPt (.tup l) = false := rfl
@[simp] theorem isAg_tup (l : List SV) : SV.isAg (.tup l) = false := rfl
@[simp] theorem isTu_tup (l : List SV) : SV.isTu (.tup l) = true := rfl
@[simp] theorem vd_fn (f : Fn) (a b : List SV) : SV.vd (.fn f a b) = true := rfl
@[simp] theorem ug_fn (f : Fn) (a b : List SV) : SV.ug (.fn f a b) = (.fn f a b) := rfl
@[simp] theorem isCell_fn (f : Fn) (a b : List SV) : SV.isCell (.fn f a b) = true := rfl
@[simp] theorem flat_fn (f : Fn) (a b : List SV) : SV.flat (.fn f a b) = [(.fn f a b)] := rfl
@[simp] theorem isPt_fn (f : Fn) (a b : List SV) : SV.isPt (.fn f a b) = false := rfl
@[simp] theorem isAg_fn (f : Fn) (a b : List SV) : SV.isAg (.fn f a b) = false := rfl
@[simp] theorem isTu_fn (f : Fn) (a b : List SV) : SV.isTu (.fn f a b) = false := rfl
@[simp] theorem vd_ifc (t : TypeId) (x : SV) : SV.vd (.ifc t x) = true := rfl
@[simp] theorem ug_ifc (t : TypeId) (x : SV) : SV.ug (.ifc t x) = (.ifc t x) := rfl
@[simp] theorem isCell_ifc (t : TypeId) (x : SV) : SV.isCell (.ifc t x) = true := rfl
@[simp] theorem flat_ifc (t : TypeId) (x : SV) : SV.flat (.ifc t x) = [(.ifc t x)] := rfl
@[simp] theorem isPt_ifc (t : TypeId) (x : SV) : SV.isPt (.ifc t x) = false := rfl
@[simp] theorem isAg_ifc (t : TypeId) (x : SV) : SV.isAg (.ifc t x) = false := rfl
@[simp] theorem isTu_ifc (t : TypeId) (x : SV) : SV.isTu (.ifc t x) = false := rfl
@[simp] theorem isCell_val (v : Value) : SV.isCell (.val v) = v.oneCell' := rfl
@[simp] theorem flat_agg (l : List SV) : SV.flat (.agg l) = l := rfl
@[simp] theorem vd_gd (b : Bool) (x : SV) : SV.vd (.gd b x) = (b && x.vd) := rfl
@[simp] theorem ug_gd (b : Bool) (x : SV) : SV.ug (.gd b x) = x.ug := rfl
@[simp] theorem isI_gd (k : IntKind) (b : Bool) (x : SV) : SV.isI k (.gd b x) = (b && x.isI k) := rfl
@[simp] theorem isN_gd (b : Bool) (x : SV) : SV.isN (.gd b x) = (b && x.isN) := rfl
@[simp] theorem isB_gd (b : Bool) (x : SV) : SV.isB (.gd b x) = (b && x.isB) := rfl
@[simp] theorem isS_gd (b : Bool) (x : SV) : SV.isS (.gd b x) = (b && x.isS) := rfl
@[simp] theorem int_gd (b : Bool) (x : SV) : SV.int (.gd b x) = x.int := rfl
@[simp] theorem bool_gd (b : Bool) (x : SV) : SV.bool (.gd b x) = x.bool := rfl
@[simp] theorem str_gd (b : Bool) (x : SV) : SV.str (.gd b x) = x.str := rfl
@[simp] theorem isI_val' (k k' : IntKind) (n : Int) : SV.isI k (.val (.int k' n)) = decide (k' = k) := rfl
@[simp] theorem isN_val' (k' : IntKind) (n : Int) : SV.isN (.val (.int k' n)) = true := rfl
@[simp] theorem int_val' (k' : IntKind) (n : Int) : SV.int (.val (.int k' n)) = n := rfl
@[simp] theorem isB_val' (b : Bool) : SV.isB (.val (.bool b)) = true := rfl
@[simp] theorem bool_val' (b : Bool) : SV.bool (.val (.bool b)) = b := rfl
@[simp] theorem isS_st (s : ByteArray) : SV.isS (st s) = true := rfl
@[simp] theorem str_st (s : ByteArray) : SV.str (st s) = s := rfl
@[simp] theorem on_bl (want b : Bool) : SV.on want (bl b) = (b == want) := rfl
@[simp] theorem on_gd (want b : Bool) (x : SV) : SV.on want (.gd b x) = (b && x.on want) := rfl
@[simp] theorem bish_bl (b : Bool) : SV.bish (bl b) = true := rfl
@[simp] theorem bish_gd (b : Bool) (x : SV) : SV.bish (.gd b x) = x.bish := rfl
@[simp] theorem mv_ptr (off : Nat) (s : SV) (k : Nat) : SV.mv off (.ptr s k) = .ptr s (k + off) := rfl
@[simp] theorem els_agg (l : List SV) : SV.els' (.agg l) = l := rfl
@[simp] theorem els_tup (l : List SV) : SV.els' (.tup l) = l := rfl
@[simp] theorem isNc_ptr (s : SV) (k : Nat) : SV.isNc (.ptr s k) = true := rfl
@[simp] theorem isNc_fn (f : FuncId) (a b : List SV) : SV.isNc (.fn (.func f) a b) = true := rfl
@[simp] theorem slen_slc (c : List SV) (n : Nat) : SV.slen (.slc c n) = n := rfl
@[simp] theorem slen_own (i off len sz ver : Nat) : SV.slen (.own i off len sz ver) = len := rfl
@[simp] theorem isSl_slc (c : List SV) (n : Nat) : SV.isSl (.slc c n) = true := rfl
@[simp] theorem isSl_own (i off len sz ver : Nat) : SV.isSl (.own i off len sz ver) = true := rfl
@[simp] theorem row_slc (H : List AO) (c : List SV) (n : Nat) : SV.row H (.slc c n) = c := rfl
@[simp] theorem row_own (H : List AO) (i off len sz ver : Nat) : SV.row H (.own i off len sz ver) = (objCells H i ver).drop off := rfl
@[simp] theorem at_ptr (H : List AO) (s : SV) (k : Nat) : SV.at H (.ptr s k) = (s.row H).drop k := rfl
@[simp] theorem els_eq (H : List AO) (sz : Nat) (s : SV) : SV.els H sz s = (s.row H).take (s.slen * sz) := rfl
@[simp] theorem isNil_val : SV.isNil (.val (.slice none 0 0)) = true := rfl
@[simp] theorem szIs_own (sz i off len s ver : Nat) : SV.szIs sz (.own i off len s ver) = (s == sz) := rfl
@[simp] theorem szIs_slc (sz : Nat) (c : List SV) (n : Nat) : SV.szIs sz (.slc c n) = true := rfl
@[simp] theorem cut_slc (sz l h : Nat) (cs : List SV) (n : Nat) : SV.cut sz l h (.slc cs n) = .slc ((cs.drop (l * sz)).take ((h - l) * sz)) (h - l) := rfl
@[simp] theorem cut_own (sz l h i off n s ver : Nat) : SV.cut sz l h (.own i off n s ver) = .own i (off + l * sz) (h - l) s ver := rfl
@[simp] theorem loOf_some (x : SV) : loOf (some x) = x.int.toNat := rfl
@[simp] theorem loOf_none : loOf none = 0 := rfl
@[simp] theorem hiOf_some (n : Nat) (x : SV) : hiOf n (some x) = x.int.toNat := rfl
@[simp] theorem hiOf_none (n : Nat) : hiOf n none = n := rfl
@[simp] theorem bdOf_some (x : SV) : bdOf (some x) = (x.isN = true ∧ 0 ≤ x.int) := rfl
@[simp] theorem bdOf_none : bdOf none = True := rfl
@[simp] theorem partOk_agg (n : Nat) (l : List SV) : partOk n (.agg l) = (l.length = n) := by simp [partOk]
@[simp] theorem partOk_i64 (n : Nat) (k : Int) : partOk n (i64 k) = (n = 1) := by
 show (n = 1 ∧ (i64 k).isCell = true ∧ true = true) = _
 simp
@[simp] theorem partOk_st (n : Nat) (k : ByteArray) : partOk n (st k) = (n = 1) := by
 show (n = 1 ∧ (st k).isCell = true ∧ true = true) = _
 simp
@[simp] theorem partOk_slc (n : Nat) (c : List SV) (k : Nat) : partOk n (.slc c k) = (n = 1) := by simp [partOk, SV.ug, SV.vd, SV.isCell]
@[simp] theorem partOk_own (n i off len sz ver : Nat) : partOk n (.own i off len sz ver) = (n = 1) := by simp [partOk, SV.ug, SV.vd, SV.isCell]
@[simp] theorem fillS_nil (z : List SV) : fillS z [] = z := rfl
@[simp] theorem fillS_cons (z : List SV) (off : Nat) (v : SV) (r : List (Nat × SV)) : fillS z ((off, v) :: r) = fillS (z.take off ++ v.ug.flat ++ z.drop (off + v.ug.flat.length)) r := rfl
@[simp] theorem cellsOk_nil : cellsOk [] = True := by simp [cellsOk]
@[simp] theorem cellsOk_cons (s : SV) (l : List SV) : cellsOk (s :: l) = (s.isCell = true ∧ cellsOk l) := by simp [cellsOk]
@[simp] theorem cellsOk_append (a b : List SV) : cellsOk (a ++ b) = (cellsOk a ∧ cellsOk b) := by
 apply propext; constructor
 · intro h; exact ⟨fun s hs => h s (by simp [hs]), fun s hs => h s (by simp [hs])⟩
 · rintro ⟨h1, h2⟩ s hs; rcases List.mem_append.1 hs with h | h
   · exact h1 s h
   · exact h2 s h
def ints (l : List Int) : List SV := l.map i64
@[simp] theorem ints_length (l : List Int) : (ints l).length = l.length := by simp [ints]
attribute [simp] objCells_new objCells_new0 setObj_new setObj_new0
@[simp] theorem objCells_hit (o : AO) (r : List AO) (ver : Nat) : objCells (o :: r) 0 ver = if (o.live && o.ver == ver) = true then o.cells else [] := by simp [objCells]
@[simp] theorem objCells_next (o : AO) (r : List AO) (k ver : Nat) : objCells (o :: r) (k + 1) ver = objCells r k ver := by simp [objCells]
@[simp] theorem setObj_hit (o : AO) (r : List AO) (f : AO -> AO) : setObj (o :: r) 0 f = f o :: r := by simp [setObj]
@[simp] theorem setObj_next (o : AO) (r : List AO) (k : Nat) (f : AO -> AO) : setObj (o :: r) (k + 1) f = o :: setObj r k f := by
 simp only [setObj, List.getElem?_cons_succ]; cases r[k]? <;> simp
@[simp] theorem objIs_new (H L : List AO) (k ver : Nat) (T : TypeId) (m : Nat) : objIs (H ++ L) (H.length + k) ver T m = objIs L k ver T m := by
 unfold objIs; rw [List.getElem?_append_right (by omega)]; simp
@[simp] theorem objIs_new0 (H L : List AO) (ver : Nat) (T : TypeId) (m : Nat) : objIs (H ++ L) H.length ver T m = objIs L 0 ver T m := objIs_new H L 0 ver T m
@[simp] theorem objIs_hit (o : AO) (r : List AO) (ver : Nat) (T : TypeId) (m : Nat) : objIs (o :: r) 0 ver T m = (o.live = true ∧ o.ver = ver ∧ o.ty = T ∧ o.cells.length = m) := by simp [objIs]
@[simp] theorem objIs_next (o : AO) (r : List AO) (k ver : Nat) (T : TypeId) (m : Nat) : objIs (o :: r) (k + 1) ver T m = objIs r k ver T m := by simp [objIs]
attribute [simp] AO.put AO.grow eqSide eqAll SV.under SV.underL keptO keptOk placeOf
@[simp] theorem under_i64 (n : Nat) (k : Int) : SV.under n (i64 k) = true := rfl
@[simp] theorem under_bl (n : Nat) (b : Bool) : SV.under n (bl b) = true := rfl
@[simp] theorem under_st (n : Nat) (s : ByteArray) : SV.under n (st s) = true := rfl
@[simp] theorem fin_normal (n0 : Nat) (rs : List RS) (r : SV) (H' : List AO) (env : Env) (H1 : List AO) : Ab.Fin n0 rs (.ret r) H' .normal env H1 = ((∀ s ∈ rs, s.side env H1) ∧ Cv n0 (resV env H1 rs) H1 r H') := rfl
@[simp] theorem fin_ret (n0 : Nat) (rs : List RS) (r : SV) (H' : List AO) (env : Env) (H1 : List AO) : Ab.Fin n0 rs (.ret r) H' .ret env H1 = ((∀ s ∈ rs, s.side env H1) ∧ Cv n0 (resV env H1 rs) H1 r H') := rfl
@[simp] theorem finP_normal (n0 : Nat) (rs : List RS) (Pt : Out -> List AO -> Prop) (env : Env) (H1 : List AO) : Ab.FinP n0 rs Pt .normal env H1 = ((∀ s ∈ rs, s.side env H1) ∧ FinQ n0 Pt (resV env H1 rs) H1) := rfl
@[simp] theorem finP_ret (n0 : Nat) (rs : List RS) (Pt : Out -> List AO -> Prop) (env : Env) (H1 : List AO) : Ab.FinP n0 rs Pt .ret env H1 = ((∀ s ∈ rs, s.side env H1) ∧ FinQ n0 Pt (resV env H1 rs) H1) := rfl
@[congr] theorem FinQ_congr {n0 : Nat} {Pt : Out -> List AO -> Prop} {v v' : SV} {H H' : List AO} (h : Ev v = v') (h1 : Ev H = H') : FinQ n0 Pt v H = FinQ n0 Pt v' H' := by rw [Ev_to h, Ev_to h1]
@[simp] theorem fin_pan (n0 : Nat) (rs : List RS) (x y : SV) (H' : List AO) (env : Env) (H1 : List AO) : Ab.Fin n0 rs (.pan y) H' (.panic x) env H1 = Cv n0 x H1 y H' := rfl
attribute [simp] RS.side RS.ev resV
theorem cv_fz {n0 : Nat} {H L : List AO} {r r1 : SV} (d : Nat) (hcl : closed H) (hn : n0 = H.length) (h : r1.fz H.length [] L d = r) : Cv n0 r1 (H ++ L) r H := by
 subst h; exact cv_none d rfl (by omega) hcl
theorem cv_id {n0 : Nat} {H : List AO} {r : SV} : Cv n0 r H r H := fun S v hS hsim hv => ⟨S.ρ, by subst hS; exact Ext.refl _ _, by subst hS; exact hsim, by subst hS; exact hv⟩
theorem fz_under {n : Nat} {ks : List Nat} {L : List AO} {d : Nat} {s : SV} (h : s.under n = true) : SV.fz n ks L (d + 1) s = s := by unfold SV.fz; rw [if_pos h]
@[simp] theorem fz_i64 (n : Nat) (ks : List Nat) (L : List AO) (d : Nat) (k : Int) : SV.fz n ks L (d + 1) (i64 k) = i64 k := fz_under rfl
@[simp] theorem fz_bl (n : Nat) (ks : List Nat) (L : List AO) (d : Nat) (k : Bool) : SV.fz n ks L (d + 1) (bl k) = bl k := fz_under rfl
end Go.Ab
namespace Go.Ab
variable [GlobEnv] [FrEnv] [KnEnv]
structure IsI (H : List AO) (x : SV) (l : List Int) : Prop where
 vd : x.vd = true
 ug : x.ug = x
 sl : x.isSl = true
 cell : x.isCell = true
 sz : x.szIs 1 = true
 len : x.slen = l.length
 und : x.under H.length = true
 row : (x.row H).take l.length = ints l
 flat : x.flat = [x]
theorem objCells_app {H : List AO} {i ver : Nat} (L : List AO) (h : i < H.length) : objCells (H ++ L) i ver = objCells H i ver := by
 unfold objCells; rw [List.getElem?_append_left h]
theorem row_app {H : List AO} {x : SV} (L : List AO) (h : x.under H.length = true) : x.row (H ++ L) = x.row H := by
 cases x <;> try rfl
 rename_i i off len sz ver
 simp only [SV.row]; rw [objCells_app L (by simpa [SV.under] using h)]
namespace IsI
variable {H : List AO} {x : SV} {l : List Int}
theorem rowlen (h : IsI H x l) : l.length ≤ (x.row H).length := by
 have := congrArg List.length h.row
 simp at this; omega
theorem ldlen (h : IsI H x l) {k : Nat} (hk : k < l.length) : k < (x.row H).length := Nat.lt_of_lt_of_le hk h.rowlen
theorem ld (h : IsI H x l) {k : Nat} (hk : k < l.length) : ((x.row H).drop k).headD .any = i64 (l.getD k 0) := by
 have h1 := h.ldlen hk
 have h2 : ((x.row H).take l.length)[k]? = (ints l)[k]? := by rw [h.row]
 rw [List.getElem?_take_of_lt hk] at h2
 rw [List.headD_eq_head?_getD, List.head?_drop, h2]
 simp [ints, hk]
theorem ok (h : IsI H x l) {k : Nat} (hk : k < l.length) : ldok H (.ptr x k) 1 := by
 have := h.ldlen hk
 simp only [ldok, at_ptr, List.length_drop]; omega
theorem v (h : IsI H x l) {k : Nat} (hk : k < l.length) : ldv H (.ptr x k) = i64 (l[k]'hk) := by
 have := h.ld hk
 simp only [ldv, at_ptr, this, List.getD_eq_getElem?_getD, List.getElem?_eq_getElem hk, Option.getD_some]
theorem own0 (H : List AO) (L : List AO) (k ver : Nat) (l m : List Int) (T : TypeId) (h : L[k]? = some ⟨ints (l ++ m), T, ver, true⟩) : IsI (H ++ L) (.own (H.length + k) 0 l.length 1 ver) l := by
 refine ⟨rfl, rfl, rfl, rfl, rfl, rfl, ?_, ?_, rfl⟩
 · have : k < L.length := getElem?_lt h
   simp; omega
 · simp only [SV.row, objCells_new, List.drop_zero]
   unfold objCells
   rw [h]
   simp [ints]
end IsI
theorem li_go {P : Program} (hm : P.follows .mixedOrders = true) {N : Nat} {i j : IC} (e : i = j) {env : Env} {H : List AO} {K : XE -> Env -> List AO -> Prop}
 (h : X P N drawB j env H fun x env H => match x with | .normal => LI P N drawB i env H K | x => K x env H) : LI P N drawB i env H K := by
 subst e; exact li_round hm h
@[congr] theorem LI_congr {P : Program} {N : Nat} {D : Array Oper -> List Nat -> List Ins -> Bool} {i : IC} {env env' : Env} {H H' : List AO} {K : XE -> Env -> List AO -> Prop} (h : Ev env = env') (h2 : Ev H = H') : LI P N D i env H K = LI P N D i env' H' K := by rw [Ev_to h, Ev_to h2]
@[simp] theorem add_lt_left' (n k : Nat) : (n + k < n) = False := by simp
theorem wrap_nat {n : Nat} (h : n ≤ 9223372036854775807) : IntKind.i64.wrap (n : Int) = n := wrap_id (by omega) (by omega)
theorem wrap_suc {n : Nat} (h : n < 9223372036854775807) : IntKind.i64.wrap ((n : Int) + 1) = (n : Int) + 1 := wrap_id (by omega) (by omega)
theorem wrap_succ {n : Nat} (h : n < 9223372036854775807) : IntKind.i64.wrap ((n : Int) + 1) = ((n + 1 : Nat) : Int) := by rw [wrap_id (by omega) (by omega)]; rfl
def SV.strip : SV -> SV
 | .gd true x => x.strip
 | x => x
theorem vr_strip {S : St} {s : SV} {v : Value} (h : VR S s v) : VR S s.strip v := by
 induction h with
 | gd b x v h0 h ih =>
  cases b with
  | true => exact ih rfl
  | false => exact .gd false x v h0 h
 | any v => exact .any v
 | val v => exact .val v
 | nilslc => exact .nilslc
 | slc cells len a cap us hc hl hi h ih => exact .slc cells len a cap us hc hl hi h
 | own i off len sz ver a cap o ho hv hc hz h => exact .own i off len sz ver a cap o ho hv hc hz h
 | ptrI cells len k a us hl hi h ih => exact .ptrI cells len k a us hl hi h
 | ptrO i off len sz ver k a o ho hv h => exact .ptrO i off len sz ver k a o ho hv h
 | agg l us hl h ih => exact .agg l us hl h
 | tup l us hl h ih => exact .tup l us hl h
 | fn f x y us vs hl h hl' h' ih ih' => exact .fn f x y us vs hl h hl' h'
 | ifc t x v h ih => exact .ifc t x v h
 | yl i l o ho h => exact .yl i l o ho h
 | mp i ver l o ho hv h => exact .mp i ver l o ho hv h
 | mpf vs l es cl us hb hn hu hl h ih => exact .mpf vs l es cl us hb hn hu hl h
theorem Ok.strip {P : Program} {f : FuncId} {args : List SV} {H H' : List AO} {out : Out} (h : Ok P f (args.map SV.strip) H out H') : Ok P f args H out H' :=
 ⟨h.1, fun S vs hH hS hv => h.2 S vs hH hS (hv.map fun s v hs => vr_strip hs)⟩
theorem callq_st {P : Program} {on : Bool} {k : FuncId} {args : List SV} {H : List AO} {r : SV} {K : SV -> Prop} (h : on = true -> Ok P k (args.map SV.strip) H (.ret r) H) (hk : K r) : CallQ P on (.fn (.func k) [] []) args H K :=
 callq_go (fun ho => (h ho).strip) hk
theorem IsI.whole {H L : List AO} {T : TypeId} {l : List Int} {k n ver : Nat} (h : L[k]? = some ⟨ints l, T, ver, true⟩) (hn : n = l.length) : IsI (H ++ L) (.own (H.length + k) 0 n 1 ver) l := by
 subst hn; exact IsI.own0 H L k ver l [] T (by simpa using h)
section
variable (n : Nat) (ks : List Nat) (L : List AO) (d : Nat)
theorem map_fz_under {l : List SV} (h : SV.underL n l = true) : l.map (SV.fz n ks L (d + 1)) = l := by
 rw [SV.underL_iff] at h
 have : l.map (SV.fz n ks L (d + 1)) = l.map id := List.map_congr_left fun s hs => fz_under (h s hs)
 simpa using this
@[simp] theorem fz_agg (l : List SV) : SV.fz n ks L (d + 2) (.agg l) = .agg (l.map (SV.fz n ks L (d + 1))) := by
 by_cases h : (SV.agg l).under n = true
 · rw [fz_under h]; rw [map_fz_under n ks L d (by simpa [SV.under] using h)]
 · conv => lhs; unfold SV.fz
   rw [if_neg h]
@[simp] theorem fz_tup (l : List SV) : SV.fz n ks L (d + 2) (.tup l) = .tup (l.map (SV.fz n ks L (d + 1))) := by
 by_cases h : (SV.tup l).under n = true
 · rw [fz_under h]; rw [map_fz_under n ks L d (by simpa [SV.under] using h)]
 · conv => lhs; unfold SV.fz
   rw [if_neg h]
@[simp] theorem fz_slc (l : List SV) (m : Nat) : SV.fz n ks L (d + 2) (.slc l m) = .slc (l.map (SV.fz n ks L (d + 1))) m := by
 by_cases h : (SV.slc l m).under n = true
 · rw [fz_under h]; rw [map_fz_under n ks L d (by simpa [SV.under] using h)]
 · conv => lhs; unfold SV.fz
   rw [if_neg h]
@[simp] theorem fz_st (s : ByteArray) : SV.fz n ks L (d + 1) (st s) = st s := fz_under rfl
@[simp] theorem fz_val (v : Value) : SV.fz n ks L (d + 1) (.val v) = .val v := fz_under rfl
@[simp] theorem fz_own (k off len sz ver : Nat) : SV.fz n ks L (d + 1) (.own (n + k) off len sz ver) = (match L[k]? with
     | some o =>
       match placeOf ks k with
       | some p => if o.ver = ver then .own (n + p) off len sz 0 else .any
       | none => if o.live = true ∧ o.ver = ver ∧ off + len * sz ≤ o.cells.length then .slc (((o.cells.drop off).take (len * sz)).map (SV.fz n ks L d)) len else .any
     | none => .any) := by
 conv => lhs; unfold SV.fz
 rw [if_neg (by simp [SV.under])]
 have e : n + k - n = k := by omega
 simp only [e]
 cases L[k]? with
 | none => rfl
 | some o => cases placeOf ks k <;> rfl
end
end Go.Ab
namespace Go.Ab
variable [GlobEnv] [FrEnv] [KnEnv]
open Go.RowKit
def st0 (W : World) : St := ⟨fun _ => none, [], W⟩
theorem sim0 (W : World) (hg : (st0 W).GL) (hk : KnEnv.kn = []) : Sim (st0 W) :=
 ⟨fun i o h => by simp [st0] at h, fun i o h => by simp [st0] at h, fun i j o o' b h => by simp [st0] at h, fun i o h => by simp [st0] at h, hg, fun p hp => by rw [hk] at hp; cases hp⟩
theorem rw0 (W : World) (k : Nat) : ¬ (st0 W).rw k := by
 rintro ⟨i, o, h, _⟩; simp [st0] at h
theorem below_of_ext {W W' : World} {ρ : Nat -> Option Nat} {H : List AO} (h : Ext 0 (st0 W) ⟨ρ, H, W'⟩) : Below W.heap.size W W' :=
 ⟨h.os, h.tape, h.output, h.size, fun k hk => (h.imm k hk (rw0 W k)).1⟩
theorem ok_calls [KnNo] {P : Program} {f : FuncId} {args : List SV} (h : Ok P f args [] (.ret (bl true)) []) {W : World} (hg : (st0 W).GL) {vs : List Value} (hv : VRs (st0 W) args vs) :
 Calls P f vs.toArray W fun e W' => e = .returned (.bool true) ∧ Below W.heap.size W W' := by
 refine (h.2 (st0 W) vs rfl (sim0 W hg KnNo.nokn) hv).mono ?_
 rintro e W' ⟨v, ρ', hext, _, rfl, hv⟩
 refine ⟨?_, below_of_ext hext⟩
 have := hv.isB rfl
 rw [this]; rfl
end Go.Ab
namespace Go.Ab
variable [GlobEnv] [FrEnv] [KnEnv] [KnNo] [KnOld]
open Go.ChangeShapes Go.WideShapes Go.RowKit
inductive Sh where
 | int (k : IntKind)
 | bool
 | str
 | sl (e : Sh)
 | st (l : List Sh)
inductive Dt where
 | int (k : IntKind) (n : Int)
 | bool (b : Bool)
 | str (s : ByteArray)
 | sl (l : List Dt)
 | agg (l : List Dt)
 deriving Inhabited
mutual
def Dt.cells : Dt -> List SV
 | .int k n => [.val (.int k n)]
 | .bool b => [bl b]
 | .str s => [Ab.st s]
 | .sl l => [.slc (Dt.cellsL l) l.length]
 | .agg l => Dt.cellsL l
def Dt.cellsL : List Dt -> List SV
 | [] => []
 | d :: r => d.cells ++ Dt.cellsL r
end
def Dt.sv : Dt -> SV
 | .agg l => .agg (Dt.cellsL l)
 | d => d.cells.headD .any
mutual
def Sh.has : Sh -> Dt -> Prop
 | .int k, d => ∃ n, d = .int k n ∧ (Lit.int k n).wf = true
 | .bool, d => ∃ b, d = .bool b
 | .str, d => ∃ s, d = .str s ∧ s.size ≤ maxLen
 | .sl e, d => ∃ l, d = .sl l ∧ l.length ≤ maxLen ∧ ∀ x ∈ l, e.has x
 | .st l, d => ∃ m, d = .agg m ∧ Sh.hasL l m
def Sh.hasL : List Sh -> List Dt -> Prop
 | [], m => m = []
 | s :: r, m => ∃ d m', m = d :: m' ∧ s.has d ∧ Sh.hasL r m'
end
mutual
def Sh.chk (P : Program) : Sh -> TypeId -> Bool
 | .int k, t => match P.underlying t with | some (.int k') => decide (k' = k) | _ => false
 | .bool, t => match P.underlying t with | some .bool => true | _ => false
 | .str, t => match P.underlying t with | some .string => true | _ => false
 | .sl e, t => match P.underlying t with | some (.slice e') => e.chk P e' | _ => false
 | .st l, t => match P.underlying t with | some (.struct fs) => Sh.chkL P l fs.toList 0 (P.cellsOf t) | _ => false
def Sh.chkL (P : Program) : List Sh -> List Field -> Nat -> Nat -> Bool
 | [], fs, off, tot => fs.isEmpty && off == tot
 | s :: r, fs, off, tot => match fs with | [] => false | f :: fs => f.offset == off && s.chk P f.type && Sh.chkL P r fs (off + P.cellsOf f.type) tot
end
section
variable {H : Type} {enc : TypeId × Value -> H} {P : Program} {W : World} {base : Nat} {spare : Nat -> Bool} {held : Bool}
theorem cellsL_append (a b : List Dt) : Dt.cellsL (a ++ b) = Dt.cellsL a ++ Dt.cellsL b := by
 induction a with
 | nil => rfl
 | cons x r ih => simp [Dt.cellsL, ih]
theorem read_row {e : TypeId} {sh : Sh} {n : Nat} {a : Addr} {elems : List (DataW H × List MemPlace)}
 (ih : ∀ cs x, DataW.trod enc P W base spare held n e cs = some x -> ∃ d, sh.has d ∧ VRs (st0 W) d.cells cs) :
 ∀ k, k ≤ elems.length -> (∀ i, i < k -> (W.cells? base (a.add (i * P.cellsOf e)) (P.cellsOf e)).bind (DataW.trod enc P W base spare held n e) = elems[i]?) →
  ∃ (ds : List Dt) (us : List Value), ds.length = k ∧ (∀ x ∈ ds, sh.has x) ∧ VRs (st0 W) (Dt.cellsL ds) us ∧ us.length = k * P.cellsOf e ∧ ∀ j u, us[j]? = some u -> W.cell? (a.add j) = some u := by
 intro k
 induction k with
 | zero => intro _ _; exact ⟨[], [], rfl, by simp, VRs.nil _, by simp, by simp⟩
 | succ k ihk =>
  intro hk hel
  obtain ⟨ds, us, h1, h2, h3, h4, h5⟩ := ihk (by omega) (fun i hi => hel i (by omega))
  have h6 := hel k (by omega)
  rw [List.getElem?_eq_getElem (by omega), Option.bind_eq_some_iff] at h6
  obtain ⟨cs, hcs, ht⟩ := h6
  obtain ⟨d, hd, hv⟩ := ih cs _ ht
  obtain ⟨_, hlen, hc⟩ := World.cells?_some hcs
  refine ⟨ds ++ [d], us ++ cs, by simp [h1], ?_, ?_, ?_, ?_⟩
  · intro x hx
    rcases List.mem_append.1 hx with hx | hx
    · exact h2 x hx
    · simp at hx; subst hx; exact hd
  · rw [cellsL_append]; simpa [Dt.cellsL] using h3.append hv
  · simp [h4, hlen, Nat.add_mul]
  · intro j u hj
    by_cases hlt : j < us.length
    · rw [List.getElem?_append_left hlt] at hj; exact h5 j u hj
    · rw [List.getElem?_append_right (by omega)] at hj
      have hj' : j - us.length < cs.length := getElem?_lt hj
      have := hc (j - us.length) (by omega)
      rw [hj, add_add] at this
      rw [← this]; congr 2; omega
mutual
theorem read (sh : Sh) : ∀ {t : TypeId} {fuel : Nat} {cs : List Value} {x : DataW H × List MemPlace}, sh.chk P t = true -> DataW.trod enc P W base spare held fuel t cs = some x →
 ∃ d, sh.has d ∧ VRs (st0 W) d.cells cs := by
 intro t fuel cs x hc h
 cases sh with
 | int k =>
  simp only [Sh.chk] at hc
  split at hc
  · rename_i k' ht
    have : k' = k := by simpa using hc
    subst this
    obtain ⟨n, rfl, _, hw⟩ := DataW.trod_int ht h
    exact ⟨.int k' n, ⟨n, rfl, hw⟩, VRs.cons (.val _) (VRs.nil _)⟩
  · cases hc
 | bool =>
  simp only [Sh.chk] at hc
  split at hc
  · rename_i ht
    obtain ⟨b, rfl⟩ : ∃ b, cs = [.bool b] := by
     cases fuel with
     | zero => simp [DataW.trod] at h
     | succ n =>
      unfold DataW.trod at h
      rw [ht] at h
      split at h <;> simp_all
    exact ⟨.bool b, ⟨b, rfl⟩, VRs.cons (.val _) (VRs.nil _)⟩
  · cases hc
 | str =>
  simp only [Sh.chk] at hc
  split at hc
  · rename_i ht
    obtain ⟨s, rfl, _, hs⟩ := DataW.trod_string ht h
    exact ⟨.str s, ⟨s, rfl, hs⟩, VRs.cons (.val _) (VRs.nil _)⟩
  · cases hc
 | sl e =>
  simp only [Sh.chk] at hc
  split at hc
  · rename_i e' ht
    rcases DataW.trod_slice ht h with ⟨rfl, _⟩ | ⟨a, len, cap, elems, rest, n, _, rfl, _, hb, hl, hm, hlen, hel, _, _⟩
    · exact ⟨.sl [], ⟨[], rfl, by simp, by simp⟩, VRs.cons .nilslc (VRs.nil _)⟩
    · obtain ⟨ds, us, h1, h2, h3, h4, h5⟩ := read_row (sh := e) (fun cs x hx => read e hc hx) len (by omega) hel
      refine ⟨.sl ds, ⟨ds, rfl, by omega, h2⟩, VRs.cons ?_ (VRs.nil _)⟩
      have : ds.length = len := h1
      subst this
      exact .slc _ _ a cap us hl h3.1 ⟨h5, fun _ => rw0 W _, fun hf => absurd (KnOld.old.symm.trans hf) (by decide)⟩ h3.2
  · cases hc
 | st l =>
  simp only [Sh.chk] at hc
  split at hc
  · rename_i fs ht
    obtain ⟨xs, n, _, _, hl, hlen, hf⟩ := DataW.trod_struct ht h
    obtain ⟨m, hm, hv⟩ := readL l (n := n) (cs := cs) (fs := fs.toList) (off := 0) (xs := xs) hc (fun i f hi => by
     have hlt : i < xs.length := by rw [hlen]; simpa using getElem?_lt hi
     refine ⟨xs[i], ?_⟩
     rw [hf i f (by simpa using hi), List.getElem?_eq_getElem hlt]) hl
    exact ⟨.agg m, ⟨m, rfl, hm⟩, by rw [Dt.cells]; simpa using hv⟩
  · cases hc
theorem readL (l : List Sh) : ∀ {n : Nat} {cs : List Value} {fs : List Field} {off tot : Nat} {xs : List (DataW H × List MemPlace)}, Sh.chkL P l fs off tot = true →
 (∀ (i : Nat) (f : Field), fs[i]? = some f -> ∃ x, DataW.trod enc P W base spare held n f.type ((cs.drop f.offset).take (P.cellsOf f.type)) = some x) -> cs.length = tot →
 ∃ m, Sh.hasL l m ∧ VRs (st0 W) (Dt.cellsL m) (cs.drop off) := by
 intro n cs fs off tot xs hc hf hl
 cases l with
 | nil =>
  simp only [Sh.chkL, Bool.and_eq_true, List.isEmpty_iff, beq_iff_eq] at hc
  refine ⟨[], rfl, ?_⟩
  rw [List.drop_of_length_le (by omega)]
  exact VRs.nil _
 | cons s r =>
  simp only [Sh.chkL] at hc
  split at hc
  · cases hc
  · rename_i f fs'
    simp only [Bool.and_eq_true, beq_iff_eq] at hc
    obtain ⟨⟨h1, h2⟩, h3⟩ := hc
    obtain ⟨x, hx⟩ := hf 0 f rfl
    obtain ⟨d, hd, hv⟩ := read s h2 hx
    obtain ⟨m, hm, hv'⟩ := readL r (n := n) (cs := cs) (fs := fs') (xs := xs) h3 (fun i f hi => hf (i + 1) f (by simpa using hi)) hl
    refine ⟨d :: m, ⟨d, m, rfl, hd, hm⟩, ?_⟩
    have := hv.append hv'
    rw [h1, <- List.drop_drop, List.take_append_drop] at this
    simpa [Dt.cellsL] using this
end
end
end Go.Ab
namespace Go.Ab
variable [GlobEnv] [FrEnv] [KnEnv] [KnNo] [KnOld]
open Go.ChangeShapes Go.WideShapes Go.ChangeAt Go.RowKit
section
variable {H : Type} {enc : TypeId × Value -> H} {P : Program} {W : World} {base b0 : Nat} {spare : Nat -> Bool} {held : Bool} {r : Reach}
theorem below_all (hl : laidOutB P = true) {W' : World} (hb : Below W.heap.size W W') : ∀ {ts : List TypeId} {vs : List Value} {ds : List (DataW H)} {p : List MemPlace},
 (∀ t ∈ ts, P.readableRec t = true ∧ t < P.types.size) -> DataW.TrodAll enc P W 0 (fun _ => true) true ts vs ds p -> DataW.TrodAll enc P W' 0 (fun b => decide (b < W.heap.size)) true ts vs ds p
 | [], vs, ds, p, _, h => by obtain ⟨rfl, rfl, rfl⟩ := trodAll_nil h; exact trodAll_mk0
 | t :: ts, vs, ds, p, hr, h => by
  obtain ⟨v, vs', d, ds', p, q, rfl, rfl, rfl, h1, h2⟩ := trodAll_cons h
  have hlt : ∀ x ∈ p, x.block < W.heap.size := by obtain ⟨m, hm⟩ := h1; exact DataW.trod_lt m _ _ _ hm
  exact trodAll_cons_mk (Below.trod hl (hr t (by simp)).1 (hr t (by simp)).2 h1 hb hlt) (below_all hl hb (fun t ht => hr t (by simp [ht])) h2)
theorem trodAll_len : ∀ {ts : List TypeId} {vs : List Value} {ds : List (DataW H)} {p : List MemPlace}, DataW.TrodAll enc P W base spare held ts vs ds p -> ds.length = ts.length
 | [], vs, ds, p, h => by obtain ⟨rfl, rfl, rfl⟩ := trodAll_nil h; rfl
 | t :: ts, vs, ds, p, h => by
  obtain ⟨v, vs', d, ds', p, q, rfl, rfl, rfl, h1, h2⟩ := trodAll_cons h
  simp [trodAll_len h2]
end
end Go.Ab
namespace Go.Ab
variable [GlobEnv] [FrEnv] [KnEnv]
def SV.gv (k ver : Nat) (cs : List SV) : Nat -> SV -> SV
 | 0, s => s
 | d + 1, s =>
  match s with
  | .own i off len sz v => if i = k ∧ v = ver ∧ off + len * sz ≤ cs.length then .slc ((cs.drop off).take (len * sz)) len else .own i off len sz v
  | .agg l => .agg (l.map (SV.gv k ver cs d))
  | .tup l => .tup (l.map (SV.gv k ver cs d))
  | s => s
section
variable {S : St} {k : Nat} {o : AO}
theorem gv_rel (hS : Sim S) (ho : S.H[k]? = some o) (hl : o.live = true) : ∀ (d : Nat) (s : SV) (v : Value), VR S s v -> VR ⟨S.ρ, S.H.set k o.dead, S.w⟩ (s.gv k o.ver o.cells d) v := by
 have he := ext_kill ho
 intro d
 induction d with
 | zero => intro s v h; exact h.ext he
 | succ d ih =>
  intro s v h
  unfold SV.gv
  split
  · rename_i i off len sz ver
    split
    · rename_i hc
      obtain ⟨rfl, rfl, hlen⟩ := hc
      obtain ⟨ad, cap, rfl, hcap, hz, hat⟩ := h.own_inv ho rfl
      have h1 := hS.live i o ho hl
      unfold St.OwnAt at hat
      cases hρ : S.ρ i with
      | none =>
       rw [hρ] at hat
       obtain ⟨rfl, rfl⟩ := hat
       cases ad with
       | none => simpa using VR.nilslc
       | some a =>
        simp only [Nat.zero_mul, List.take_zero]
        exact .slc [] 0 a 0 [] hcap rfl ⟨fun j u hj => by simp at hj, fun hne => absurd rfl hne, imm_part0⟩ fun j s u hj => by simp at hj
      | some b =>
       rw [hρ] at hat h1
       obtain ⟨us, rest, hh, hvr⟩ := h1
       have hul : us.length = o.cells.length := hvr.1
       have him : (⟨S.ρ, S.H.set i o.dead, S.w⟩ : St).Imm ⟨b, off, none⟩ ((us.drop off).take (len * sz)) := by
        refine ⟨?_, ?_, fun _ _ => .inl ⟨_, _, hh⟩⟩
        · intro j u hj
          rw [List.getElem?_take] at hj
          split at hj
          · rw [List.getElem?_drop] at hj
            have hadd : (⟨b, off, none⟩ : Addr).add j = ⟨b, off + j, none⟩ := by unfold Addr.add; split <;> simp_all
            rw [hadd]
            show S.w.cell? _ = _
            unfold World.cell?
            simp only [hh, Option.isSome_none, Bool.false_eq_true, if_false]
            simp [List.getElem?_append_left (getElem?_lt hj), hj]
          · cases hj
        · rintro hne ⟨j, p, hp, hpl, hpρ⟩
          simp only at hp hpρ
          by_cases hij : j = i
          · subst hij; rw [List.getElem?_set_self (getElem?_lt ho)] at hp; cases hp; simp [AO.dead, AO.own] at hpl
          · rw [List.getElem?_set_ne (by omega)] at hp
            exact hij (hS.inj j i p o b hp ho hpl (AO.own_live hl) hpρ hρ)
       have hvs : VRs (⟨S.ρ, S.H.set i o.dead, S.w⟩ : St) ((o.cells.drop off).take (len * sz)) ((us.drop off).take (len * sz)) := ((hvr.ext he).drop off).take (len * sz)
       cases ad with
       | none =>
        have h0 := hz rfl
        subst h0
        have hc0 : cap = 0 := by
         rcases hat with h2 | ⟨h2, _⟩
         · exact h2
         · cases h2
        subst hc0
        simpa using VR.nilslc
       | some a =>
        rcases hat with h2 | ⟨h2, _⟩
        · have : len = 0 := by omega
          subst this
          simp only [Nat.zero_mul, List.take_zero]
          exact .slc [] 0 a cap [] hcap rfl ⟨fun j u hj => by simp at hj, fun hne => absurd rfl hne, imm_part0⟩ fun j s u hj => by simp at hj
        · cases h2
          exact .slc _ len _ cap _ hcap hvs.1 him hvs.2
    · exact h.ext he
  · cases h with
    | agg _ us hl h => exact VR.of_agg (VRs.map (S := S) (us := us) ⟨hl, h⟩ ih)
  · cases h with
    | tup _ us hl h => exact VR.of_tup (VRs.map (S := S) (us := us) ⟨hl, h⟩ ih)
  · exact h.ext he
end
@[simp] theorem dead_eq (o : AO) : AO.dead o = ⟨[], o.ty, o.ver + 1, false⟩ := rfl
def AO.gv (k ver : Nat) (cs : List SV) (d : Nat) (p : AO) : AO := { p with cells := p.cells.map (SV.gv k ver cs d) }
theorem gv_own' {k ver : Nat} {cs : List SV} {d : Nat} {p : AO} (h : (p.gv k ver cs d).own = true) : p.own = true := by
 simpa [AO.own, AO.gv] using h
theorem gv_cell {k ver : Nat} {cs : List SV} {d : Nat} {s : SV} (h : s.isCell = true) : (s.gv k ver cs d).isCell = true := by
 cases d with
 | zero => exact h
 | succ d =>
  unfold SV.gv
  split
  · split
    · rfl
    · exact h
  · simp [SV.isCell] at h
  · simp [SV.isCell] at h
  · exact h
theorem gv_under {k ver n : Nat} {cs : List SV} (hn : n ≤ k) : ∀ (d : Nat) (s : SV), s.under n = true -> s.gv k ver cs d = s := by
 intro d
 induction d with
 | zero => intro s _; rfl
 | succ d ih =>
  intro s h
  have hm : ∀ l : List SV, SV.underL n l = true -> l.map (SV.gv k ver cs d) = l := by
   intro l hl
   rw [SV.underL_iff] at hl
   have : l.map (SV.gv k ver cs d) = l.map id := List.map_congr_left fun s hs => ih s (hl s hs)
   simpa using this
  unfold SV.gv
  split
  · simp only [SV.under, decide_eq_true_eq] at h
    rw [if_neg (by omega)]
  · simp only [SV.under] at h; rw [hm _ h]
  · simp only [SV.under] at h; rw [hm _ h]
  · rfl
section
variable (k ver : Nat) (cs : List SV) (d : Nat)
@[simp] theorem gv_zero (s : SV) : SV.gv k ver cs 0 s = s := rfl
@[simp] theorem gv_i64 (n : Int) : SV.gv k ver cs d (i64 n) = i64 n := by cases d <;> rfl
@[simp] theorem gv_bl (b : Bool) : SV.gv k ver cs d (bl b) = bl b := by cases d <;> rfl
@[simp] theorem gv_st (s : ByteArray) : SV.gv k ver cs d (st s) = st s := by cases d <;> rfl
@[simp] theorem gv_val (v : Value) : SV.gv k ver cs d (.val v) = .val v := by cases d <;> rfl
@[simp] theorem gv_any : SV.gv k ver cs d .any = .any := by cases d <;> rfl
@[simp] theorem gv_slc (l : List SV) (n : Nat) : SV.gv k ver cs d (.slc l n) = .slc l n := by cases d <;> rfl
@[simp] theorem gv_ptr (s : SV) (n : Nat) : SV.gv k ver cs d (.ptr s n) = .ptr s n := by cases d <;> rfl
@[simp] theorem gv_fn (f : Fn) (a b : List SV) : SV.gv k ver cs d (.fn f a b) = .fn f a b := by cases d <;> rfl
@[simp] theorem gv_gd (b : Bool) (x : SV) : SV.gv k ver cs d (.gd b x) = .gd b x := by cases d <;> rfl
@[simp] theorem gv_agg (l : List SV) : SV.gv k ver cs (d + 1) (.agg l) = .agg (l.map (SV.gv k ver cs d)) := rfl
@[simp] theorem gv_tup (l : List SV) : SV.gv k ver cs (d + 1) (.tup l) = .tup (l.map (SV.gv k ver cs d)) := rfl
@[simp] theorem gv_own (i off len sz v : Nat) : SV.gv k ver cs (d + 1) (.own i off len sz v) = if i = k ∧ v = ver ∧ off + len * sz ≤ cs.length then .slc ((cs.drop off).take (len * sz)) len else .own i off len sz v := rfl
end
theorem gv_below {k ver n : Nat} {cs : List SV} (hc : SV.underL n cs = true) : ∀ (d : Nat) (s : SV), s.under n = true -> (s.gv k ver cs d).under n = true := by
 intro d
 induction d with
 | zero => intro s h; exact h
 | succ d ih =>
  intro s h
  have hm : ∀ l : List SV, SV.underL n l = true -> SV.underL n (l.map (SV.gv k ver cs d)) = true := by
   intro l hl
   rw [SV.underL_iff] at hl ⊢
   intro s hs
   obtain ⟨t, ht, rfl⟩ := List.mem_map.1 hs
   exact ih t (hl t ht)
  unfold SV.gv
  split
  · split
    · rw [SV.under, SV.underL_iff]
      rw [SV.underL_iff] at hc
      intro s hs
      exact hc s (List.mem_of_mem_drop (List.mem_of_mem_take hs))
    · exact h
  · simp only [SV.under] at h ⊢; exact hm _ h
  · simp only [SV.under] at h ⊢; exact hm _ h
  · exact h
section
variable {S : St} {H0 L : List AO} {k d : Nat} {o : AO}
def givS (S : St) (H0 L : List AO) (k d : Nat) (o : AO) : St := ⟨S.ρ, H0 ++ (L.set k o.dead).map (AO.gv (H0.length + k) o.ver o.cells d), S.w⟩
theorem giv_at {i : Nat} {p : AO} (h : (givS S H0 L k d o).H[i]? = some p) (ho : L[k]? = some o) :
 (i < H0.length ∧ H0[i]? = some p) ∨ (i = H0.length + k ∧ p = AO.gv (H0.length + k) o.ver o.cells d o.dead) ∨ (∃ p0 j, i = H0.length + j ∧ j ≠ k ∧ L[j]? = some p0 ∧ p = AO.gv (H0.length + k) o.ver o.cells d p0) := by
 simp only [givS] at h
 by_cases hi : i < H0.length
 · rw [List.getElem?_append_left hi] at h; exact .inl ⟨hi, h⟩
 · rw [List.getElem?_append_right (by omega), List.getElem?_map, Option.map_eq_some_iff] at h
   obtain ⟨p0, h1, rfl⟩ := h
   right
   by_cases hk : i - H0.length = k
   · left
     rw [hk, List.getElem?_set_self (getElem?_lt ho)] at h1
     cases h1
     exact ⟨by omega, rfl⟩
   · right
     rw [List.getElem?_set_ne (by omega)] at h1
     exact ⟨p0, i - H0.length, by omega, hk, h1, rfl⟩
theorem giv_ext (hH : S.H = H0 ++ L) (ho : L[k]? = some o) : Ext S.H.length S (givS S H0 L k d o) where
 obj := by
  intro i p hi hp
  rw [hH] at hp hi
  by_cases hlt : i < H0.length
  · rw [List.getElem?_append_left hlt] at hp
    exact ⟨p, by simp only [givS]; rw [List.getElem?_append_left hlt]; exact hp, Nat.le_refl _, fun _ => rfl⟩
  · rw [List.getElem?_append_right (by omega)] at hp
    by_cases hk : i - H0.length = k
    · rw [hk, ho] at hp; cases hp
      refine ⟨AO.gv (H0.length + k) o.ver o.cells d o.dead, ?_, by simp [AO.gv, AO.dead], fun _ => rfl⟩
      simp only [givS]
      rw [List.getElem?_append_right (by omega), List.getElem?_map, hk, List.getElem?_set_self (getElem?_lt ho)]; rfl
    · refine ⟨AO.gv (H0.length + k) o.ver o.cells d p, ?_, Nat.le_refl _, fun _ => rfl⟩
      simp only [givS]
      rw [List.getElem?_append_right (by omega), List.getElem?_map, List.getElem?_set_ne (by omega), hp]; rfl
 imm := by
  intro b hb hn
  refine ⟨rfl, ?_⟩
  rintro ⟨i, p, hp, hl, hρ⟩
  rcases giv_at hp ho with ⟨h1, h2⟩ | ⟨rfl, rfl⟩ | ⟨p0, j, rfl, h1, h2, rfl⟩
  · exact hn ⟨i, p, by rw [hH, List.getElem?_append_left h1]; exact h2, hl, hρ⟩
  · simp [AO.gv, AO.dead, AO.own] at hl
  · exact hn ⟨H0.length + j, p0, by rw [hH, List.getElem?_append_right (by omega)]; simpa using h2, gv_own' hl, hρ⟩
 size := Nat.le_refl _
 shape := fun _ _ _ h => h
 loops := fun _ r h => ⟨r, h⟩
 os := rfl
 tape := rfl
 output := rfl
theorem giv_rel (hS : Sim S) (hH : S.H = H0 ++ L) (ho : L[k]? = some o) (hl : o.live = true) (s : SV) (v : Value) (h : VR S s v) : VR (givS S H0 L k d o) (s.gv (H0.length + k) o.ver o.cells d) v := by
 have ho' : S.H[H0.length + k]? = some o := by rw [hH, List.getElem?_append_right (by omega)]; simpa using ho
 have h1 := gv_rel hS ho' hl d s v h
 refine h1.ext (S := ⟨S.ρ, S.H.set (H0.length + k) o.dead, S.w⟩) ?_
 have hsz : (S.H.set (H0.length + k) o.dead).length = S.H.length := by simp
 constructor
 · intro i p hi hp
   simp only at hp hi
   by_cases hik : i = H0.length + k
   · subst hik
     rw [List.getElem?_set_self (getElem?_lt ho')] at hp; cases hp
     refine ⟨AO.gv (H0.length + k) o.ver o.cells d o.dead, ?_, Nat.le_refl _, fun _ => rfl⟩
     simp only [givS]
     rw [List.getElem?_append_right (by omega), List.getElem?_map, Nat.add_sub_cancel_left, List.getElem?_set_self (getElem?_lt ho)]; rfl
   · rw [List.getElem?_set_ne (by omega), hH] at hp
     by_cases hlt : i < H0.length
     · rw [List.getElem?_append_left hlt] at hp
       exact ⟨p, by simp only [givS]; rw [List.getElem?_append_left hlt]; exact hp, Nat.le_refl _, fun _ => rfl⟩
     · rw [List.getElem?_append_right (by omega)] at hp
       refine ⟨AO.gv (H0.length + k) o.ver o.cells d p, ?_, Nat.le_refl _, fun _ => rfl⟩
       simp only [givS]
       rw [List.getElem?_append_right (by omega), List.getElem?_map, List.getElem?_set_ne (by omega), hp]; rfl
 · intro b hb hn
   refine ⟨rfl, ?_⟩
   rintro ⟨i, p, hp, hpl, hρ⟩
   rcases giv_at hp ho with ⟨h1, h2⟩ | ⟨rfl, rfl⟩ | ⟨p0, j, rfl, h1, h2, rfl⟩
   · refine hn ⟨i, p, ?_, hpl, hρ⟩
     simp only
     rw [List.getElem?_set_ne (by omega), hH, List.getElem?_append_left h1]; exact h2
   · simp [AO.gv, AO.dead, AO.own] at hpl
   · refine hn ⟨H0.length + j, p0, ?_, gv_own' hpl, hρ⟩
     simp only
     rw [List.getElem?_set_ne (by omega), hH, List.getElem?_append_right (by omega)]; simpa using h2
 · exact Nat.le_refl _
 · exact fun _ _ _ h => h
 · exact fun _ r h => ⟨r, h⟩
 · rfl
 · rfl
 · rfl
theorem giv_sim (hS : Sim S) (hH : S.H = H0 ++ L) (hcl : closed H0) (ho : L[k]? = some o) (hl : o.live = true) : Sim (givS S H0 L k d o) := by
 have ho' : S.H[H0.length + k]? = some o := by rw [hH, List.getElem?_append_right (by omega)]; simpa using ho
 have hlen : (givS S H0 L k d o).H.length = S.H.length := by simp [givS, hH]
 have at0 : ∀ {i : Nat} {p : AO}, H0[i]? = some p -> S.H[i]? = some p := by
  intro i p h; rw [hH, List.getElem?_append_left (getElem?_lt h)]; exact h
 have at1 : ∀ {j : Nat} {p : AO}, L[j]? = some p -> S.H[H0.length + j]? = some p := by
  intro j p h; rw [hH, List.getElem?_append_right (by omega)]; simpa using h
 constructor
 · intro i p hp hpl
   have key : ∀ (p0 : AO), S.H[i]? = some p0 -> p0.live = true -> p.ty = p0.ty -> (p.cells = p0.cells.map (SV.gv (H0.length + k) o.ver o.cells d)) →
    match S.ρ i with
    | none => p.cells = []
    | some b => ∃ us rest, S.w.heap[b]? = some (.cells (us ++ rest).toArray p.ty (0, 0)) ∧ VRs (givS S H0 L k d o) p.cells us := by
    intro p0 h0 h0l hty hce
    have h1 := hS.live i p0 h0 h0l
    cases hρ : S.ρ i with
    | none => rw [hρ] at h1; simp only at h1 ⊢; rw [hce, h1]; rfl
    | some b =>
     rw [hρ] at h1
     obtain ⟨us, rest, h2, h3⟩ := h1
     exact ⟨us, rest, by rw [hty]; exact h2, by rw [hce]; exact h3.map fun s v h => giv_rel hS hH ho hl s v h⟩
   show match S.ρ i with
    | none => p.cells = []
    | some b => ∃ us rest, S.w.heap[b]? = some (.cells (us ++ rest).toArray p.ty (0, 0)) ∧ VRs (givS S H0 L k d o) p.cells us
   rcases giv_at hp ho with ⟨h1, h2⟩ | ⟨rfl, rfl⟩ | ⟨p0, j, rfl, h1, h2, rfl⟩
   · refine key p (at0 h2) hpl rfl ?_
     have : p.cells.map (SV.gv (H0.length + k) o.ver o.cells d) = p.cells.map id := List.map_congr_left fun s hs => gv_under (Nat.le_add_right _ _) d s (hcl i p h2 s hs)
     rw [this]; simp
   · simp [AO.gv, AO.dead] at hpl
   · exact key p0 (at1 h2) hpl rfl rfl
 · intro i p hp s hs
   rw [hlen]
   rcases giv_at hp ho with ⟨h1, h2⟩ | ⟨rfl, rfl⟩ | ⟨p0, j, rfl, h1, h2, rfl⟩
   · exact hS.bel i p (at0 h2) s hs
   · simp [AO.gv, AO.dead] at hs
   · simp only [AO.gv, List.mem_map] at hs
     obtain ⟨t, ht, rfl⟩ := hs
     have h3 := hS.bel _ p0 (at1 h2) t ht
     refine ⟨gv_below ?_ d t h3.1, fun hl => gv_cell (h3.2 hl)⟩
     rw [SV.underL_iff]
     exact fun u hu => (hS.bel _ o ho' u hu).1
 · intro i j p q b hi hj hil hjl hρi hρj
   have key : ∀ {i : Nat} {p : AO}, (givS S H0 L k d o).H[i]? = some p -> p.own = true -> ∃ p0, S.H[i]? = some p0 ∧ p0.own = true := by
    intro i p hp hpl
    rcases giv_at hp ho with ⟨h1, h2⟩ | ⟨rfl, rfl⟩ | ⟨p0, j, rfl, h1, h2, rfl⟩
    · exact ⟨p, at0 h2, hpl⟩
    · simp [AO.gv, AO.dead, AO.own] at hpl
    · exact ⟨p0, at1 h2, gv_own' hpl⟩
   obtain ⟨p0, h1, h2⟩ := key hi hil
   obtain ⟨q0, h3, h4⟩ := key hj hjl
   exact hS.inj i j p0 q0 b h1 h3 h2 h4 hρi hρj
 · intro i p hp hl' hne
   rcases giv_at hp ho with ⟨h1, h2⟩ | ⟨rfl, rfl⟩ | ⟨p0, j, rfl, h1, h2, rfl⟩
   · obtain ⟨l, x, m, us, env, k1, k2, k3, k4, k6⟩ := hS.lp i p (at0 h2) hl' hne
     exact ⟨l, x, m, us, env, k1, k2, k3, k4, k6.ext (giv_ext hH ho)⟩
   · exact absurd rfl hne
   · have hne' : p0.cells ≠ [] := fun e => hne (by simp [AO.gv, e])
     obtain ⟨l, x, m, us, env, k1, k2, k3, k4, k6⟩ := hS.lp _ p0 (at1 h2) hl' hne'
     have hm : SV.gv (H0.length + k) o.ver o.cells d m = m := by
      cases m <;> first | (simp [SpR] at k4; done) | (cases d <;> rfl)
     refine ⟨l, x, m, us, env.map (SV.gv (H0.length + k) o.ver o.cells d), k1, ?_, k3, k4, k6.map fun s v h => giv_rel hS hH ho hl s v h⟩
     simp only [AO.gv, k2, List.map_cons, hm]
 · exact hS.gl.ext (giv_ext hH ho)
 · exact hS.kf.ext (giv_ext hH ho)
theorem get_map (e : Env) (f : SV -> SV) (hf : f .any = .any) (t : Nat) : Env.get (e.map fun p => (p.1, f p.2)) t = f (e.get t) := by
 induction e with
 | nil => exact hf.symm
 | cons p r ih =>
  obtain ⟨k, v⟩ := p
  simp only [List.map_cons, Env.get]
  split
  · rfl
  · exact ih
end
attribute [simp] AO.gv
@[simp] theorem dep_q (f : Od) (args : List Od) : J.dep (.q f args) = true := rfl
attribute [simp] List.filter_cons
end Go.Ab
namespace Go.Ab
variable [GlobEnv] [FrEnv] [KnEnv]
section
variable {P : Program} {N : Nat} {D : Array Oper -> List Nat -> List Ins -> Bool}
def place (n i : Nat) : Nat := n + i
end
@[simp] theorem len_add1 (H : List AO) (k : Nat) : H.length + k + 1 = H.length + (k + 1) := rfl
@[simp] theorem s_app_nil (T : TypeId) (sz bytes : Nat) (x : SV) (H : List AO) (K : SV -> List AO -> Prop) : s_app T sz bytes (.val (.slice none 0 0)) x H K = (x.vd = true ∧ x.ug.isSl = true ∧ x.ug.slen * sz ≤ (x.ug.row H).length ∧ cellsOk (x.ug.els H sz) ∧
     x.ug.slen * bytes ≤ 140737488355328 ∧ x.ug.slen ≤ 140737488355328 ∧ Ke K (.own H.length 0 x.ug.slen sz 1) (H ++ [⟨x.ug.els H sz, T, 1, true⟩])) := by
 simp [s_app, SV.vd, SV.ug, SV.slen, SV.isNil, Ke]
section
variable (n : Nat) (L : List AO) (d : Nat)
@[simp] theorem fz_ptr (k off len sz ver p : Nat) : SV.fz n [] L (d + 1) (.ptr (.own (n + k) off len sz ver) p) = (match L[k]? with
     | some o => if o.live = true ∧ o.ver = ver ∧ off < o.cells.length then .ptr (.slc ((o.cells.drop off).map (SV.fz n [] L d)) 0) p else .any
     | none => .any) := by
 conv => lhs; unfold SV.fz
 rw [if_neg (by simp [SV.under])]
 have e : n + k - n = k := by omega
 simp only [e]
 cases L[k]? with
 | none => rfl
 | some o => rfl
@[simp] theorem fz_ptr0 (off len sz ver p : Nat) : SV.fz n [] L (d + 1) (.ptr (.own n off len sz ver) p) = (match L[0]? with
     | some o => if o.live = true ∧ o.ver = ver ∧ off < o.cells.length then .ptr (.slc ((o.cells.drop off).map (SV.fz n [] L d)) 0) p else .any
     | none => .any) := fz_ptr n L d 0 off len sz ver p
end
end Go.Ab
namespace Go.Ab
variable [GlobEnv] [FrEnv] [KnEnv]
section
variable {P : Program} {N : Nat}
def Rg (P : Program) (N : Nat) (D : Array Oper -> List Nat -> List Ins -> Bool) (kk : Nat) (ps : List Nat) (ia ib : IC) (f : SV) (env : Env) (H : List AO) (K : XE -> Env -> List AO -> Prop) : Prop :=
 f.vd = true ∧ match f.ug with
  | .fn (.func k) first cap => ∃ Pt : Out -> List AO -> Prop, OkP P k (first ++ [.yl H.length] ++ cap) (H ++ [lpo P N D kk ps ia ib (env.vals N) .ready]) Pt ∧
   ∀ out H', Pt out H' -> match out with
    | .ret _ => ∃ k' ok st cs, H'[H.length]? = some ⟨.lp k' ok st :: cs, 0, 0, false⟩ ∧ st.out K env (H'.set H.length deadL)
    | .pan x => K (.panic x) env H'
  | _ => False
@[congr] theorem Rg_congr {D : Array Oper -> List Nat -> List Ins -> Bool} {kk : Nat} {ps : List Nat} {ia ib : IC} {f f' : SV} {env env' : Env} {H H' : List AO} {K : XE -> Env -> List AO -> Prop} (h1 : Ev f = f') (h2 : Ev env = env') (h3 : Ev H = H') :
 Rg P N D kk ps ia ib f env H K = Rg P N D kk ps ia ib f' env' H' K := by rw [Ev_to h1, Ev_to h2, Ev_to h3]
@[simp ↓] theorem X_rng (D : Array Oper -> List Nat -> List Ins -> Bool) (kk : Nat) (g : Od) (ps : List Nat) (ia ib : IC) (env : Env) (H : List AO) (K : XE -> Env -> List AO -> Prop) : X P N D (.rng kk g ps ia ib) env H K = Rg P N D kk ps ia ib (env.ev g) env H K := rfl
theorem rg_go {kk : Nat} {ps : List Nat} {ia ib : IC} {k : FuncId} {first cap : List SV} {env : Env} {H : List AO} {K : XE -> Env -> List AO -> Prop} {Pt : Out -> List AO -> Prop}
 (h : OkP P k (first ++ [.yl H.length] ++ cap) (H ++ [lpo P N drawB kk ps ia ib (env.vals N) .ready]) Pt)
 (hk : ∀ out H', Pt out H' -> match out with
  | .ret _ => ∃ st cs, H'[H.length]? = some (lpo P N drawB kk ps ia ib cs st) ∧ st.out K env (H'.set H.length deadL)
  | .pan x => K (.panic x) env H') : Rg P N drawB kk ps ia ib (.fn (.func k) first cap) env H K := ⟨rfl, Pt, h, fun out H' hp => by
 have := hk out H' hp
 cases out with
 | ret r => obtain ⟨st, cs, h1, h2⟩ := this; exact ⟨_, _, st, cs, h1, h2⟩
 | pan x => exact this⟩
theorem call_yl {i : Nat} {args : List SV} {H : List AO} {Pt : Out -> List AO -> Prop} {K : Out -> List AO -> Prop} (h : YlP P i args H Pt) (hk : ∀ out H', Pt out H' -> K out H') : CallTo P (.yl i) args H K :=
 ⟨Pt, ⟨rfl, h⟩, hk⟩
theorem YlP.mono {i : Nat} {args : List SV} {H : List AO} {Pt Pt' : Out -> List AO -> Prop} (h : YlP P i args H Pt) (hk : ∀ out H', Pt out H' -> Pt' out H') : YlP P i args H Pt' := by
 refine ⟨h.1, fun S vs l h1 h2 h3 h4 => ?_⟩
 obtain ⟨r, k1, k2, k3⟩ := h.2 S vs l h1 h2 h3 h4
 exact ⟨r, k1, k2, k3.mono fun e w' ⟨out, H', v, ρ', h5, h6⟩ => ⟨out, H', v, ρ', hk _ _ h5, h6⟩⟩
attribute [simp] Env.puts LSt.out
end
end Go.Ab
namespace Go.Ab
variable [GlobEnv] [FrEnv] [KnEnv]
theorem OkP.give {P : Program} {f : FuncId} {args : List SV} {H : List AO} {Pt : Out -> List AO -> Prop} (k : Nat) (d : Nat) {o : AO} (ho : H[k]? = some o) (hl : o.live = true)
 (h : OkP P f (args.map (SV.gv k o.ver o.cells d)) (H.set k o.dead) Pt) : OkP P f args H Pt := by
 refine ⟨h.1, ?_⟩
 intro S vs hH hS hvs
 subst hH
 have h1 := h.2 ⟨S.ρ, S.H.set k o.dead, S.w⟩ vs rfl (sim_kill hS ho) (hvs.map (gv_rel hS ho hl d))
 refine h1.mono ?_
 rintro en w' ⟨out, H', v, ρ', hp, hext, hsim, hout⟩
 exact ⟨out, H', v, ρ', hp, (ext_kill ho).trans (hext.mono (by simp)), hsim, hout⟩
section
variable {S : St}
theorem ext_retell {j : Nat} {o : AO} (ho : S.H[j]? = some o) (hl : o.live = true) (cs : List SV) : Ext S.H.length S ⟨S.ρ, S.H.set j ⟨cs, o.ty, o.ver, true⟩, S.w⟩ where
 obj := by
  intro i p hi hp
  by_cases e : i = j
  · subst e; rw [ho] at hp; cases hp
    exact ⟨⟨cs, o.ty, o.ver, true⟩, by show (S.H.set i _)[i]? = _; rw [List.getElem?_set_self hi], Nat.le_refl _, fun _ => rfl⟩
  · exact ⟨p, by show (S.H.set j _)[i]? = _; rw [List.getElem?_set_ne (by omega)]; exact hp, Nat.le_refl _, fun _ => rfl⟩
 imm := by
  refine fun k _ hnr => ⟨rfl, ?_⟩
  rintro ⟨i, p, hp, hw, hρ⟩
  by_cases e : i = j
  · subst e
    exact hnr ⟨i, o, ho, AO.own_live hl, hρ⟩
  · refine hnr ⟨i, p, ?_, hw, hρ⟩
    have hp' : (S.H.set j ⟨cs, o.ty, o.ver, true⟩)[i]? = some p := hp
    rw [List.getElem?_set_ne (by omega)] at hp'; exact hp'
 size := Nat.le_refl _
 shape := fun _ _ _ h => h
 loops := fun _ r h => ⟨r, h⟩
 os := rfl
 tape := rfl
 output := rfl
def St.lies (S : St) (j : Nat) (T : TypeId) (us : List Value) : Prop := match S.ρ j with
 | none => us = []
 | some b => ∃ rest, S.w.heap[b]? = some (.cells (us ++ rest).toArray T (0, 0))
theorem sim_retellR (hS : Sim S) {j : Nat} {o : AO} (ho : S.H[j]? = some o) (hl : o.live = true) {cs : List SV} (hok : cellsOk cs) (hc : ∀ us, S.lies j o.ty us -> VRs S o.cells us -> ∃ k, VRs S cs (us.take k)) :
 Sim ⟨S.ρ, S.H.set j ⟨cs, o.ty, o.ver, true⟩, S.w⟩ := by
 have he := ext_retell ho hl cs
 have hat : ∀ {i : Nat} {p : AO}, (S.H.set j ⟨cs, o.ty, o.ver, true⟩)[i]? = some p -> (i = j ∧ p = ⟨cs, o.ty, o.ver, true⟩) ∨ (i ≠ j ∧ S.H[i]? = some p) := by
  intro i p hp
  by_cases e : i = j
  · subst e; rw [List.getElem?_set_self (getElem?_lt ho)] at hp; cases hp; exact .inl ⟨rfl, rfl⟩
  · rw [List.getElem?_set_ne (by omega)] at hp; exact .inr ⟨e, hp⟩
 have hlive : ∀ (i : Nat) (p : AO), (S.H.set j ⟨cs, o.ty, o.ver, true⟩)[i]? = some p -> p.live = true →
  match S.ρ i with
  | none => p.cells = []
  | some b => ∃ us rest, S.w.heap[b]? = some (.cells (us ++ rest).toArray p.ty (0, 0)) ∧ VRs ⟨S.ρ, S.H.set j ⟨cs, o.ty, o.ver, true⟩, S.w⟩ p.cells us := by
  intro i p hp hpl
  rcases hat hp with ⟨rfl, rfl⟩ | ⟨hne, hp⟩
  · have h1 := hS.live i o ho hl
    cases hρ : S.ρ i with
    | none =>
     rw [hρ] at h1
     obtain ⟨k, h2⟩ := hc [] (by unfold St.lies; rw [hρ]) (by rw [h1]; exact VRs.nil S)
     exact List.eq_nil_of_length_eq_zero (by have := h2.1; simpa using this.symm)
    | some b =>
     rw [hρ] at h1
     obtain ⟨us, rest, h2, h3⟩ := h1
     obtain ⟨k, h4⟩ := hc us (by unfold St.lies; rw [hρ]; exact ⟨rest, h2⟩) h3
     refine ⟨us.take k, us.drop k ++ rest, ?_, h4.ext he⟩
     rw [← List.append_assoc, List.take_append_drop]; exact h2
  · have h1 := hS.live i p hp hpl
    cases hρ : S.ρ i with
    | none => rw [hρ] at h1; exact h1
    | some b =>
     rw [hρ] at h1
     obtain ⟨us, rest, h2, h3⟩ := h1
     exact ⟨us, rest, h2, h3.ext he⟩
 refine ⟨hlive, ?_, ?_, ?_, hS.gl.ext he, hS.kf.ext he⟩
 · intro i p hp s hs
   rcases hat hp with ⟨rfl, rfl⟩ | ⟨hne, hp'⟩
   · refine ⟨?_, fun _ => hok s hs⟩
     have h8 := hlive _ _ hp rfl
     split at h8
     · rw [h8] at hs; cases hs
     · obtain ⟨us, rest, h9, h10⟩ := h8
       obtain ⟨q, hq⟩ := List.getElem?_of_mem hs
       obtain ⟨u, _, h11⟩ := h10.get hq
       exact h11.under
   · have := hS.bel i p hp' s hs
     exact ⟨by show s.under (S.H.set j _).length = true; simpa using this.1, this.2⟩
 · intro i i' p p' b hp hp' hw hw' hρ hρ'
   have key : ∀ {i : Nat} {p : AO}, (S.H.set j ⟨cs, o.ty, o.ver, true⟩)[i]? = some p -> p.own = true -> ∃ q, S.H[i]? = some q ∧ q.own = true := by
    intro i p hp hw
    rcases hat hp with ⟨rfl, rfl⟩ | ⟨_, hp⟩
    · exact ⟨o, ho, AO.own_live hl⟩
    · exact ⟨p, hp, hw⟩
   obtain ⟨q, h1, h2⟩ := key hp hw
   obtain ⟨q', h3, h4⟩ := key hp' hw'
   exact hS.inj i i' q q' b h1 h3 h2 h4 hρ hρ'
 · intro i p hp hpl hne
   rcases hat hp with ⟨rfl, rfl⟩ | ⟨_, hp⟩
   · cases hpl
   · obtain ⟨l, x, m, us, env, k1, k2, k3, k4, k6⟩ := hS.lp i p hp hpl hne
     exact ⟨l, x, m, us, env, k1, k2, k3, k4, k6.ext he⟩
theorem sim_retell (hS : Sim S) {j : Nat} {o : AO} (ho : S.H[j]? = some o) (hl : o.live = true) {cs : List SV} (hok : cellsOk cs) (hc : ∀ us, VRs S o.cells us -> ∃ k, VRs S cs (us.take k)) :
 Sim ⟨S.ρ, S.H.set j ⟨cs, o.ty, o.ver, true⟩, S.w⟩ := sim_retellR hS ho hl hok fun us _ h => hc us h
end
def Tell (env : Env) (H : List AO) (env' : Env) (H' : List AO) : Prop :=
 ∀ (S : St) (tmps : Array Value), S.H = H -> Sim S -> EnvR S env tmps -> ∃ ρ', Ext S.H.length S ⟨ρ', H', S.w⟩ ∧ Sim ⟨ρ', H', S.w⟩ ∧ EnvR ⟨ρ', H', S.w⟩ env' tmps
theorem LI.tell {P : Program} {N : Nat} {D : Array Oper -> List Nat -> List Ins -> Bool} {i : IC} {env env' : Env} {H H' : List AO} {K : XE -> Env -> List AO -> Prop} (ht : Tell env H env' H')
 (h : LI P N D i env' H' K) : LI P N D i env H K := by
 intro c hc db S a hH hS he hN hd
 obtain ⟨ρ', h1, h2, h3⟩ := ht S a.tmps hH hS he
 exact loopIn_mono (h c hc db ⟨ρ', H', S.w⟩ a rfl h2 h3 hN (hd.ext hS h1)) fun e a w hp => Post.trans h1 hp
theorem Tell.own0 {env : Env} {H : List AO} {j p : Nat} {o : AO} (ho : H[j]? = some o) (hl : o.live = true) (hp : o.cells[p]? = some (.val (.slice none 0 0))) (T : TypeId) (sz : Nat) :
 Tell env H env (H.set j ⟨o.cells.set p (.own H.length 0 0 sz 0), o.ty, o.ver, true⟩ ++ [⟨[], T, 0, true⟩]) := by
 intro S tmps hH hS he
 subst hH
 have h1 := ext_newNil S T
 have h2 := sim_newNil hS T
 have hj := getElem?_lt ho
 have ho' : (S.newNil T).H[j]? = some o := by show (S.H ++ _)[j]? = _; rw [List.getElem?_append_left hj]; exact ho
 have hn : (S.newNil T).H[S.H.length]? = some ⟨[], T, 0, true⟩ := by show (S.H ++ _)[S.H.length]? = _; simp
 have hval : VR (S.newNil T) (.own S.H.length 0 0 sz 0) (.slice none 0 0) := by
  refine .own _ _ _ _ _ none 0 _ hn (Nat.le_refl _) (Nat.le_refl _) (fun _ => rfl) fun _ => ?_
  unfold St.OwnAt
  have : (S.newNil T).ρ S.H.length = none := upd_same _ _ _
  rw [this]; exact ⟨rfl, rfl⟩
 have hcell : cellsOk (o.cells.set p (.own S.H.length 0 0 sz 0)) := by
  intro s hs
  rcases List.mem_or_eq_of_mem_set hs with h | rfl
  · exact (hS.bel j o ho s h).2 hl
  · rfl
 have h3 := ext_retell ho' hl (o.cells.set p (.own S.H.length 0 0 sz 0))
 have h4 := sim_retell h2 ho' hl hcell (fun us hus => ⟨us.length, by
  rw [List.take_length]
  obtain ⟨u, hu1, hu2⟩ := hus.get hp
  have : u = .slice none 0 0 := by cases hu2; rfl
  subst this
  have := hus.set p hval
  have e : us.set p (.slice none 0 0) = us := by
   apply List.ext_getElem?
   intro i
   rw [List.getElem?_set]
   split
   · rename_i e; subst e
     split
     · exact hu1.symm
     · rename_i hlt; rw [List.getElem?_eq_none (by omega)]
   · rfl
  rw [e] at this; exact this⟩)
 have e : (S.newNil T).H.set j ⟨o.cells.set p (.own S.H.length 0 0 sz 0), o.ty, o.ver, true⟩ = S.H.set j ⟨o.cells.set p (.own S.H.length 0 0 sz 0), o.ty, o.ver, true⟩ ++ [⟨[], T, 0, true⟩] := by
  show (S.H ++ _).set j _ = _
  rw [List.set_append_left _ _ hj]
 rw [e] at h3 h4
 exact ⟨_, h1.trans (h3.mono (by simp [St.newNil])), h4, (he.ext h1).ext h3⟩
theorem Tell.trunc {env : Env} {H : List AO} {j : Nat} {o : AO} (ho : H[j]? = some o) (hl : o.live = true) (k : Nat) : Tell env H env (H.set j ⟨o.cells.take k, o.ty, o.ver, true⟩) := by
 intro S tmps hH hS he
 subst hH
 have h3 := ext_retell ho hl (o.cells.take k)
 exact ⟨_, h3, sim_retell hS ho hl (fun s hs => (hS.bel j o ho s (List.mem_of_mem_take hs)).2 hl) (fun us hus => ⟨k, hus.take k⟩), he.ext h3⟩
theorem Tell.give {env : Env} {H0 L : List AO} (hcl : closed H0) (k d : Nat) {o : AO} (ho : L[k]? = some o) (hl : o.live = true) :
 Tell env (H0 ++ L) (env.map fun p => (p.1, p.2.gv (H0.length + k) o.ver o.cells d)) (H0 ++ (L.set k o.dead).map (AO.gv (H0.length + k) o.ver o.cells d)) := by
 intro S tmps hH hS he
 refine ⟨_, giv_ext hH ho, giv_sim hS hH hcl ho hl, ⟨fun t => ?_⟩⟩
 rw [get_map env (SV.gv (H0.length + k) o.ver o.cells d) (gv_any _ _ _ _)]
 exact giv_rel hS hH ho hl _ _ (he.get t)
end Go.Ab
namespace Go.Ab
variable [GlobEnv] [FrEnv] [KnEnv]
def rws {α : Type} (f : α -> List SV) : List α -> List SV
 | [] => []
 | x :: r => f x ++ rws f r
section
variable {α : Type} {f : α -> List SV} {sz : Nat}
theorem rws_app (a b : List α) : rws f (a ++ b) = rws f a ++ rws f b := by
 induction a with
 | nil => rfl
 | cons x r ih => simp [rws, ih]
theorem rws_len (hf : ∀ x, (f x).length = sz) (l : List α) : (rws f l).length = l.length * sz := by
 induction l with
 | nil => simp [rws]
 | cons x r ih => simp only [rws, List.length_append, hf, ih, List.length_cons]; rw [Nat.succ_mul]; omega
theorem rws_drop (hf : ∀ x, (f x).length = sz) (l : List α) (k : Nat) (hk : k ≤ l.length) : (rws f l).drop (k * sz) = rws f (l.drop k) := by
 have e : rws f l = rws f (l.take k) ++ rws f (l.drop k) := by rw [← rws_app, List.take_append_drop]
 have h : (rws f (l.take k)).length = k * sz := by rw [rws_len hf, List.length_take, Nat.min_eq_left hk]
 rw [e, List.drop_append_of_le_length (by omega), List.drop_of_length_le (by omega), List.nil_append]
theorem rws_at (hf : ∀ x, (f x).length = sz) {l : List α} {k : Nat} (hk : k < l.length) : (rws f l).drop (k * sz) = f l[k] ++ rws f (l.drop (k + 1)) := by
 rw [rws_drop hf l k (by omega), List.drop_eq_getElem_cons hk]; rfl
end
theorem set_same {H : List AO} {j : Nat} {o : AO} (h : H[j]? = some o) : H.set j o = H := by
 apply List.ext_getElem?
 intro i
 rw [List.getElem?_set]; split
 · rename_i e; subst e; rw [if_pos (getElem?_lt h), h]
 · rfl
def SV.le (s s' : SV) : Prop := ∀ (S : St) (v : Value), VR S s v -> VR S s' v
theorem SV.le.refl (s : SV) : s.le s := fun _ _ h => h
theorem le_nil : SV.le (.val (.slice none 0 0)) (.slc [] 0) := by
 intro S v h; cases h; exact .nilslc
def leL (l l' : List SV) : Prop := l.length = l'.length ∧ ∀ (j : Nat) (s s' : SV), l[j]? = some s -> l'[j]? = some s' -> s.le s'
theorem leL.nil : leL [] [] := ⟨rfl, fun j s s' h => by simp at h⟩
theorem leL.cons {s s' : SV} {l l' : List SV} (h : s.le s') (hl : leL l l') : leL (s :: l) (s' :: l') := by
 refine ⟨by simp [hl.1], fun j a b h1 h2 => ?_⟩
 cases j with
 | zero => simp at h1 h2; subst h1 h2; exact h
 | succ j => simp at h1 h2; exact hl.2 j a b h1 h2
theorem leL.vrs {S : St} {l l' : List SV} {us : List Value} (h : leL l l') (hv : VRs S l us) : VRs S l' us := by
 refine ⟨by rw [hv.1, h.1], fun j s u h1 h2 => ?_⟩
 have hj : j < l.length := by rw [h.1]; rcases Nat.lt_or_ge j l'.length with h3 | h3; exact h3; rw [List.getElem?_eq_none h3] at h1; cases h1
 exact h.2 j _ _ (List.getElem?_eq_getElem hj) h1 S u (hv.2 j _ u (List.getElem?_eq_getElem hj) h2)
theorem le_slc {l l' : List SV} (h : leL l l') (n : Nat) : SV.le (.slc l n) (.slc l' n) := by
 intro S v hv
 cases hv with
 | nilslc =>
  have : l' = [] := List.eq_nil_of_length_eq_zero (by rw [← h.1]; rfl)
  subst this; exact .nilslc
 | slc _ _ a cap us hc hl hi hh =>
  have := h.vrs ⟨hl, hh⟩
  exact .slc _ _ a cap us hc this.1 hi this.2
theorem le_agg {l l' : List SV} (h : leL l l') : SV.le (.agg l) (.agg l') := by
 intro S v hv
 cases hv with
 | agg _ us hl hh => have := h.vrs ⟨hl, hh⟩; exact .agg _ _ this.1 this.2
theorem OkP.le {P : Program} {f : FuncId} {args args' : List SV} {H : List AO} {Pt : Out -> List AO -> Prop} (hle : leL args args') (h : OkP P f args' H Pt) : OkP P f args H Pt :=
 ⟨h.1, fun S vs hH hS hv => h.2 S vs hH hS (hle.vrs hv)⟩
theorem LI.cong {P : Program} {N : Nat} {D : Array Oper -> List Nat -> List Ins -> Bool} {i : IC} {env : Env} {H H' : List AO} {K : XE -> Env -> List AO -> Prop} (e : H' = H) (h : LI P N D i env H' K) : LI P N D i env H K := by rw [← e]; exact h
theorem OkP.cast {P : Program} {f : FuncId} {args args' : List SV} {H H' : List AO} {Pt : Out -> List AO -> Prop} (ha : args = args') (hH : H = H') (h : OkP P f args' H' Pt) : OkP P f args H Pt := by subst ha hH; exact h
theorem set_app {α : Type} (a b : List α) (k : Nat) (x : α) : (a ++ b).set (a.length + k) x = a ++ b.set k x := by rw [List.set_append_right _ _ (by omega)]; simp
theorem get_app {α : Type} (a b : List α) (k : Nat) : (a ++ b)[a.length + k]? = b[k]? := by rw [List.getElem?_append_right (by omega)]; simp
theorem Cv.le {n0 : Nat} {r1 r r' : SV} {H1 H' : List AO} (h : Cv n0 r1 H1 r H') (hle : r.le r') : Cv n0 r1 H1 r' H' := by
 intro S v hS hsim hv
 obtain ⟨ρ, h1, h2, h3⟩ := h S v hS hsim hv
 exact ⟨ρ, h1, h2, hle _ _ h3⟩
end Go.Ab
namespace Go.Ab
variable [GlobEnv] [FrEnv] [KnEnv]
namespace IsL
variable {α : Type} {f : α -> SV} {H : List AO} {x : SV} {l : List α}
end IsL
def u8 (n : Int) : SV := .val (.int .u8 n)
@[simp] theorem u8_eq (n : Int) : SV.val (.int .u8 n) = u8 n := rfl
section
variable (n : Int)
@[simp] theorem isI_u8 (k : IntKind) : SV.isI k (u8 n) = decide (IntKind.u8 = k) := rfl
@[simp] theorem isN_u8 : SV.isN (u8 n) = true := rfl
@[simp] theorem int_u8 : SV.int (u8 n) = n := rfl
@[simp] theorem ug_u8 : SV.ug (u8 n) = u8 n := rfl
@[simp] theorem vd_u8 : SV.vd (u8 n) = true := rfl
@[simp] theorem isCell_u8 : SV.isCell (u8 n) = true := rfl
@[simp] theorem flat_u8 : SV.flat (u8 n) = [u8 n] := rfl
@[simp] theorem isPt_u8 : SV.isPt (u8 n) = false := rfl
@[simp] theorem isAg_u8 : SV.isAg (u8 n) = false := rfl
@[simp] theorem isTu_u8 : SV.isTu (u8 n) = false := rfl
@[simp] theorem under_u8 (m : Nat) : SV.under m (u8 n) = true := rfl
@[simp] theorem gv_u8 (k ver : Nat) (cs : List SV) (d : Nat) : SV.gv k ver cs d (u8 n) = u8 n := by cases d <;> rfl
@[simp] theorem strip_u8 : (u8 n).strip = u8 n := rfl
end
theorem OkP.tell {P : Program} {f : FuncId} {args : List SV} {H H' : List AO} {Pt : Out -> List AO -> Prop} (ht : Tell [] H [] H') (hl : H.length ≤ H'.length) (h : OkP P f args H' Pt) : OkP P f args H Pt := by
 refine ⟨h.1, ?_⟩
 intro S vs hH hS hvs
 obtain ⟨ρ', h1, h2, _⟩ := ht S #[] hH hS ⟨fun t => .any _⟩
 have h3 := h.2 ⟨ρ', H', S.w⟩ vs rfl h2 (hvs.ext h1)
 refine h3.mono ?_
 rintro en w' ⟨out, H2, v, ρ2, hp, hext, hsim, hout⟩
 exact ⟨out, H2, v, ρ2, hp, h1.trans (hext.mono (by subst hH; exact hl)), hsim, hout⟩
theorem yl_go {P : Program} {N : Nat} (hm : P.follows .mixedOrders = true) {i kk : Nat} {ps : List Nat} {ia ib ia' ib' : IC} {env : Env} {args : List SV} {H : List AO} {Pt : Out -> List AO -> Prop} (hia : ia = ia') (hib : ib = ib')
 (ho : H[i]? = some (lpo P N drawB kk ps ia ib (env.vals N) .ready)) (he : (env.all fun p => decide (p.1 < N)) = true) (hp : (ps.all fun p => decide (p < N)) = true) (hl : args.length = ps.length)
 (hx : closed H -> X P N drawB ia' (env.puts ps args) H fun x env1 H1 => x = .normal ∧ ∃ cs, H1[i]? = some (lpo P N drawB kk ps ia ib cs .ready) ∧ X P N drawB ib' env1 (H1.set i (lpo P N drawB kk ps ia ib cs .busy)) (FinR P N kk ps ia ib i H.length Pt)) :
 YlP P i args H Pt := by
 subst hia hib
 exact yl_ok hm ho he hp hl hx
theorem cv_idq {n0 : Nat} {v : SV} {H1 H' : List AO} (h : H1 = H') : Cv n0 v H1 v H' := by subst h; exact cv_id
theorem le_tup {l l' : List SV} (h : leL l l') : SV.le (.tup l) (.tup l') := by
 intro S v hv
 cases hv with
 | tup _ us hl hh => have := h.vrs ⟨hl, hh⟩; exact .tup _ _ this.1 this.2
@[simp] theorem objCells_nS (H L : List AO) (j : Nat) (o : AO) (k ver : Nat) : objCells (H.set j o ++ L) (H.length + k) ver = objCells L k ver := by
 have := objCells_new (H := H.set j o) (L := L) (k := k) (ver := ver); simpa using this
@[simp] theorem objCells_nS0 (H L : List AO) (j : Nat) (o : AO) (ver : Nat) : objCells (H.set j o ++ L) H.length ver = objCells L 0 ver := objCells_nS H L j o 0 ver
theorem setObj_app (A B : List AO) (k : Nat) (f : AO -> AO) : setObj (A ++ B) (A.length + k) f = A ++ setObj B k f := by
 unfold setObj
 rw [get_app]
 cases h : B[k]? with
 | none => rfl
 | some o => simp only; rw [set_app]
@[simp] theorem setObj_nS (H L : List AO) (j : Nat) (o : AO) (k : Nat) (f : AO -> AO) : setObj (H.set j o ++ L) (H.length + k) f = H.set j o ++ setObj L k f := by
 have := setObj_app (H.set j o) L k f; simpa using this
@[simp] theorem setObj_nS0 (H L : List AO) (j : Nat) (o : AO) (f : AO -> AO) : setObj (H.set j o ++ L) H.length f = H.set j o ++ setObj L 0 f := setObj_nS H L j o 0 f
@[simp] theorem get_nS {α : Type} (H L : List α) (j : Nat) (o : α) (k : Nat) : (H.set j o ++ L)[H.length + k]? = L[k]? := by
 have := get_app (H.set j o) L k; simpa using this
@[simp] theorem objIs_nS (H L : List AO) (j : Nat) (o : AO) (k ver : Nat) (T : TypeId) (m : Nat) : objIs (H.set j o ++ L) (H.length + k) ver T m = objIs L k ver T m := by
 unfold objIs; rw [get_nS]
theorem closed_set {H : List AO} (hcl : closed H) (j : Nat) {o : AO} (hu : SV.underL H.length o.cells = true) : closed (H.set j o) := by
 intro i p hp s hs
 rw [List.length_set]
 by_cases e : j = i
 · subst e
   have hj := getElem?_lt hp
   rw [List.getElem?_set_self (by simpa using hj)] at hp
   cases hp
   exact (SV.underL_iff _ _).1 hu s hs
 · rw [List.getElem?_set_ne e] at hp
   exact hcl i p hp s hs
end Go.Ab
namespace Go.Ab
variable [GlobEnv] [FrEnv] [KnEnv]
section
variable {P : Program}
theorem turned_mark {n0 D : Nat} {w w' : World} (h1 : n0 ≤ D) (h2 : w.heap[D]? = some (Obj.deferred (some []))) (ht : Turned n0 (w.putObj D (.deferred none)) w') : Turned n0 w w' := by
 refine ⟨by rw [ht.size]; simp, fun k => ?_, ht.os, ht.tape, ht.output⟩
 by_cases hk : k = D
 · subst hk
   right
   refine ⟨h1, h2, ?_⟩
   rcases ht.at_ k with h3 | ⟨_, h3, h4⟩
   · exact h3.trans (World.putObj_heap_same (lt_heap h2))
   · exact h4
 · rcases ht.at_ k with h3 | ⟨h3, h4, h5⟩
   · exact .inl (h3.trans (World.putObj_heap_other hk))
   · exact .inr ⟨h3, (World.putObj_heap_other hk).symm.trans h4, h5⟩
theorem turned_refl (n0 : Nat) (w : World) : Turned n0 w w := ⟨rfl, fun _ => .inl rfl, rfl, rfl, rfl⟩
theorem marks_steps {n0 : Nat} : ∀ (ms : List Nat) (w : World) (fr : Frame) (cs : List Frame), fr.mode ≠ .run -> fr.defers = ms.map mark -> ms.Nodup -> (∀ D ∈ ms, n0 ≤ D ∧ w.heap[D]? = some (Obj.deferred (some []))) →
 ∃ w', Turned n0 w w' ∧ StepsIn (Machine.fenced P (Fr none)) P (lone fr cs w) (lone { fr with defers := [] } cs w')
 | [], w, fr, cs, hm, hd, _, _ => by
  refine ⟨w, turned_refl _ _, ?_⟩
  have : ({ fr with defers := [] } : Frame) = fr := by cases fr; simp_all
  rw [this]
  exact StepsIn.refl _
 | D :: ms, w, fr, cs, hm, hd, hnd, hms => by
  rw [List.nodup_cons] at hnd
  obtain ⟨h1, h2⟩ := hms D (by simp)
  have hs := step_collected (P := P) (cs := cs) (d := mark D) (ds := ms.map mark) hm hd rfl (run_takeDeferred h2)
  have i1 : (lone fr cs w).fenced P (Fr none) := fenced_out (n := 0) trivial (fr_room _ _) hm hd (fun g hg => trivial)
  obtain ⟨w', ht, hst⟩ := marks_steps ms (w.putObj D (.deferred none)) { fr with defers := ms.map mark } cs hm rfl hnd.2 (fun D' hD' => by
   refine ⟨(hms D' (by simp [hD'])).1, ?_⟩
   have hne : D' ≠ D := fun e => hnd.1 (e ▸ hD')
   exact (World.putObj_heap_other hne).trans (hms D' (by simp [hD'])).2)
  exact ⟨w', turned_mark h1 h2 ht, .head i1 hs hst⟩
def MD (S : St) : Option SV -> FrameMode -> Prop
 | none, u => u = .returning
 | some x, u => ∃ v, u = .panicking [{ v := v, recovered := false }] ∧ VR S x v
def rvD : Option SV -> SV
 | none => .val .nilIface
 | some x => x
def OkD (P : Program) (f : FuncId) (args : List SV) (H : List AO) (m : Option SV) (Pt : List AO -> Prop) : Prop :=
 (∀ (vs : Array Value) (w : World), (callFunc f vs).run P w = .ok (.enter f vs) w) ∧
 ∀ (S : St) (vs : List Value) (u : FrameMode), S.H = H -> Sim S -> VRs S args vs -> MD S m u →
  CallsDIn (Fr none) 0 P f vs.toArray u S.w fun e u' w' => ∃ (v : Value) (H' : List AO) (ρ' : Nat -> Option Nat), e = .returned v ∧ settle u' = .returning ∧ Pt H' ∧ Ext S.H.length S ⟨ρ', H', w'⟩ ∧ Sim ⟨ρ', H', w'⟩
theorem run_recover {o : Oper} (ho : o.op = .call { callee := .builtin .recover, args := #[], argTypes := #[] }) (ρ : Operand -> Value) (w : World) : (execOp ρ o).run P w = .ok .recover w := by
 simp [execOp, ho, resolve, invoke, builtin]
variable {D : Array Oper -> List Nat -> List Ins -> Bool}
theorem okD_of (hD : DOk P D) {f : FuncId} {fn : Func} {rid d : Nat} {ops : Array Oper} {o : Oper} {c2 : Code} {insR : List Ins} {i2 : IC} {args : List SV} {H : List AO} {m : Option SV} {Pt : List AO -> Prop}
 (hf : P.funcs[f]? = some fn) (hb : fn.body = some (.seq (.region rid ops false) c2)) (hname : (fn.name == "runtime.NumGoroutine") = false) (hn : args.length ≤ fn.ntmps) (hr : chkRes P fn.results.toList [] = true)
 (hop : ops[0]? = some o) (ho : o.op = .call { callee := .builtin .recover, args := #[], argTypes := #[] }) (hg : o.guard = none) (hdst : o.dst = some d) (hd : d < fn.ntmps) (hnd : ndB ops = true)
 (hl : chkL P fn.ntmps ops (ops.toList.drop 1) insR = true) (hc : chkC P fn.ntmps D c2 i2 = true)
 (hx : closed H -> xops P insR ((argsEnv args).put (some d) (rvD m)) H fun x env H1 => x = .normal ∧ X P fn.ntmps D i2 env H1 fun x _ H2 => (x = .normal ∨ x = .ret) ∧ ∃ H', Pt H' ∧ Cv H.length (.tup []) H2 (.tup []) H') : OkD P f args H m Pt := by
 refine ⟨fun vs w => Go.MuLone.run_callFunc_enter hf hname hb vs w, ?_⟩
 intro S vs u hH hS hvs hmd
 subst hH
 refine ⟨trivial, fun c₀ cs hu hroom => ?_⟩
 obtain ⟨b, hbk, hbr, hbf, henter⟩ : ∃ b : Frame, b.kind = .deferred ∧ b.roundOf = none ∧ b.fn = f ∧ Frame.enter P f vs.toArray .deferred = b.atR { tmps := vs.toArray ++ Array.replicate (fn.ntmps - vs.toArray.size) undef, defers := [] } [.code (.seq (.region rid ops false) c2)] :=
  ⟨{ (default : Frame) with fn := f, kind := .deferred, roundOf := none }, rfl, rfl, rfl, by simp [Frame.enter, Frame.atR, hf, hb]⟩
 rw [henter]
 have hlen : vs.length = args.length := hvs.1
 generalize ha0 : ({ tmps := vs.toArray ++ Array.replicate (fn.ntmps - vs.toArray.size) undef, defers := [] } : Act) = a0
 have hN0 : a0.tmps.size = fn.ntmps := by subst ha0; simp; omega
 have hd0 : a0.defers = [] := by subst ha0; rfl
 have he0 : EnvR S (argsEnv args) a0.tmps := by subst ha0; exact argsEnv_rel hvs _
 have t1 : StepsIn (Machine.fenced P (Fr none)) P (lone (b.atR a0 [.code (.seq (.region rid ops false) c2)]) (c₀ :: cs) S.w) (lone (b.atR a0 (.inRegion ops (List.range ops.size) :: [.code c2])) (c₀ :: cs) S.w) :=
  .head (fr_calm rfl) stepR_seq (.one (fr_calm rfl) stepR_region)
 have hsz : 0 < ops.size := by
  rcases Nat.lt_or_ge 0 ops.size with h | h
  · exact h
  · rw [Array.getElem?_eq_none h] at hop; cases hop
 have hrange : List.range ops.size = 0 :: List.range' 1 (ops.size - 1) := by
  rw [List.range_eq_range']
  obtain ⟨k, hk⟩ : ∃ k, ops.size = k + 1 := ⟨ops.size - 1, by omega⟩
  rw [hk, List.range'_succ]; simp
 rw [hrange] at t1
 -- recover
 obtain ⟨rv, u1, hstep, hset, hvr⟩ : ∃ (rv : Value) (u1 : FrameMode), step P (lone (b.atR a0 (.inRegion ops (0 :: List.range' 1 (ops.size - 1)) :: [.code c2])) (c₀ :: cs) S.w) =
  .next (lone (b.atR (a0.put o.dst rv) (.inRegion ops (List.range' 1 (ops.size - 1)) :: [.code c2])) ({ c₀ with mode := u1 } :: cs) S.w) ∧ settle u1 = .returning ∧ VR S (rvD m) rv := by
  have hw : Region.wanted o (yielded ops a0.tmps) = true := by simp [Region.wanted, hg]
  have hgs := stepGR_op (P := P) (b := b) (a := a0) (k := [.code c2]) (cs := c₀ :: cs) (w := S.w) (rest := List.range' 1 (ops.size - 1)) hop hw
  rw [hbr, Oper.semAt_none] at hgs
  have hfin : ∀ v, (b.atR a0 (.inRegion ops (0 :: List.range' 1 (ops.size - 1)) :: [.code c2])).finish v = b.atR (a0.put o.dst v) (.inRegion ops (List.range' 1 (ops.size - 1)) :: [.code c2]) := by
   intro v; rw [Frame.finish_atR, hop]; rfl
  have hk : (b.atR a0 (.inRegion ops (0 :: List.range' 1 (ops.size - 1)) :: [.code c2])).kind = .deferred := hbk
  have htr := tryRecover_deferred hk (c₀ :: cs)
  have hrun := run_recover (P := P) ho a0.eval S.w
  cases m with
  | none =>
   have hu' : u = .returning := hmd
   subst hu'
   refine ⟨.nilIface, .returning, ?_, rfl, .val _⟩
   have hc0 : ({ c₀ with mode := .returning } : Frame) = c₀ := by cases c₀; simp_all
   rw [hc0]
   have hrec : recoverD (c₀ :: cs) = none := by simp [recoverD, hu]
   refine step_lone_go ?_
   rw [hgs, <- hfin]
   simp only [Frame.atR, hbr] at htr ⊢
   simp [stepG.apply, hrun, htr, hrec]
  | some x =>
   obtain ⟨v, rfl, hv⟩ := hmd
   refine ⟨v, .panicking [{ v := v, recovered := true }], ?_, rfl, hv⟩
   have hrec : recoverD (c₀ :: cs) = some (v, { c₀ with mode := .panicking [{ v := v, recovered := true }] } :: cs) := by simp [recoverD, hu]
   refine step_lone_go ?_
   rw [hgs, <- hfin]
   simp only [Frame.atR, hbr] at htr ⊢
   simp [stepG.apply, hrun, htr, hrec]
 have t2 := t1.trans (.one (fenced_oper (n := 0) trivial (fr_room _ _) hop (fun f _ => trivial)) hstep)
 generalize hcc : ({ c₀ with mode := u1 } :: cs : List Frame) = cc at t2
 -- the region's rest
 have hlt' : ∀ t, o.dst = some t -> t < a0.tmps.size := by intro t ht; rw [hdst] at ht; cases ht; rw [hN0]; exact hd
 have he1 : EnvR S ((argsEnv args).put (some d) (rvD m)) (a0.put o.dst rv).tmps := by
  have := he0.put hlt' hvr
  rwa [hdst] at this ⊢
 have hdb : (⟨S.w.heap.size, [], none⟩ : DB).Ok S.w (a0.put o.dst rv).defers := by
  rw [put_defers, hd0]
  exact ⟨Nat.le_refl _, ⟨[], rfl, List.nodup_nil, fun D hD => by simp at hD⟩, fun l h => by cases h⟩
 have hwl := xops_sound (d := ⟨S.w.heap.size, [], none⟩) (ops := ops) (ops.toList.drop 1) insR hS he1 (by rw [put_size, hN0]) hdb hl (hx hS.closed)
 have hlen2 : (ops.toList.drop 1).length = ops.size - 1 := by simp
 have heq := wpOps_eq_wpList (P := P) (ops := ops) (Q := Post S fn.ntmps ⟨S.w.heap.size, [], none⟩ fun x env H1 => x = .normal ∧ X P fn.ntmps D i2 env H1 fun x _ H2 => (x = .normal ∨ x = .ret) ∧ ∃ H', Pt H' ∧ Cv S.H.length (.tup []) H2 (.tup []) H') (ops.toList.drop 1) 1 (fun j => by rw [List.getElem?_drop]; simp)
 rw [← heq, hlen2] at hwl
 obtain ⟨e1, a1, w1, hq1, harr1⟩ := wp_opsIn _ _ _ (opsIn_of hnd none _ _ _ hwl) b [.code c2] cc hbr trivial (fr_room _ _)
 obtain ⟨x1, env1, ρ1, H1, g1, g2, g3, g4, g5, g6, hx1, g7⟩ := hq1
 subst hx1
 cases e1 <;> simp only [ER] at g1
 have t3 := t2.trans harr1
 -- the rest of the code
 obtain ⟨e2, a2, w2, hq2, harr2⟩ := X_sound hD i2 hc g7 ⟨S.w.heap.size, [], none⟩ ⟨ρ1, H1, w1⟩ a1 rfl g3 g4 g5 g6 b [] cc hbr trivial (fr_room _ _)
 obtain ⟨x2, env2, ρ2, H2, k1, k2, k3, k4, k5, k6, hx2, H', hpt, hcv⟩ := hq2
 obtain ⟨ms, m1, m2, m3⟩ := k6.ms
 simp only [List.append_nil] at m1
 have hfinal : ∃ todo, StepsIn (Machine.fenced P (Fr none)) P (lone (b.atR a0 [.code (.seq (.region rid ops false) c2)]) (c₀ :: cs) S.w) (lone { b.atR a2 todo with mode := .returning } cc w2) := by
  rcases hx2 with rfl | rfl
  · cases e2 <;> simp only [ER] at k1
    exact ⟨[], t3.trans (StepsIn.trans harr2 (.one (fr_calm rfl) (stepR_end hbr)))⟩
  · cases e2 <;> simp only [ER] at k1
    obtain ⟨todo, hs⟩ := harr2.1 hbr
    exact ⟨todo, t3.trans hs⟩
 obtain ⟨todo, t4⟩ := hfinal
 obtain ⟨w3, ht, t5⟩ := marks_steps (P := P) (n0 := S.w.heap.size) ms w2 { b.atR a2 todo with mode := .returning } cc (by simp) m1 m2 m3
 have hS2 := turned_sim ht k3
 have hE2 : EnvR ⟨ρ2, H2, w3⟩ env2 a2.tmps := ⟨fun t => (k4.get t).extV (turned_extV ht) (.inl rfl)⟩
 obtain ⟨v, h3, h4⟩ := run_results (P := P) (S := ⟨ρ2, H2, w3⟩) (rs := []) hS2 hE2 hr (fun s hs => by simp at hs)
 obtain ⟨ρ', h5, h6, _⟩ := hcv ⟨ρ2, H2, w3⟩ v rfl hS2 h4
 subst hcc
 refine ⟨.returned v, u1, w3, _, ⟨v, H', ρ', rfl, hset, hpt, ?_, h6⟩, t4.trans t5, hbk, hbf, rfl, rfl, fn, by rw [show ({ b.atR a2 todo with mode := .returning, defers := [] } : Frame).fn = f from hbf]; exact hf, h3⟩
 exact (turned_ext ht (g2.trans (k2.mono (g2.len (Nat.le_refl _)))) (Nat.le_refl _)).trans h5
theorem marks_leave2 {fn : Func} {tmps : Array Value} {R : Ending -> World -> Prop} {n0 : Nat} {u : FrameMode} {ds : List Deferred} (hu : u ≠ .run) : ∀ (ms : List Nat) (w : World), ms.Nodup -> (∀ D ∈ ms, n0 ≤ D ∧ w.heap[D]? = some (Obj.deferred (some []))) →
 (∀ w', Turned n0 w w' -> LeavesInM (Fr none) 0 P fn tmps R ds u w') -> LeavesInM (Fr none) 0 P fn tmps R (ms.map mark ++ ds) u w
 | [], w, _, _, h => h w (turned_refl _ _)
 | D :: ms, w, hnd, hms, h => by
  rw [List.nodup_cons] at hnd
  obtain ⟨h1, h2⟩ := hms D (by simp)
  refine ⟨hu, .inl ⟨D, _, rfl, run_takeDeferred h2, ?_⟩⟩
  refine marks_leave2 hu ms _ hnd.2 (fun D' hD' => ⟨(hms D' (by simp [hD'])).1, ?_⟩) fun w' ht => h w' (turned_mark h1 h2 ht)
  have hne : D' ≠ D := fun e => hnd.1 (e ▸ hD')
  exact (World.putObj_heap_other hne).trans (hms D' (by simp [hD'])).2
def FinD (P : Program) (n0 : Nat) (rs : List RS) (Pt : Out -> List AO -> Prop) (k : FuncId) (cap : List SV) (x : XE) (env : Env) (H1 : List AO) : Prop :=
 match x with
 | .normal => ∃ Pd, OkD P k cap H1 none Pd ∧ ∀ H4, Pd H4 -> (∀ s ∈ rs, s.side env H4) ∧ FinQ n0 Pt (resV env H4 rs) H4
 | .ret => ∃ Pd, OkD P k cap H1 none Pd ∧ ∀ H4, Pd H4 -> (∀ s ∈ rs, s.side env H4) ∧ FinQ n0 Pt (resV env H4 rs) H4
 | .panic y => ∃ Pd, OkD P k cap H1 (some y) Pd ∧ ∀ H4, Pd H4 -> (∀ s ∈ rs, s.side env H4) ∧ FinQ n0 Pt (resV env H4 rs) H4
 | _ => False
end
def chkRc (P : Program) (D : Array Oper -> List Nat -> List Ins -> Bool) (fn : Func) (d : Nat) (insR : List Ins) (i2 : IC) : Bool :=
 (match fn.body with
  | some (.seq (.region _ ops false) c2) =>
    (match ops.toList with
     | o :: r => (match o.op with | .call { callee := .builtin .recover, args := as, argTypes := ts } => as.isEmpty && ts.isEmpty | _ => false) && (o.guard.isNone && (o.dst == some d && (decide (d < fn.ntmps) && (ndB ops && (chkL P fn.ntmps ops r insR && chkC P fn.ntmps D c2 i2)))))
     | _ => false)
  | _ => false) && !(fn.name == "runtime.NumGoroutine") && chkRes P fn.results.toList [] && decide (fn.params.size + fn.nfree ≤ fn.ntmps)
theorem okD_rc {P : Program} (hm : P.follows .mixedOrders = true) {f : FuncId} {fn : Func} {d : Nat} {insR : List Ins} {i2 : IC} (hf : P.funcs[f]? = some fn) (hc : chkRc P drawB fn d insR i2 = true)
 {args : List SV} {H : List AO} {m : Option SV} {Pt : List AO -> Prop} (hn : args.length = fn.params.size + fn.nfree)
 (hx : closed H -> xops P insR ((argsEnv args).put (some d) (rvD m)) H fun x env H1 => x = .normal ∧ X P fn.ntmps drawB i2 env H1 fun x _ H2 => (x = .normal ∨ x = .ret) ∧ ∃ H', Pt H' ∧ Cv H.length (.tup []) H2 (.tup []) H') : OkD P f args H m Pt := by
 unfold chkRc at hc
 rw [Bool.and_eq_true, Bool.and_eq_true, Bool.and_eq_true] at hc
 obtain ⟨⟨⟨h1, h2⟩, h3⟩, h4⟩ := hc
 split at h1
 · rename_i rid ops c2 hb
   split at h1
   · rename_i o r hops
     simp only [Bool.and_eq_true, beq_iff_eq, decide_eq_true_eq] at h1
     obtain ⟨k1, k2, k3, k4, k5, k6, k7⟩ := h1
     split at k1
     · rename_i as ts ho
       simp only [Bool.and_eq_true, Array.isEmpty_iff] at k1
       obtain ⟨rfl, rfl⟩ := k1
       have h0 : ops[0]? = some o := by rw [← Array.getElem?_toList, hops]; rfl
       refine okD_of (draw_ok hm) hf hb (by simpa using h2) (by rw [hn]; simpa using h4) h3 h0 ho (by simpa using k2) k3 k4 k5 ?_ k7 hx
       rw [hops]; exact k6
     · cases k1
   · cases h1
 · cases h1
end Go.Ab
namespace Go.Ab
variable [GlobEnv] [FrEnv] [KnEnv]
section
variable {P : Program} {D : Array Oper -> List Nat -> List Ins -> Bool}
theorem defer_rest (hD : DOk P D) {fn : Func} {cb : Code} {rid : Nat} {o1 od : Oper} {f' : Operand} {fo : Od} {ib : IC} {ins1 : Ins} {rs : List RS} {Pt : Out -> List AO -> Prop}
 (hr : chkRes P fn.results.toList rs = true)
 (ho1 : chkIns P fn.ntmps #[o1, od] o1 ins1 = true) (hnd1 : ∀ c, o1.op ≠ .defer c) (hod : od.op = .defer { callee := .value f', args := #[], argTypes := #[] }) (hog : od.guard = none) (hdst : od.dst = none) (hfo : chkOd f' fo = true)
 (hcb : chkC P fn.ntmps D cb ib = true) {S : St} {a1 : Act} {w1 : World} {env1 : Env} {ρ1 : Nat -> Option Nat} {H1 : List AO}
 (g2 : Ext S.H.length S ⟨ρ1, H1, w1⟩) (g3 : Sim ⟨ρ1, H1, w1⟩) (g4 : EnvR ⟨ρ1, H1, w1⟩ env1 a1.tmps) (g5 : a1.tmps.size = fn.ntmps) (g6 : (⟨S.w.heap.size, [], none⟩ : DB).Ok w1 a1.defers)
 (g7 : xo P ins1 env1 H1 fun x env2 H2 => x = .normal ∧ (env2.ev fo).vd = true ∧ ∃ k cap, (env2.ev fo).ug = .fn (.func k) [] cap ∧ X P fn.ntmps D ib env2 H2 (FinD P S.H.length rs Pt k cap)) :
 (Code.seq (.region rid #[o1, od] false) cb).wpIn (Fr none) 0 P (bodyPostM (Fr none) 0 P fn (fun e w' => ∃ (out : Out) (H' : List AO) (v : Value) (ρ' : Nat -> Option Nat), Pt out H' ∧ Ext S.H.length S ⟨ρ', H', w'⟩ ∧ Sim ⟨ρ', H', w'⟩ ∧
  match out with
  | .ret r => e = .returned v ∧ VR ⟨ρ', H', w'⟩ r v
  | .pan x => e = .panicked [{ v := v, recovered := false }] ∧ VR ⟨ρ', H', w'⟩ x v)) a1 w1 := by
 refine wpIn_seq ?_
 refine wpIn_region ?_
 have hstep := xo_sound (d := ⟨S.w.heap.size, [], none⟩) (N := fn.ntmps) g3 g4 g5 g6 (ops := #[o1, od]) ho1 g7
  (next := wpOpsIn (Fr none) 0 P #[o1, od] (Exit.then (cb.wpIn (Fr none) 0 P (bodyPostM (Fr none) 0 P fn fun e w' => ∃ (out : Out) (H' : List AO) (v : Value) (ρ' : Nat -> Option Nat), Pt out H' ∧ Ext S.H.length S ⟨ρ', H', w'⟩ ∧ Sim ⟨ρ', H', w'⟩ ∧
   match out with
   | .ret r => e = .returned v ∧ VR ⟨ρ', H', w'⟩ r v
   | .pan x => e = .panicked [{ v := v, recovered := false }] ∧ VR ⟨ρ', H', w'⟩ x v)) (bodyPostM (Fr none) 0 P fn fun e w' => ∃ (out : Out) (H' : List AO) (v : Value) (ρ' : Nat -> Option Nat), Pt out H' ∧ Ext S.H.length S ⟨ρ', H', w'⟩ ∧ Sim ⟨ρ', H', w'⟩ ∧
   match out with
   | .ret r => e = .returned v ∧ VR ⟨ρ', H', w'⟩ r v
   | .pan x => e = .panicked [{ v := v, recovered := false }] ∧ VR ⟨ρ', H', w'⟩ x v)) [1])
  (Q := Exit.then (cb.wpIn (Fr none) 0 P (bodyPostM (Fr none) 0 P fn fun e w' => ∃ (out : Out) (H' : List AO) (v : Value) (ρ' : Nat -> Option Nat), Pt out H' ∧ Ext S.H.length S ⟨ρ', H', w'⟩ ∧ Sim ⟨ρ', H', w'⟩ ∧
   match out with
   | .ret r => e = .returned v ∧ VR ⟨ρ', H', w'⟩ r v
   | .pan x => e = .panicked [{ v := v, recovered := false }] ∧ VR ⟨ρ', H', w'⟩ x v)) (bodyPostM (Fr none) 0 P fn fun e w' => ∃ (out : Out) (H' : List AO) (v : Value) (ρ' : Nat -> Option Nat), Pt out H' ∧ Ext S.H.length S ⟨ρ', H', w'⟩ ∧ Sim ⟨ρ', H', w'⟩ ∧
   match out with
   | .ret r => e = .returned v ∧ VR ⟨ρ', H', w'⟩ r v
   | .pan x => e = .panicked [{ v := v, recovered := false }] ∧ VR ⟨ρ', H', w'⟩ x v)) ?_ ?_
 · -- the two operations
   show wpOpsIn (Fr none) 0 P #[o1, od] _ [0, 1] a1 w1
   simp only [wpOpsIn]
   have e0 : (#[o1, od] : Array Oper)[0]? = some o1 := rfl
   simp only [e0]
   unfold StepOf at hstep
   split
   · rename_i hw
     rw [if_pos hw] at hstep
     exact ⟨fun _ _ => trivial, hstep⟩
   · rename_i hw
     rw [if_neg hw] at hstep
     exact ⟨fun _ _ => trivial, hstep⟩
 · -- the deferred call is laid down; the rest
   rintro a2 w2 ⟨x2, env2, ρ2, H2, k1, k2, k3, k4, k5, k6, hx2, hvd, k, cap, hug, k7⟩
   subst hx2
   have hfv := (chkOd_spec hfo k4).ug hvd
   rw [hug] at hfv
   obtain ⟨us, cs, hv, hus, hcs⟩ := hfv.fn_inv
   have hus0 : us = [] := by have := hus.1; simpa using this
   subst hus0
   obtain ⟨ms1, m1, m2, m3⟩ := k6.ms
   simp only [List.append_nil] at m1
   simp only [wpOpsIn]
   have e1 : (#[o1, od] : Array Oper)[1]? = some od := rfl
   simp only [e1]
   have hw : Region.wanted od (yielded #[o1, od] a2.tmps) = true := by simp [Region.wanted, hog]
   rw [if_pos hw]
   refine ⟨fun _ _ => trivial, ?_⟩
   have hrun : (od.semAt (Fr none).round a2.eval).run P w2 = .ok (.defer { target := .fn (.func k) cs.toArray, args := #[] }) w2 := by
    show (od.semAt none a2.eval).run P w2 = _
    rw [Oper.semAt_none]
    simp [execOp, hod, resolve, hv, Deferred.ofValue]
   rw [hrun, Oper.uponIn_defer]
   have hput : ({ a2 with defers := { target := .fn (.func k) cs.toArray, args := #[] } :: a2.defers } : Act).put od.dst undef = { a2 with defers := { target := .fn (.func k) cs.toArray, args := #[] } :: a2.defers } := by rw [hdst]; rfl
   rw [hput]
   show cb.wpIn _ _ _ _ _ _
   have hwb := X_sound hD ib hcb k7 ⟨w2.heap.size, { target := .fn (.func k) cs.toArray, args := #[] } :: ms1.map mark, none⟩ ⟨ρ2, H2, w2⟩ { a2 with defers := { target := .fn (.func k) cs.toArray, args := #[] } :: a2.defers } rfl k3 k4 k5 ⟨Nat.le_refl _, ⟨[], by simp [m1], List.nodup_nil, fun D hD => by simp at hD⟩, fun l h => by cases h⟩
   refine wq_mono hwb ?_
   rintro e3 a3 w3 ⟨x3, env3, ρ3, H3, q1, q2, q3, q4, q5, q6, q7⟩
   obtain ⟨ms3, n1, n2, n3⟩ := q6.ms
   have hE0 : Ext S.H.length S ⟨ρ3, H3, w3⟩ := (g2.trans (k2.mono (g2.len (Nat.le_refl _)))).trans (q2.mono ((g2.trans (k2.mono (g2.len (Nat.le_refl _)))).len (Nat.le_refl _)))
   have hdb1 : (⟨S.w.heap.size, [], none⟩ : DB).Ok w2 (ms1.map mark) := ⟨k6.le, ⟨ms1, by simp, m2, m3⟩, fun l h => by cases h⟩
   -- what the deferred call leaves, and the results
   have main : ∀ (m : Option SV) (u : FrameMode) (Pd : List AO -> Prop), u ≠ .run -> MD ⟨ρ3, H3, w3⟩ m u -> OkD P k cap H3 m Pd -> (∀ H4, Pd H4 -> (∀ s ∈ rs, s.side env3 H4) ∧ FinQ S.H.length Pt (resV env3 H4 rs) H4) →
    LeavesInM (Fr none) 0 P fn a3.tmps (fun e w' => ∃ (out : Out) (H' : List AO) (v : Value) (ρ' : Nat -> Option Nat), Pt out H' ∧ Ext S.H.length S ⟨ρ', H', w'⟩ ∧ Sim ⟨ρ', H', w'⟩ ∧
     match out with
     | .ret r => e = .returned v ∧ VR ⟨ρ', H', w'⟩ r v
     | .pan x => e = .panicked [{ v := v, recovered := false }] ∧ VR ⟨ρ', H', w'⟩ x v) a3.defers u w3 := by
    intro m u Pd hu hmd hok hres
    rw [n1]
    refine marks_leave2 hu ms3 w3 n2 n3 fun w4 ht => ?_
    have hS4 := turned_sim ht q3
    have hE4 := turned_ext ht hE0 (g2.trans (k2.mono (g2.len (Nat.le_refl _)))).size
    have hcs4 : VRs ⟨ρ3, H3, w4⟩ cap cs := ⟨hcs.1, fun j s u h1 h2 => ((hcs.2 j s u h1 h2).extV q2.v (.inl rfl)).extV (turned_extV ht) (.inl rfl)⟩
    have hmd4 : MD ⟨ρ3, H3, w4⟩ m u := by
     cases m with
     | none => exact hmd
     | some y => obtain ⟨v, h1, h2⟩ := hmd; exact ⟨v, h1, h2.extV (turned_extV ht) (.inl rfl)⟩
    refine ⟨hu, .inr ⟨fr_one, .func k, cs.toArray, k, cs.toArray, rfl, ?_, fun g hg => trivial, ?_⟩⟩
    · simp only [invoke]
      have := hok.1 cs.toArray w4
      simpa using this
    · refine (hok.2 ⟨ρ3, H3, w4⟩ cs u rfl hS4 hcs4 hmd4).mono ?_
      rintro e5 u5 w5 ⟨v5, H5, ρ5, rfl, hset, hpd, hext5, hsim5⟩
      obtain ⟨r1, r2⟩ := hres H5 hpd
      show LeavesInM _ _ _ _ _ _ (ms1.map mark) (settle u5) w5
      rw [hset]
      have hdb3 := hdb1.ext (S := ⟨ρ2, H2, w2⟩) (S' := ⟨ρ3, H3, w3⟩) k3 q2
      have hdb4 : (⟨S.w.heap.size, [], none⟩ : DB).Ok w4 (ms1.map mark) := by
       refine ⟨by rw [ht.size]; exact hdb3.le, ⟨ms1, by simp, m2, fun D hD => ⟨(m3 D hD).1, ?_⟩⟩, fun l h => by cases h⟩
       have h1 := lt_heap (m3 D hD).2
       have h2 : w3.heap[D]? = some (Obj.deferred (some [])) := by
        have h4 := (m3 D hD).2
        refine ((q2.imm D (lt_heap h4) ?_).1).trans h4
        rintro ⟨i, o, ho, hl, hρ⟩
        rcases k3.own ho hl hρ with ⟨c, h5⟩ | ⟨r, h5⟩ | ⟨es, cl, h5⟩ <;> (rw [h4] at h5; cases h5)
       rcases ht.at_ D with h3 | ⟨h3, _, _⟩
       · exact h3.trans h2
       · exact absurd (Nat.lt_of_lt_of_le h1 h3) (Nat.lt_irrefl _)
      have hdb5 := hdb4.ext (S := ⟨ρ3, H3, w4⟩) (S' := ⟨ρ5, H5, w5⟩) hS4 hext5
      obtain ⟨ms5, j1, j2, j3⟩ := hdb5.ms
      have hE5 : Ext S.H.length S ⟨ρ5, H5, w5⟩ := hE4.trans (hext5.mono (hE4.len (Nat.le_refl _)))
      have hEnv5 : EnvR ⟨ρ5, H5, w5⟩ env3 a3.tmps := EnvR.ext (S := ⟨ρ3, H3, w4⟩) ⟨fun t => (q4.get t).extV (turned_extV ht) (.inl rfl)⟩ hext5
      rw [j1]
      simp only [List.append_nil]
      refine marks_leave (by simp) ms5 w5 j2 j3 fun w6 ht6 => ?_
      obtain ⟨v, h3, h4⟩ := run_results (P := P) (S := ⟨ρ5, H5, w6⟩) (turned_sim ht6 hsim5) ⟨fun t => (hEnv5.get t).extV (turned_extV ht6) (.inl rfl)⟩ hr r1
      obtain ⟨r, H', hp, h2⟩ := r2
      obtain ⟨ρ', h5, h6, h7⟩ := h2 ⟨ρ5, H5, w6⟩ v rfl (turned_sim ht6 hsim5) h4
      exact ⟨v, h3, .ret r, H', v, ρ', hp, (turned_ext ht6 hE5 (Nat.le_refl _)).trans h5, h6, rfl, h7⟩
   cases x3 <;> cases e3 <;> simp only [ER] at q1
   · obtain ⟨Pd, y1, y2⟩ := q7
     exact main none .returning Pd (by simp) rfl y1 y2
   · exact q7.elim
   · exact q7.elim
   · obtain ⟨Pd, y1, y2⟩ := q7
     exact main none .returning Pd (by simp) rfl y1 y2
   · obtain ⟨Pd, y1, y2⟩ := q7
     obtain ⟨v, rfl, hv⟩ := q1
     exact main (some _) (.panicking [{ v := v, recovered := false }]) Pd (by simp) ⟨v, rfl, hv⟩ y1 y2
 · rintro ch a' w' ⟨x2, env2, ρ2, H2, k1, k2, k3, k4, k5, k6, hx2, _⟩
   subst hx2
   simp [ER] at k1
def XL (P : Program) (N : Nat) (D : Array Oper -> List Nat -> List Ins -> Bool) : List IC -> Env -> List AO -> (XE -> Env -> List AO -> Prop) -> Prop
 | [], env, H, K => K .normal env H
 | i :: r, env, H, K => X P N D i env H fun x env H => match x with
  | .normal => XL P N D r env H K
  | x => K x env H
def chkDp (P : Program) (N : Nat) (D : Array Oper -> List Nat -> List Ins -> Bool) (k : Code -> Bool) : List IC -> Code -> Bool
 | [], c => k c
 | i :: r, .seq a b => chkC P N D a i && chkDp P N D k r b
 | _, _ => false
def FinE (P : Program) (n0 : Nat) (rs : List RS) (Pt : Out -> List AO -> Prop) (nx : Env -> List AO -> Prop) (x : XE) (env : Env) (H : List AO) : Prop :=
 match x with
 | .normal => nx env H
 | .ret => (∀ s ∈ rs, s.side env H) ∧ FinQ n0 Pt (resV env H rs) H
 | _ => False
theorem defer_pre (hD : DOk P D) {fn : Func} {rs : List RS} {Pt : Out -> List AO -> Prop} (hr : chkRes P fn.results.toList rs = true) {kk : Code -> Bool} {nx : Env -> List AO -> Prop} {S : St}
 (hk : ∀ c, kk c = true -> ∀ (a1 : Act) (w1 : World) (env1 : Env) (ρ1 : Nat -> Option Nat) (H1 : List AO), Ext S.H.length S ⟨ρ1, H1, w1⟩ -> Sim ⟨ρ1, H1, w1⟩ -> EnvR ⟨ρ1, H1, w1⟩ env1 a1.tmps -> a1.tmps.size = fn.ntmps -> (⟨S.w.heap.size, [], none⟩ : DB).Ok w1 a1.defers -> nx env1 H1 →
  c.wpIn (Fr none) 0 P (bodyPostM (Fr none) 0 P fn (fun e w' => ∃ (out : Out) (H' : List AO) (v : Value) (ρ' : Nat -> Option Nat), Pt out H' ∧ Ext S.H.length S ⟨ρ', H', w'⟩ ∧ Sim ⟨ρ', H', w'⟩ ∧
  match out with
  | .ret r => e = .returned v ∧ VR ⟨ρ', H', w'⟩ r v
  | .pan x => e = .panicked [{ v := v, recovered := false }] ∧ VR ⟨ρ', H', w'⟩ x v)) a1 w1) :
 ∀ (ias : List IC) (c : Code) (a1 : Act) (w1 : World) (env1 : Env) (ρ1 : Nat -> Option Nat) (H1 : List AO), chkDp P fn.ntmps D kk ias c = true -> Ext S.H.length S ⟨ρ1, H1, w1⟩ -> Sim ⟨ρ1, H1, w1⟩ -> EnvR ⟨ρ1, H1, w1⟩ env1 a1.tmps -> a1.tmps.size = fn.ntmps →
  (⟨S.w.heap.size, [], none⟩ : DB).Ok w1 a1.defers -> XL P fn.ntmps D ias env1 H1 (FinE P S.H.length rs Pt nx) →
  c.wpIn (Fr none) 0 P (bodyPostM (Fr none) 0 P fn (fun e w' => ∃ (out : Out) (H' : List AO) (v : Value) (ρ' : Nat -> Option Nat), Pt out H' ∧ Ext S.H.length S ⟨ρ', H', w'⟩ ∧ Sim ⟨ρ', H', w'⟩ ∧
  match out with
  | .ret r => e = .returned v ∧ VR ⟨ρ', H', w'⟩ r v
  | .pan x => e = .panicked [{ v := v, recovered := false }] ∧ VR ⟨ρ', H', w'⟩ x v)) a1 w1 := by
 intro ias
 induction ias with
 | nil => exact fun c a1 w1 env1 ρ1 H1 hc g2 g3 g4 g5 g6 hx => hk c hc a1 w1 env1 ρ1 H1 g2 g3 g4 g5 g6 hx
 | cons i r ih =>
  intro c a1 w1 env1 ρ1 H1 hc g2 g3 g4 g5 g6 hx
  cases c <;> simp only [chkDp, Bool.false_eq_true, Bool.and_eq_true] at hc
  rename_i ca cb
  have hwa := X_sound hD i hc.1 hx ⟨S.w.heap.size, [], none⟩ ⟨ρ1, H1, w1⟩ a1 rfl g3 g4 g5 g6
  refine wpIn_seq (wq_mono hwa ?_)
  rintro e2 a2 w2 ⟨x, env2, ρ2, H2, k1, k2, k3, k4, k5, k6, k7⟩
  have hE : Ext S.H.length S ⟨ρ2, H2, w2⟩ := g2.trans (k2.mono (g2.len (Nat.le_refl _)))
  cases x <;> cases e2 <;> simp only [ER] at k1
  · exact ih cb a2 w2 env2 ρ2 H2 hc.2 hE k3 k4 k5 k6 k7
  all_goals first | exact k7.elim | skip
  obtain ⟨r1, r2⟩ := k7
  obtain ⟨ms, m1, m2, m3⟩ := k6.ms
  simp only [List.append_nil] at m1
  show LeavesInM (Fr none) 0 P fn a2.tmps _ a2.defers .returning w2
  rw [m1]
  refine marks_leave (by simp) ms w2 m2 m3 fun w6 ht6 => ?_
  obtain ⟨v, h3, h4⟩ := run_results (P := P) (S := ⟨ρ2, H2, w6⟩) (turned_sim ht6 k3) ⟨fun t => (k4.get t).extV (turned_extV ht6) (.inl rfl)⟩ hr r1
  obtain ⟨r, H', hp, h2⟩ := r2
  obtain ⟨ρ', h5, h6, h7⟩ := h2 ⟨ρ2, H2, w6⟩ v rfl (turned_sim ht6 k3) h4
  exact ⟨v, h3, .ret r, H', v, ρ', hp, (turned_ext ht6 hE (Nat.le_refl _)).trans h5, h6, rfl, h7⟩
def chkDq (P : Program) (D : Array Oper -> List Nat -> List Ins -> Bool) (fn : Func) (ins1 : Ins) (fo : Od) (ib : IC) : Code -> Bool
 | .seq (.region _ ops false) cb =>
  (match ops.toList with
   | [o1, od] => chkIns P fn.ntmps ops o1 ins1 && ((match o1.op with | .defer _ => false | _ => true) && ((match od.op with | .defer { callee := .value f', args := as, argTypes := ts } => as.isEmpty && (ts.isEmpty && chkOd f' fo) | _ => false) &&
    (od.guard.isNone && (od.dst.isNone && chkC P fn.ntmps D cb ib))))
   | _ => false)
 | _ => false
def chkDs (P : Program) (D : Array Oper -> List Nat -> List Ins -> Bool) (fn : Func) (ias : List IC) (ins1 : Ins) (fo : Od) (ib : IC) (rs : List RS) : Bool :=
 (match fn.body with
  | some c => chkDp P fn.ntmps D (chkDq P D fn ins1 fo ib) ias c
  | none => false) && !(fn.name == "runtime.NumGoroutine") && chkRes P fn.results.toList rs && decide (fn.params.size + fn.nfree ≤ fn.ntmps)
theorem okP_ds {P : Program} (hm : P.follows .mixedOrders = true) {f : FuncId} {fn : Func} {ias : List IC} {ib : IC} {ins1 : Ins} {fo : Od} {rs : List RS} (hf : P.funcs[f]? = some fn) (hc : chkDs P drawB fn ias ins1 fo ib rs = true)
 {args : List SV} {H : List AO} {Pt : Out -> List AO -> Prop} (hn : args.length = fn.params.size + fn.nfree)
 (hx : closed H -> XL P fn.ntmps drawB ias (argsEnv args) H (FinE P H.length rs Pt fun env1 H1 => xo P ins1 env1 H1 fun x env2 H2 => x = .normal ∧ (env2.ev fo).vd = true ∧ ∃ k cap, (env2.ev fo).ug = .fn (.func k) [] cap ∧ X P fn.ntmps drawB ib env2 H2 (FinD P H.length rs Pt k cap))) : OkP P f args H Pt := by
 unfold chkDs at hc
 rw [Bool.and_eq_true, Bool.and_eq_true, Bool.and_eq_true] at hc
 obtain ⟨⟨⟨h1, h2⟩, h3⟩, h4⟩ := hc
 split at h1
 · rename_i c hb
   refine ⟨fun vs w => Go.MuLone.run_callFunc_enter hf (by simpa using h2) hb vs w, ?_⟩
   intro S vs hH hS hvs
   subst hH
   refine callsIn_wide.1 (callsIn_of_wp_marks (F := Fr none) (n := 0) hf hb trivial ?_)
   have hl : vs.length = args.length := hvs.1
   have h4 : args.length ≤ fn.ntmps := by rw [hn]; simpa using h4
   refine defer_pre (draw_ok hm) h3 (kk := chkDq P drawB fn ins1 fo ib) (nx := _) ?_ ias c ⟨vs.toArray ++ Array.replicate (fn.ntmps - vs.toArray.size) undef, []⟩ S.w (argsEnv args) S.ρ S.H h1 (Ext.refl _ _) hS (argsEnv_rel hvs _) (by simp; omega) ⟨Nat.le_refl _, ⟨[], rfl, List.nodup_nil, fun D hD => by simp at hD⟩, fun l h => by cases h⟩ (hx hS.closed)
   intro c hc a1 w1 env1 ρ1 H1 g2 g3 g4 g5 g6 g7
   unfold chkDq at hc
   split at hc
   · rename_i rid ops cb
     split at hc
     · rename_i o1 od hops
       simp only [Bool.and_eq_true] at hc
       obtain ⟨k2, k3, k4, k5, k6, k7⟩ := hc
       have e : ops = #[o1, od] := by apply Array.ext'; simpa using hops
       subst e
       split at k4
       · rename_i f' as ts hod
         simp only [Bool.and_eq_true, Array.isEmpty_iff] at k4
         obtain ⟨rfl, rfl, k4⟩ := k4
         exact defer_rest (draw_ok hm) h3 k2 (fun c e => by rw [e] at k3; cases k3) hod (by simpa using k5) (by simpa using k6) k4 k7 g2 g3 g4 g5 g6 g7
       · cases k4
     · cases hc
   · cases hc
 · cases h1
end
end Go.Ab
namespace Go.Ab
variable [GlobEnv] [FrEnv] [KnEnv]
set_option linter.unusedSectionVars false
section
variable {P : Program} {N : Nat} {D : Array Oper -> List Nat -> List Ins -> Bool}
theorem WI.of_X (hD : DOk P D) {i : IC} {env : Env} {H : List AO} {K : XE -> Env -> List AO -> Prop} (h : X P N D i env H K) : WI P N D i env H K := fun _ hc => X_sound hD i hc h
theorem WI.seq (hD : DOk P D) {a b : IC} {env : Env} {H : List AO} {K : XE -> Env -> List AO -> Prop} (h : X P N D a env H fun x env H => match x with | .normal => WI P N D b env H K | x => K x env H) : WI P N D (.seq a b) env H K := by
 intro c hc
 cases c <;> simp only [chkC, Bool.false_eq_true, Bool.and_eq_true] at hc
 refine W.seq ((X_sound hD a hc.1 h).mono ?_)
 intro x env H hk
 cases x <;> first | exact hk | exact hk _ hc.2
theorem WI.tell {i : IC} {env env' : Env} {H H' : List AO} {K : XE -> Env -> List AO -> Prop} (ht : Tell env H env' H') (h : WI P N D i env' H' K) : WI P N D i env H K := by
 intro c hc db S a hH hS he hN hd
 obtain ⟨ρ', h1, h2, h3⟩ := ht S a.tmps hH hS he
 exact wq_mono (h c hc db ⟨ρ', H', S.w⟩ a rfl h2 h3 hN (hd.ext hS h1)) fun e a w h => Post.trans h1 h
theorem ok_WI {P : Program} (hm : P.follows .mixedOrders = true) {f : FuncId} {fn : Func} {i : IC} {rs : List RS} (hf : P.funcs[f]? = some fn) (hc : chkF P drawB fn i rs = true)
 {args : List SV} {H : List AO} {out : Out} {H' : List AO} (hn : args.length = fn.params.size + fn.nfree)
 (hx : closed H -> WI P fn.ntmps drawB i (argsEnv args) H (Fin H.length rs out H')) : Ok P f args H out H' := by
 unfold chkF at hc
 rw [Bool.and_eq_true, Bool.and_eq_true, Bool.and_eq_true] at hc
 obtain ⟨⟨⟨h1, h2⟩, h3⟩, h4⟩ := hc
 split at h1
 · rename_i c hb
   exact (okP_W hf hb (by simpa using h2) (by rw [hn]; simpa using h4) h3 fun hcl => (hx hcl c h1).mono fun x env H h => fin_P h).toOk
 · cases h1
end
end Go.Ab
namespace Go.Ab
def IC.tl : Nat -> IC -> IC
 | 0, a => a
 | k + 1, .seq _ b => IC.tl k b
 | _, a => a
def IC.nth : Nat -> IC -> IC
 | 0, .seq a _ => a
 | k + 1, .seq _ b => IC.nth k b
 | _, a => a
end Go.Ab
namespace Go.Ab
section
variable [GlobEnv] [FrEnv]
theorem Sim.to (G0 G : KnEnv) {S : St} (h : @Sim _ _ G0 S) (hk : @St.KF _ G S) : @Sim _ _ G S := @Sim.mk _ _ G S (@Sim.live _ _ G0 S h) (@Sim.bel _ _ G0 S h) (@Sim.inj _ _ G0 S h) (@Sim.lp _ _ G0 S h) (@Sim.gl _ _ G0 S h) hk
variable [G0 : KnEnv]
theorem LI.learn {P : Program} {N : Nat} {D : Array Oper -> List Nat -> List Ins -> Bool} {i : IC} {env : Env} {H : List AO} {K : XE -> Env -> List AO -> Prop} (j p : Nat) {o : AO} {cells : List SV} {len : Nat}
 (ho : H[j]? = some o) (hl : o.live = true) (hp : o.cells[p]? = some (.slc cells len)) (hne : cells ≠ []) (hu : SV.underL 0 cells = true)
 (h : ∀ (a : Addr) (cap : Nat), @LI _ _ ⟨(.slc cells len, .slice (some a) len cap) :: KnEnv.kn⟩ P N D i env (H.set j ⟨o.cells.set p (.val (.slice (some a) len cap)), o.ty, o.ver, true⟩) K) :
 LI P N D i env H K := by
 intro c hc db S a hH hS he hN hd
 subst hH
 have h1 := hS.live j o ho hl
 cases hρ : S.ρ j with
 | none => rw [hρ] at h1; rw [h1] at hp; simp at hp
 | some b =>
  rw [hρ] at h1
  obtain ⟨us, rest, h2, h3⟩ := h1
  obtain ⟨u, hu1, hu2⟩ := h3.get hp
  obtain ⟨ad, cap, rfl⟩ : ∃ ad cap, u = .slice (some ad) len cap := by
   cases hu2 with
   | nilslc => exact absurd rfl hne
   | slc cells len a cap us hc hl hi h => exact ⟨a, cap, rfl⟩
  have hS' : Sim ⟨S.ρ, S.H.set j ⟨o.cells.set p (.val (.slice (some ad) len cap)), o.ty, o.ver, true⟩, S.w⟩ := by
   refine sim_retellR hS ho hl ?_ ?_
   · intro s hs
     rcases List.mem_or_eq_of_mem_set hs with hs | rfl
     · exact (hS.bel j o ho s hs).2 hl
     · rfl
   · intro us' hl' hv'
     have e : us'.length = us.length := hv'.1.trans h3.1.symm
     have : us' = us := by
      unfold St.lies at hl'
      rw [hρ] at hl'
      obtain ⟨rest', h4⟩ := hl'
      rw [h2] at h4
      have h5 : us ++ rest = us' ++ rest' := by simpa using h4
      exact (List.append_inj h5 e.symm).1.symm
     subst this
     refine ⟨us'.length, ?_⟩
     rw [List.take_length]
     refine ⟨by simpa using h3.1, fun k s v hs hv => ?_⟩
     by_cases hk : k = p
     · subst hk
       rw [hu1] at hv; cases hv
       rw [List.getElem?_set_self (getElem?_lt hp)] at hs; cases hs
       exact .val _
     · rw [List.getElem?_set_ne (by omega)] at hs
       exact h3.2 k s v hs hv
  have hx := ext_retell ho hl (o.cells.set p (.val (.slice (some ad) len cap)))
  have hkf : @St.KF _ ⟨(.slc cells len, .slice (some ad) len cap) :: KnEnv.kn⟩ ⟨S.ρ, S.H.set j ⟨o.cells.set p (.val (.slice (some ad) len cap)), o.ty, o.ver, true⟩, S.w⟩ := by
   intro q hq
   rcases List.mem_cons.1 hq with rfl | hq
   · exact ⟨by simpa [SV.under] using hu, hu2.ext hx⟩
   · exact hS'.kf q hq
  have hd' := hd.ext hS hx
  refine loopIn_mono (h ad cap c hc db ⟨S.ρ, S.H.set j ⟨o.cells.set p (.val (.slice (some ad) len cap)), o.ty, o.ver, true⟩, S.w⟩ a rfl (Sim.to G0 ⟨(.slc cells len, .slice (some ad) len cap) :: KnEnv.kn⟩ hS' hkf) (he.ext hx) hN hd') fun e a' w hp => ?_
  obtain ⟨x, env', ρ, H', k1, k2, k3, k4, k5, k6, k7⟩ := hp
  refine ⟨x, env', ρ, H', k1, hx.trans (k2.mono (hx.len (Nat.le_refl _))), Sim.to ⟨(.slc cells len, .slice (some ad) len cap) :: KnEnv.kn⟩ G0 k3 (fun q hq => @Sim.kf _ _ ⟨(.slc cells len, .slice (some ad) len cap) :: KnEnv.kn⟩ _ k3 q (List.mem_cons_of_mem _ hq)), k4, k5, k6, k7⟩
end
end Go.Ab
namespace Go.Ab
variable [GlobEnv] [FrEnv] [KnEnv] [KnNo] [KnOld]
open Go.ChangeShapes Go.WideShapes Go.ChangeAt Go.RowKit
mutual
def Sh.by : Sh -> Nat
 | .int k => k.bits / 8
 | .bool => 1
 | .str => 16
 | .sl _ => 24
 | .st l => Sh.byL l
def Sh.byL : List Sh -> Nat
 | [] => 0
 | s :: r => s.by + Sh.byL r
end
section
variable {H : Type} {enc : TypeId × Value -> H} {P : Program} {W : World} {base : Nat} {spare : Nat -> Bool} {held : Bool}
def wOk (l : List Nat) : Prop := ∀ n ∈ l, n ≤ reachBytes
theorem wOk_app {a b : List Nat} : wOk (a ++ b) ↔ wOk a ∧ wOk b := by
 unfold wOk
 constructor
 · intro h; exact ⟨fun n hn => h n (by simp [hn]), fun n hn => h n (by simp [hn])⟩
 · rintro ⟨h1, h2⟩ n hn
   rcases List.mem_append.1 hn with hn | hn
   · exact h1 n hn
   · exact h2 n hn
end
end Go.Ab
