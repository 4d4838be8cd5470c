/-
  Steps of the proof: contracts of functions and plain facts that the statement rests on.
-/
import Derived.Test.YtoghpbjllompaaaPart2
import Derived.Test.YtoghpbjllompaaaVG11
import Derived.Test.YtoghpbjllompaaaCore5
set_option linter.all false
/- W16 -/
namespace Go.Proofs.Ytoghpbjllompaaa.Rc
open Go.Ab
section
variable {H : List AO} {g : Gm}
end
theorem Made.len {pl most : Int} {g : Gm} (h : Made pl most g) (p1 : 1 ≤ pl) (p4 : pl ≤ 4) (hm : most ≤ 40) : g.formR = 0 ∧ g.byt.length ≤ 99996 := by
  have hf := h.form p1 p4 (by omega)
  rw [form_eq] at hf
  obtain ⟨hg, _⟩ := form0 hf
  have h1 := headB_len 71 g.pl g.is.length
  have h2 := fm_len (f := infB) (b := 2) (l := g.is) fun y _ => by simp [infB]
  have h3 := fm_len (f := Nd.byt) (b := 700) (l := g.ns) fun y hy => Nd.byt_len hg hy
  have h4 := h.ml
  have h5 := h.il
  refine ⟨hf, ?_⟩
  simp only [Gm.byt, List.length_append]; omega
/-- A byte with some bits turned. -/
theorem xor_ne {c m : Int} (hc : 0 ≤ c ∧ c < 256) (hm : 0 ≤ m ∧ m < 255) : 0 ≤ bitsI .xor .u8 c (u8w (1 + m)) ∧ bitsI .xor .u8 c (u8w (1 + m)) < 256 ∧ bitsI .xor .u8 c (u8w (1 + m)) ≠ c := by
  rw [u8w_id (by omega) (by omega)]
  obtain ⟨a, rfl⟩ : ∃ n : Nat, c = n := ⟨c.toNat, by omega⟩
  obtain ⟨b, hb⟩ : ∃ n : Nat, 1 + m = n := ⟨(1 + m).toNat, by omega⟩
  rw [hb]
  have e : bitsI .xor .u8 (a : Int) (b : Int) = ((a ^^^ b : Nat) : Int) := by
    show IntKind.u8.wrap (((BitVec.ofInt 8 (a : Int) ^^^ BitVec.ofInt 8 (b : Int)).toNat : Nat) : Int) = _
    rw [BitVec.ofInt_natCast, BitVec.ofInt_natCast, BitVec.toNat_xor, BitVec.toNat_ofNat, BitVec.toNat_ofNat, Nat.mod_eq_of_lt (by omega), Nat.mod_eq_of_lt (by omega)]
    have : a ^^^ b < 2 ^ 8 := Nat.xor_lt_two_pow (by omega) (by omega)
    exact u8w_id (by omega) (by omega)
  have hlt : a ^^^ b < 2 ^ 8 := Nat.xor_lt_two_pow (by omega) (by omega)
  rw [e]
  refine ⟨by omega, by omega, fun h => ?_⟩
  have h' : a ^^^ b = a := by omega
  have h2 : a ^^^ (a ^^^ b) = a ^^^ a := by rw [h']
  rw [← Nat.xor_assoc, Nat.xor_self, Nat.zero_xor] at h2
  omega
end Go.Proofs.Ytoghpbjllompaaa.Rc

/- W19 -/
namespace Go.Proofs.Ytoghpbjllompaaa.Rc
open Go.Ab
def dO (l : List Int) (a : Int) : AO := ⟨[.slc (ints l) l.length, i64 a], 63, 0, true⟩
def sM (l : List Int) (a bb : Int) (rows : List (List Int)) (M : List AO) : List AO := dO l a :: ⟨[i64 bb, .own 2 0 rows.length 1 rows.length], 28, 0, true⟩ :: ⟨rowsV rows, 30, rows.length, true⟩ :: M
/-- A row of shares that is right. -/
def GoodR (tot : Int) (w : List Int) : Prop := 1 ≤ w.length ∧ w.length ≤ 5 ∧ (∀ s ∈ w, 0 ≤ s) ∧ w.sum = tot
theorem sum_le : ∀ {w : List Int} {s : Int}, (∀ s ∈ w, 0 ≤ s) → s ∈ w → s ≤ w.sum
  | x :: r, s, h, hs => by
    have hr : 0 ≤ r.sum := by
      clear hs
      have : ∀ (r : List Int), (∀ s ∈ r, 0 ≤ s) → 0 ≤ r.sum := by
        intro r
        induction r with
        | nil => intro _; simp
        | cons y r ih => intro h; have := ih fun s hs => h s (by simp [hs]); have := h y (by simp); simp; omega
      exact this r fun s hs => h s (by simp [hs])
    have hx := h x (by simp)
    rw [List.sum_cons]
    rcases List.mem_cons.1 hs with rfl | hs
    · omega
    · have := sum_le (fun s hs => h s (by simp [hs])) hs; omega
theorem shE_no {tot : Int} : ∀ {w : List Int}, (∀ s ∈ w, 0 ≤ s ∧ s ≤ tot) → shE tot w = false
  | [], _ => rfl
  | s :: r, h => by
    have h1 := h s (by simp)
    have h2 := shE_no (w := r) fun s hs => h s (by simp [hs])
    simp [shE, h2]; omega
theorem GoodR.err {tot : Int} {w : List Int} (h : GoodR tot w) : rowE tot w = 0 := by
  obtain ⟨h1, h2, h3, h4⟩ := h
  unfold rowE
  rw [if_neg (by omega), shE_no fun s hs => ⟨h3 s hs, by have := sum_le h3 hs; omega⟩, if_neg (by simp), if_neg (by omega)]
theorem made_err {bb : Int} {rows : List (List Int)} (h1 : 1 ≤ bb) (h2 : bb ≤ 30) (hn : rows.length ≤ 200) (h : ∀ w ∈ rows, GoodR (2 ^ bb.toNat) w) : Tb.err ⟨bb, rows⟩ = 0 := by
  have key : ∀ rows : List (List Int), (∀ w ∈ rows, GoodR (2 ^ bb.toNat) w) → rowsE (2 ^ bb.toNat) rows = 0 := by
    intro rows
    induction rows with
    | nil => intro _; rfl
    | cons w r ih => intro h; unfold rowsE; rw [(h w (by simp)).err]; simpa using ih fun w hw => h w (by simp [hw])
  unfold Tb.err
  rw [if_neg (by simp only []; omega), if_neg (by simp only []; omega)]
  exact key rows h
section
variable {l : List Int}
theorem sM_get {a bb : Int} {rows : List (List Int)} {M : List AO} {x : AO} : (sM l a bb rows (M ++ [x]))[M.length + 3]? = some x := by simp [sM]
theorem sM_put {a bb : Int} {rows : List (List Int)} {M : List AO} {x y : AO} : (sM l a bb rows (M ++ [x])).set (M.length + 3) y = sM l a bb rows (M ++ [y]) := by
  simp [sM]
theorem sM_set {a a' bb : Int} {rows : List (List Int)} {M : List AO} : (sM l a bb rows M).set 0 ⟨[.slc (ints l) l.length, i64 a'], 63, 0, true⟩ = sM l a' bb rows M := rfl
theorem loop9_1 (hl : l.length < 4611686018427387904) {bb : Int} {rows : List (List Int)} {M : List AO} {cnt : Nat} {tot : Int} (htot : tot ≤ 1073741824) (hc : cnt ≤ 5) {e2 e3 e4 e11 e12 e13 : SV} (h11 : e11 = .ptr (.own 0 0 0 0 0) 0) {N : Nat} {K : XE → Env → List AO → Prop}
    (hexit : ∀ vs left a env, vs.length = cnt → (∀ s ∈ vs, 0 ≤ s) → 0 ≤ left → vs.sum + left = tot → 0 ≤ a → vs[0]? = some 0 → env.get 2 = e2 → env.get 3 = e3 → env.get 4 = e4 → env.get 11 = e11 → env.get 12 = e12 → env.get 13 = e13 → env.get 14 = .own (M.length + 3) 0 cnt 1 0 → env.get 15 = i64 left → K (.exit 2) env (sM l a bb rows (M ++ [fillO vs 0 0]))) :
    ∀ (n : Nat) (vs : List Int) (left a : Int) (env : Env), vs.length + n = cnt → (∀ s ∈ vs, 0 ≤ s) → 0 ≤ left → vs.sum + left = tot → 0 ≤ a → vs[0]? = some 0 → env.get 2 = e2 → env.get 3 = e3 → env.get 4 = e4 → env.get 11 = e11 → env.get 12 = e12 → env.get 13 = e13 →
      env.get 14 = .own (M.length + 3) 0 cnt 1 0 → env.get 15 = i64 left → env.get 16 = i64 vs.length → LI Try.prog N drawB l9_1 env (sM l a bb rows (M ++ [fillO vs n 0])) K := by
  subst h11
  intro n
  induction n with
  | zero =>
    intro vs left a env hn hv hleft hs ha h0 k2 k3 k4 k11 k12 k13 k14 k15 k16
    refine li_go hm l9_1.eq_1 ?_
    have e : vs.length = cnt := by omega
    simp -implicitDefEqProofs [k2, k3, k4, k11, k12, k13, k14, k15, k16, e]
    refine hexit vs left a _ e hv hleft hs ha h0 ?_ ?_ ?_ ?_ ?_ ?_ ?_ ?_ <;> simp [k2, k3, k4, k11, k12, k13, k14, k15]
  | succ n ih =>
    intro vs left a env hn hv hleft hs ha h0 k2 k3 k4 k11 k12 k13 k14 k15 k16
    refine li_go hm l9_1.eq_1 ?_
    have hlt : vs.length < cnt := by omega
    have hsum : left ≤ tot := by
      have : 0 ≤ vs.sum := by
        have := sum_le hv (List.mem_of_getElem? h0); omega
      omega
    have w1 : IntKind.i64.wrap (left + 1) = left + 1 := wrap_id (by omega) (by omega)
    have w2 : IntKind.i64.wrap ((vs.length : Int) + 1) = ((vs.length + 1 : Nat) : Int) := wrap_succ (by omega)
    simp -implicitDefEqProofs [k2, k3, k4, k11, k12, k13, k14, k15, k16, hlt, w1]
    refine call_goP (ok35 (G := sM l a bb rows (M ++ [fillO vs (n + 1) 0])) (jd := 0) (at' := a) rfl hl ha (by omega)) ?_
    rintro o G' ⟨v, a', rfl, ha', hv0, hvn, rfl⟩
    have hvl := hvn (by omega)
    rw [sM_set]
    have eo : (sM l a' bb rows (M ++ [fillO vs (n + 1) 0]))[M.length + 3]? = some (fillO vs (n + 1) 0) := sM_get
    have ec : objCells (sM l a' bb rows (M ++ [fillO vs (n + 1) 0])) (M.length + 3) 0 = ints (vs ++ List.replicate (n + 1) 0) := objCells_of eo rfl
    have es : ∀ f : AO → AO, Ab.setObj (sM l a' bb rows (M ++ [fillO vs (n + 1) 0])) (M.length + 3) f = sM l a' bb rows (M ++ [f (fillO vs (n + 1) 0)]) := fun f => by rw [setObj_some eo, sM_put]
    have w3 : IntKind.i64.wrap (left - v) = left - v := wrap_id (by omega) (by omega)
    have hf : (⟨List.take vs.length (fillO vs (n + 1) 0).cells ++ i64 v :: List.drop (vs.length + 1) (fillO vs (n + 1) 0).cells, (fillO vs (n + 1) 0).ty, (fillO vs (n + 1) 0).ver, (fillO vs (n + 1) 0).live⟩ : AO) = fillO (vs ++ [v]) n 0 := by
      simp only [fillO]; rw [fill_set rfl]
    have ec2 : objCells (sM l a' bb rows (M ++ [fillO (vs ++ [v]) n 0])) (M.length + 3) 0 = ints (vs ++ v :: List.replicate n 0) := by
      have := objCells_of (H := sM l a' bb rows (M ++ [fillO (vs ++ [v]) n 0])) (i := M.length + 3) (o := fillO (vs ++ [v]) n 0) sM_get rfl
      have e0 : (fillO (vs ++ [v]) n 0).ver = 0 := rfl
      rw [e0] at this; rw [this]; simp [fillO]
    have eg : (ints (vs ++ v :: List.replicate n 0))[vs.length]? = some (i64 v) := by simp [ints]
    have egl : vs.length < (ints (vs ++ v :: List.replicate n 0)).length := by simp [ints]
    simp -implicitDefEqProofs [k2, k3, k4, k11, k12, k13, k14, k15, k16, ec, es, hlt, w1, hf, ec2, eg, egl, w2, w3]
    refine ih (vs ++ [v]) (left - v) a' _ (by simp; omega) ?_ (by omega) (by simp; omega) ha' ?_ ?_ ?_ ?_ ?_ ?_ ?_ ?_ ?_ ?_
    · intro s hs
      rcases List.mem_append.1 hs with h | h
      · exact hv s h
      · simp at h; omega
    · rw [List.getElem?_append_left (getElem?_lt h0)]; exact h0
    all_goals simp [k2, k3, k4, k11, k12, k13, k14, w3]
end
end Go.Proofs.Ytoghpbjllompaaa.Rc

/- W20 -/
namespace Go.Proofs.Ytoghpbjllompaaa.Rc
open Go.Ab
section
variable {l : List Int}
theorem sM_tell {env : Env} {l : List Int} {a bb : Int} {rows : List (List Int)} {M : List AO} :
    Tell env (sM l a bb rows M) (env.map fun p => (p.1, p.2.gv 2 rows.length (rowsV rows) 1)) (dO l a :: tO ⟨bb, rows⟩ :: (AO.gv 2 rows.length (rowsV rows) 1 (AO.dead ⟨rowsV rows, 30, rows.length, true⟩)) :: M.map (AO.gv 2 rows.length (rowsV rows) 1)) := by
  have il : (rowsV rows).length = rows.length := by simp [rowsV]
  have e1 : AO.gv 2 rows.length (rowsV rows) 1 ⟨[i64 bb, .own 2 0 rows.length 1 rows.length], 28, 0, true⟩ = tO ⟨bb, rows⟩ := by
    simp [AO.gv, tO, Tb.cells, il]
    exact List.take_of_length_le (by omega)
  have e2 : AO.gv 2 rows.length (rowsV rows) 1 (dO l a) = dO l a := by simp [AO.gv, dO]
  have := Tell.give (env := env) (H0 := []) (L := sM l a bb rows M) (by intro i o h; simp at h) 2 1 (o := ⟨rowsV rows, 30, rows.length, true⟩) rfl rfl
  simp only [sM, List.nil_append, List.length_nil, Nat.zero_add, List.set_cons_succ, List.set_cons_zero, List.map_cons, e1, e2] at this ⊢
  exact this
theorem loop9_0 (hl : l.length < 4611686018427387904) {bb : Int} (hbb : 1 ≤ bb ∧ bb ≤ 30) {e2 e3 e4 e12 : SV} (h12 : e12 = .ptr (.own 1 0 0 0 0) 0) (hp2 : ∃ n, e2 = i64 n) (hp3 : ∃ n, e3 = i64 n) (hp4 : ∃ b : List Int, e4 = .slc (byts b) b.length) {N : Nat} {K : XE → Env → List AO → Prop}
    (hexit : ∀ rows a env M, rows.length ≤ 9 → (∀ w ∈ rows, GoodR (2 ^ bb.toNat) w) → env.get 2 = e2 → env.get 3 = e3 → env.get 4 = e4 → env.get 12 = e12 → K (.exit 0) env (dO l a :: tO ⟨bb, rows⟩ :: M)) :
    ∀ (n : Nat) (rows : List (List Int)) (a : Int) (env : Env) (M : List AO), rows.length + n ≤ 9 → (∀ w ∈ rows, GoodR (2 ^ bb.toNat) w) → 0 ≤ a → env.get 2 = e2 → env.get 3 = e3 → env.get 4 = e4 → env.get 11 = .ptr (.own 0 0 0 0 0) 0 → env.get 12 = e12 → env.get 13 = i64 n →
      LI Try.prog N drawB l9_0 env (sM l a bb rows M) K := by
  obtain ⟨n2, rfl⟩ := hp2
  obtain ⟨n3, rfl⟩ := hp3
  obtain ⟨b4, rfl⟩ := hp4
  subst h12
  intro n
  induction n with
  | zero =>
    intro rows a env M hn hr ha k2 k3 k4 k11 k12 k13
    refine LI.tell sM_tell ?_
    have g2 : Env.get (env.map fun p => (p.1, p.2.gv 2 rows.length (rowsV rows) 1)) 2 = i64 n2 := by rw [get_map _ (SV.gv _ _ _ _) (gv_any _ _ _ _)]; simp [k2]
    have g3 : Env.get (env.map fun p => (p.1, p.2.gv 2 rows.length (rowsV rows) 1)) 3 = i64 n3 := by rw [get_map _ (SV.gv _ _ _ _) (gv_any _ _ _ _)]; simp [k3]
    have g4 : Env.get (env.map fun p => (p.1, p.2.gv 2 rows.length (rowsV rows) 1)) 4 = .slc (byts b4) b4.length := by rw [get_map _ (SV.gv _ _ _ _) (gv_any _ _ _ _)]; simp [k4]
    have g12 : Env.get (env.map fun p => (p.1, p.2.gv 2 rows.length (rowsV rows) 1)) 12 = .ptr (.own 1 0 0 0 0) 0 := by rw [get_map _ (SV.gv _ _ _ _) (gv_any _ _ _ _)]; simp [k12]
    have g13 : Env.get (env.map fun p => (p.1, p.2.gv 2 rows.length (rowsV rows) 1)) 13 = i64 (0 : Int) := by rw [get_map _ (SV.gv _ _ _ _) (gv_any _ _ _ _)]; simp [k13]
    generalize (env.map fun p => (p.1, p.2.gv 2 rows.length (rowsV rows) 1)) = env2 at *
    refine li_go hm l9_0.eq_1 ?_
    simp -implicitDefEqProofs [g2, g3, g4, g12, g13]
    refine hexit rows a _ _ (by omega) hr ?_ ?_ ?_ ?_ <;> simp [g2, g3, g4, g12]
  | succ n ih =>
    intro rows a env M hn hr ha k2 k3 k4 k11 k12 k13
    refine li_go hm l9_0.eq_1 ?_
    have w3 : IntKind.i64.wrap (n : Int) = n := wrap_nat (by omega)
    have w1 : IntKind.i64.wrap ((n : Int) + 1 - 1) = n := by rw [wrap_id (by omega) (by omega)]; omega
    have hn0 : (0 : Int) < (n : Int) + 1 := by omega
    simp -implicitDefEqProofs [k2, k3, k4, k11, k12, k13, hn0]
    refine call_goP (ok35 (G := sM l a bb rows M) (jd := 0) (at' := a) rfl hl ha (by omega)) ?_
    rintro o G' ⟨v, a', rfl, ha', hv0, hvn, rfl⟩
    have hvl := hvn (by omega)
    rw [sM_set]
    have wv : IntKind.i64.wrap (1 + v) = 1 + v := wrap_id (by omega) (by omega)
    obtain ⟨c, hc⟩ : ∃ c : Nat, v = c := ⟨v.toNat, by omega⟩
    subst hc
    have hto : (1 + (c : Int)).toNat = c + 1 := by omega
    have esM : ∀ x, sM l a' bb rows M ++ [x] = sM l a' bb rows (M ++ [x]) := fun x => by simp [sM]
    have eb : ∀ M', objCells (sM l a' bb rows M') 1 0 = [i64 bb, .own 2 0 rows.length 1 rows.length] := fun _ => rfl
    obtain ⟨kb, hkb⟩ : ∃ k : Nat, bb = k := ⟨bb.toNat, by omega⟩
    have hmin : min bb.toNat IntKind.i64.bits = bb.toNat := by
      have : IntKind.i64.bits = 64 := rfl
      omega
    have htr := tot_rng (t := ⟨bb, []⟩) hbb.1 hbb.2
    have htot : (2 : Int) ^ bb.toNat = Tb.tot ⟨bb, []⟩ := rfl
    have wt : IntKind.i64.wrap ((2 : Int) ^ bb.toNat) = 2 ^ bb.toNat := by rw [htot]; exact wrap_id (by omega) (by omega)
    have hlen : (sM l a' bb rows M).length = M.length + 3 := by simp [sM]
    simp -implicitDefEqProofs [k2, k3, k4, k11, k12, k13, wv, hto, esM, eb, hmin, wt, hlen]
    refine ⟨by omega, by omega, by omega, by omega, ?_⟩
    have hfz : (⟨List.replicate (c + 1) (i64 0), 3, 0, true⟩ : AO) = fillO ([0] : List Int) c 0 := by simp [fillO, ints, List.replicate_succ]
    rw [hfz]
    refine loop9_1 hl (cnt := c + 1) (tot := 2 ^ bb.toNat) (by rw [htot]; exact htr.2) (by omega) (e2 := i64 n2) (e3 := i64 n3) (e4 := .slc (byts b4) b4.length) (e12 := .ptr (.own 1 0 0 0 0) 0) (e13 := i64 ((n : Int) + 1)) rfl (fun vs left a2 env g1 g2 g3 g4 g5 g6 q2 q3 q4 q11 q12 q13 q14 q15 => ?_) c [0] (2 ^ bb.toNat) a' _ ?_ ?_ ?_ ?_ ha' ?_ ?_ ?_ ?_ ?_ ?_ ?_ ?_ ?_ ?_
    · obtain ⟨r, rfl⟩ : ∃ r, vs = 0 :: r := by
        rcases vs with _ | ⟨x, r⟩
        · simp at g6
        · simp at g6; exact ⟨r, by rw [g6]⟩
      have eo : (sM l a2 bb rows (M ++ [fillO (0 :: r) 0 0]))[M.length + 3]? = some (fillO (0 :: r) 0 0) := sM_get
      have ec : objCells (sM l a2 bb rows (M ++ [fillO (0 :: r) 0 0])) (M.length + 3) 0 = i64 0 :: ints r := by
        have := objCells_of (H := sM l a2 bb rows (M ++ [fillO (0 :: r) 0 0])) (i := M.length + 3) (o := fillO (0 :: r) 0 0) sM_get rfl
        have e0 : (fillO (0 :: r) 0 0).ver = 0 := rfl
        rw [e0] at this; rw [this]; simp [fillO, ints]
      have es : ∀ f : AO → AO, Ab.setObj (sM l a2 bb rows (M ++ [fillO (0 :: r) 0 0])) (M.length + 3) f = sM l a2 bb rows (M ++ [f (fillO (0 :: r) 0 0)]) := fun f => by rw [setObj_some eo, sM_put]
      have hf : (⟨i64 left :: List.drop 1 (fillO (0 :: r) 0 0).cells, (fillO (0 :: r) 0 0).ty, (fillO (0 :: r) 0 0).ver, (fillO (0 :: r) 0 0).live⟩ : AO) = ⟨ints (left :: r), 3, 0, true⟩ := by simp [fillO, ints]
      have rl : (rowsV rows).length = rows.length := by simp [rowsV]
      simp -implicitDefEqProofs [q2, q3, q4, q11, q12, q13, q14, q15, ec, es, hf]
      unfold sM
      simp -implicitDefEqProofs [q2, q3, q4, q11, q12, q13, q14, q15, rl, w1, w3]
      refine ⟨by omega, by omega, ?_⟩
      have hlr : r.length = c := by simpa using g1
      have il : (ints (left :: r)).length = c + 1 := by simp [ints, hlr]
      have hf2 : (⟨i64 left :: (fillO (0 :: r) 0 0).cells.tail, (fillO (0 :: r) 0 0).ty, (fillO (0 :: r) 0 0).ver, (fillO (0 :: r) 0 0).live⟩ : AO) = ⟨ints (left :: r), 3, 0, true⟩ := by simp [fillO, ints]
      rw [hf2]
      have hcn : closed ([] : List AO) := by intro i o h; simp at h
      refine LI.tell (Tell.give (H0 := []) hcn (M.length + 3) 1 (o := ⟨ints (left :: r), 3, 0, true⟩) (by simp) rfl) ?_
      have g1' : AO.gv (M.length + 3) 0 (ints (left :: r)) 1 ⟨[i64 bb, .own 2 0 (rows.length + 1) 1 (rows.length + 1)], 28, 0, true⟩ = ⟨[i64 bb, .own 2 0 (rows.length + 1) 1 (rows.length + 1)], 28, 0, true⟩ := by
        simp [AO.gv]
      have g2' : AO.gv (M.length + 3) 0 (ints (left :: r)) 1 (dO l a2) = dO l a2 := by simp [AO.gv, dO]
      have g4' : AO.gv (M.length + 3) 0 (ints (left :: r)) 1 ⟨rowsV rows ++ [.own (M.length + 3) 0 (c + 1) 1 0], 30, rows.length + 1, true⟩ = ⟨rowsV (rows ++ [left :: r]), 30, (rows ++ [left :: r]).length, true⟩ := by
        simp [AO.gv, rowsV, sl, il, hlr, Function.comp_def]
      refine LI.cong (H' := sM l a2 bb (rows ++ [left :: r]) ((M ++ [AO.dead ⟨ints (left :: r), 3, 0, true⟩, ⟨[.own (M.length + 3) 0 (c + 1) 1 0], 30, 0, true⟩]).map (AO.gv (M.length + 3) 0 (ints (left :: r)) 1))) ?_ (ih (rows ++ [left :: r]) a2 _ _ (by simp; omega) ?_ g5 ?_ ?_ ?_ ?_ ?_ ?_)
      · simp only [List.nil_append, List.length_nil, Nat.zero_add]
        simp [sM, -AO.gv, g1', g2', g4']
      · intro w hw
        rcases List.mem_append.1 hw with h | h
        · exact hr w h
        · simp at h
          subst h
          refine ⟨by simp, by simp; omega, fun s hs => ?_, ?_⟩
          · rcases List.mem_cons.1 hs with rfl | hs
            · exact g3
            · exact g2 s (by simp [hs])
          · simp at g4 ⊢; omega
      all_goals rw [get_map _ (SV.gv _ _ _ _) (gv_any _ _ _ _)]; simp [q2, q3, q4, q11, q12, q13]
    all_goals first | (simp [k2, k3, k4, k11, k12, k13]; done) | (simp; omega) | (rw [htot]; omega)
end
end Go.Proofs.Ytoghpbjllompaaa.Rc

/- W21 -/
namespace Go.Proofs.Ytoghpbjllompaaa.Rc
open Go.Ab
section
variable {H : List AO}
theorem loop63g {r : List (List Int)} (hr : r.length < 4611686018427387904) (hl : ∀ x ∈ r, x.length < 4611686018427387904) {N : Nat} {K : XE → Env → List AO → Prop} (hexit : ∀ env, K (.exit 0) env H) :
    ∀ (n i : Nat) (env : Env), i + n = r.length → env.get 0 = .slc (rowsV r) r.length → env.get 1 = .slc (rowsV r) r.length → env.get 5 = i64 i → LI Try.prog N drawB l63_0 env H K := by
  intro n
  induction n with
  | zero =>
    intro i env hi h0 h1 h5
    refine li_go hm l63_0.eq_1 ?_
    have e : i = r.length := by omega
    subst e
    simp -implicitDefEqProofs [h0, h1, h5]
    exact hexit _
  | succ n ih =>
    intro i env hi h0 h1 h5
    refine li_go hm l63_0.eq_1 ?_
    have hlt : i < r.length := by omega
    have w1 : IntKind.i64.wrap ((i : Int) + 1) = ((i + 1 : Nat) : Int) := wrap_succ (by omega)
    have hg : (rowsV r)[i]? = some (sl r[i]) := by simp [rowsV, hlt]
    have hgl : i < (rowsV r).length := by simp [rowsV, hlt]
    have hg' : (rowsV r)[i]'hgl = sl r[i] := by simp [rowsV]
    simp -implicitDefEqProofs [h0, h1, h5, hlt, hg, hg', hgl, sl]
    refine And.intro (by simp [rowsV]; omega) (callq_go (fun _ => ok73s (l := r[i]) (isc _ _) (isc _ _) (hl _ (List.getElem_mem hlt))) ?_)
    simp -implicitDefEqProofs [h5, w1]
    exact ih (i + 1) _ (by omega) (by simp [h0]) (by simp [h1]) (by simp)
theorem ok63g {r : List (List Int)} (hr : r.length < 4611686018427387904) (hl : ∀ x ∈ r, x.length < 4611686018427387904) : Ok Try.prog 63 [.slc (rowsV r) r.length, .slc (rowsV r) r.length] H (.ret (bl true)) H := by
  refine ok_fn hm Try.func63 c63 (by simp [rowsV_under]) fun hcl => ?_
  simp -implicitDefEqProofs [i63, r63]
  refine loop63g hr hl (fun env => ?_) r.length 0 _ (by omega) (by simp) (by simp) (by simp)
  simp -implicitDefEqProofs
  exact cv_id
theorem ok34g {t : Tb} (hr : t.r.length < 4611686018427387904) (hl : ∀ x ∈ t.r, x.length < 4611686018427387904) : Ok Try.prog 34 [.agg t.cells, .agg t.cells] H (.ret (bl true)) H := by
  refine ok_fn hm Try.func34 c34 (by simp [Tb.cells, rowsV_under]) fun hcl => ?_
  simp -implicitDefEqProofs [i34, r34, Tb.cells]
  refine callq_st (fun _ => ok63g hr hl) ?_
  simp -implicitDefEqProofs
  exact cv_fz 1 hcl rfl (by simp)
end
theorem readT_err {b : List Int} {e : Fl} (h : readT b = .error e) : e.1 ≠ 0 := by
  unfold readT at h
  split at h
  · rename_i h1; cases h; exact opnR_err h1
  · split at h
    · rename_i h1; cases h; exact octR_err h1
    · split at h
      · rename_i h1; cases h; exact numR_err h1
      · split at h
        · rename_i h1; cases h; exact rowsR_err _ _ _ h1
        · split at h
          · cases h; simp
          · split at h
            · rename_i h1; cases h; exact h1
            · cases h
theorem readG_err {b : List Int} {e : Fl} (h : readG b = .error e) : e.1 ≠ 0 := by
  unfold readG at h
  split at h
  · rename_i h1; cases h; exact opnR_err h1
  · split at h
    · rename_i h1; cases h; exact octR_err h1
    · split at h
      · rename_i h1; cases h; exact numR_err h1
      · split at h
        · rename_i h1; cases h; exact infsR_err _ _ _ h1
        · split at h
          · rename_i h1; cases h; exact treeR_err _ _ _ _ _ h1
          · split at h
            · cases h; simp
            · split at h
              · rename_i h1; cases h; exact h1
              · cases h
theorem tail9d {A L : List AO} {o1 : AO} {f : Fl} {w body : List Int} {env : Env} (how : Oct w) (hwl : w.length < 4611686018427387904) (hw : w = sealB body) (k20 : env.get 20 = .ptr (.own (A.length + 1) 0 0 0 0) 0) (k23 : env.get 23 = .slc (byts w) w.length) :
    X Try.prog Try.f9.ntmps drawB (IC.tl 14 i9) env (A ++ o1 :: ⟨[i64 f.1, i64 f.2], 47, 0, true⟩ :: L) (Ab.Fin 0 r9 (.ret (bl true)) []) := by
  have fin : ∀ L, Cv 0 (bl true) L (bl true) [] := fun L => by simpa using cv_fz (n0 := 0) (H := []) (L := L) (r := bl true) (r1 := bl true) 1 (by intro i o h; simp at h) rfl (by simp)
  simp -implicitDefEqProofs [IC.tl, i9, k20, k23]
  refine call_goP (okP24 how hwl) ?_
  rintro o H' ⟨rfl, rfl⟩
  cases hr : readG w with
  | error e =>
    have hne := readG_err hr
    simp -implicitDefEqProofs [gOf, fOf, Gm.cells, hne, k20, k23]
    refine call_go awake_w ?_
    simp -implicitDefEqProofs [r9]
    exact fin _
  | ok g =>
    obtain ⟨hsw, hte⟩ := readG_of how hr
    have h11 := fun H => ok11 (H := H) (g := g)
    have htr : gameR g = (w, 0) := by unfold gameR; rw [if_neg (by simpa using hte), hsw]
    simp only [htr, Gm.cells, bl2] at h11
    simp -implicitDefEqProofs [gOf, fOf, Gm.cells, k20, k23]
    refine call_go (h11 _) ?_
    simp -implicitDefEqProofs [k20, k23]
    refine callq_st (r := bl true) (fun _ => by simpa [SV.strip] using ok15s (IsB.slc _ w) (IsB.slc _ w) hwl) ?_
    simp -implicitDefEqProofs
    refine call_go awake_w ?_
    simp -implicitDefEqProofs [r9]
    exact fin _
theorem tail9c {A : List AO} {body : List Int} {x0 x1 : SV} {e0 : Fl} (hob : Oct body) (hbl : body.length ≤ 60) :
    WI Try.prog Try.f9.ntmps drawB (IC.tl 11 i9) [(4, .slc (byts body) body.length), (19, .ptr (.own A.length 0 0 0 0) 0), (20, .ptr (.own (A.length + 1) 0 0 0 0) 0)]
      (A ++ [⟨[x0, x1], 28, 0, true⟩, ⟨[i64 e0.1, i64 e0.2], 47, 0, true⟩]) (Ab.Fin 0 r9 (.ret (bl true)) []) := by
  rw [show IC.tl 11 i9 = .seq (IC.nth 11 i9) (.seq (IC.nth 12 i9) (IC.tl 13 i9)) from rfl]
  obtain ⟨t13, ht13⟩ : ∃ t, IC.tl 13 i9 = t := ⟨_, rfl⟩
  rw [ht13]
  refine WI.seq (draw_ok hm) ?_
  simp -implicitDefEqProofs [IC.nth, i9]
  refine call_go (ok20 (IsB.slc _ body) hob (by omega)) ?_
  simp -implicitDefEqProofs
  refine WI.seq (draw_ok hm) ?_
  simp -implicitDefEqProofs [IC.nth, i9, u8w_eq]
  refine ⟨by omega, by omega, ?_⟩
  have hcells : byts body ++ [u8 (u8w ((sumV body).fdiv (2 ^ min 24 IntKind.i64.bits))), u8 (u8w ((sumV body).fdiv (2 ^ min 16 IntKind.i64.bits))), u8 (u8w ((sumV body).fdiv (2 ^ min 8 IntKind.i64.bits))), u8 (u8w (sumV body))] = byts (sealB body) := by
    simp [sealB, tailB, sh8, byts]
  rw [hcells]
  have hwl : body.length + 4 = (sealB body).length := (sealB_len' body).symm
  have how : Oct (sealB body) := Oct.app hob (tailB_oct _)
  rw [hwl]
  obtain ⟨w, hw⟩ : ∃ w, sealB body = w := ⟨_, rfl⟩
  have hwl2 : w.length = body.length + 4 := by rw [← hw, hwl]
  rw [hw] at how ⊢
  have hbw : (byts w).length = w.length := by simp [byts]
  have htw : (byts w).take w.length = byts w := by rw [← hbw, List.take_length]
  refine WI.keep [19, 20, 23] ?_
  simp -implicitDefEqProofs
  obtain ⟨o3, ho3⟩ : ∃ o : AO, (⟨[u8 (u8w ((sumV body).fdiv (2 ^ min 24 IntKind.i64.bits))), u8 (u8w ((sumV body).fdiv (2 ^ min 16 IntKind.i64.bits))), u8 (u8w ((sumV body).fdiv (2 ^ min 8 IntKind.i64.bits))), u8 (u8w (sumV body))], 5, 0, true⟩ : AO) = o := ⟨_, rfl⟩
  rw [ho3]
  refine WI.tell (Tell.give (H0 := []) (L := A ++ [⟨[x0, x1], 28, 0, true⟩, ⟨[i64 e0.1, i64 e0.2], 47, 0, true⟩, ⟨byts w, 5, 2, true⟩, o3]) (by intro i o h; simp at h) (A.length + 2) 1 (o := ⟨byts w, 5, 2, true⟩) (by simp) rfl) ?_
  have e2 : (([] : List AO) ++ ((A ++ [⟨[x0, x1], 28, 0, true⟩, ⟨[i64 e0.1, i64 e0.2], 47, 0, true⟩, ⟨byts w, 5, 2, true⟩, o3]).set (A.length + 2) (AO.dead ⟨byts w, 5, 2, true⟩)).map (AO.gv (([] : List AO).length + (A.length + 2)) 2 (byts w) 1)) =
      A.map (AO.gv (A.length + 2) 2 (byts w) 1) ++ [⟨[(x0.gv (A.length + 2) 2 (byts w) 1), (x1.gv (A.length + 2) 2 (byts w) 1)], 28, 0, true⟩, ⟨[i64 e0.1, i64 e0.2], 47, 0, true⟩, ⟨[], 5, 3, false⟩, o3.gv (A.length + 2) 2 (byts w) 1] := by
    simp [AO.gv, AO.dead]
  refine WI.cong e2.symm ?_
  obtain ⟨A1, hA1⟩ : ∃ A1, A.map (AO.gv (A.length + 2) 2 (byts w) 1) = A1 := ⟨_, rfl⟩
  have hl1 : A1.length = A.length := by rw [← hA1]; simp
  rw [hA1, ← hl1]
  obtain ⟨y0, hy0⟩ : ∃ y, x0.gv (A1.length + 2) 2 (byts w) 1 = y := ⟨_, rfl⟩
  obtain ⟨y1, hy1⟩ : ∃ y, x1.gv (A1.length + 2) 2 (byts w) 1 = y := ⟨_, rfl⟩
  obtain ⟨o4, ho4⟩ : ∃ y, o3.gv (A1.length + 2) 2 (byts w) 1 = y := ⟨_, rfl⟩
  rw [hy0, hy1, ho4]
  simp only [List.map_cons, List.map_nil, List.length_nil, Nat.zero_add, gv_ptr]
  simp -implicitDefEqProofs [htw, hbw]
  subst ht13
  have fin := fun (A : List AO) (o1 : AO) (L : List AO) (f : Fl) (env : Env) (k20 : env.get 20 = .ptr (.own (A.length + 1) 0 0 0 0) 0) (k23 : env.get 23 = .slc (byts w) w.length) => tail9d (A := A) (o1 := o1) (L := L) (f := f) (env := env) how (by omega) hw.symm k20 k23
  rw [show IC.tl 13 i9 = .seq (IC.nth 13 i9) (IC.tl 14 i9) from rfl]
  generalize IC.tl 14 i9 = t14 at fin ⊢
  refine WI.of_X (draw_ok hm) ?_
  simp -implicitDefEqProofs [IC.nth, i9]
  refine call_goP (okP32 how (by omega)) ?_
  rintro o H' ⟨rfl, rfl⟩
  cases hr : readT w with
  | error e =>
    have hne := readT_err hr
    simp -implicitDefEqProofs [tOf, fOf, Tb.cells, hne]
    refine fin A1 _ _ e _ ?_ ?_ <;> simp
  | ok t =>
    obtain ⟨hsw, hte⟩ := readT_of how hr
    have htd := Td.of hte
    have h13 := fun H => ok13 (H := H) (t := t) (fun i h => by have := (htd.r _ (List.getElem_mem h)).2.1; omega)
    have htr : tabR t = (w, 0) := by unfold tabR; rw [if_neg (by simpa using hte), hsw]
    simp only [htr, Tb.cells, bl2] at h13
    simp -implicitDefEqProofs [tOf, fOf, Tb.cells]
    refine call_go (h13 _) ?_
    simp -implicitDefEqProofs
    refine callq_st (r := bl true) (fun _ => by simpa [SV.strip] using ok15s (IsB.slc _ w) (IsB.slc _ w) (by omega)) ?_
    simp -implicitDefEqProofs
    refine fin A1 _ _ (0, 0) _ ?_ ?_ <;> simp
theorem tail9b {A : List AO} {t : Tb} {b body : List Int} {x0 x1 : SV} (hb : Oct b) (hrd : readT b = .ok t) (hb0 : 0 < b.length ∧ b.length < 100000000) (hbl : (byts b).length = b.length) (hob : Oct body) (at' by' : Int) :
    WI Try.prog Try.f9.ntmps drawB (IC.tl 7 i9) [(2, i64 at'), (3, i64 by'), (4, .slc (byts body) body.length), (17, .own A.length 0 b.length 1 0), (19, .ptr (.own (A.length + 1) 0 0 0 0) 0), (20, .ptr (.own (A.length + 2) 0 0 0 0) 0)]
      (A ++ [⟨byts b, 5, 0, true⟩, ⟨[x0, x1], 28, 0, true⟩, ⟨[i64 0, i64 0], 47, 0, true⟩]) (Ab.Fin 0 r9 (.ret (bl true)) []) := by
  rw [show IC.tl 7 i9 = .seq (IC.nth 7 i9) (.seq (IC.nth 8 i9) (.seq (IC.nth 9 i9) (.seq (IC.nth 10 i9) (IC.tl 11 i9)))) from rfl]
  obtain ⟨t11, ht11⟩ : ∃ t, IC.tl 11 i9 = t := ⟨_, rfl⟩
  rw [ht11]
  refine WI.seq (draw_ok hm) ?_
  simp -implicitDefEqProofs [IC.nth, i9]
  refine call_go (ok30 at' b.length (by omega) (by omega)) ?_
  obtain ⟨k, hk⟩ : ∃ k : Nat, at' % (b.length : Int) = k := ⟨(at' % (b.length : Int)).toNat, by have := Int.emod_nonneg at' (show (b.length : Int) ≠ 0 by omega); omega⟩
  have hkl : k < b.length := by have := Int.emod_lt_of_pos at' (show (0 : Int) < b.length by omega); omega
  rw [hk]
  have hkc : k < (byts b).length := by rw [hbl]; exact hkl
  have hba := byts_at hkl
  simp -implicitDefEqProofs
  refine WI.seq (draw_ok hm) ?_
  simp -implicitDefEqProofs [IC.nth, i9, hbl, hkl, hkc, hba]
  have hm255 : 0 ≤ by' % 255 ∧ by' % 255 < 255 := by omega
  have hbk := hb _ (List.getElem_mem hkl)
  have hx := xor_ne hbk hm255
  have w2 : IntKind.i64.wrap (1 + by' % 255) = 1 + by' % 255 := wrap_id (by omega) (by omega)
  refine And.intro (by omega) (callq_go (fun _ => ok30 by' 255 (by omega) (by omega)) ?_)
  simp -implicitDefEqProofs [hbl, hkl, hkc, hba, w2]
  refine And.intro (by omega) ?_
  change 0 ≤ bitsI .xor .u8 b[k] (u8w (1 + by' % 255)) ∧ _ at hx
  obtain ⟨v, hv⟩ : ∃ v, bitsI .xor .u8 b[k] (IntKind.u8.wrap (1 + by' % 255)) = v := ⟨_, rfl⟩
  have hx : 0 ≤ v ∧ v < 256 ∧ v ≠ b[k] := by rw [← hv]; exact hx
  rw [hv]
  have hst : List.take k (byts b) ++ u8 v :: List.drop (k + 1) (byts b) = byts (b.set k v) := by
    rw [byts, byts, List.map_set, List.set_eq_take_append_cons_drop, if_pos (by simpa using hkl)]
  rw [hst]
  obtain ⟨e, he, hre⟩ := readT_bad hb hrd hkl ⟨hx.1, hx.2.1⟩ hx.2.2
  have hb' : Oct (b.set k v) := fun x hx' => by
    rcases List.mem_or_eq_of_mem_set hx' with h | rfl
    · exact hb x h
    · exact ⟨hx.1, hx.2.1⟩
  have hbl2 : (byts (b.set k v)).length = b.length := by simp [byts]
  have htk2 : (byts (b.set k v)).take b.length = byts (b.set k v) := by rw [← hbl2, List.take_length]
  refine WI.keep [4, 17, 19, 20] ?_
  simp -implicitDefEqProofs
  refine WI.seq (draw_ok hm) ?_
  simp -implicitDefEqProofs [IC.nth, i9]
  have h32 := fun H => okP32 (H := H) hb' (by simp; omega)
  simp only [List.length_set] at h32
  refine call_goP (OkP.give A.length 1 (o := ⟨byts (b.set k v), 5, 0, true⟩) (by simp) rfl (OkP.cast (by simp [htk2, hbl2]) rfl (h32 _))) ?_
  rintro o H' ⟨rfl, rfl⟩
  rw [hre]
  simp -implicitDefEqProofs [tOf, fOf, Tb.cells, he]
  refine WI.keep [4, 19, 20] ?_
  simp -implicitDefEqProofs
  have fin : ∀ L, Cv 0 (bl true) L (bl true) [] := fun L => by simpa using cv_fz (n0 := 0) (H := []) (L := L) (r := bl true) (r1 := bl true) 1 (by intro i o h; simp at h) rfl (by simp)
  by_cases h60 : 60 < body.length
  · have h60' : 60 < (body.length : Int) := by omega
    refine WI.seq (draw_ok hm) ?_
    simp -implicitDefEqProofs [IC.nth, i9, he, h60, h60']
    refine callq_go (fun _ => awake_w) ?_
    simp -implicitDefEqProofs [r9]
    exact fin _
  · have h60' : ¬ 60 < (body.length : Int) := by omega
    refine WI.seq (draw_ok hm) ?_
    simp -implicitDefEqProofs [IC.nth, i9, he, h60, h60']
    refine WI.keep [4, 19, 20] ?_
    simp -implicitDefEqProofs
    subst ht11
    have := tail9c (A := A ++ [⟨[], 5, 1, false⟩]) (x0 := x0) (x1 := x1) (e0 := e) hob (by omega)
    simpa using this
theorem tail9 {A : List AO} {t : Tb} {body : List Int} (hte : t.err = 0) (hob : Oct body) (at' by' : Int) :
    WI Try.prog Try.f9.ntmps drawB (IC.tl 4 i9) [(2, i64 at'), (3, i64 by'), (4, .slc (byts body) body.length), (12, .ptr (.slc [i64 t.b, .slc (rowsV t.r) t.r.length] 0) 0)] A (Ab.Fin 0 r9 (.ret (bl true)) []) := by
  have htd := Td.of hte
  have hrl : ∀ i (h : i < t.r.length), t.r[i].length < 9223372036854775808 := fun i h => by have := (htd.r _ (List.getElem_mem h)).2.1; omega
  rw [show IC.tl 4 i9 = .seq (IC.nth 4 i9) (.seq (IC.nth 5 i9) (.seq (IC.nth 6 i9) (IC.tl 7 i9))) from rfl]
  obtain ⟨t7, ht7⟩ : ∃ t, IC.tl 7 i9 = t := ⟨_, rfl⟩
  obtain ⟨b5, hb5⟩ : ∃ t, IC.nth 5 i9 = t := ⟨_, rfl⟩
  obtain ⟨b6, hb6⟩ : ∃ t, IC.nth 6 i9 = t := ⟨_, rfl⟩
  rw [ht7, hb5, hb6]
  refine WI.seq (draw_ok hm) ?_
  simp -implicitDefEqProofs [IC.nth, i9]
  have h13 := fun H => ok13k (H := H) hrl hte
  simp only [Tb.cells] at h13
  refine call_go (h13 _) ?_
  simp -implicitDefEqProofs
  have htl := Tb.byt_len htd
  have hb : Oct (sealB t.byt) := Oct.app (Tb.byt_oct htd) (tailB_oct _)
  have hrd := readT_seal hte
  have hsl := sealB_len' t.byt
  obtain ⟨b, hbe⟩ : ∃ b, sealB t.byt = b := ⟨_, rfl⟩
  rw [hbe] at hb hrd hsl ⊢
  have hbl : (byts b).length = b.length := by simp [byts]
  have htk : (byts b).take b.length = byts b := by rw [← hbl, List.take_length]
  refine WI.keep [2, 3, 4, 12, 17, 18] ?_
  simp only [rwB]
  simp -implicitDefEqProofs
  subst hb5 hb6
  refine WI.lend (draw_ok hm) [2, 3, 4, 17] A.length 3 (o := ⟨byts b, 5, 0, true⟩) rfl rfl (by simp) rfl ?_
  have e1 : ((A ++ [(⟨byts b, 5, 0, true⟩ : AO)]).set A.length (AO.dead ⟨byts b, 5, 0, true⟩)).map (AO.gv A.length 0 (byts b) 3) = A.map (AO.gv A.length 0 (byts b) 3) ++ [⟨[], 5, 1, false⟩] := by
    simp [AO.dead]
  rw [e1]
  obtain ⟨A1, hA1⟩ : ∃ A1, A.map (AO.gv A.length 0 (byts b) 3) = A1 := ⟨_, rfl⟩
  have hl1 : A1.length = A.length := by rw [← hA1]; simp
  rw [hA1, ← hl1]
  simp -implicitDefEqProofs [IC.nth, i9, htk, hbl]
  refine call_goP (okP32 hb (by omega)) ?_
  rintro o H' ⟨rfl, rfl⟩
  rw [hrd]
  simp -implicitDefEqProofs [tOf, fOf, Tb.cells]
  have h34 := fun H => ok34g (H := H) (t := t) (by have := htd.n; omega) (fun x hx => by have := (htd.r x hx).2.1; omega)
  simp only [Tb.cells] at h34
  refine callq_st (r := bl true) (fun _ => by simpa [SV.strip] using h34 _) ?_
  have hb0 : ¬ b.length = 0 := by omega
  have hb0' : ¬ (b.length : Int) = 0 := by omega
  simp -implicitDefEqProofs [htk, hbl, hb0, hb0']
  have e2 : lendH (A1 ++ [(⟨[], 5, 1, false⟩ : AO), ⟨[i64 t.b, .slc (rowsV t.r) t.r.length], 28, 0, true⟩, ⟨[i64 0, i64 0], 47, 0, true⟩]) A1.length ⟨byts b, 5, 0, true⟩ = A1.map AO.pl ++ [⟨byts b, 5, 0, true⟩, ⟨[i64 t.b, .slc [] t.r.length], 28, 0, true⟩, ⟨[i64 0, i64 0], 47, 0, true⟩] := by
    have hpl : (⟨[i64 0, i64 0], 47, 0, true⟩ : AO).pl = ⟨[i64 0, i64 0], 47, 0, true⟩ := rfl
    have hpl2 : (⟨[i64 t.b, .slc (rowsV t.r) t.r.length], 28, 0, true⟩ : AO).pl = ⟨[i64 t.b, .slc [] t.r.length], 28, 0, true⟩ := rfl
    simp only [lendH, List.map_append, List.map_cons, List.map_nil, hpl, hpl2]
    rw [List.set_append_right _ _ (by simp)]
    simp
  rw [e2]
  obtain ⟨A2, hA2⟩ : ∃ A2, A1.map AO.pl = A2 := ⟨_, rfl⟩
  have hl2 : A2.length = A1.length := by rw [← hA2]; simp
  rw [hA2, ← hl2]
  refine WI.keep [2, 3, 4, 17, 19, 20] ?_
  simp -implicitDefEqProofs [get_lendE, SV.nim]
  subst ht7
  exact tail9b hb hrd (by omega) hbl hob at' by'
theorem ok9 {l body : List Int} (hl : l.length < 4611686018427387904) (hob : Oct body) (bits at' by' : Int) : Ok Try.prog 9 [.slc (ints l) l.length, i64 bits, i64 at', i64 by', .slc (byts body) body.length] [] (.ret (bl true)) [] := by
  refine ok_WI hm Try.func9 c9 (by simp) fun hcl => ?_
  rw [show i9 = .seq (IC.nth 0 i9) (.seq (IC.nth 1 i9) (.seq (IC.nth 2 i9) (.seq (IC.nth 3 i9) (IC.tl 4 i9)))) from rfl]
  obtain ⟨t4, ht4⟩ : ∃ t, IC.tl 4 i9 = t := ⟨_, rfl⟩
  rw [ht4]
  refine WI.seq (draw_ok hm) ?_
  simp -implicitDefEqProofs [IC.nth, i9]
  refine WI.seq (draw_ok hm) ?_
  simp -implicitDefEqProofs [IC.nth, i9]
  refine WI.seq (draw_ok hm) ?_
  simp -implicitDefEqProofs [IC.nth, i9]
  refine call_go (ok30 bits 30 (by omega) (by omega)) ?_
  have w1 : IntKind.i64.wrap (1 + bits % 30) = 1 + bits % 30 := wrap_id (by omega) (by omega)
  simp -implicitDefEqProofs [w1]
  refine And.intro rfl ?_
  have hcn : closed ([] : List AO) := by intro i o h; simp at h
  refine WI.seq (draw_ok hm) ?_
  simp -implicitDefEqProofs
  refine call_goP (ok35 (G := [⟨[.slc (ints l) l.length, i64 0], 63, 0, true⟩, ⟨[i64 (1 + bits % 30), nl], 28, 0, true⟩]) (jd := 0) (at' := 0) rfl hl (by omega) (by omega)) ?_
  rintro o G' ⟨v, a, rfl, ha, hv0, hvn, rfl⟩
  have hvl := hvn (by omega)
  obtain ⟨n, rfl⟩ : ∃ n : Nat, v = n := ⟨v.toNat, by omega⟩
  simp -implicitDefEqProofs
  refine LI.tell (Tell.own0 (j := 1) (p := 1) (o := ⟨[i64 (1 + bits % 30), nl], 28, 0, true⟩) (by simp) rfl rfl 30 1) (LI.cong (H' := sM l a (1 + bits % 30) [] []) (by simp [sM, rowsV, dO]) (loop9_0 hl (bb := 1 + bits % 30) (by omega) (e2 := i64 at') (e3 := i64 by') (e4 := .slc (byts body) body.length) (e12 := .ptr (.own 1 0 0 0 0) 0) rfl ⟨_, rfl⟩ ⟨_, rfl⟩ ⟨_, rfl⟩ (fun rows a env M hrn hrg k2 k3 k4 k12 => ?_) n [] a _ [] (by simp; omega) (by simp) ha ?_ ?_ ?_ ?_ ?_ ?_))
  · have hte := made_err (bb := 1 + bits % 30) (by omega) (by omega) (by omega) hrg
    obtain ⟨t, ht⟩ : ∃ t : Tb, Tb.mk (1 + bits % 30) rows = t := ⟨_, rfl⟩
    rw [ht] at hte ⊢
    simp only [if_true]
    refine WI.keep [2, 3, 4, 12] (WI.frz 4 ?_)
    simp only [Env.keep, List.map_cons, List.map_nil, k2, k3, k4, k12]
    have hfz : ∀ L : List AO, (rowsV t.r).map (SV.fz 0 [] L 2) = rowsV t.r := fun L => by
      conv => rhs; rw [← List.map_id (rowsV t.r)]
      exact List.map_congr_left fun s hs => fz_under ((SV.underL_iff _ _).1 (rowsV_under 0 t.r) s hs)
    simp -implicitDefEqProofs [env_frz_cons, fz0_own, fz0_ptr, tO, Tb.cells, hfz]
    obtain ⟨A, hA⟩ : ∃ A, ({ cells := [], ty := (dO l a).ty, ver := (dO l a).ver + 1, live := false } : AO) :: { cells := [], ty := 28, ver := 1, live := false } :: List.map AO.dead M = A := ⟨_, rfl⟩
    rw [hA]
    clear hA
    subst ht4
    exact tail9 hte hob at' by'
  all_goals simp
end Go.Proofs.Ytoghpbjllompaaa.Rc

