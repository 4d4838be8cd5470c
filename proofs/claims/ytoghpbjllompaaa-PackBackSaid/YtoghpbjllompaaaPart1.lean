/-
  Steps of the proof: contracts of functions and plain facts that the statement rests on.
-/
import Derived.Test.YtoghpbjllompaaaIr32
import Derived.Test.YtoghpbjllompaaaCore5
set_option linter.all false
/- P1 -/
namespace Go.Proofs.Ytoghpbjllompaaa
open Go.Ab
theorem hm : Try.prog.follows .mixedOrders = true := Try.checked.mixed
set_option maxRecDepth 100000
theorem awk : closedR Try.prog rt rows 1000 40 40 10 = true := by kernel_rfl
theorem ok10 : Ok Try.prog 10 [] [] (.ret (bl true)) [] := closedR_ok hm rows_ok (fun _ _ _ => rfl) rt_ok rngs_ok awk
theorem awake_ok {H : List AO} : Ok Try.prog 10 [] H (.ret (bl true)) H := ok_lift ok10 rfl
end Go.Proofs.Ytoghpbjllompaaa
/- P2 -/
namespace Go.Proofs.Ytoghpbjllompaaa
open Go.Ab
theorem wrap_suc {i : Nat} (h : i < 9223372036854775807) : IntKind.i64.wrap ((i : Int) + 1) = ((i + 1 : Nat) : Int) := wrap_succ (by omega)
section
variable {H : List AO} {x y : SV} {l m : List Int}
theorem loop15 (hx : IsB H x l) (hy : IsB H y m) (hl : l.length < 4611686018427387904) (hlm : l.length = m.length) {N : Nat} {K : XE → Env → List AO → Prop}
    (hret : l ≠ m → ∀ env, env.get 4 = bl false → K .ret env H) (hexit : l = m → ∀ env, K (.exit 0) env H) :
    ∀ (n i : Nat) (env : Env), i + n = l.length → (∀ k (h : k < l.length), k < i → l[k] = m[k]'(by omega)) → env.get 0 = x → env.get 1 = y → env.get 5 = i64 i →
      LI Try.prog N drawB l15_0 env H K := by
  intro n
  induction n with
  | zero =>
    intro i env hi hp h0 h1 h5
    refine li_go hm l15_0.eq_1 ?_
    have e : i = l.length := by omega
    subst e
    simp -implicitDefEqProofs [h0, h1, h5, hx.vd, hx.ug, hx.sl, hx.len]
    exact hexit (List.ext_getElem hlm fun k h1 h2 => hp k h1 h1) _
  | succ n ih =>
    intro i env hi hp h0 h1 h5
    refine li_go hm l15_0.eq_1 ?_
    have hlt : i < l.length := by omega
    have hlt' : i < m.length := by omega
    simp -implicitDefEqProofs [h0, h1, h5, hlt, hlt', hx.vd, hx.ug, hx.sl, hx.len, hx.v hlt, hx.ok hlt, hy.vd, hy.ug, hy.sl, hy.len, hy.v hlt', hy.ok hlt']
    by_cases hc : l[i] = m[i]
    · rw [if_pos hc]
      refine ih (i + 1) _ (by omega) ?_ ?_ ?_ ?_
      rotate_left
      · simp [h0]
      · simp [h1]
      · simp [wrap_suc (show i < 9223372036854775807 by omega)]
      intro k hk hki
      by_cases e : k = i
      · subst e; exact hc
      · exact hp k hk (by omega)
    · rw [if_neg hc]
      exact hret (fun e => hc (by subst e; rfl)) _ (by simp)
theorem ok15 (hx : IsB H x l) (hy : IsB H y m) (hl : l.length < 4611686018427387904) : Ok Try.prog 15 [x, y] H (.ret (bl (decide (l = m)))) H := by
  refine ok_fn hm Try.func15 c15 (by simp) fun hcl => ?_
  by_cases hlm : l.length = m.length
  · simp -implicitDefEqProofs [i15, r15, hx.vd, hx.ug, hx.sl, hx.len, hy.vd, hy.ug, hy.sl, hy.len, hlm]
    refine loop15 hx hy hl hlm (fun hne env h4 => ?_) (fun he env => ?_) l.length 0 _ (by omega) (by omega) (by simp) (by simp) (by simp)
    · simp -implicitDefEqProofs [h4, hne]
      exact cv_id
    · simp -implicitDefEqProofs [he]
      exact cv_id
  · simp -implicitDefEqProofs [i15, r15, hx.vd, hx.ug, hx.sl, hx.len, hy.vd, hy.ug, hy.sl, hy.len, show ¬ ((l.length : Int) = m.length) by omega, hlm]
    have : l ≠ m := fun e => hlm (by rw [e])
    simp [this]
    exact cv_id
theorem ok15s (hx : IsB H x l) (hy : IsB H y l) (hl : l.length < 4611686018427387904) : Ok Try.prog 15 [x, y] H (.ret (bl true)) H := by simpa using ok15 hx hy hl
def sumF : Int → Int → List Int → Int × Int
  | a, b, [] => (a, b)
  | a, b, c :: l => sumF ((a + c) % 65521) ((b + (a + c) % 65521) % 65521) l
def sumV (l : List Int) : Int := (sumF 1 0 l).2 * 65536 + (sumF 1 0 l).1
theorem sumF_rng : ∀ {l : List Int} {a b : Int}, 0 ≤ a → a < 65521 → 0 ≤ b → b < 65521 → 0 ≤ (sumF a b l).1 ∧ (sumF a b l).1 < 65521 ∧ 0 ≤ (sumF a b l).2 ∧ (sumF a b l).2 < 65521
  | [], a, b, h1, h2, h3, h4 => ⟨h1, h2, h3, h4⟩
  | c :: l, a, b, h1, h2, h3, h4 => by
    simp only [sumF]
    exact sumF_rng (by omega) (by omega) (by omega) (by omega)
theorem loop20 (hx : IsB H x l) (ho : Oct l) (hl : l.length < 4611686018427387904) {N : Nat} {K : XE → Env → List AO → Prop} {p : Int × Int}
    (hexit : ∀ env, env.get 3 = i64 p.1 → env.get 4 = i64 p.2 → K (.exit 0) env H) :
    ∀ (n i : Nat) (a b : Int) (env : Env), i + n = l.length → 0 ≤ a → a < 65521 → 0 ≤ b → b < 65521 → sumF a b (l.drop i) = p → env.get 3 = i64 a → env.get 4 = i64 b → env.get 7 = x → env.get 8 = i64 l.length → env.get 9 = i64 i →
      LI Try.prog N drawB l20_0 env H K := by
  intro n
  induction n with
  | zero =>
    intro i a b env hi ha1 ha2 hb1 hb2 hp h3 h4 h7 h8 h9
    refine li_go hm l20_0.eq_1 ?_
    have e : i = l.length := by omega
    subst e
    rw [List.drop_length] at hp
    subst hp
    simp -implicitDefEqProofs [h3, h4, h7, h8, h9]
    exact hexit _ (by simp [h3, sumF]) (by simp [h4, sumF])
  | succ n ih =>
    intro i a b env hi ha1 ha2 hb1 hb2 hp h3 h4 h7 h8 h9
    refine li_go hm l20_0.eq_1 ?_
    have hlt : i < l.length := by omega
    have hc := ho _ (List.getElem_mem hlt)
    rw [List.drop_eq_getElem_cons hlt] at hp
    simp only [sumF] at hp
    have w0 : IntKind.i64.wrap l[i] = l[i] := wrap_id (by omega) (by omega)
    have w1 : IntKind.i64.wrap (a + l[i]) = a + l[i] := wrap_id (by omega) (by omega)
    have t1 : (a + l[i]).tmod 65521 = (a + l[i]) % 65521 := Int.tmod_eq_emod_of_nonneg (by omega)
    have w2 : IntKind.i64.wrap (b + (a + l[i]) % 65521) = b + (a + l[i]) % 65521 := wrap_id (by omega) (by omega)
    have t2 : (b + (a + l[i]) % 65521).tmod 65521 = (b + (a + l[i]) % 65521) % 65521 := Int.tmod_eq_emod_of_nonneg (by omega)
    simp -implicitDefEqProofs [h3, h4, h7, h8, h9, hlt, hx.vd, hx.ug, hx.sl, hx.len, hx.v hlt, hx.ok hlt, w0, w1, w2, t1, t2, wrap_suc (show i < 9223372036854775807 by omega)]
    repeat (refine ⟨by omega, ?_⟩)
    refine ih (i + 1) _ _ _ (by omega) (by omega) (by omega) (by omega) (by omega) hp ?_ ?_ ?_ ?_ ?_ <;> simp [h7, h8]
theorem ok20 (hx : IsB H x l) (ho : Oct l) (hl : l.length < 4611686018427387904) : Ok Try.prog 20 [x] H (.ret (i64 (sumV l))) H := by
  refine ok_fn hm Try.func20 c20 (by simp) fun hcl => ?_
  have hr := sumF_rng (l := l) (a := 1) (b := 0) (by omega) (by omega) (by omega) (by omega)
  simp -implicitDefEqProofs [i20, r20, hx.vd, hx.ug, hx.sl, hx.len]
  refine loop20 hx ho hl (p := sumF 1 0 l) (fun env k3 k4 => ?_) l.length 0 1 0 _ (by omega) (by omega) (by omega) (by omega) (by omega) (by simp) ?_ ?_ ?_ ?_ ?_
  · have w1 : IntKind.i64.wrap ((sumF 1 0 l).2 * 65536) = (sumF 1 0 l).2 * 65536 := wrap_id (by omega) (by omega)
    have w2 : IntKind.i64.wrap ((sumF 1 0 l).2 * 65536 + (sumF 1 0 l).1) = sumV l := wrap_id (by omega) (by omega)
    have e : (2 : Int) ^ min 16 IntKind.i64.bits = 65536 := by decide
    simp -implicitDefEqProofs [k3, k4, e, w1, w2]
    exact cv_id
  all_goals simp
theorem loop21 (hx : IsB H x l) (ho : Oct l) (hl : l.length < 4611686018427387904) {N : Nat} {K : XE → Env → List AO → Prop} {p : Int × Int}
    (hexit : ∀ env, env.get 3 = i64 p.1 → env.get 4 = i64 p.2 → K (.exit 0) env H) :
    ∀ (n i : Nat) (a b : Int) (env : Env), i + n = l.length → 0 ≤ a → a < 65521 → 0 ≤ b → b < 65521 → sumF a b (l.drop i) = p → env.get 3 = i64 a → env.get 4 = i64 b → env.get 0 = x → env.get 5 = i64 i →
      LI Try.prog N drawB l21_0 env H K := by
  intro n
  induction n with
  | zero =>
    intro i a b env hi ha1 ha2 hb1 hb2 hp h3 h4 h0 h5
    refine li_go hm l21_0.eq_1 ?_
    have e : i = l.length := by omega
    subst e
    rw [List.drop_length] at hp
    subst hp
    simp -implicitDefEqProofs [h3, h4, h0, h5, hx.vd, hx.ug, hx.sl, hx.len]
    exact hexit _ (by simp [h3, sumF]) (by simp [h4, sumF])
  | succ n ih =>
    intro i a b env hi ha1 ha2 hb1 hb2 hp h3 h4 h0 h5
    refine li_go hm l21_0.eq_1 ?_
    have hlt : i < l.length := by omega
    have hc := ho _ (List.getElem_mem hlt)
    rw [List.drop_eq_getElem_cons hlt] at hp
    simp only [sumF] at hp
    have w0 : IntKind.i64.wrap l[i] = l[i] := wrap_id (by omega) (by omega)
    have w1 : IntKind.i64.wrap (a + l[i]) = a + l[i] := wrap_id (by omega) (by omega)
    have t1 : (a + l[i]).tmod 65521 = (a + l[i]) % 65521 := Int.tmod_eq_emod_of_nonneg (by omega)
    have w2 : IntKind.i64.wrap (b + (a + l[i]) % 65521) = b + (a + l[i]) % 65521 := wrap_id (by omega) (by omega)
    have t2 : (b + (a + l[i]) % 65521).tmod 65521 = (b + (a + l[i]) % 65521) % 65521 := Int.tmod_eq_emod_of_nonneg (by omega)
    simp -implicitDefEqProofs [h3, h4, h0, h5, hlt, hx.vd, hx.ug, hx.sl, hx.len, hx.v hlt, hx.ok hlt, w0, w1, w2, t1, t2, wrap_suc (show i < 9223372036854775807 by omega)]
    repeat (refine ⟨by omega, ?_⟩)
    refine ih (i + 1) _ _ _ (by omega) (by omega) (by omega) (by omega) (by omega) hp ?_ ?_ ?_ ?_ <;> simp [h0]
theorem ok21 (hx : IsB H x l) (ho : Oct l) (hl : l.length < 4611686018427387904) : Ok Try.prog 21 [x] H (.ret (i64 (sumV l))) H := by
  refine ok_fn hm Try.func21 c21 (by simp) fun hcl => ?_
  have hr := sumF_rng (l := l) (a := 1) (b := 0) (by omega) (by omega) (by omega) (by omega)
  simp -implicitDefEqProofs [i21, r21, hx.vd, hx.ug, hx.sl, hx.len]
  refine loop21 hx ho hl (p := sumF 1 0 l) (fun env k3 k4 => ?_) l.length 0 1 0 _ (by omega) (by omega) (by omega) (by omega) (by omega) (by simp) ?_ ?_ ?_ ?_
  · have w1 : IntKind.i64.wrap (65536 * (sumF 1 0 l).2) = (sumF 1 0 l).2 * 65536 := by rw [wrap_id (by omega) (by omega)]; omega
    have w2 : IntKind.i64.wrap ((sumF 1 0 l).2 * 65536 + (sumF 1 0 l).1) = sumV l := wrap_id (by omega) (by omega)
    simp -implicitDefEqProofs [k3, k4, w1, w2]
    exact cv_id
  all_goals simp
end
end Go.Proofs.Ytoghpbjllompaaa
/- P3 -/
namespace Go.Proofs.Ytoghpbjllompaaa
open Go.Ab
/-- The bytes of a number, k of them going on at most. -/
def putF : Nat → Int → List Int
  | 0, n => [n]
  | k + 1, n => if 127 < n then (128 + n % 128) :: putF k (n / 128) else [n]
def putB (n : Int) : List Int := putF 9 n
def putR (n : Int) : List Int × Int := if n < 0 ∨ 4611686018427387904 ≤ n then ([], 2) else (putB n, 0)
def bl2 (p : List Int × Int) : SV := .tup [.slc (byts p.1) p.1.length, i64 p.2]
theorem putF_len : ∀ (k : Nat) (n : Int), 1 ≤ (putF k n).length ∧ (putF k n).length ≤ k + 1
  | 0, n => by simp [putF]
  | k + 1, n => by
    have := putF_len k (n / 128)
    unfold putF
    split <;> simp <;> omega
theorem putF_oct : ∀ (k : Nat) (n : Int), 0 ≤ n → n < 128 ^ (k + 1) → Oct (putF k n)
  | 0, n, h0, h => by
    simp only [putF, Oct, List.mem_singleton]
    rintro c rfl
    omega
  | k + 1, n, h0, h => by
    unfold putF
    split
    · intro c hc
      rcases List.mem_cons.1 hc with rfl | hc
      · omega
      · refine putF_oct k (n / 128) (by omega) ?_ c hc
        rw [Int.pow_succ] at h
        exact Int.ediv_lt_of_lt_mul (by omega) h
    · rintro c hc
      rw [List.mem_singleton] at hc
      omega
theorem putF_go {k : Nat} {n : Int} (h : 127 < n) : putF (k + 1) n = (128 + n % 128) :: putF k (n / 128) := by rw [putF, if_pos h]
theorem putF_end {k : Nat} {n : Int} (h : ¬ 127 < n) : putF k n = [n] := by
  cases k with
  | zero => rfl
  | succ k => rw [putF, if_neg h]
section
variable {H : List AO}
def rwB (T : TypeId) (v : Nat) (l : List Int) : AO := ⟨byts l, T, v, true⟩
theorem loop42 {N : Nat} {K : XE → Env → List AO → Prop} {r : List Int}
    (hexit : ∀ env L l m, 0 ≤ m → m ≤ 127 → l ++ [m] = r → l.length ≤ 9 → env.get 0 = i64 m → env.get 3 = .own H.length 0 l.length 1 l.length → K (.exit 0) env (H ++ rwB 5 l.length l :: L)) :
    ∀ (k : Nat) (n : Int) (l : List Int) (env : Env) (L : List AO), 0 ≤ n → n < 128 ^ (k + 1) → n < 9223372036854775808 → l.length + k ≤ 9 → l ++ putF k n = r → env.get 0 = i64 n → env.get 3 = .own H.length 0 l.length 1 l.length →
      LI Try.prog N drawB l42_0 env (H ++ rwB 5 l.length l :: L) K := by
  intro k
  induction k with
  | zero =>
    intro n l env L h0 h1 h2 hlk hr h3 h4
    refine li_go hm l42_0.eq_1 ?_
    have hn : ¬ 127 < n := by omega
    simp -implicitDefEqProofs [h3, h4, hn]
    exact hexit _ L l n h0 (by omega) hr (by omega) (by simp [h3]) (by simp [h4])
  | succ k ih =>
    intro n l env L h0 h1 h2 hlk hr h3 h4
    refine li_go hm l42_0.eq_1 ?_
    by_cases hn : 127 < n
    · rw [putF_go hn] at hr
      have t1 : n.tmod 128 = n % 128 := Int.tmod_eq_emod_of_nonneg h0
      have t2 : n.tdiv 128 = n / 128 := Int.tdiv_eq_ediv_of_nonneg h0
      have w1 : IntKind.i64.wrap (128 + n % 128) = 128 + n % 128 := wrap_id (by omega) (by omega)
      have w2 : IntKind.u8.wrap (128 + n % 128) = 128 + n % 128 := by simp [IntKind.wrap, IntKind.signed, IntKind.bits]; omega
      have w3 : IntKind.i64.wrap (n / 128) = n / 128 := wrap_id (by omega) (by omega)
      simp -implicitDefEqProofs [h3, h4, hn, t1, t2, w1, w2, w3, rwB]
      repeat (refine ⟨by omega, ?_⟩)
      rw [Int.pow_succ] at h1
      refine LI.cong (H' := H ++ rwB 5 (l ++ [128 + n % 128]).length (l ++ [128 + n % 128]) :: (L ++ [⟨[u8 (128 + n % 128)], 5, 0, true⟩])) (by simp [rwB, byts]) (ih (n / 128) _ _ _ (by omega) (Int.ediv_lt_of_lt_mul (by omega) h1) (by omega) (by simp; omega) (by simpa using hr) ?_ ?_)
      all_goals simp
    · rw [putF_end hn] at hr
      simp -implicitDefEqProofs [h3, h4, hn]
      exact hexit _ L l n h0 (by omega) hr (by omega) (by simp [h3]) (by simp [h4])
theorem ok42 {n : Int} (h0 : 0 ≤ n) (hn : n < 9223372036854775808) : Ok Try.prog 42 [i64 n] H (.ret (.slc (byts (putB n)) (putB n).length)) H := by
  refine ok_fn hm Try.func42 c42 (by simp) fun hcl => ?_
  simp -implicitDefEqProofs [i42, r42]
  refine LI.cong (H' := H ++ rwB 5 ([] : List Int).length [] :: []) (by simp [rwB, byts]) (loop42 (r := putB n) (fun env L l m g0 g1 hl hlen k0 k3 => ?_) 9 n [] _ [] h0 (by omega) hn (by simp) (by simp [putB]) ?_ ?_)
  · have w2 : IntKind.u8.wrap m = m := by simp [IntKind.wrap, IntKind.signed, IntKind.bits]; omega
    simp -implicitDefEqProofs [k0, k3, w2, rwB]
    repeat (refine ⟨by omega, ?_⟩)
    refine cv_fz 4 hcl rfl ?_
    rw [← hl]
    have e : byts (l ++ [m]) = byts l ++ [u8 m] := by simp [byts]
    simp [e, List.take_of_length_le]
  all_goals simp
theorem ok17 {n : Int} (hn : n < 9223372036854775808) : Ok Try.prog 17 [i64 n] H (.ret (bl2 (putR n))) H := by
  refine ok_fn hm Try.func17 c17 (by simp) fun hcl => ?_
  by_cases h : n < 0 ∨ 4611686018427387904 ≤ n
  · simp -implicitDefEqProofs [i17, r17, h, putR, bl2]
    exact Cv.le cv_id (le_tup (leL.cons le_nil (leL.cons (SV.le.refl _) leL.nil)))
  · simp -implicitDefEqProofs [i17, r17, h, putR, bl2]
    repeat (refine ⟨by omega, ?_⟩)
    refine call_go (ok42 (by omega) hn) ?_
    simp -implicitDefEqProofs
    exact cv_id
end
end Go.Proofs.Ytoghpbjllompaaa
/- P4 -/
namespace Go.Proofs.Ytoghpbjllompaaa
open Go.Ab
theorem and127 {n : Int} (h0 : 0 ≤ n) (hn : n < 9223372036854775808) : bitsI .and .i64 n 127 = n % 128 := by
  obtain ⟨m, rfl⟩ : ∃ m : Nat, n = m := ⟨n.toNat, by omega⟩
  have e1 : (BitVec.ofInt IntKind.i64.bits (m : Int)).toNat = m := by
    have : (BitVec.ofInt 64 (m : Int)).toNat = m := by
      rw [BitVec.toNat_ofInt]; omega
    exact this
  have e2 : (BitVec.ofInt IntKind.i64.bits (127 : Int)).toNat = 127 := by decide
  have e3 : m &&& 127 = m % 128 := Nat.and_two_pow_sub_one_eq_mod m 7
  show IntKind.i64.wrap (BitVec.ofInt IntKind.i64.bits (m : Int) &&& BitVec.ofInt IntKind.i64.bits 127).toNat = _
  rw [BitVec.toNat_and, e1, e2, e3]
  rw [wrap_id (by omega) (by omega)]
  omega
section
variable {H : List AO}
def boxO (n : Int) : AO := ⟨[i64 n], 3, 0, true⟩
theorem ok65 (n : Int) : Ok Try.prog 65 [i64 n] H (.ret (.fn (.func 81) [] [.ptr (.own H.length 0 0 0 0) 0])) (H ++ [boxO n]) := by
  refine ok_fn hm Try.func65 c65 (by simp) fun hcl => ?_
  simp -implicitDefEqProofs [i65, r65]
  exact cv_id
/-- A heap in which a number lies that may be replaced. -/
structure Grp (i nb : Nat) (J : List Int → Int → List AO → Prop) : Prop where
  at_ : ∀ l n H, J l n H → H[nb]? = some (boxO n)
  put : ∀ l n n' H, J l n H → J l n' (H.set nb (boxO n'))
  go : ∀ l n H b, J l n H → 0 ≤ b → b < 256 → l.length ≤ 9 → YlP Try.prog i [u8 b] H fun o H' => o = .ret (bl true) ∧ J (l ++ [b]) n H'
theorem shr7 {n : Int} (h0 : 0 ≤ n) : n.fdiv (2 ^ min 7 IntKind.i64.bits) = n / 128 := by
  have e : (2 : Int) ^ min 7 IntKind.i64.bits = 128 := by decide
  rw [e, Int.fdiv_eq_ediv_of_nonneg _ (by omega)]
theorem loop81 {i nb : Nat} {J : List Int → Int → List AO → Prop} (hg : Grp i nb J) {r : List Int} {N : Nat} {K : XE → Env → List AO → Prop}
    (hexit : ∀ env H l m, 0 ≤ m → m ≤ 127 → l ++ [m] = r → l.length ≤ 9 → J l m H → env.get 0 = .yl i → env.get 1 = .ptr (.own nb 0 0 0 0) 0 → K (.exit 0) env H) :
    ∀ (k : Nat) (n : Int) (l : List Int) (env : Env) (H : List AO), 0 ≤ n → n < 128 ^ (k + 1) → n < 9223372036854775808 → l.length + k ≤ 9 → l ++ putF k n = r → J l n H → env.get 0 = .yl i → env.get 1 = .ptr (.own nb 0 0 0 0) 0 →
      LI Try.prog N drawB l81_0 env H K := by
  intro k
  induction k with
  | zero =>
    intro n l env H h0 h1 h2 hlk hr hJ h3 h4
    refine li_go hm l81_0.eq_1 ?_
    have hn : ¬ 127 < n := by omega
    have ho := hg.at_ l n H hJ
    have e1 : objCells H nb 0 = [i64 n] := objCells_of (o := boxO n) ho rfl
    simp -implicitDefEqProofs [h3, h4, hn, e1]
    exact hexit _ H l n h0 (by omega) hr (by omega) hJ (by simp [h3]) (by simp [h4])
  | succ k ih =>
    intro n l env H h0 h1 h2 hlk hr hJ h3 h4
    refine li_go hm l81_0.eq_1 ?_
    have ho := hg.at_ l n H hJ
    have e1 : objCells H nb 0 = [i64 n] := objCells_of (o := boxO n) ho rfl
    by_cases hn : 127 < n
    · rw [putF_go hn] at hr
      have a1 := and127 h0 (by omega)
      have w1 : IntKind.i64.wrap (n % 128 + 128) = 128 + n % 128 := by rw [wrap_id (by omega) (by omega)]; omega
      have w2 : IntKind.u8.wrap (128 + n % 128) = 128 + n % 128 := by simp [IntKind.wrap, IntKind.signed, IntKind.bits]; omega
      simp -implicitDefEqProofs [h3, h4, hn, e1, a1, w1, w2]
      refine call_yl (hg.go l n H (128 + n % 128) hJ (by omega) (by omega) (by omega)) ?_
      rintro o H' ⟨rfl, hJ'⟩
      have ho' := hg.at_ _ n H' hJ'
      have e2 : objCells H' nb 0 = [i64 n] := objCells_of (o := boxO n) ho' rfl
      have e3 : ∀ f : AO → AO, Ab.setObj H' nb f = H'.set nb (f (boxO n)) := fun f => setObj_some ho' f
      have s1 := shr7 h0
      simp -implicitDefEqProofs [h3, h4, e2, e3, s1, boxO]
      rw [Int.pow_succ] at h1
      refine ih (n / 128) (l ++ [128 + n % 128]) _ _ (by omega) (Int.ediv_lt_of_lt_mul (by omega) h1) (by omega) (by simp; omega) (by simpa using hr) (hg.put _ n _ _ hJ') ?_ ?_
      all_goals simp [h3, h4]
    · rw [putF_end hn] at hr
      simp -implicitDefEqProofs [h3, h4, hn, e1]
      exact hexit _ H l n h0 (by omega) hr (by omega) hJ (by simp [h3]) (by simp [h4])
theorem ok81 {i nb : Nat} {J : List Int → Int → List AO → Prop} (hg : Grp i nb J) {n : Int} (h0 : 0 ≤ n) (hn : n < 9223372036854775808) (hJ : J [] n H) :
    OkP Try.prog 81 [.yl i, .ptr (.own nb 0 0 0 0) 0] H fun o H' => (∃ v, o = .ret v) ∧ ∃ m, J (putB n) m H' := by
  refine okP_fn hm Try.func81 c81 (by simp) fun hcl => ?_
  simp -implicitDefEqProofs [i81, r81]
  refine loop81 hg (r := putB n) (fun env H l m g0 g1 hr hl hJ k0 k1 => ?_) 9 n [] _ H h0 (by omega) hn (by simp) (by simp [putB]) hJ ?_ ?_
  · have e1 : objCells H nb 0 = [i64 m] := objCells_of (o := boxO m) (hg.at_ l m H hJ) rfl
    have w2 : IntKind.u8.wrap m = m := by simp [IntKind.wrap, IntKind.signed, IntKind.bits]; omega
    simp -implicitDefEqProofs [k0, k1, e1, w2]
    refine call_yl (hg.go l m H m hJ g0 (by omega) hl) ?_
    rintro o H' ⟨rfl, hJ'⟩
    simp -implicitDefEqProofs
    exact ⟨_, _, ⟨⟨_, rfl⟩, m, by rw [← hr]; exact hJ'⟩, cv_id⟩
  all_goals simp
def e38 (H : List AO) : Env := [(2, .ptr (.own H.length 0 0 0 0) 0), (7, .fn (.func 81) [] [.ptr (.own (H.length + 1) 0 0 0 0) 0])]
def lo38 (H : List AO) : AO := lpo Try.prog 14 drawB 0 [8] ya38_0 yb38_0 ((e38 H).vals 14) .ready
def sH38 (H : List AO) (j v : Nat) (l : List Int) (n : Int) (lo : AO) (L : List AO) : List AO :=
  H.set j (rwB 5 v l) ++ ⟨[.own j 0 l.length 1 v], 31, 0, true⟩ :: boxO n :: lo :: L
theorem round38 {j v : Nat} (hj : j < H.length) {l : List Int} (hl : l.length < 100000000000) (n b : Int) (L : List AO) :
    YlP Try.prog (H.length + 2) [u8 b] (sH38 H j v l n (lo38 H) L) fun o H' => o = .ret (bl true) ∧ ∃ L, H' = sH38 H j (v + 1) (l ++ [b]) n (lo38 H) L := by
  refine yl_go (N := 14) (env := e38 H) hm ya38_0.eq_1 yb38_0.eq_1 (by simp [sH38]; rfl) (by simp [e38]) (by decide) rfl fun hcl => ?_
  simp -implicitDefEqProofs [e38, sH38, rwB, get_hS hj, objCells_hS hj, setObj_hS hj, objIs_hS hj]
  refine ⟨_, rfl, by omega, _, by simp; rfl, .ready, true, _, ⟨rfl, rfl⟩, ⟨rfl, L ++ [⟨[u8 b], 5, 0, true⟩], rfl⟩, cv_idq ?_⟩
  simp [byts, lo38, e38]
theorem ok38 {j v : Nat} {l : List Int} (ho : H[j]? = some (rwB 5 v l)) (hl : l.length < 10000000000) {n : Int} (h0 : 0 ≤ n) (hn : n < 9223372036854775808) :
    Ok Try.prog 38 [.own j 0 l.length 1 v, i64 n] H (.ret (.own j 0 (l ++ putB n).length 1 (v + (putB n).length))) (H.set j (rwB 5 (v + (putB n).length) (l ++ putB n))) := by
  have hj := getElem?_lt ho
  have hpl := putF_len 9 n
  refine ok_fn hm Try.func38 c38 (by simp) fun hcl => ?_
  have h65 := ok65 (H := H ++ [⟨[.own j 0 l.length 1 v], 31, 0, true⟩]) n
  simp -implicitDefEqProofs [i38, r38]
  refine call_go (by simpa using h65) ?_
  simp -implicitDefEqProofs
  refine rg_go (Pt := fun o H' => (∃ v, o = .ret v) ∧ ∃ m L, H' = sH38 H j (v + (putB n).length) (l ++ putB n) m (lo38 H) L) ?_ ?_
  · refine OkP.cast (args' := [.yl (H.length + 2), .ptr (.own (H.length + 1) 0 0 0 0) 0]) (H' := sH38 H j (v + ([] : List Int).length) (l ++ []) n (lo38 H) []) (by simp) (by simp [sH38, lo38, e38, boxO, set_same ho]) ?_
    refine (ok81 (J := fun l' n' H' => ∃ L, H' = sH38 H j (v + l'.length) (l ++ l') n' (lo38 H) L) ⟨?_, ?_, ?_⟩ h0 hn ⟨[], rfl⟩).mono ?_
    · rintro l' n' H' ⟨L, rfl⟩
      simp [sH38]
    · rintro l' n1 n2 H' ⟨L, rfl⟩
      exact ⟨L, by simp [sH38]⟩
    · rintro l' n1 H' b ⟨L, rfl⟩ hb1 hb2 hl'
      have h := round38 hj (v := v + l'.length) (l := l ++ l') (by simp; omega) n1 b L
      refine YlP.mono h ?_
      rintro o H' ⟨rfl, L, rfl⟩
      exact ⟨rfl, L, by simp [Nat.add_assoc]⟩
    · rintro o H' ⟨hv, m, L, rfl⟩
      exact ⟨hv, m, L, rfl⟩
  · rintro out H' ⟨⟨w, rfl⟩, m, L, rfl⟩
    refine ⟨.ready, _, by simp [sH38]; rfl, ?_⟩
    simp -implicitDefEqProofs [sH38]
    exact cv_drop rfl (by simp) (closed_set hcl j (by simp [rwB])) (by simp [SV.under, hj])
theorem ok38n {n : Int} (h0 : 0 ≤ n) (hn : n < 9223372036854775808) : Ok Try.prog 38 [.val (.slice none 0 0), i64 n] H (.ret (.slc (byts (putB n)) (putB n).length)) H := by
  have h := ok38 (H := H ++ [⟨[], 5, 0, true⟩]) (j := H.length) (v := 0) (l := []) (by simp [rwB, byts]) (by simp) h0 hn
  refine Ok.closed h fun hcl => ?_
  have h2 : Ok Try.prog 38 [.val (.slice none 0 0), i64 n] H (.ret (.own H.length 0 (putB n).length 1 (putB n).length)) (H ++ [rwB 5 (putB n).length (putB n)]) :=
    Ok.nilArg 5 1 (Ok.cast (by simp) rfl (by simp) (by simp [set_app0]) h)
  refine h2.cv (cv_fz 4 hcl rfl ?_)
  simp [rwB]
theorem ok16 {n : Int} (hn : n < 9223372036854775808) : Ok Try.prog 16 [i64 n] H (.ret (bl2 (putR n))) H := by
  refine ok_fn hm Try.func16 c16 (by simp) fun hcl => ?_
  by_cases h : n < 0 ∨ 4611686018427387904 ≤ n
  · simp -implicitDefEqProofs [i16, r16, putR, bl2, h, show n < 0 ∨ 4611686018427387903 < n by omega]
    exact Cv.le cv_id (le_tup (leL.cons le_nil (leL.cons (SV.le.refl _) leL.nil)))
  · simp -implicitDefEqProofs [i16, r16, putR, bl2, h, show ¬ (n < 0 ∨ 4611686018427387903 < n) by omega]
    repeat (refine ⟨by omega, ?_⟩)
    refine call_go (ok38n (by omega) hn) ?_
    simp -implicitDefEqProofs
    exact cv_id
end
end Go.Proofs.Ytoghpbjllompaaa
/- P5 -/
namespace Go.Proofs.Ytoghpbjllompaaa
open Go.Ab
def getR : Nat → List Int → Int → Int → Int → Int × Int × Int
  | 0, _, _, _, _ => (0, 0, 3)
  | _ + 1, [], _, _, _ => (0, 0, 16)
  | k + 1, c :: r, p, n, i =>
    if 127 < c then getR k r (p * 128) (n + p * (c - 128)) (i + 1) else if (k = 0 ∧ 63 < c) ∨ (c = 0 ∧ k ≠ 8) then (0, 0, 3) else (n + p * c, i + 1, 0)
def getV (b : List Int) (at' : Int) : Int × Int × Int := if at' < 0 ∨ (b.length : Int) < at' then (0, 0, 2) else getR 9 (b.drop at'.toNat) 1 0 at'
def tup3 (p : Int × Int × Int) : SV := .tup [i64 p.1, i64 p.2.1, i64 p.2.2]
theorem p128 : ∀ i : Nat, i < 9 → (2 : Int) ^ min (7 * (i : Int)).toNat IntKind.i64.bits = 128 ^ i ∧ (1 : Int) ≤ 128 ^ i ∧ (128 : Int) ^ i ≤ 72057594037927936 ∧ (i < 8 → (128 : Int) ^ i ≤ 562949953421312) ∧ (i = 8 → (128 : Int) ^ i = 72057594037927936) := by decide
section
variable {H : List AO} {x : SV} {b : List Int}
theorem getR_step {k i : Nat} {n c : Int} (hk : i + (k + 1) = 9) (h0 : 0 ≤ n) (hn : n < 128 ^ i) (c0 : 0 ≤ c) (c1 : c < 256) :
    0 ≤ (128 : Int) ^ i * (c % 128) ∧ (128 : Int) ^ i * (c % 128) < 9223372036854775808 ∧ n + 128 ^ i * (c % 128) < 128 ^ (i + 1) ∧ n + 128 ^ i * (c % 128) < 9223372036854775808 ∧ (4611686018427387903 < n + 128 ^ i * (c % 128) ↔ (k = 0 ∧ 63 < c % 128)) := by
  obtain ⟨_, p1, p2, p3, p4⟩ := p128 i (by omega)
  have hc0 := Int.emod_nonneg c (by omega : (128 : Int) ≠ 0)
  have hc1 := Int.emod_lt_of_pos c (by omega : (0 : Int) < 128)
  generalize c % 128 = d at hc0 hc1
  rw [Int.pow_succ]
  by_cases h8 : i = 8
  · have p4 := p4 h8
    generalize (128 : Int) ^ i = p at *
    subst p4
    refine ⟨by omega, by omega, by omega, by omega, ?_⟩
    have : k = 0 := by omega
    omega
  · have p3 := p3 (by omega)
    generalize (128 : Int) ^ i = p at *
    have m1 : 0 ≤ p * d := Int.mul_nonneg (by omega) hc0
    have m2 : p * d ≤ p * 127 := Int.mul_le_mul_of_nonneg_left (by omega) (by omega)
    have : k ≠ 0 := by omega
    refine ⟨by omega, by omega, by omega, by omega, by omega⟩
theorem loop18 (hx : IsB H x b) (ho : Oct b) (hl : b.length < 4611686018427387904) {a : Nat} (ha : a ≤ b.length) {r : Int × Int × Int} {N : Nat} {K : XE → Env → List AO → Prop}
    (hret : ∀ env, env.get 4 = i64 r.1 → env.get 5 = i64 r.2.1 → env.get 6 = i64 r.2.2 → K .ret env H) (hexit : r = (0, 0, 3) → ∀ env, K (.exit 0) env H) :
    ∀ (k i : Nat) (n : Int) (env : Env), i + k = 9 → a + i ≤ b.length → 0 ≤ n → n < 128 ^ i → getR k (b.drop (a + i)) (128 ^ i) n ((a + i : Nat) : Int) = r → env.get 0 = x → env.get 1 = i64 a → env.get 4 = i64 n → env.get 17 = i64 i →
      LI Try.prog N drawB l18_0 env H K := by
  intro k
  induction k with
  | zero =>
    intro i n env hi hai h0 hn hr k0 k1 k4 k17
    refine li_go hm l18_0.eq_1 ?_
    have e : i = 9 := by omega
    subst e
    simp -implicitDefEqProofs [k0, k1, k4, k17]
    exact hexit (by rw [← hr]; rfl) _
  | succ k ih =>
    intro i n env hi hai h0 hn hr k0 k1 k4 k17
    refine li_go hm l18_0.eq_1 ?_
    have hi9 : i < 9 := by omega
    have hi9' : (i : Int) < 9 := by omega
    have w1 : IntKind.i64.wrap ((a : Int) + i) = ((a + i : Nat) : Int) := by rw [wrap_id (by omega) (by omega)]; omega
    by_cases he : a + i = b.length
    · rw [he, List.drop_length] at hr
      simp only [getR] at hr
      subst hr
      rw [he] at w1
      simp -implicitDefEqProofs [k0, k1, k4, k17, hi9', w1, hx.vd, hx.ug, hx.sl, hx.len]
      refine hret _ ?_ ?_ ?_ <;> simp
    · have hlt : a + i < b.length := by omega
      rw [List.drop_eq_getElem_cons hlt] at hr
      have hc := ho _ (List.getElem_mem hlt)
      obtain ⟨s1, s2, s3, s4, s5⟩ := getR_step hi h0 hn hc.1 hc.2
      have q := (p128 i hi9).1
      have a1 := and127 hc.1 (by omega)
      have hv := hx.v hlt
      have hok := hx.ok hlt
      have hstep := ih (i + 1) (n + 128 ^ i * (b[a + i] % 128))
      rw [← Nat.add_assoc] at hstep
      obtain ⟨t, ht⟩ : ∃ t : Nat, a + i = t := ⟨_, rfl⟩
      simp only [ht] at *
      generalize b[t] = c at *
      have w2 : IntKind.i64.wrap c = c := wrap_id (by omega) (by omega)
      have w3 : IntKind.i64.wrap (7 * (i : Int)) = 7 * (i : Int) := wrap_id (by omega) (by omega)
      have w4 : IntKind.i64.wrap (c % 128 * 128 ^ i) = 128 ^ i * (c % 128) := by rw [Int.mul_comm]; exact wrap_id (by omega) (by omega)
      have w5 : IntKind.i64.wrap (n + 128 ^ i * (c % 128)) = n + 128 ^ i * (c % 128) := wrap_id (by omega) (by omega)
      have w6 : IntKind.i64.wrap ((t : Int) + 1) = (t : Int) + 1 := wrap_id (by omega) (by omega)
      simp -implicitDefEqProofs [k0, k1, k4, k17, hi9', w1, hx.vd, hx.ug, hx.sl, hx.len, hv, hok, w2, w3, a1, q, w4, w5, w6, show ¬ (t : Int) = b.length by omega, hlt, wrap_suc (show i < 9223372036854775807 by omega)]
      refine ⟨by omega, by omega, ?_⟩
      simp only [getR] at hr
      by_cases hc127 : 127 < c
      · rw [if_pos hc127] at hr
        have e : c - 128 = c % 128 := by omega
        rw [e, ← Int.pow_succ] at hr
        simp -implicitDefEqProofs [hc127]
        refine hstep _ (by omega) (by omega) (by omega) s3 (by simpa using hr) ?_ ?_ ?_ ?_ <;> simp [k0, k1]
      · rw [if_neg hc127] at hr
        have e : c % 128 = c := by omega
        rw [e] at s5 ⊢
        have hi8 : (4611686018427387903 < n + 128 ^ i * c ∨ c = 0 ∧ 0 < i) ↔ ((k = 0 ∧ 63 < c) ∨ (c = 0 ∧ k ≠ 8)) := by
          rw [s5, show 0 < i ↔ k ≠ 8 by omega]
        rw [if_neg hc127]
        refine ⟨fun h => ⟨h, fun h2 => ⟨h, h2⟩⟩, ?_⟩
        by_cases hf : (k = 0 ∧ 63 < c) ∨ (c = 0 ∧ k ≠ 8)
        · rw [if_pos hf] at hr
          subst hr
          rw [if_pos (hi8.2 hf)]
          refine hret _ ?_ ?_ ?_ <;> simp
        · rw [if_neg hf] at hr
          subst hr
          rw [if_neg (fun h => hf (hi8.1 h))]
          refine hret _ ?_ ?_ ?_ <;> simp
theorem ok18 (hx : IsB H x b) (ho : Oct b) (hl : b.length < 4611686018427387904) (a : Int) : Ok Try.prog 18 [x, i64 a] H (.ret (tup3 (getV b a))) H := by
  refine ok_fn hm Try.func18 c18 (by simp) fun hcl => ?_
  by_cases h : a < 0 ∨ (b.length : Int) < a
  · simp -implicitDefEqProofs [i18, r18, hx.vd, hx.ug, hx.sl, hx.len, h, getV, tup3]
    exact cv_id
  · obtain ⟨m, rfl⟩ : ∃ m : Nat, a = m := ⟨a.toNat, by omega⟩
    simp -implicitDefEqProofs [i18, r18, hx.vd, hx.ug, hx.sl, hx.len, show ¬ b.length < m by omega]
    have hr : getV b m = getR 9 (b.drop m) 1 0 m := by unfold getV; rw [if_neg h]; rfl
    refine loop18 hx ho hl (a := m) (by omega) (r := getV b m) (fun env k4 k5 k6 => ?_) (fun hr3 env => ?_) 9 0 0 _ (by omega) (by omega) (by omega) (by simp) (by simpa using hr.symm) ?_ ?_ ?_ ?_
    · simp -implicitDefEqProofs [k4, k5, k6, tup3]
      exact cv_id
    · simp -implicitDefEqProofs [hr3, tup3]
      exact cv_id
    all_goals simp
theorem loop19 (hx : IsB H x b) (ho : Oct b) (hl : b.length < 4611686018427387904) {a : Nat} (ha : a ≤ b.length) {r : Int × Int × Int} {N : Nat} {K : XE → Env → List AO → Prop}
    (hret : ∀ env, env.get 4 = i64 r.1 → env.get 5 = i64 r.2.1 → env.get 6 = i64 r.2.2 → K .ret env H) (hexit : r = (0, 0, 3) → ∀ env, K (.exit 0) env H) :
    ∀ (k i : Nat) (n q : Int) (env : Env), i + k = 9 → a + i ≤ b.length → 0 ≤ n → n < 128 ^ i → (k ≠ 0 → q = 128 ^ i) → getR k (b.drop (a + i)) (128 ^ i) n ((a + i : Nat) : Int) = r → env.get 0 = x → env.get 1 = i64 a → env.get 4 = i64 n → env.get 7 = i64 q → env.get 8 = i64 ((a + i : Nat) : Int) →
      LI Try.prog N drawB l19_0 env H K := by
  intro k
  induction k with
  | zero =>
    intro i n q env hi hai h0 hn hq hr k0 k1 k4 k7 k8
    refine li_go hm l19_0.eq_1 ?_
    have e : i = 9 := by omega
    subst e
    have w1 : IntKind.i64.wrap ((a : Int) + 9) = (a : Int) + 9 := wrap_id (by omega) (by omega)
    simp -implicitDefEqProofs [k0, k1, k4, k7, k8, w1]
    exact hexit (by rw [← hr]; rfl) _
  | succ k ih =>
    intro i n q env hi hai h0 hn hq hr k0 k1 k4 k7 k8
    refine li_go hm l19_0.eq_1 ?_
    have hq := hq (by omega)
    subst hq
    have hi9 : i < 9 := by omega
    have w1 : IntKind.i64.wrap ((a : Int) + 9) = (a : Int) + 9 := wrap_id (by omega) (by omega)
    have w2 : IntKind.i64.wrap ((a : Int) + 8) = (a : Int) + 8 := wrap_id (by omega) (by omega)
    by_cases he : a + i = b.length
    · rw [he, List.drop_length] at hr
      simp only [getR] at hr
      subst hr
      rw [he] at k8
      simp -implicitDefEqProofs [k0, k1, k4, k7, k8, w1, hx.vd, hx.ug, hx.sl, hx.len, show (b.length : Int) < (a : Int) + 9 by omega]
      refine hret _ ?_ ?_ ?_ <;> simp
    · have hlt : a + i < b.length := by omega
      rw [List.drop_eq_getElem_cons hlt] at hr
      have hc := ho _ (List.getElem_mem hlt)
      obtain ⟨s1, s2, s3, s4, s5⟩ := getR_step hi h0 hn hc.1 hc.2
      have p1 := p128 i hi9
      have hv := hx.v hlt
      have hok := hx.ok hlt
      have hstep := ih (i + 1) (n + 128 ^ i * (b[a + i] % 128))
      rw [← Nat.add_assoc] at hstep
      obtain ⟨t, ht⟩ : ∃ t : Nat, a + i = t := ⟨_, rfl⟩
      simp only [ht] at *
      generalize b[t] = c at *
      have w3 : IntKind.i64.wrap c = c := wrap_id (by omega) (by omega)
      have w5 : IntKind.i64.wrap (128 ^ i * (c % 128)) = 128 ^ i * (c % 128) := wrap_id (by omega) (by omega)
      have w6 : IntKind.i64.wrap (n + 128 ^ i * (c % 128)) = n + 128 ^ i * (c % 128) := wrap_id (by omega) (by omega)
      have w7 : IntKind.i64.wrap ((t : Int) + 1) = (t : Int) + 1 := wrap_id (by omega) (by omega)
      simp only [getR] at hr
      by_cases hc127 : 127 < c
      · rw [if_pos hc127] at hr
        have e : c - 128 = c % 128 := by omega
        have w8 : IntKind.u8.wrap (c - 128) = c % 128 := by simp [IntKind.wrap, IntKind.signed, IntKind.bits]; omega
        have w9 : IntKind.i64.wrap (c % 128) = c % 128 := wrap_id (by omega) (by omega)
        rw [e, ← Int.pow_succ] at hr
        simp -implicitDefEqProofs [k0, k1, k4, k7, k8, w1, w2, w3, w5, w6, w7, w8, w9, hx.vd, hx.ug, hx.sl, hx.len, hv, hok, hlt, hc127, show ¬ (b.length : Int) ≤ t by omega, show (t : Int) < (a : Int) + 9 by omega]
        repeat (refine ⟨by omega, ?_⟩)
        by_cases h8 : i < 8
        · have w10 : IntKind.i64.wrap (128 ^ i * 128) = 128 ^ (i + 1) := by rw [Int.pow_succ]; exact wrap_id (by omega) (by omega)
          simp -implicitDefEqProofs [show (t : Int) < (a : Int) + 8 by omega, w10]
          refine hstep _ _ (by omega) (by omega) (by omega) s3 (fun _ => rfl) (by simpa using hr) ?_ ?_ ?_ ?_ ?_ <;> simp [k0, k1]
        · simp -implicitDefEqProofs [show ¬ (t : Int) < (a : Int) + 8 by omega]
          refine hstep (128 ^ i) _ (by omega) (by omega) (by omega) s3 (fun h => by omega) (by simpa using hr) ?_ ?_ ?_ ?_ ?_ <;> simp [k0, k1, k7]
      · rw [if_neg hc127] at hr
        have e : c % 128 = c := by omega
        rw [e] at s5 s1 s2 s4 w5 w6
        have hi8 : (c = 0 ∧ a < t ∨ (t : Int) = (a : Int) + 8 ∧ 63 < c) ↔ ((k = 0 ∧ 63 < c) ∨ (c = 0 ∧ k ≠ 8)) := by
          omega
        simp -implicitDefEqProofs [k0, k1, k4, k7, k8, w1, w2, w3, w5, w6, w7, hx.vd, hx.ug, hx.sl, hx.len, hv, hok, hlt, hc127, show ¬ (b.length : Int) ≤ t by omega, show (t : Int) < (a : Int) + 9 by omega]
        refine ⟨by omega, fun h1 h2 => ⟨⟨h1, h2⟩, by omega⟩, fun h1 => ⟨h1, fun h2 => ⟨h1, h2⟩⟩, fun h1 => by omega, ?_⟩
        by_cases hf : (k = 0 ∧ 63 < c) ∨ (c = 0 ∧ k ≠ 8)
        · rw [if_pos hf] at hr
          subst hr
          rw [if_pos (hi8.2 hf)]
          refine hret _ ?_ ?_ ?_ <;> simp
        · rw [if_neg hf] at hr
          subst hr
          rw [if_neg (fun h => hf (hi8.1 h))]
          refine ⟨by omega, hret _ ?_ ?_ ?_⟩ <;> simp
theorem ok19 (hx : IsB H x b) (ho : Oct b) (hl : b.length < 4611686018427387904) (a : Int) : Ok Try.prog 19 [x, i64 a] H (.ret (tup3 (getV b a))) H := by
  refine ok_fn hm Try.func19 c19 (by simp) fun hcl => ?_
  by_cases h : a < 0 ∨ (b.length : Int) < a
  · simp -implicitDefEqProofs [i19, r19, hx.vd, hx.ug, hx.sl, hx.len, h, getV, tup3]
    exact cv_id
  · obtain ⟨m, rfl⟩ : ∃ m : Nat, a = m := ⟨a.toNat, by omega⟩
    have hr : getV b m = getR 9 (b.drop m) 1 0 m := by unfold getV; rw [if_neg h]; rfl
    simp -implicitDefEqProofs [i19, r19, hx.vd, hx.ug, hx.sl, hx.len, show ¬ b.length < m by omega]
    refine loop19 hx ho hl (a := m) (by omega) (r := getV b m) (fun env k4 k5 k6 => ?_) (fun hr3 env => ?_) 9 0 0 1 _ (by omega) (by omega) (by omega) (by simp) (by simp) (by simpa using hr.symm) ?_ ?_ ?_ ?_ ?_
    · simp -implicitDefEqProofs [k4, k5, k6, tup3]
      exact cv_id
    · simp -implicitDefEqProofs [hr3, tup3]
      exact cv_id
    all_goals simp
end
end Go.Proofs.Ytoghpbjllompaaa
/- P6 -/
namespace Go.Proofs.Ytoghpbjllompaaa
open Go.Ab
theorem putR_len (n : Int) : (putR n).1.length ≤ 10 := by
  unfold putR
  split
  · simp
  · have := putF_len 9 n; simp [putB]; omega
theorem ok4 {n : Int} (hn : n ≤ 9223372036854775807) (b : List Int) (ho : Oct b) (a : Int) : Ok Try.prog 4 [i64 n, .slc (byts b) b.length, i64 a] [] (.ret (bl true)) [] := by
  refine ok_fn hm Try.func4 c4 (by simp) fun hcl => ?_
  by_cases hlong : 400 < (b.length : Int)
  · simp -implicitDefEqProofs [i4, r4, hlong]
    refine call_go awake_ok ?_
    simp -implicitDefEqProofs
    exact cv_id
  · have hl : b.length < 4611686018427387904 := by omega
    simp -implicitDefEqProofs [i4, r4, hlong]
    repeat (refine ⟨by omega, ?_⟩)
    have hx : IsB [⟨byts b, 5, 1, true⟩] (.own 0 0 b.length 1 1) b := IsL.whole (H := []) (L := [⟨byts b, 5, 1, true⟩]) (k := 0) (T := 5) rfl rfl
    generalize hG : ([⟨byts b, 5, 1, true⟩] : List AO) = G at hx ⊢
    have hpl := putR_len n
    have h16 := ok16 (H := G) (n := n) (by omega)
    have h17 := ok17 (H := G) (n := n) (by omega)
    have h18 := ok18 hx ho hl a
    have h19 := ok19 (IsB.slc G b) ho hl a
    generalize putR n = p at h16 h17 hpl
    generalize getV b a = g at h18 h19
    obtain ⟨p1, p2⟩ := p
    obtain ⟨g1, g2, g3⟩ := g
    simp only [bl2, tup3] at h16 h17 h18 h19 hpl
    refine call_go h16 ?_
    simp -implicitDefEqProofs
    refine call_go h17 ?_
    simp -implicitDefEqProofs
    refine call_go h18 ?_
    simp -implicitDefEqProofs
    refine call_go h19 ?_
    simp -implicitDefEqProofs
    refine call_go (ok15s (IsB.slc G p1) (IsB.slc G p1) (by omega)) ?_
    simp -implicitDefEqProofs
    refine callq_st (r := i64 (sumV b)) (fun _ => by simp only [List.map_cons, List.map_nil, SV.strip]; exact ok20 hx ho hl) ?_
    simp -implicitDefEqProofs
    refine callq_st (r := i64 (sumV b)) (fun _ => by simp only [List.map_cons, List.map_nil, SV.strip]; exact ok21 (IsB.slc G b) ho hl) ?_
    simp -implicitDefEqProofs
    refine callq_st (r := bl true) (fun _ => by simp only [List.map_cons, List.map_nil, SV.strip]; exact ok15s hx (IsB.slc G b) hl) ?_
    simp -implicitDefEqProofs
    refine callq_go (fun _ => awake_ok) ?_
    simp -implicitDefEqProofs
    exact cv_fz (H := []) (L := G) 2 hcl rfl (by simp)
end Go.Proofs.Ytoghpbjllompaaa
/- P7 -/
namespace Go.Proofs.Ytoghpbjllompaaa
open Go.Ab
theorem getR_put : ∀ (k : Nat) (n p m pos : Int) (r : List Int), 0 ≤ n → n < 64 * 128 ^ k → (k = 8 ∨ n ≠ 0) → k ≤ 8 → getR (k + 1) (putF (k + 1) n ++ r) p m pos = (m + p * n, pos + (putF (k + 1) n).length, 0)
  | 0, n, p, m, pos, r, h0, h, hz, hk => by
    rw [putF_end (by omega)]
    simp only [List.cons_append, getR]
    rw [if_neg (by omega), if_neg (by omega)]
    simp
  | k + 1, n, p, m, pos, r, h0, h, hz, hk => by
    by_cases hn : 127 < n
    · rw [putF_go hn]
      have ih := getR_put k (n / 128) (p * 128) (m + p * (n % 128)) (pos + 1) r (by omega) (by
        rw [Int.pow_succ, ← Int.mul_assoc] at h
        exact Int.ediv_lt_of_lt_mul (by omega) h) (by omega) (by omega)
      rw [List.cons_append, getR, if_pos (by omega), show 128 + n % 128 - 128 = n % 128 by omega, ih]
      have e : m + p * (n % 128) + p * 128 * (n / 128) = m + p * n := by
        have : n = n % 128 + 128 * (n / 128) := by omega
        conv => rhs; rw [this, Int.mul_add, ← Int.mul_assoc]
        omega
      rw [e]
      simp only [List.length_cons]
      congr 2
      omega
    · rw [putF_end hn]
      simp only [List.cons_append, getR]
      rw [if_neg (by omega), if_neg (by omega)]
      simp
theorem getR_back : ∀ (k : Nat) (b : List Int) (p m pos v nx : Int), Oct b → k ≤ 9 → getR k b p m pos = (v, nx, 0) →
    ∃ n s, 0 ≤ n ∧ n < 64 * 128 ^ (k - 1) ∧ (k ≤ 8 → n ≠ 0) ∧ v = m + p * n ∧ b = putF k n ++ s ∧ nx = pos + (putF k n).length
  | 0, b, p, m, pos, v, nx, ho, hk, h => by simp [getR] at h
  | k + 1, [], p, m, pos, v, nx, ho, hk, h => by simp [getR] at h
  | k + 1, c :: r, p, m, pos, v, nx, ho, hk, h => by
    have hc := ho c (by simp)
    simp only [getR] at h
    by_cases hc1 : 127 < c
    · rw [if_pos hc1] at h
      obtain ⟨n, s, h0, h1, h2, h3, h4, h5⟩ := getR_back k r (p * 128) (m + p * (c - 128)) (pos + 1) v nx (fun x hx => ho x (by simp [hx])) (by omega) h
      have hn := h2 (by omega)
      have hk0 : k ≠ 0 := by rintro rfl; simp [getR] at h
      refine ⟨c - 128 + 128 * n, s, by omega, ?_, fun _ => by omega, ?_, ?_, ?_⟩
      · obtain ⟨j, rfl⟩ : ∃ j, k = j + 1 := ⟨k - 1, by omega⟩
        simp only [Nat.add_sub_cancel] at h1 ⊢
        rw [Int.pow_succ]
        generalize (128 : Int) ^ j = q at h1 ⊢
        omega
      · rw [h3, Int.mul_add, ← Int.mul_assoc]; omega
      · rw [putF_go (by omega)]
        have e1 : 128 + (c - 128 + 128 * n) % 128 = c := by omega
        have e2 : (c - 128 + 128 * n) / 128 = n := by omega
        rw [e1, e2, List.cons_append, ← h4]
      · rw [putF_go (by omega)]
        have e2 : (c - 128 + 128 * n) / 128 = n := by omega
        rw [e2, h5]; simp only [List.length_cons]; omega
    · rw [if_neg hc1] at h
      split at h
      · simp at h
      · rename_i hg
        simp only [Prod.mk.injEq, and_true] at h
        have hz : k = 0 → c < 64 := by omega
        have hz2 : k ≠ 8 → c ≠ 0 := by omega
        refine ⟨c, r, by omega, ?_, fun _ => hz2 (by omega), h.1.symm, by rw [putF_end hc1]; rfl, by rw [putF_end hc1, ← h.2]; simp⟩
        simp only [Nat.add_sub_cancel]
        by_cases h0 : k = 0
        · subst h0; have := hz rfl; simp; omega
        · have : (1 : Int) * 128 ≤ 128 ^ k := by
            obtain ⟨j, rfl⟩ : ∃ j, k = j + 1 := ⟨k - 1, by omega⟩
            rw [Int.pow_succ]
            have : (1 : Int) ≤ 128 ^ j := by
              have : (0 : Int) < 128 ^ j := Int.pow_pos (by omega)
              omega
            omega
          omega
theorem getR_err : ∀ (k : Nat) (b : List Int) (p m pos : Int), (getR k b p m pos).2.2 ≠ 0 → (getR k b p m pos).1 = 0 ∧ (getR k b p m pos).2.1 = 0
  | 0, b, p, m, pos, h => by simp [getR]
  | k + 1, [], p, m, pos, h => by simp [getR]
  | k + 1, c :: r, p, m, pos, h => by
    simp only [getR] at h ⊢
    split
    · rename_i hc; rw [if_pos hc] at h; exact getR_err k r _ _ _ h
    · rename_i hc
      rw [if_neg hc] at h
      split
      · simp
      · rename_i hd; rw [if_neg hd] at h; simp at h
theorem getV_put {n : Int} (h0 : 0 ≤ n) (hn : n < 4611686018427387904) (a b : List Int) : getV (a ++ putB n ++ b) a.length = (n, ((a.length + (putB n).length : Nat) : Int), 0) := by
  unfold getV
  rw [if_neg (by simp; omega)]
  have e : (a ++ putB n ++ b).drop (a.length : Int).toNat = putB n ++ b := by simp
  rw [e]
  have h := getR_put 8 n 1 0 a.length b h0 (by have : (64 : Int) * 128 ^ 8 = 4611686018427387904 := by decide
                                               omega) (by omega) (by omega)
  show getR 9 (putF 9 n ++ b) 1 0 a.length = _
  rw [h]
  simp [putB]
theorem getV_back {b : List Int} (ho : Oct b) {v nx : Int} (h : getV b 0 = (v, nx, 0)) : 0 ≤ v ∧ v < 4611686018427387904 ∧ ∃ s, b = putB v ++ s ∧ nx = (putB v).length := by
  unfold getV at h
  rw [if_neg (by omega)] at h
  obtain ⟨n, s, h0, h1, h2, h3, h4, h5⟩ := getR_back 9 b 1 0 0 v nx ho (by omega) (by simpa using h)
  have e : (64 : Int) * 128 ^ (9 - 1) = 4611686018427387904 := by decide
  have hv : v = n := by omega
  subst hv
  exact ⟨h0, by omega, s, h4, by rw [h5]; simp [putB]⟩
theorem getV_err {b : List Int} (h : (getV b 0).2.2 ≠ 0) : (getV b 0).1 = 0 ∧ (getV b 0).2.1 = 0 := by
  unfold getV at h ⊢
  rw [if_neg (by omega)] at h ⊢
  exact getR_err _ _ _ _ _ h
theorem ok5 {n : Int} (hn : n ≤ 9223372036854775807) (a b : List Int) (hoa : Oct a) (hob : Oct b) : Ok Try.prog 5 [i64 n, .slc (byts a) a.length, .slc (byts b) b.length] [] (.ret (bl true)) [] := by
  refine ok_fn hm Try.func5 c5 (by simp) fun hcl => ?_
  by_cases hlong : 20 < (a.length : Int) ∨ 20 < (b.length : Int)
  · simp -implicitDefEqProofs [i5, r5, hlong]
    refine call_go awake_ok ?_
    simp -implicitDefEqProofs
    exact cv_id
  · obtain ⟨n1, hn1⟩ : ∃ n1, max 0 n % 4611686018427387904 = n1 := ⟨_, rfl⟩
    have g0 : 0 ≤ n1 := by omega
    have g1 : n1 < 4611686018427387904 := by omega
    have t1 : (max 0 n).tmod 4611686018427387904 = n1 := by rw [Int.tmod_eq_emod_of_nonneg (by omega), hn1]
    have hpr : putR n1 = (putB n1, 0) := by unfold putR; rw [if_neg (by omega)]
    have hpl := putF_len 9 n1
    have hpo := putF_oct 9 n1 g0 (by have : (128 : Int) ^ 10 = 1180591620717411303424 := by decide
                                     omega)
    have h16 := ok16 (H := []) (n := n1) (by omega)
    rw [hpr] at h16
    simp only [bl2] at h16
    have hgp := getV_put g0 g1 a b
    have hx : IsB [⟨byts (a ++ putB n1 ++ b), 5, 3, true⟩] (.own 0 0 (a ++ putB n1 ++ b).length 1 3) (a ++ putB n1 ++ b) := IsL.whole (H := []) (L := [⟨byts (a ++ putB n1 ++ b), 5, 3, true⟩]) (k := 0) (T := 5) rfl rfl
    have hoall : Oct (a ++ putB n1 ++ b) := by
      intro c hc
      rcases List.mem_append.1 hc with hc | hc
      · rcases List.mem_append.1 hc with hc | hc
        · exact hoa c hc
        · exact hpo c hc
      · exact hob c hc
    have h18 := ok18 hx hoall (by simp [putB]; omega) a.length
    rw [hgp] at h18
    have hlb : ∀ v nx, getV b 0 = (v, nx, 0) → _ := fun v nx => getV_back (b := b) hob (v := v) (nx := nx)
    have hle := getV_err (b := b)
    have h18b := fun G : List AO => ok18 (IsB.slc G b) hob (by omega) 0
    have h15 := fun (G : List AO) (r : List Int) (hr : r.length ≤ 100) => ok15s (IsB.slc G r) (IsB.slc G r) (by omega)
    have h16b := fun (G : List AO) (v : Int) (hv : v < 4611686018427387904) => ok16 (H := G) (n := v) (by omega)
    simp only [tup3] at h18 h18b
    have hpb : (putB n1).length = (putF 9 n1).length := rfl
    rw [← hpb] at hpl
    generalize hq : putB n1 = q at *
    have w1 : IntKind.i64.wrap ((a.length : Int) + (q.length : Int)) = (a.length : Int) + (q.length : Int) := wrap_id (by omega) (by omega)
    simp -implicitDefEqProofs [i5, r5, hlong, t1]
    refine call_go h16 ?_
    simp -implicitDefEqProofs
    repeat (refine ⟨by omega, ?_⟩)
    refine call_go (Ok.cast (by simp [Nat.add_assoc]) (by simp [byts]) rfl rfl h18) ?_
    simp -implicitDefEqProofs [w1, show ¬ q.length = 0 by omega]
    generalize hG : ([⟨byts (a ++ (q ++ b)), 5, 3, true⟩] : List AO) = G
    generalize getV b 0 = g at hlb hle h18b
    obtain ⟨v, nx, e⟩ := g
    simp only at hle h18b
    refine call_go (h18b G) ?_
    by_cases he : e = 0
    · subst he
      obtain ⟨v0, v1, s, hs, hnx⟩ := hlb v nx rfl
      have hpv : putR v = (putB v, 0) := by unfold putR; rw [if_neg (by omega)]
      have hvl := putF_len 9 v
      have hvb : (putB v).length = (putF 9 v).length := rfl
      rw [← hvb] at hvl
      have h16v := h16b G v v1
      rw [hpv] at h16v
      simp only [bl2] at h16v
      have hbl : b.length = (putB v).length + s.length := by rw [hs]; simp
      generalize putB v = u at *
      subst hnx
      simp -implicitDefEqProofs
      refine call_go h16v ?_
      have htk : (byts b).take u.length = byts u := by rw [hs]; simp [byts]
      simp -implicitDefEqProofs [hbl, htk, show (1 : Int) ≤ (u.length : Int) by omega, show (u.length : Int) ≤ (u.length : Int) + (s.length : Int) by omega]
      repeat (refine ⟨by omega, ?_⟩)
      refine callq_st (r := bl true) (fun _ => by simp only [List.map_cons, List.map_nil, SV.strip]; exact h15 G u (by omega)) ?_
      simp -implicitDefEqProofs
      refine callq_go (fun _ => awake_ok) ?_
      simp -implicitDefEqProofs
      subst hG
      exact cv_fz (H := []) 2 hcl rfl (by simp)
    · obtain ⟨rfl, rfl⟩ := hle he
      simp -implicitDefEqProofs [he]
      refine callq_go (fun _ => awake_ok) ?_
      simp -implicitDefEqProofs
      subst hG
      exact cv_fz (H := []) 2 hcl rfl (by simp)
end Go.Proofs.Ytoghpbjllompaaa
