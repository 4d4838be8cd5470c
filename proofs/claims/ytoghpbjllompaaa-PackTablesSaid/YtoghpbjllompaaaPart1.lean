/-
  Steps of the proof: contracts of functions and plain facts that the statement rests on.
-/
import Derived.Test.YtoghpbjllompaaaIr32
import Derived.Test.YtoghpbjllompaaaCore4
import Derived.Test.YtoghpbjllompaaaCore5
set_option linter.all false
/- P1 -/
namespace Go.Proofs.Ytoghpbjllompaaa
open Go.Ab
theorem hm : Try.prog.follows .mixedOrders = true := Try.checked.mixed
set_option maxRecDepth 100000
end Go.Proofs.Ytoghpbjllompaaa

/- P2 -/
namespace Go.Proofs.Ytoghpbjllompaaa
open Go.Ab
theorem wrap_suc {i : Nat} (h : i < 9223372036854775807) : IntKind.i64.wrap ((i : Int) + 1) = ((i + 1 : Nat) : Int) := wrap_succ (by omega)
section
variable {H : List AO} {x y : SV} {l m : List Int}
theorem loop15 (hx : IsB H x l) (hy : IsB H y m) (hl : l.length < 4611686018427387904) (hlm : l.length = m.length) {N : Nat} {K : XE → Env → List AO → Prop}
    (hret : l ≠ m → ∀ env, env.get 4 = bl false → K .ret env H) (hexit : l = m → ∀ env, K (.exit 0) env H) :
    ∀ (n i : Nat) (env : Env), i + n = l.length → (∀ k (h : k < l.length), k < i → l[k] = m[k]'(by omega)) → env.get 0 = x → env.get 1 = y → env.get 5 = i64 i →
      LI Try.prog N drawB l15_0 env H K := by
  intro n
  induction n with
  | zero =>
    intro i env hi hp h0 h1 h5
    refine li_go hm l15_0.eq_1 ?_
    have e : i = l.length := by omega
    subst e
    simp -implicitDefEqProofs [h0, h1, h5, hx.vd, hx.ug, hx.sl, hx.len]
    exact hexit (List.ext_getElem hlm fun k h1 h2 => hp k h1 h1) _
  | succ n ih =>
    intro i env hi hp h0 h1 h5
    refine li_go hm l15_0.eq_1 ?_
    have hlt : i < l.length := by omega
    have hlt' : i < m.length := by omega
    simp -implicitDefEqProofs [h0, h1, h5, hlt, hlt', hx.vd, hx.ug, hx.sl, hx.len, hx.v hlt, hx.ok hlt, hy.vd, hy.ug, hy.sl, hy.len, hy.v hlt', hy.ok hlt']
    by_cases hc : l[i] = m[i]
    · rw [if_pos hc]
      refine ih (i + 1) _ (by omega) ?_ ?_ ?_ ?_
      rotate_left
      · simp [h0]
      · simp [h1]
      · simp [wrap_suc (show i < 9223372036854775807 by omega)]
      intro k hk hki
      by_cases e : k = i
      · subst e; exact hc
      · exact hp k hk (by omega)
    · rw [if_neg hc]
      exact hret (fun e => hc (by subst e; rfl)) _ (by simp)
theorem ok15 (hx : IsB H x l) (hy : IsB H y m) (hl : l.length < 4611686018427387904) : Ok Try.prog 15 [x, y] H (.ret (bl (decide (l = m)))) H := by
  refine ok_fn hm Try.func15 c15 (by simp) fun hcl => ?_
  by_cases hlm : l.length = m.length
  · simp -implicitDefEqProofs [i15, r15, hx.vd, hx.ug, hx.sl, hx.len, hy.vd, hy.ug, hy.sl, hy.len, hlm]
    refine loop15 hx hy hl hlm (fun hne env h4 => ?_) (fun he env => ?_) l.length 0 _ (by omega) (by omega) (by simp) (by simp) (by simp)
    · simp -implicitDefEqProofs [h4, hne]
      exact cv_id
    · simp -implicitDefEqProofs [he]
      exact cv_id
  · simp -implicitDefEqProofs [i15, r15, hx.vd, hx.ug, hx.sl, hx.len, hy.vd, hy.ug, hy.sl, hy.len, show ¬ ((l.length : Int) = m.length) by omega, hlm]
    have : l ≠ m := fun e => hlm (by rw [e])
    simp [this]
    exact cv_id
theorem ok15s (hx : IsB H x l) (hy : IsB H y l) (hl : l.length < 4611686018427387904) : Ok Try.prog 15 [x, y] H (.ret (bl true)) H := by simpa using ok15 hx hy hl
def sumF : Int → Int → List Int → Int × Int
  | a, b, [] => (a, b)
  | a, b, c :: l => sumF ((a + c) % 65521) ((b + (a + c) % 65521) % 65521) l
def sumV (l : List Int) : Int := (sumF 1 0 l).2 * 65536 + (sumF 1 0 l).1
theorem sumF_rng : ∀ {l : List Int} {a b : Int}, 0 ≤ a → a < 65521 → 0 ≤ b → b < 65521 → 0 ≤ (sumF a b l).1 ∧ (sumF a b l).1 < 65521 ∧ 0 ≤ (sumF a b l).2 ∧ (sumF a b l).2 < 65521
  | [], a, b, h1, h2, h3, h4 => ⟨h1, h2, h3, h4⟩
  | c :: l, a, b, h1, h2, h3, h4 => by
    simp only [sumF]
    exact sumF_rng (by omega) (by omega) (by omega) (by omega)
theorem loop20 (hx : IsB H x l) (ho : Oct l) (hl : l.length < 4611686018427387904) {N : Nat} {K : XE → Env → List AO → Prop} {p : Int × Int}
    (hexit : ∀ env, env.get 3 = i64 p.1 → env.get 4 = i64 p.2 → K (.exit 0) env H) :
    ∀ (n i : Nat) (a b : Int) (env : Env), i + n = l.length → 0 ≤ a → a < 65521 → 0 ≤ b → b < 65521 → sumF a b (l.drop i) = p → env.get 3 = i64 a → env.get 4 = i64 b → env.get 7 = x → env.get 8 = i64 l.length → env.get 9 = i64 i →
      LI Try.prog N drawB l20_0 env H K := by
  intro n
  induction n with
  | zero =>
    intro i a b env hi ha1 ha2 hb1 hb2 hp h3 h4 h7 h8 h9
    refine li_go hm l20_0.eq_1 ?_
    have e : i = l.length := by omega
    subst e
    rw [List.drop_length] at hp
    subst hp
    simp -implicitDefEqProofs [h3, h4, h7, h8, h9]
    exact hexit _ (by simp [h3, sumF]) (by simp [h4, sumF])
  | succ n ih =>
    intro i a b env hi ha1 ha2 hb1 hb2 hp h3 h4 h7 h8 h9
    refine li_go hm l20_0.eq_1 ?_
    have hlt : i < l.length := by omega
    have hc := ho _ (List.getElem_mem hlt)
    rw [List.drop_eq_getElem_cons hlt] at hp
    simp only [sumF] at hp
    have w0 : IntKind.i64.wrap l[i] = l[i] := wrap_id (by omega) (by omega)
    have w1 : IntKind.i64.wrap (a + l[i]) = a + l[i] := wrap_id (by omega) (by omega)
    have t1 : (a + l[i]).tmod 65521 = (a + l[i]) % 65521 := Int.tmod_eq_emod_of_nonneg (by omega)
    have w2 : IntKind.i64.wrap (b + (a + l[i]) % 65521) = b + (a + l[i]) % 65521 := wrap_id (by omega) (by omega)
    have t2 : (b + (a + l[i]) % 65521).tmod 65521 = (b + (a + l[i]) % 65521) % 65521 := Int.tmod_eq_emod_of_nonneg (by omega)
    simp -implicitDefEqProofs [h3, h4, h7, h8, h9, hlt, hx.vd, hx.ug, hx.sl, hx.len, hx.v hlt, hx.ok hlt, w0, w1, w2, t1, t2, wrap_suc (show i < 9223372036854775807 by omega)]
    repeat (refine ⟨by omega, ?_⟩)
    refine ih (i + 1) _ _ _ (by omega) (by omega) (by omega) (by omega) (by omega) hp ?_ ?_ ?_ ?_ ?_ <;> simp [h7, h8]
theorem ok20 (hx : IsB H x l) (ho : Oct l) (hl : l.length < 4611686018427387904) : Ok Try.prog 20 [x] H (.ret (i64 (sumV l))) H := by
  refine ok_fn hm Try.func20 c20 (by simp) fun hcl => ?_
  have hr := sumF_rng (l := l) (a := 1) (b := 0) (by omega) (by omega) (by omega) (by omega)
  simp -implicitDefEqProofs [i20, r20, hx.vd, hx.ug, hx.sl, hx.len]
  refine loop20 hx ho hl (p := sumF 1 0 l) (fun env k3 k4 => ?_) l.length 0 1 0 _ (by omega) (by omega) (by omega) (by omega) (by omega) (by simp) ?_ ?_ ?_ ?_ ?_
  · have w1 : IntKind.i64.wrap ((sumF 1 0 l).2 * 65536) = (sumF 1 0 l).2 * 65536 := wrap_id (by omega) (by omega)
    have w2 : IntKind.i64.wrap ((sumF 1 0 l).2 * 65536 + (sumF 1 0 l).1) = sumV l := wrap_id (by omega) (by omega)
    have e : (2 : Int) ^ min 16 IntKind.i64.bits = 65536 := by decide
    simp -implicitDefEqProofs [k3, k4, e, w1, w2]
    exact cv_id
  all_goals simp
end
end Go.Proofs.Ytoghpbjllompaaa

/- P3 -/
namespace Go.Proofs.Ytoghpbjllompaaa
open Go.Ab
/-- The bytes of a number, k of them going on at most. -/
def putF : Nat → Int → List Int
  | 0, n => [n]
  | k + 1, n => if 127 < n then (128 + n % 128) :: putF k (n / 128) else [n]
def putB (n : Int) : List Int := putF 9 n
def putR (n : Int) : List Int × Int := if n < 0 ∨ 4611686018427387904 ≤ n then ([], 2) else (putB n, 0)
def bl2 (p : List Int × Int) : SV := .tup [.slc (byts p.1) p.1.length, i64 p.2]
theorem putF_len : ∀ (k : Nat) (n : Int), 1 ≤ (putF k n).length ∧ (putF k n).length ≤ k + 1
  | 0, n => by simp [putF]
  | k + 1, n => by
    have := putF_len k (n / 128)
    unfold putF
    split <;> simp <;> omega
theorem putF_oct : ∀ (k : Nat) (n : Int), 0 ≤ n → n < 128 ^ (k + 1) → Oct (putF k n)
  | 0, n, h0, h => by
    simp only [putF, Oct, List.mem_singleton]
    rintro c rfl
    omega
  | k + 1, n, h0, h => by
    unfold putF
    split
    · intro c hc
      rcases List.mem_cons.1 hc with rfl | hc
      · omega
      · refine putF_oct k (n / 128) (by omega) ?_ c hc
        rw [Int.pow_succ] at h
        exact Int.ediv_lt_of_lt_mul (by omega) h
    · rintro c hc
      rw [List.mem_singleton] at hc
      omega
theorem putF_go {k : Nat} {n : Int} (h : 127 < n) : putF (k + 1) n = (128 + n % 128) :: putF k (n / 128) := by rw [putF, if_pos h]
theorem putF_end {k : Nat} {n : Int} (h : ¬ 127 < n) : putF k n = [n] := by
  cases k with
  | zero => rfl
  | succ k => rw [putF, if_neg h]
section
variable {H : List AO}
def rwB (T : TypeId) (v : Nat) (l : List Int) : AO := ⟨byts l, T, v, true⟩
end
end Go.Proofs.Ytoghpbjllompaaa

/- P4 -/
namespace Go.Proofs.Ytoghpbjllompaaa
open Go.Ab
theorem and127 {n : Int} (h0 : 0 ≤ n) (hn : n < 9223372036854775808) : bitsI .and .i64 n 127 = n % 128 := by
  obtain ⟨m, rfl⟩ : ∃ m : Nat, n = m := ⟨n.toNat, by omega⟩
  have e1 : (BitVec.ofInt IntKind.i64.bits (m : Int)).toNat = m := by
    have : (BitVec.ofInt 64 (m : Int)).toNat = m := by
      rw [BitVec.toNat_ofInt]; omega
    exact this
  have e2 : (BitVec.ofInt IntKind.i64.bits (127 : Int)).toNat = 127 := by decide
  have e3 : m &&& 127 = m % 128 := Nat.and_two_pow_sub_one_eq_mod m 7
  show IntKind.i64.wrap (BitVec.ofInt IntKind.i64.bits (m : Int) &&& BitVec.ofInt IntKind.i64.bits 127).toNat = _
  rw [BitVec.toNat_and, e1, e2, e3]
  rw [wrap_id (by omega) (by omega)]
  omega
section
variable {H : List AO}
def boxO (n : Int) : AO := ⟨[i64 n], 3, 0, true⟩
theorem ok65 (n : Int) : Ok Try.prog 65 [i64 n] H (.ret (.fn (.func 81) [] [.ptr (.own H.length 0 0 0 0) 0])) (H ++ [boxO n]) := by
  refine ok_fn hm Try.func65 c65 (by simp) fun hcl => ?_
  simp -implicitDefEqProofs [i65, r65]
  exact cv_id
/-- A heap in which a number lies that may be replaced. -/
structure Grp (i nb : Nat) (J : List Int → Int → List AO → Prop) : Prop where
  at_ : ∀ l n H, J l n H → H[nb]? = some (boxO n)
  put : ∀ l n n' H, J l n H → J l n' (H.set nb (boxO n'))
  go : ∀ l n H b, J l n H → 0 ≤ b → b < 256 → l.length ≤ 9 → YlP Try.prog i [u8 b] H fun o H' => o = .ret (bl true) ∧ J (l ++ [b]) n H'
theorem shr7 {n : Int} (h0 : 0 ≤ n) : n.fdiv (2 ^ min 7 IntKind.i64.bits) = n / 128 := by
  have e : (2 : Int) ^ min 7 IntKind.i64.bits = 128 := by decide
  rw [e, Int.fdiv_eq_ediv_of_nonneg _ (by omega)]
theorem loop81 {i nb : Nat} {J : List Int → Int → List AO → Prop} (hg : Grp i nb J) {r : List Int} {N : Nat} {K : XE → Env → List AO → Prop}
    (hexit : ∀ env H l m, 0 ≤ m → m ≤ 127 → l ++ [m] = r → l.length ≤ 9 → J l m H → env.get 0 = .yl i → env.get 1 = .ptr (.own nb 0 0 0 0) 0 → K (.exit 0) env H) :
    ∀ (k : Nat) (n : Int) (l : List Int) (env : Env) (H : List AO), 0 ≤ n → n < 128 ^ (k + 1) → n < 9223372036854775808 → l.length + k ≤ 9 → l ++ putF k n = r → J l n H → env.get 0 = .yl i → env.get 1 = .ptr (.own nb 0 0 0 0) 0 →
      LI Try.prog N drawB l81_0 env H K := by
  intro k
  induction k with
  | zero =>
    intro n l env H h0 h1 h2 hlk hr hJ h3 h4
    refine li_go hm l81_0.eq_1 ?_
    have hn : ¬ 127 < n := by omega
    have ho := hg.at_ l n H hJ
    have e1 : objCells H nb 0 = [i64 n] := objCells_of (o := boxO n) ho rfl
    simp -implicitDefEqProofs [h3, h4, hn, e1]
    exact hexit _ H l n h0 (by omega) hr (by omega) hJ (by simp [h3]) (by simp [h4])
  | succ k ih =>
    intro n l env H h0 h1 h2 hlk hr hJ h3 h4
    refine li_go hm l81_0.eq_1 ?_
    have ho := hg.at_ l n H hJ
    have e1 : objCells H nb 0 = [i64 n] := objCells_of (o := boxO n) ho rfl
    by_cases hn : 127 < n
    · rw [putF_go hn] at hr
      have a1 := and127 h0 (by omega)
      have w1 : IntKind.i64.wrap (n % 128 + 128) = 128 + n % 128 := by rw [wrap_id (by omega) (by omega)]; omega
      have w2 : IntKind.u8.wrap (128 + n % 128) = 128 + n % 128 := by simp [IntKind.wrap, IntKind.signed, IntKind.bits]; omega
      simp -implicitDefEqProofs [h3, h4, hn, e1, a1, w1, w2]
      refine call_yl (hg.go l n H (128 + n % 128) hJ (by omega) (by omega) (by omega)) ?_
      rintro o H' ⟨rfl, hJ'⟩
      have ho' := hg.at_ _ n H' hJ'
      have e2 : objCells H' nb 0 = [i64 n] := objCells_of (o := boxO n) ho' rfl
      have e3 : ∀ f : AO → AO, Ab.setObj H' nb f = H'.set nb (f (boxO n)) := fun f => setObj_some ho' f
      have s1 := shr7 h0
      simp -implicitDefEqProofs [h3, h4, e2, e3, s1, boxO]
      rw [Int.pow_succ] at h1
      refine ih (n / 128) (l ++ [128 + n % 128]) _ _ (by omega) (Int.ediv_lt_of_lt_mul (by omega) h1) (by omega) (by simp; omega) (by simpa using hr) (hg.put _ n _ _ hJ') ?_ ?_
      all_goals simp [h3, h4]
    · rw [putF_end hn] at hr
      simp -implicitDefEqProofs [h3, h4, hn, e1]
      exact hexit _ H l n h0 (by omega) hr (by omega) hJ (by simp [h3]) (by simp [h4])
theorem ok81 {i nb : Nat} {J : List Int → Int → List AO → Prop} (hg : Grp i nb J) {n : Int} (h0 : 0 ≤ n) (hn : n < 9223372036854775808) (hJ : J [] n H) :
    OkP Try.prog 81 [.yl i, .ptr (.own nb 0 0 0 0) 0] H fun o H' => (∃ v, o = .ret v) ∧ ∃ m, J (putB n) m H' := by
  refine okP_fn hm Try.func81 c81 (by simp) fun hcl => ?_
  simp -implicitDefEqProofs [i81, r81]
  refine loop81 hg (r := putB n) (fun env H l m g0 g1 hr hl hJ k0 k1 => ?_) 9 n [] _ H h0 (by omega) hn (by simp) (by simp [putB]) hJ ?_ ?_
  · have e1 : objCells H nb 0 = [i64 m] := objCells_of (o := boxO m) (hg.at_ l m H hJ) rfl
    have w2 : IntKind.u8.wrap m = m := by simp [IntKind.wrap, IntKind.signed, IntKind.bits]; omega
    simp -implicitDefEqProofs [k0, k1, e1, w2]
    refine call_yl (hg.go l m H m hJ g0 (by omega) hl) ?_
    rintro o H' ⟨rfl, hJ'⟩
    simp -implicitDefEqProofs
    exact ⟨_, _, ⟨⟨_, rfl⟩, m, by rw [← hr]; exact hJ'⟩, cv_id⟩
  all_goals simp
def e38 (H : List AO) : Env := [(2, .ptr (.own H.length 0 0 0 0) 0), (7, .fn (.func 81) [] [.ptr (.own (H.length + 1) 0 0 0 0) 0])]
def lo38 (H : List AO) : AO := lpo Try.prog 14 drawB 0 [8] ya38_0 yb38_0 ((e38 H).vals 14) .ready
def sH38 (H : List AO) (j v : Nat) (l : List Int) (n : Int) (lo : AO) (L : List AO) : List AO :=
  H.set j (rwB 5 v l) ++ ⟨[.own j 0 l.length 1 v], 31, 0, true⟩ :: boxO n :: lo :: L
theorem round38 {j v : Nat} (hj : j < H.length) {l : List Int} (hl : l.length < 100000000000) (n b : Int) (L : List AO) :
    YlP Try.prog (H.length + 2) [u8 b] (sH38 H j v l n (lo38 H) L) fun o H' => o = .ret (bl true) ∧ ∃ L, H' = sH38 H j (v + 1) (l ++ [b]) n (lo38 H) L := by
  refine yl_go (N := 14) (env := e38 H) hm ya38_0.eq_1 yb38_0.eq_1 (by simp [sH38]; rfl) (by simp [e38]) (by decide) rfl fun hcl => ?_
  simp -implicitDefEqProofs [e38, sH38, rwB, get_hS hj, objCells_hS hj, setObj_hS hj, objIs_hS hj]
  refine ⟨_, rfl, by omega, _, by simp; rfl, .ready, true, _, ⟨rfl, rfl⟩, ⟨rfl, L ++ [⟨[u8 b], 5, 0, true⟩], rfl⟩, cv_idq ?_⟩
  simp [byts, lo38, e38]
theorem ok38 {j v : Nat} {l : List Int} (ho : H[j]? = some (rwB 5 v l)) (hl : l.length < 10000000000) {n : Int} (h0 : 0 ≤ n) (hn : n < 9223372036854775808) :
    Ok Try.prog 38 [.own j 0 l.length 1 v, i64 n] H (.ret (.own j 0 (l ++ putB n).length 1 (v + (putB n).length))) (H.set j (rwB 5 (v + (putB n).length) (l ++ putB n))) := by
  have hj := getElem?_lt ho
  have hpl := putF_len 9 n
  refine ok_fn hm Try.func38 c38 (by simp) fun hcl => ?_
  have h65 := ok65 (H := H ++ [⟨[.own j 0 l.length 1 v], 31, 0, true⟩]) n
  simp -implicitDefEqProofs [i38, r38]
  refine call_go (by simpa using h65) ?_
  simp -implicitDefEqProofs
  refine rg_go (Pt := fun o H' => (∃ v, o = .ret v) ∧ ∃ m L, H' = sH38 H j (v + (putB n).length) (l ++ putB n) m (lo38 H) L) ?_ ?_
  · refine OkP.cast (args' := [.yl (H.length + 2), .ptr (.own (H.length + 1) 0 0 0 0) 0]) (H' := sH38 H j (v + ([] : List Int).length) (l ++ []) n (lo38 H) []) (by simp) (by simp [sH38, lo38, e38, boxO, set_same ho]) ?_
    refine (ok81 (J := fun l' n' H' => ∃ L, H' = sH38 H j (v + l'.length) (l ++ l') n' (lo38 H) L) ⟨?_, ?_, ?_⟩ h0 hn ⟨[], rfl⟩).mono ?_
    · rintro l' n' H' ⟨L, rfl⟩
      simp [sH38]
    · rintro l' n1 n2 H' ⟨L, rfl⟩
      exact ⟨L, by simp [sH38]⟩
    · rintro l' n1 H' b ⟨L, rfl⟩ hb1 hb2 hl'
      have h := round38 hj (v := v + l'.length) (l := l ++ l') (by simp; omega) n1 b L
      refine YlP.mono h ?_
      rintro o H' ⟨rfl, L, rfl⟩
      exact ⟨rfl, L, by simp [Nat.add_assoc]⟩
    · rintro o H' ⟨hv, m, L, rfl⟩
      exact ⟨hv, m, L, rfl⟩
  · rintro out H' ⟨⟨w, rfl⟩, m, L, rfl⟩
    refine ⟨.ready, _, by simp [sH38]; rfl, ?_⟩
    simp -implicitDefEqProofs [sH38]
    exact cv_drop rfl (by simp) (closed_set hcl j (by simp [rwB])) (by simp [SV.under, hj])
theorem ok38n {n : Int} (h0 : 0 ≤ n) (hn : n < 9223372036854775808) : Ok Try.prog 38 [.val (.slice none 0 0), i64 n] H (.ret (.slc (byts (putB n)) (putB n).length)) H := by
  have h := ok38 (H := H ++ [⟨[], 5, 0, true⟩]) (j := H.length) (v := 0) (l := []) (by simp [rwB, byts]) (by simp) h0 hn
  refine Ok.closed h fun hcl => ?_
  have h2 : Ok Try.prog 38 [.val (.slice none 0 0), i64 n] H (.ret (.own H.length 0 (putB n).length 1 (putB n).length)) (H ++ [rwB 5 (putB n).length (putB n)]) :=
    Ok.nilArg 5 1 (Ok.cast (by simp) rfl (by simp) (by simp [set_app0]) h)
  refine h2.cv (cv_fz 4 hcl rfl ?_)
  simp [rwB]
theorem ok16 {n : Int} (hn : n < 9223372036854775808) : Ok Try.prog 16 [i64 n] H (.ret (bl2 (putR n))) H := by
  refine ok_fn hm Try.func16 c16 (by simp) fun hcl => ?_
  by_cases h : n < 0 ∨ 4611686018427387904 ≤ n
  · simp -implicitDefEqProofs [i16, r16, putR, bl2, h, show n < 0 ∨ 4611686018427387903 < n by omega]
    exact Cv.le cv_id (le_tup (leL.cons le_nil (leL.cons (SV.le.refl _) leL.nil)))
  · simp -implicitDefEqProofs [i16, r16, putR, bl2, h, show ¬ (n < 0 ∨ 4611686018427387903 < n) by omega]
    repeat (refine ⟨by omega, ?_⟩)
    refine call_go (ok38n (by omega) hn) ?_
    simp -implicitDefEqProofs
    exact cv_id
end
end Go.Proofs.Ytoghpbjllompaaa

/- P5 -/
namespace Go.Proofs.Ytoghpbjllompaaa
open Go.Ab
def getR : Nat → List Int → Int → Int → Int → Int × Int × Int
  | 0, _, _, _, _ => (0, 0, 3)
  | _ + 1, [], _, _, _ => (0, 0, 16)
  | k + 1, c :: r, p, n, i =>
    if 127 < c then getR k r (p * 128) (n + p * (c - 128)) (i + 1) else if (k = 0 ∧ 63 < c) ∨ (c = 0 ∧ k ≠ 8) then (0, 0, 3) else (n + p * c, i + 1, 0)
def getV (b : List Int) (at' : Int) : Int × Int × Int := if at' < 0 ∨ (b.length : Int) < at' then (0, 0, 2) else getR 9 (b.drop at'.toNat) 1 0 at'
def tup3 (p : Int × Int × Int) : SV := .tup [i64 p.1, i64 p.2.1, i64 p.2.2]
theorem p128 : ∀ i : Nat, i < 9 → (2 : Int) ^ min (7 * (i : Int)).toNat IntKind.i64.bits = 128 ^ i ∧ (1 : Int) ≤ 128 ^ i ∧ (128 : Int) ^ i ≤ 72057594037927936 ∧ (i < 8 → (128 : Int) ^ i ≤ 562949953421312) ∧ (i = 8 → (128 : Int) ^ i = 72057594037927936) := by decide
section
variable {H : List AO} {x : SV} {b : List Int}
theorem getR_step {k i : Nat} {n c : Int} (hk : i + (k + 1) = 9) (h0 : 0 ≤ n) (hn : n < 128 ^ i) (c0 : 0 ≤ c) (c1 : c < 256) :
    0 ≤ (128 : Int) ^ i * (c % 128) ∧ (128 : Int) ^ i * (c % 128) < 9223372036854775808 ∧ n + 128 ^ i * (c % 128) < 128 ^ (i + 1) ∧ n + 128 ^ i * (c % 128) < 9223372036854775808 ∧ (4611686018427387903 < n + 128 ^ i * (c % 128) ↔ (k = 0 ∧ 63 < c % 128)) := by
  obtain ⟨_, p1, p2, p3, p4⟩ := p128 i (by omega)
  have hc0 := Int.emod_nonneg c (by omega : (128 : Int) ≠ 0)
  have hc1 := Int.emod_lt_of_pos c (by omega : (0 : Int) < 128)
  generalize c % 128 = d at hc0 hc1
  rw [Int.pow_succ]
  by_cases h8 : i = 8
  · have p4 := p4 h8
    generalize (128 : Int) ^ i = p at *
    subst p4
    refine ⟨by omega, by omega, by omega, by omega, ?_⟩
    have : k = 0 := by omega
    omega
  · have p3 := p3 (by omega)
    generalize (128 : Int) ^ i = p at *
    have m1 : 0 ≤ p * d := Int.mul_nonneg (by omega) hc0
    have m2 : p * d ≤ p * 127 := Int.mul_le_mul_of_nonneg_left (by omega) (by omega)
    have : k ≠ 0 := by omega
    refine ⟨by omega, by omega, by omega, by omega, by omega⟩
theorem loop18 (hx : IsB H x b) (ho : Oct b) (hl : b.length < 4611686018427387904) {a : Nat} (ha : a ≤ b.length) {r : Int × Int × Int} {N : Nat} {K : XE → Env → List AO → Prop}
    (hret : ∀ env, env.get 4 = i64 r.1 → env.get 5 = i64 r.2.1 → env.get 6 = i64 r.2.2 → K .ret env H) (hexit : r = (0, 0, 3) → ∀ env, K (.exit 0) env H) :
    ∀ (k i : Nat) (n : Int) (env : Env), i + k = 9 → a + i ≤ b.length → 0 ≤ n → n < 128 ^ i → getR k (b.drop (a + i)) (128 ^ i) n ((a + i : Nat) : Int) = r → env.get 0 = x → env.get 1 = i64 a → env.get 4 = i64 n → env.get 17 = i64 i →
      LI Try.prog N drawB l18_0 env H K := by
  intro k
  induction k with
  | zero =>
    intro i n env hi hai h0 hn hr k0 k1 k4 k17
    refine li_go hm l18_0.eq_1 ?_
    have e : i = 9 := by omega
    subst e
    simp -implicitDefEqProofs [k0, k1, k4, k17]
    exact hexit (by rw [← hr]; rfl) _
  | succ k ih =>
    intro i n env hi hai h0 hn hr k0 k1 k4 k17
    refine li_go hm l18_0.eq_1 ?_
    have hi9 : i < 9 := by omega
    have hi9' : (i : Int) < 9 := by omega
    have w1 : IntKind.i64.wrap ((a : Int) + i) = ((a + i : Nat) : Int) := by rw [wrap_id (by omega) (by omega)]; omega
    by_cases he : a + i = b.length
    · rw [he, List.drop_length] at hr
      simp only [getR] at hr
      subst hr
      rw [he] at w1
      simp -implicitDefEqProofs [k0, k1, k4, k17, hi9', w1, hx.vd, hx.ug, hx.sl, hx.len]
      refine hret _ ?_ ?_ ?_ <;> simp
    · have hlt : a + i < b.length := by omega
      rw [List.drop_eq_getElem_cons hlt] at hr
      have hc := ho _ (List.getElem_mem hlt)
      obtain ⟨s1, s2, s3, s4, s5⟩ := getR_step hi h0 hn hc.1 hc.2
      have q := (p128 i hi9).1
      have a1 := and127 hc.1 (by omega)
      have hv := hx.v hlt
      have hok := hx.ok hlt
      have hstep := ih (i + 1) (n + 128 ^ i * (b[a + i] % 128))
      rw [← Nat.add_assoc] at hstep
      obtain ⟨t, ht⟩ : ∃ t : Nat, a + i = t := ⟨_, rfl⟩
      simp only [ht] at *
      generalize b[t] = c at *
      have w2 : IntKind.i64.wrap c = c := wrap_id (by omega) (by omega)
      have w3 : IntKind.i64.wrap (7 * (i : Int)) = 7 * (i : Int) := wrap_id (by omega) (by omega)
      have w4 : IntKind.i64.wrap (c % 128 * 128 ^ i) = 128 ^ i * (c % 128) := by rw [Int.mul_comm]; exact wrap_id (by omega) (by omega)
      have w5 : IntKind.i64.wrap (n + 128 ^ i * (c % 128)) = n + 128 ^ i * (c % 128) := wrap_id (by omega) (by omega)
      have w6 : IntKind.i64.wrap ((t : Int) + 1) = (t : Int) + 1 := wrap_id (by omega) (by omega)
      simp -implicitDefEqProofs [k0, k1, k4, k17, hi9', w1, hx.vd, hx.ug, hx.sl, hx.len, hv, hok, w2, w3, a1, q, w4, w5, w6, show ¬ (t : Int) = b.length by omega, hlt, wrap_suc (show i < 9223372036854775807 by omega)]
      refine ⟨by omega, by omega, ?_⟩
      simp only [getR] at hr
      by_cases hc127 : 127 < c
      · rw [if_pos hc127] at hr
        have e : c - 128 = c % 128 := by omega
        rw [e, ← Int.pow_succ] at hr
        simp -implicitDefEqProofs [hc127]
        refine hstep _ (by omega) (by omega) (by omega) s3 (by simpa using hr) ?_ ?_ ?_ ?_ <;> simp [k0, k1]
      · rw [if_neg hc127] at hr
        have e : c % 128 = c := by omega
        rw [e] at s5 ⊢
        have hi8 : (4611686018427387903 < n + 128 ^ i * c ∨ c = 0 ∧ 0 < i) ↔ ((k = 0 ∧ 63 < c) ∨ (c = 0 ∧ k ≠ 8)) := by
          rw [s5, show 0 < i ↔ k ≠ 8 by omega]
        rw [if_neg hc127]
        refine ⟨fun h => ⟨h, fun h2 => ⟨h, h2⟩⟩, ?_⟩
        by_cases hf : (k = 0 ∧ 63 < c) ∨ (c = 0 ∧ k ≠ 8)
        · rw [if_pos hf] at hr
          subst hr
          rw [if_pos (hi8.2 hf)]
          refine hret _ ?_ ?_ ?_ <;> simp
        · rw [if_neg hf] at hr
          subst hr
          rw [if_neg (fun h => hf (hi8.1 h))]
          refine hret _ ?_ ?_ ?_ <;> simp
theorem ok18 (hx : IsB H x b) (ho : Oct b) (hl : b.length < 4611686018427387904) (a : Int) : Ok Try.prog 18 [x, i64 a] H (.ret (tup3 (getV b a))) H := by
  refine ok_fn hm Try.func18 c18 (by simp) fun hcl => ?_
  by_cases h : a < 0 ∨ (b.length : Int) < a
  · simp -implicitDefEqProofs [i18, r18, hx.vd, hx.ug, hx.sl, hx.len, h, getV, tup3]
    exact cv_id
  · obtain ⟨m, rfl⟩ : ∃ m : Nat, a = m := ⟨a.toNat, by omega⟩
    simp -implicitDefEqProofs [i18, r18, hx.vd, hx.ug, hx.sl, hx.len, show ¬ b.length < m by omega]
    have hr : getV b m = getR 9 (b.drop m) 1 0 m := by unfold getV; rw [if_neg h]; rfl
    refine loop18 hx ho hl (a := m) (by omega) (r := getV b m) (fun env k4 k5 k6 => ?_) (fun hr3 env => ?_) 9 0 0 _ (by omega) (by omega) (by omega) (by simp) (by simpa using hr.symm) ?_ ?_ ?_ ?_
    · simp -implicitDefEqProofs [k4, k5, k6, tup3]
      exact cv_id
    · simp -implicitDefEqProofs [hr3, tup3]
      exact cv_id
    all_goals simp
end
end Go.Proofs.Ytoghpbjllompaaa

/- P6 -/
namespace Go.Proofs.Ytoghpbjllompaaa
open Go.Ab
end Go.Proofs.Ytoghpbjllompaaa

/- P7 -/
namespace Go.Proofs.Ytoghpbjllompaaa
open Go.Ab
theorem getR_put : ∀ (k : Nat) (n p m pos : Int) (r : List Int), 0 ≤ n → n < 64 * 128 ^ k → (k = 8 ∨ n ≠ 0) → k ≤ 8 → getR (k + 1) (putF (k + 1) n ++ r) p m pos = (m + p * n, pos + (putF (k + 1) n).length, 0)
  | 0, n, p, m, pos, r, h0, h, hz, hk => by
    rw [putF_end (by omega)]
    simp only [List.cons_append, getR]
    rw [if_neg (by omega), if_neg (by omega)]
    simp
  | k + 1, n, p, m, pos, r, h0, h, hz, hk => by
    by_cases hn : 127 < n
    · rw [putF_go hn]
      have ih := getR_put k (n / 128) (p * 128) (m + p * (n % 128)) (pos + 1) r (by omega) (by
        rw [Int.pow_succ, ← Int.mul_assoc] at h
        exact Int.ediv_lt_of_lt_mul (by omega) h) (by omega) (by omega)
      rw [List.cons_append, getR, if_pos (by omega), show 128 + n % 128 - 128 = n % 128 by omega, ih]
      have e : m + p * (n % 128) + p * 128 * (n / 128) = m + p * n := by
        have : n = n % 128 + 128 * (n / 128) := by omega
        conv => rhs; rw [this, Int.mul_add, ← Int.mul_assoc]
        omega
      rw [e]
      simp only [List.length_cons]
      congr 2
      omega
    · rw [putF_end hn]
      simp only [List.cons_append, getR]
      rw [if_neg (by omega), if_neg (by omega)]
      simp
theorem getR_back : ∀ (k : Nat) (b : List Int) (p m pos v nx : Int), Oct b → k ≤ 9 → getR k b p m pos = (v, nx, 0) →
    ∃ n s, 0 ≤ n ∧ n < 64 * 128 ^ (k - 1) ∧ (k ≤ 8 → n ≠ 0) ∧ v = m + p * n ∧ b = putF k n ++ s ∧ nx = pos + (putF k n).length
  | 0, b, p, m, pos, v, nx, ho, hk, h => by simp [getR] at h
  | k + 1, [], p, m, pos, v, nx, ho, hk, h => by simp [getR] at h
  | k + 1, c :: r, p, m, pos, v, nx, ho, hk, h => by
    have hc := ho c (by simp)
    simp only [getR] at h
    by_cases hc1 : 127 < c
    · rw [if_pos hc1] at h
      obtain ⟨n, s, h0, h1, h2, h3, h4, h5⟩ := getR_back k r (p * 128) (m + p * (c - 128)) (pos + 1) v nx (fun x hx => ho x (by simp [hx])) (by omega) h
      have hn := h2 (by omega)
      have hk0 : k ≠ 0 := by rintro rfl; simp [getR] at h
      refine ⟨c - 128 + 128 * n, s, by omega, ?_, fun _ => by omega, ?_, ?_, ?_⟩
      · obtain ⟨j, rfl⟩ : ∃ j, k = j + 1 := ⟨k - 1, by omega⟩
        simp only [Nat.add_sub_cancel] at h1 ⊢
        rw [Int.pow_succ]
        generalize (128 : Int) ^ j = q at h1 ⊢
        omega
      · rw [h3, Int.mul_add, ← Int.mul_assoc]; omega
      · rw [putF_go (by omega)]
        have e1 : 128 + (c - 128 + 128 * n) % 128 = c := by omega
        have e2 : (c - 128 + 128 * n) / 128 = n := by omega
        rw [e1, e2, List.cons_append, ← h4]
      · rw [putF_go (by omega)]
        have e2 : (c - 128 + 128 * n) / 128 = n := by omega
        rw [e2, h5]; simp only [List.length_cons]; omega
    · rw [if_neg hc1] at h
      split at h
      · simp at h
      · rename_i hg
        simp only [Prod.mk.injEq, and_true] at h
        have hz : k = 0 → c < 64 := by omega
        have hz2 : k ≠ 8 → c ≠ 0 := by omega
        refine ⟨c, r, by omega, ?_, fun _ => hz2 (by omega), h.1.symm, by rw [putF_end hc1]; rfl, by rw [putF_end hc1, ← h.2]; simp⟩
        simp only [Nat.add_sub_cancel]
        by_cases h0 : k = 0
        · subst h0; have := hz rfl; simp; omega
        · have : (1 : Int) * 128 ≤ 128 ^ k := by
            obtain ⟨j, rfl⟩ : ∃ j, k = j + 1 := ⟨k - 1, by omega⟩
            rw [Int.pow_succ]
            have : (1 : Int) ≤ 128 ^ j := by
              have : (0 : Int) < 128 ^ j := Int.pow_pos (by omega)
              omega
            omega
          omega
theorem getV_put {n : Int} (h0 : 0 ≤ n) (hn : n < 4611686018427387904) (a b : List Int) : getV (a ++ putB n ++ b) a.length = (n, ((a.length + (putB n).length : Nat) : Int), 0) := by
  unfold getV
  rw [if_neg (by simp; omega)]
  have e : (a ++ putB n ++ b).drop (a.length : Int).toNat = putB n ++ b := by simp
  rw [e]
  have h := getR_put 8 n 1 0 a.length b h0 (by have : (64 : Int) * 128 ^ 8 = 4611686018427387904 := by decide
                                               omega) (by omega) (by omega)
  show getR 9 (putF 9 n ++ b) 1 0 a.length = _
  rw [h]
  simp [putB]
end Go.Proofs.Ytoghpbjllompaaa

/- Q1 -/
namespace Go.Proofs.Ytoghpbjllompaaa.Rc
open Go.Ab
theorem hm : Try.prog.follows .mixedOrders = true := Try.checked.mixed
section
variable {x : SV} {H : List AO} {l : List Int}
/-- A closure's variable, an integer. -/
def bx (H : List AO) (a : Nat) (n : Int) : Prop := objCells H a 0 = [i64 n] ∧ a < H.length
def outR (lo hi n : Int) : Bool := decide (n < lo) || decide (hi < n)
theorem ok93 {a b : Nat} {lo hi : Int} (ha : bx H a lo) (hb : bx H b hi) (n : Int) :
    Ok Try.prog 93 [i64 n, .ptr (.own a 0 0 0 0) 0, .ptr (.own b 0 0 0 0) 0] H (.ret (bl (outR lo hi n))) H := by
  refine ok_fn hm Try.func93 c93 (by simp [ha.2, hb.2]) fun hcl => ?_
  by_cases h1 : n < lo
  · simp -implicitDefEqProofs [i93, r93, ha.1, hb.1, h1, outR]
    exact cv_id
  · simp -implicitDefEqProofs [i93, r93, ha.1, hb.1, h1, outR]
    exact cv_id
/-- The first place of l that is out of range, or -1. -/
def fstOut (lo hi : Int) (l : List Int) : Int := match l.findIdx? (outR lo hi) with | some i => i | none => -1
theorem fstOut_ge {lo hi : Int} {l : List Int} : (0 ≤ fstOut lo hi l) = (l.any (outR lo hi) = true) := by
  unfold fstOut
  cases h : l.findIdx? (outR lo hi) with
  | some i =>
    simp only [Int.natCast_nonneg]
    refine (eq_true ?_).symm
    obtain ⟨hi, h1, h2⟩ := List.findIdx?_eq_some_iff_getElem.1 h
    exact List.any_eq_true.2 ⟨_, List.getElem_mem hi, h1⟩
  | none =>
    rw [List.findIdx?_eq_none_iff] at h
    have : l.any (outR lo hi) = false := by
      rw [List.any_eq_false]; intro x hx; simpa using h x hx
    simp [this]
theorem loop81 (hx : IsI H x l) (hl : l.length < 4611686018427387904) {a b : Nat} {lo up : Int} (ha : bx H a lo) (hb : bx H b up) {N : Nat} {K : XE → Env → List AO → Prop}
    (hret : ∀ env (i : Nat), l.findIdx? (outR lo up) = some i → env.get 4 = i64 i → K .ret env H) (hexit : l.findIdx? (outR lo up) = none → ∀ env, K (.exit 0) env H) :
    ∀ (n i : Nat) (env : Env), i + n = l.length → (∀ j (h : j < l.length), j < i → outR lo up l[j] = false) → env.get 0 = x → env.get 1 = .fn (.func 93) [] [.ptr (.own a 0 0 0 0) 0, .ptr (.own b 0 0 0 0) 0] → env.get 7 = i64 l.length → env.get 8 = i64 i →
      LI Try.prog N drawB l95_0 env H K := by
  intro n
  induction n with
  | zero =>
    intro i env hi hp h0 h1 h7 h8
    refine li_go hm l95_0.eq_1 ?_
    have e : i = l.length := by omega
    simp -implicitDefEqProofs [h7, h8, e]
    refine hexit ?_ _
    rw [List.findIdx?_eq_none_iff]
    intro y hy
    obtain ⟨j, hj, rfl⟩ := List.getElem_of_mem hy
    exact hp j hj (by omega)
  | succ n ih =>
    intro i env hi hp h0 h1 h7 h8
    refine li_go hm l95_0.eq_1 ?_
    have hlt : i < l.length := by omega
    simp -implicitDefEqProofs [h0, h1, h7, h8, hlt, hx.vd, hx.ug, hx.sl, hx.len, hx.v hlt, hx.ok hlt]
    refine call_go (ok93 ha hb _) ?_
    cases ho : outR lo up l[i] with
    | true =>
      simp -implicitDefEqProofs
      refine hret _ i ?_ (by simp)
      rw [List.findIdx?_eq_some_iff_getElem]
      exact ⟨hlt, ho, fun j hj => by simp [hp j (by omega) hj]⟩
    | false =>
      simp -implicitDefEqProofs [h8]
      refine ih (i + 1) _ (by omega) ?_ ?_ ?_ ?_ ?_
      rotate_left
      · simp [h0]
      · simp [h1]
      · simp [h7]
      · simp [h8, wrap_suc (show i < 9223372036854775807 by omega)]
      intro j hj hji
      by_cases e : j = i
      · subst e; exact ho
      · exact hp j hj (by omega)
theorem ok95 (hx : IsI H x l) (hl : l.length < 4611686018427387904) {a b : Nat} {lo up : Int} (ha : bx H a lo) (hb : bx H b up) :
    Ok Try.prog 95 [x, .fn (.func 93) [] [.ptr (.own a 0 0 0 0) 0, .ptr (.own b 0 0 0 0) 0]] H (.ret (i64 (fstOut lo up l))) H := by
  refine ok_fn hm Try.func95 c95 (by simp [ha.2, hb.2, hx.und]) fun hcl => ?_
  simp -implicitDefEqProofs [i95, r95, hx.vd, hx.ug, hx.sl, hx.len]
  refine loop81 hx hl ha hb (fun env i h1 h2 => ?_) (fun h1 env => ?_) l.length 0 _ (by omega) (by omega) (by simp) (by simp) (by simp) (by simp)
  · simp [h2, fstOut, h1]
    exact cv_id
  · simp [fstOut, h1]
    exact cv_id
theorem ok92 (hx : IsI H x l) (hl : l.length < 4611686018427387904) {a b : Nat} {lo up : Int} (ha : bx H a lo) (hb : bx H b up) :
    Ok Try.prog 92 [x, .fn (.func 93) [] [.ptr (.own a 0 0 0 0) 0, .ptr (.own b 0 0 0 0) 0]] H (.ret (bl (l.any (outR lo up)))) H := by
  refine ok_fn hm Try.func92 c92 (by simp [ha.2, hb.2, hx.und]) fun hcl => ?_
  simp -implicitDefEqProofs [i92, r92, hx.vd, hx.ug, hx.sl, hx.len]
  refine call_go (ok95 hx hl ha hb) ?_
  have e : decide (0 ≤ fstOut lo up l) = l.any (outR lo up) := by
    rw [Bool.eq_iff_iff, decide_eq_true_iff, fstOut_ge]
  simp -implicitDefEqProofs
  rw [e]
  exact cv_id
/-- The error of numbers in a range. -/
def within (lo hi : Int) (l : List Int) : Int := if l.any (outR lo hi) then 2 else 0
theorem ok89 (hx : IsI H x l) (hl : l.length < 4611686018427387904) (lo hi : Int) :
    Ok Try.prog 89 [i64 lo, i64 hi, x] H (.ret (i64 (within lo hi l))) H := by
  refine ok_fn hm Try.func89 c89 (by simp [hx.und]) fun hcl => ?_
  simp -implicitDefEqProofs [i89, r89, hx.vd, hx.ug, hx.sl, hx.len]
  refine call_go (ok92 (hx.app _) hl (a := H.length) (b := H.length + 1) (lo := lo) (up := hi) ⟨by simp, by simp⟩ ⟨by simp, by simp⟩) ?_
  by_cases h : l.any (outR lo hi) = true
  · simp -implicitDefEqProofs [h, within]
    exact cv_fz 1 hcl rfl (by simp)
  · simp -implicitDefEqProofs [h, within]
    exact cv_fz 1 hcl rfl (by simp)
end
end Go.Proofs.Ytoghpbjllompaaa.Rc

/- Q2 -/
namespace Go.Proofs.Ytoghpbjllompaaa.Rc
open Go.Ab
/-- A node. -/
structure Nd where
  k : Int
  p : Int
  i : Int
  nx : List Int
  ws : List Int
  ps : List Int
def sl (l : List Int) : SV := .slc (ints l) l.length
def Nd.cells (x : Nd) : List SV := [i64 x.k, i64 x.p, i64 x.i, sl x.nx, sl x.ws, sl x.ps]
def nds : List Nd → List SV
  | [] => []
  | x :: r => x.cells ++ nds r
def infs : List (Int × Int) → List SV
  | [] => []
  | x :: r => i64 x.1 :: i64 x.2 :: infs r
/-- A game. -/
structure Gm where
  pl : Int
  ns : List Nd
  is : List (Int × Int)
def Gm.cells (g : Gm) : List SV := [i64 g.pl, .slc (nds g.ns) g.ns.length, .slc (infs g.is) g.is.length]
/-- A walker. -/
structure Wk (H : List AO) (j : Nat) (g : Gm) (a b c : SV) : Prop where
  o : objCells H j 0 = [i64 g.pl, .slc (nds g.ns) g.ns.length, .slc (infs g.is) g.is.length, a, b, c]
  lt : j < H.length
theorem Wk.app {H : List AO} {j : Nat} {g : Gm} {a b c : SV} (h : Wk H j g a b c) (L : List AO) : Wk (H ++ L) j g a b c := ⟨by rw [objCells_app L h.lt]; exact h.o, by have := h.lt; simp; omega⟩
def Nd.chance (x : Nd) : Int := if x.p ≠ 0 ∨ x.i ≠ 0 ∨ 0 < x.ps.length ∨ x.nx.length < 1 ∨ 60 < x.nx.length ∨ x.ws.length ≠ x.nx.length then 3 else within 1 1000 x.ws
def Nd.move (g : Gm) (x : Nd) : Int := if 0 < x.ws.length ∨ 0 < x.ps.length ∨ x.nx.length < 1 ∨ 10 < x.nx.length then 3 else
  if within 0 (g.pl - 1) [x.p] ≠ 0 then within 0 (g.pl - 1) [x.p] else within 0 (g.is.length - 1) [x.i]
def Nd.end (g : Gm) (x : Nd) : Int := if x.p ≠ 0 ∨ x.i ≠ 0 ∨ 0 < x.nx.length ∨ 0 < x.ws.length ∨ (x.ps.length : Int) ≠ g.pl then 3 else within (-1000000) 1000000 x.ps
def Nd.err (g : Gm) (x : Nd) : Int := if x.k < 1 ∨ 3 < x.k then 3 else if x.k = 1 then x.chance else if x.k = 2 then x.move g else x.end g
section
variable {x : Nd} {H : List AO} {j : Nat} {g : Gm} {a b c : SV}
theorem ok84 (h : j < H.length) : Ok Try.prog 84 [.ptr (.own j 0 0 0 0) 0, .agg x.cells] H (.ret (i64 x.chance)) H := by
  refine ok_fn hm Try.func84 c84 (by simp [Nd.cells, sl, h]) fun hcl => ?_
  simp -implicitDefEqProofs [i84, r84, Nd.cells, sl]
  have e : x.chance = if (((((¬x.p = 0 ∨ ¬x.i = 0) ∨ 0 < x.ps.length) ∨ (x.nx.length : Int) < 1) ∨ 60 < (x.nx.length : Int)) ∨ ¬(x.ws.length : Int) = x.nx.length) then 3 else within 1 1000 x.ws := by
    unfold Nd.chance
    congr 1
    simp only [eq_iff_iff]; omega
  rw [e]
  split
  · exact cv_fz 1 hcl rfl (by simp)
  · rename_i hc
    refine call_go (ok89 (IsI.slc _ _) (by omega) 1 1000) ?_
    simp -implicitDefEqProofs
    exact cv_fz 1 hcl rfl (by simp)
theorem ok86 (h : Wk H j g a b c) (h4 : g.pl ≤ 4) : Ok Try.prog 86 [.ptr (.own j 0 0 0 0) 0, .agg x.cells] H (.ret (i64 (x.end g))) H := by
  have ho := h.o
  refine ok_fn hm Try.func86 c86 (by simp [Nd.cells, sl, h.lt]) fun hcl => ?_
  simp -implicitDefEqProofs [i86, r86, Nd.cells, sl, (h.app _).o]
  have e : x.end g = if ((((¬x.p = 0 ∨ ¬x.i = 0) ∨ 0 < x.nx.length) ∨ 0 < x.ws.length) ∨ ¬(x.ps.length : Int) = g.pl) then 3 else within (-1000000) 1000000 x.ps := by
    unfold Nd.end
    congr 1
    simp only [eq_iff_iff]; omega
  rw [e]
  split
  · exact cv_fz 1 hcl rfl (by simp)
  · rename_i hc
    refine call_go (ok89 (IsI.slc _ _) (by omega) (-1000000) 1000000) ?_
    simp -implicitDefEqProofs
    exact cv_fz 1 hcl rfl (by simp)
theorem ok85 (h : Wk H j g a b c) (h1 : 1 ≤ g.pl) (h4 : g.pl ≤ 4) (h5 : g.is.length ≤ 200) : Ok Try.prog 85 [.ptr (.own j 0 0 0 0) 0, .agg x.cells] H (.ret (i64 (x.move g))) H := by
  refine ok_fn hm Try.func85 c85 (by simp [Nd.cells, sl, h.lt]) fun hcl => ?_
  have w1 : IntKind.i64.wrap (g.pl - 1) = g.pl - 1 := wrap_id (by omega) (by omega)
  have w2 : IntKind.i64.wrap ((g.is.length : Int) - 1) = (g.is.length : Int) - 1 := wrap_id (by omega) (by omega)
  simp -implicitDefEqProofs [i85, r85, Nd.cells, sl, (h.app _).o, w1, w2]
  have e : x.move g = if ((0 < x.ws.length ∨ 0 < x.ps.length) ∨ (x.nx.length : Int) < 1) ∨ 10 < (x.nx.length : Int) then 3 else
      if within 0 (g.pl - 1) [x.p] ≠ 0 then within 0 (g.pl - 1) [x.p] else within 0 (g.is.length - 1) [x.i] := by
    unfold Nd.move
    congr 1
    simp only [eq_iff_iff]; omega
  rw [e]
  split
  · exact cv_fz 1 hcl rfl (by simp)
  · rename_i hc
    refine callq_go (fun _ => ok89 (IsI.own0 H _ 1 0 [x.p] [] 3 rfl) (by simp) 0 (g.pl - 1)) ?_
    by_cases hw : within 0 (g.pl - 1) [x.p] = 0
    · simp -implicitDefEqProofs [hw, (h.app _).o, w2]
      refine callq_go (fun _ => ok89 (IsI.own0 H _ 2 0 [x.i] [] 3 rfl) (by simp) 0 (g.is.length - 1)) ?_
      simp -implicitDefEqProofs
      exact cv_fz 1 hcl rfl (by simp [hw])
    · simp -implicitDefEqProofs [hw]
      exact cv_fz 1 hcl rfl (by simp [hw])
theorem ok77 (h : Wk H j g a b c) (h1 : 1 ≤ g.pl) (h4 : g.pl ≤ 4) (h5 : g.is.length ≤ 200) : Ok Try.prog 77 [.ptr (.own j 0 0 0 0) 0, .agg x.cells] H (.ret (i64 (x.err g))) H := by
  refine ok_fn hm Try.func77 c77 (by simp [Nd.cells, sl, h.lt]) fun hcl => ?_
  simp -implicitDefEqProofs [i77, r77, Nd.cells, sl, (h.app _).o]
  unfold Nd.err
  split
  · exact ⟨rfl, cv_fz 1 hcl rfl (by rfl)⟩
  · rename_i hc
    have hk : x.k = 1 ∨ x.k = 2 ∨ x.k = 3 := by omega
    rcases hk with hk | hk | hk
    · simp -implicitDefEqProofs [hk]
      refine ⟨rfl, call_go (by rw [← hk]; exact ok84 (x := x) (by simp; have := h.lt; omega)) ?_⟩
      simp -implicitDefEqProofs
      exact cv_fz 1 hcl rfl (by simp [hk])
    · simp -implicitDefEqProofs [hk]
      refine ⟨rfl, call_go (by rw [← hk]; exact ok85 (x := x) (h.app _) h1 h4 h5) ?_⟩
      simp -implicitDefEqProofs
      exact cv_fz 1 hcl rfl (by simp [hk])
    · simp -implicitDefEqProofs [hk]
      refine ⟨rfl, call_go (by rw [← hk]; exact ok86 (x := x) (h.app _) h4) ?_⟩
      simp -implicitDefEqProofs
      exact cv_fz 1 hcl rfl (by simp [hk])
end
end Go.Proofs.Ytoghpbjllompaaa.Rc

/- Q3 -/
namespace Go.Proofs.Ytoghpbjllompaaa.Rc
open Go.Ab
theorem within_no {lo hi : Int} {l : List Int} (h : ∀ j (h : j < l.length), j < l.length → outR lo hi l[j] = false) : within lo hi l = 0 := by
  unfold within; rw [if_neg]
  rw [List.any_eq_true]
  rintro ⟨y, hy, h1⟩
  obtain ⟨j, hj, rfl⟩ := List.getElem_of_mem hy
  rw [h j hj hj] at h1; cases h1
theorem within1 {lo hi n : Int} : within lo hi [n] = if n < lo ∨ hi < n then 2 else 0 := by
  unfold within; congr 1; simp [outR]
section
variable {x : Nd} {H : List AO} {q : Nat} {g : Gm}
end
end Go.Proofs.Ytoghpbjllompaaa.Rc

/- Q4 -/
namespace Go.Proofs.Ytoghpbjllompaaa.Rc
open Go.Ab
/-- What a walk finds. -/
structure W3 where
  P : List Int
  D : List Int
  L : List Int
def kids (w : Nat → W3 → Option Nat × W3) : List Int → Nat → W3 → Option Nat × W3
  | [], r, s => (some r, s)
  | c :: cs, r, s => if c = r then (match w r s with | (none, s) => (none, s) | (some r, s) => kids w cs r s) else (none, s)
def walkS (ns : List Nd) : Nat → Int → Int → Nat → W3 → Option Nat × W3
  | 0, _, _, _, s => (none, s)
  | f + 1, par, dep, k, s =>
    match ns[k]? with
    | none => (none, s)
    | some x =>
      match kids (walkS ns f k (dep + 1)) x.nx (k + 1) ⟨s.P.set k par, s.D.set k dep, s.L⟩ with
      | (none, s) => (none, s)
      | (some r, s) => (some r, ⟨s.P, s.D, s.L.set k (r - 1)⟩)
def rr (l : List Int) : AO := ⟨ints l, 3, 1, true⟩
def upd (H : List AO) (a b c : Nat) (s : W3) : List AO := ((H.set a (rr s.P)).set b (rr s.D)).set c (rr s.L)
section
variable {H : List AO} {a b c j : Nat} {s t : W3} {g : Gm}
theorem upd_len : (upd H a b c s).length = H.length := by simp [upd]
theorem objCells_get {H H' : List AO} {j : Nat} (h : H'[j]? = H[j]?) (v : Nat) : objCells H' j v = objCells H j v := by unfold objCells; rw [h]
/-- Three places. -/
structure P3 (H : List AO) (a b c : Nat) : Prop where
  ab : a < b
  bc : b < c
  lt : c < H.length
theorem upd_a (h : P3 H a b c) : objCells (upd H a b c s) a 1 = ints s.P := by
  have := h.ab; have := h.bc; have := h.lt
  refine objCells_of (o := rr s.P) ?_ rfl
  unfold upd
  rw [List.getElem?_set_ne (by omega), List.getElem?_set_ne (by omega), List.getElem?_set_self (by omega)]
theorem upd_b (h : P3 H a b c) : objCells (upd H a b c s) b 1 = ints s.D := by
  have := h.ab; have := h.bc; have := h.lt
  refine objCells_of (o := rr s.D) ?_ rfl
  unfold upd
  rw [List.getElem?_set_ne (by omega), List.getElem?_set_self (by simp; omega)]
theorem upd_c (h : P3 H a b c) : objCells (upd H a b c s) c 1 = ints s.L := by
  have := h.ab; have := h.bc; have := h.lt
  refine objCells_of (o := rr s.L) ?_ rfl
  unfold upd
  rw [List.getElem?_set_self (by simp; omega)]
theorem upd_o (h1 : j ≠ a) (h2 : j ≠ b) (h3 : j ≠ c) : objCells (upd H a b c s) j 0 = objCells H j 0 := by
  refine objCells_get ?_ 0
  unfold upd
  rw [List.getElem?_set_ne (by omega), List.getElem?_set_ne (by omega), List.getElem?_set_ne (by omega)]
theorem upd_sa (h : P3 H a b c) (f : AO → AO) (l : List Int) (hf : f (rr s.P) = rr l) : Ab.setObj (upd H a b c s) a f = upd H a b c ⟨l, s.D, s.L⟩ := by
  have := h.ab; have := h.bc; have := h.lt
  rw [setObj_some (o := rr s.P), hf]
  · unfold upd
    rw [List.set_comm _ _ (show c ≠ a by omega), List.set_comm _ _ (show b ≠ a by omega), List.set_set]
  · unfold upd
    rw [List.getElem?_set_ne (by omega), List.getElem?_set_ne (by omega), List.getElem?_set_self (by omega)]
theorem upd_sb (h : P3 H a b c) (f : AO → AO) (l : List Int) (hf : f (rr s.D) = rr l) : Ab.setObj (upd H a b c s) b f = upd H a b c ⟨s.P, l, s.L⟩ := by
  have := h.ab; have := h.bc; have := h.lt
  rw [setObj_some (o := rr s.D), hf]
  · unfold upd
    rw [List.set_comm _ _ (show c ≠ b by omega), List.set_set]
  · unfold upd
    rw [List.getElem?_set_ne (by omega), List.getElem?_set_self (by simp; omega)]
theorem upd_sc (h : P3 H a b c) (f : AO → AO) (l : List Int) (hf : f (rr s.L) = rr l) : Ab.setObj (upd H a b c s) c f = upd H a b c ⟨s.P, s.D, l⟩ := by
  have := h.ab; have := h.bc; have := h.lt
  rw [setObj_some (o := rr s.L), hf]
  · unfold upd
    rw [List.set_set]
  · unfold upd
    rw [List.getElem?_set_self (by simp; omega)]
theorem nds_drop {ns : List Nd} {k : Nat} (h : k < ns.length) : nds (ns.drop k) = ns[k].cells ++ nds (ns.drop (k + 1)) := by
  rw [List.drop_eq_getElem_cons h]; rfl
theorem nds_len : ∀ ns : List Nd, (nds ns).length = 6 * ns.length
  | [] => rfl
  | x :: r => by simp [nds, nds_len r, Nd.cells]; omega
end
end Go.Proofs.Ytoghpbjllompaaa.Rc

/- Q5 -/
namespace Go.Proofs.Ytoghpbjllompaaa.Rc
open Go.Ab
def resW (ns : List Nd) : Option Nat → SV
  | none => .tup [.val (.slice none 0 0), bl false]
  | some r => .tup [.slc (nds (ns.drop r)) (ns.length - r), bl true]
def W3.ok (s : W3) (n : Nat) : Prop := s.P.length = n ∧ s.D.length = n ∧ s.L.length = n
theorem kids_ok {n : Nat} {w : Nat → W3 → Option Nat × W3} {m : Nat} (hw : ∀ r s, m ≤ r → s.ok n → (w r s).2.ok n ∧ ∀ r', (w r s).1 = some r' → r < r' ∧ r' ≤ n) :
    ∀ (l : List Int) (r : Nat) (s : W3), m ≤ r → r ≤ n → s.ok n → (kids w l r s).2.ok n ∧ ∀ r', (kids w l r s).1 = some r' → r ≤ r' ∧ r' ≤ n
  | [], r, s, hr, hn, hs => ⟨hs, fun r' h => by simp [kids] at h; omega⟩
  | c :: cs, r, s, hr, hn, hs => by
    unfold kids
    by_cases hc : c = r
    · rw [if_pos hc]
      have h := hw r s hr hs
      cases hh : w r s with
      | mk o s1 =>
        rw [hh] at h
        cases o with
        | none => exact ⟨h.1, fun r' h' => by simp at h'⟩
        | some r1 =>
          have h1 := h.2 r1 rfl
          have h2 := kids_ok hw cs r1 s1 (by omega) h1.2 h.1
          exact ⟨h2.1, fun r' h' => by have := h2.2 r' h'; omega⟩
    · rw [if_neg hc]
      exact ⟨hs, fun r' h => by simp at h⟩
theorem walkS_ok {ns : List Nd} : ∀ (f : Nat) (par dep : Int) (k : Nat) (s : W3), s.ok ns.length →
    (walkS ns f par dep k s).2.ok ns.length ∧ ∀ r, (walkS ns f par dep k s).1 = some r → k < r ∧ r ≤ ns.length
  | 0, par, dep, k, s, hs => ⟨hs, fun r h => by simp [walkS] at h⟩
  | f + 1, par, dep, k, s, hs => by
    unfold walkS
    cases hk : ns[k]? with
    | none => exact ⟨hs, fun r h => by simp at h⟩
    | some x =>
      have hlt := getElem?_lt hk
      have h := kids_ok (n := ns.length) (w := walkS ns f k (dep + 1)) (m := 0) (fun r s _ hs => walkS_ok f k (dep + 1) r s hs) x.nx (k + 1) ⟨s.P.set k par, s.D.set k dep, s.L⟩ (by omega) (by omega)
        ⟨by simpa using hs.1, by simpa using hs.2.1, hs.2.2⟩
      simp only
      cases hh : kids (walkS ns f k (dep + 1)) x.nx (k + 1) ⟨s.P.set k par, s.D.set k dep, s.L⟩ with
      | mk o s1 =>
        rw [hh] at h
        cases o with
        | none => exact ⟨h.1, fun r' h' => by simp at h'⟩
        | some r1 =>
          refine ⟨⟨h.1.1, h.1.2.1, by simpa using h.1.2.2⟩, fun r' h' => ?_⟩
          have := h.2 r1 rfl
          simp at h'; omega
section
variable {H : List AO} {a b c j : Nat} {g : Gm}
/-- The walker and its rows. -/
structure Wh (H : List AO) (j : Nat) (g : Gm) (a b c : Nat) : Prop where
  w : Wk H j g (.own a 0 g.ns.length 1 1) (.own b 0 g.ns.length 1 1) (.own c 0 g.ns.length 1 1)
  p : P3 H a b c
  ja : j ≠ a
  jb : j ≠ b
  jc : j ≠ c
  n : g.ns.length ≤ 2000
  nx : ∀ x ∈ g.ns, x.nx.length < 4611686018427387904
theorem Wh.cells (h : Wh H j g a b c) (s : W3) : objCells (upd H a b c s) j 0 = [i64 g.pl, .slc (nds g.ns) g.ns.length, .slc (infs g.is) g.is.length, .own a 0 g.ns.length 1 1, .own b 0 g.ns.length 1 1, .own c 0 g.ns.length 1 1] := by
  rw [upd_o h.ja h.jb h.jc]; exact h.w.o
set_option maxRecDepth 10000 in
theorem loop62 (h : Wh H j g a b c) {x : Nd} {dep : Int} {k : Nat} {w : Nat → W3 → Option Nat × W3} {R : Option Nat × W3} (hd0 : 0 ≤ dep) (hd1 : dep ≤ k) (hk : k < g.ns.length) (hnx : x.nx.length < 4611686018427387904)
    (hok : ∀ r s, k + 1 ≤ r → r ≤ g.ns.length → s.ok g.ns.length → Ok Try.prog 78 [.ptr (.own j 0 0 0 0) 0, i64 k, i64 (dep + 1), .slc (nds (g.ns.drop r)) (g.ns.length - r)] (upd H a b c s) (.ret (resW g.ns (w r s).1)) (upd H a b c (w r s).2))
    (hw : ∀ r s, k + 1 ≤ r → s.ok g.ns.length → (w r s).2.ok g.ns.length ∧ ∀ r', (w r s).1 = some r' → r < r' ∧ r' ≤ g.ns.length)
    {N : Nat} {K : XE → Env → List AO → Prop}
    (hret : R.1 = none → ∀ env, env.get 8 = .val (.slice none 0 0) → env.get 9 = bl false → K .ret env (upd H a b c R.2))
    (hexit : ∀ r', R.1 = some r' → r' ≤ g.ns.length → R.2.ok g.ns.length → ∀ env, env.get 0 = .ptr (.own j 0 0 0 0) 0 → env.get 10 = i64 k → env.get 11 = .slc (nds (g.ns.drop r')) (g.ns.length - r') → K (.exit 0) env (upd H a b c R.2)) :
    ∀ (m i r : Nat) (s : W3) (env : Env), i + m = x.nx.length → k + 1 ≤ r → r ≤ g.ns.length → s.ok g.ns.length → kids w (x.nx.drop i) r s = R →
      env.get 0 = .ptr (.own j 0 0 0 0) 0 → env.get 2 = i64 dep → env.get 10 = i64 k → env.get 11 = .slc (nds (g.ns.drop r)) (g.ns.length - r) → env.get 46 = .slc (ints x.nx) x.nx.length → env.get 47 = i64 x.nx.length → env.get 48 = i64 i →
      LI Try.prog N drawB l78_0 env (upd H a b c s) K := by
  have hn := h.n
  intro m
  induction m with
  | zero =>
    intro i r s env hi hr hrn hs hR h0 h2 h10 h11 h46 h47 h48
    refine li_go hm l78_0.eq_1 ?_
    have e : i = x.nx.length := by omega
    subst e
    simp -implicitDefEqProofs [h47, h48]
    rw [List.drop_length] at hR
    subst hR
    exact hexit r rfl hrn hs _ (by simp [h0]) (by simp [h10]) (by simp [h11])
  | succ m ih =>
    intro i r s env hi hr hrn hs hR h0 h2 h10 h11 h46 h47 h48
    refine li_go hm l78_0.eq_1 ?_
    have hlt : i < x.nx.length := by omega
    have w1 : IntKind.i64.wrap ((g.ns.length : Int) - ((g.ns.length - r : Nat) : Int)) = r := by rw [wrap_id (by omega) (by omega)]; omega
    have w2 : IntKind.i64.wrap (dep + 1) = dep + 1 := wrap_id (by omega) (by omega)
    rw [List.drop_eq_getElem_cons hlt] at hR
    unfold kids at hR
    by_cases hc : x.nx[i] = r
    · rw [if_pos hc] at hR
      simp -implicitDefEqProofs [h0, h2, h10, h11, h46, h47, h48, hlt, h.cells, w1, hc, w2]
      refine ⟨by omega, call_go (hok r s hr hrn hs) ?_⟩
      have hw1 := hw r s hr hs
      cases hh : w r s with
      | mk o s1 =>
        rw [hh] at hw1 hR
        cases o with
        | none =>
          subst hR
          simp -implicitDefEqProofs [resW]
          exact hret rfl _ (by simp) (by simp)
        | some r1 =>
          have h1 := hw1.2 r1 rfl
          simp -implicitDefEqProofs [resW, h48]
          refine ih (i + 1) r1 s1 _ (by omega) (by omega) h1.2 hw1.1 hR ?_ ?_ ?_ ?_ ?_ ?_ ?_
          · simp [h0]
          · simp [h2]
          · simp [h10]
          · simp
          · simp [h46]
          · simp [h47]
          · simp [wrap_suc (show i < 9223372036854775807 by omega)]
    · rw [if_neg hc] at hR
      subst hR
      simp -implicitDefEqProofs [h0, h2, h10, h11, h46, h47, h48, hlt, h.cells, w1, hc]
      refine ⟨by omega, ?_⟩
      exact hret rfl _ (by simp) (by simp)
set_option maxRecDepth 10000 in
theorem ok78 (h : Wh H j g a b c) : ∀ (f : Nat) (par dep : Int) (k : Nat) (s : W3), k ≤ g.ns.length → g.ns.length + 1 ≤ k + f → 0 ≤ dep → dep ≤ k → s.ok g.ns.length →
    Ok Try.prog 78 [.ptr (.own j 0 0 0 0) 0, i64 par, i64 dep, .slc (nds (g.ns.drop k)) (g.ns.length - k)] (upd H a b c s)
      (.ret (resW g.ns (walkS g.ns f par dep k s).1)) (upd H a b c (walkS g.ns f par dep k s).2) := by
  have ab := h.p.ab; have bc := h.p.bc; have lt := h.p.lt
  have hj := h.w.lt
  have hn := h.n
  intro f
  induction f with
  | zero => intro par dep k s h1 h2; omega
  | succ f ih =>
    intro par dep k s hk hf hd0 hd1 hs
    refine ok_fn hm Try.func78 c78 (by simp [upd_len, hj]) fun hcl => ?_
    by_cases hk' : k = g.ns.length
    · subst hk'
      simp -implicitDefEqProofs [i78, r78, walkS, resW]
      exact cv_id
    · have hlt : k < g.ns.length := by omega
      have w1 : IntKind.i64.wrap ((g.ns.length : Int) - ((g.ns.length - k : Nat) : Int)) = k := by rw [wrap_id (by omega) (by omega)]; omega
      have e1 : ∀ (s : W3) (v : Int), k < s.P.length → Ab.setObj (upd H a b c s) a (fun o => { cells := List.take k o.cells ++ i64 v :: List.drop (k + 1) o.cells, ty := o.ty, ver := o.ver, live := o.live }) = upd H a b c ⟨s.P.set k v, s.D, s.L⟩ :=
        fun s v hv => upd_sa h.p _ _ (by simp [rr, ints_set hv])
      have e2 : ∀ (s : W3) (v : Int), k < s.D.length → Ab.setObj (upd H a b c s) b (fun o => { cells := List.take k o.cells ++ i64 v :: List.drop (k + 1) o.cells, ty := o.ty, ver := o.ver, live := o.live }) = upd H a b c ⟨s.P, s.D.set k v, s.L⟩ :=
        fun s v hv => upd_sb h.p _ _ (by simp [rr, ints_set hv])
      have e3 : ∀ (s : W3) (v : Int), k < s.L.length → Ab.setObj (upd H a b c s) c (fun o => { cells := List.take k o.cells ++ i64 v :: List.drop (k + 1) o.cells, ty := o.ty, ver := o.ver, live := o.live }) = upd H a b c ⟨s.P, s.D, s.L.set k v⟩ :=
        fun s v hv => upd_sc h.p _ _ (by simp [rr, ints_set hv])
      have e4 : List.take ((g.ns.length - k - 1) * 6) (nds (g.ns.drop (k + 1))) = nds (g.ns.drop (k + 1)) := List.take_of_length_le (by rw [nds_len]; simp; omega)
      have k1 := hs.1; have k2 := hs.2.1; have k3 := hs.2.2
      rw [nds_drop hlt]
      simp -implicitDefEqProofs [i78, r78, h.cells, upd_len, show ¬ g.ns.length - k = 0 by omega, show ((g.ns.length - k : Nat) : Int) ≠ 0 by omega, w1, upd_a h.p, upd_b h.p, upd_c h.p, e1, e2, k1, k2, k3, hlt, Nd.cells, sl, e4]
      refine ⟨by omega, by omega, by omega, ?_⟩
      have hget : g.ns[k]? = some g.ns[k] := List.getElem?_eq_getElem hlt
      have hs' : W3.ok ⟨s.P.set k par, s.D.set k dep, s.L⟩ g.ns.length := ⟨by simpa using k1, by simpa using k2, k3⟩
      refine loop62 h (x := g.ns[k]) (dep := dep) (k := k) (w := walkS g.ns f k (dep + 1)) (R := kids (walkS g.ns f k (dep + 1)) g.ns[k].nx (k + 1) ⟨s.P.set k par, s.D.set k dep, s.L⟩) hd0 hd1 hlt (h.nx _ (List.getElem_mem hlt))
        (fun r s hr hrn hs => ih k (dep + 1) r s hrn (by omega) (by omega) (by omega) hs) (fun r s _ hs => walkS_ok f k (dep + 1) r s hs) (fun hR env h8 h9 => ?_) (fun r' hR hr' hs1 env h0 h10 h11 => ?_)
        g.ns[k].nx.length 0 (k + 1) _ _ (by omega) (by omega) (by omega) hs' (by simp) (by simp) (by simp) (by simp) (by simp; omega) (by simp) (by simp) (by simp)
      · simp -implicitDefEqProofs [h8, h9]
        unfold walkS
        rw [hget]
        revert hR
        simp only
        generalize kids (walkS g.ns f k (dep + 1)) g.ns[k].nx (k + 1) ⟨s.P.set k par, s.D.set k dep, s.L⟩ = R
        obtain ⟨o, s2⟩ := R
        rintro rfl
        simp [resW]
        exact cv_id
      · have w2 : IntKind.i64.wrap ((g.ns.length : Int) - ((g.ns.length - r' : Nat) : Int)) = r' := by rw [wrap_id (by omega) (by omega)]; omega
        have w3 : IntKind.i64.wrap ((r' : Int) - 1) = (r' : Int) - 1 := wrap_id (by omega) (by omega)
        unfold walkS
        rw [hget]
        revert hR hs1
        simp only
        generalize kids (walkS g.ns f k (dep + 1)) g.ns[k].nx (k + 1) ⟨s.P.set k par, s.D.set k dep, s.L⟩ = R
        obtain ⟨o, s2⟩ := R
        rintro hR hs1
        cases hR
        have k4 := hs1.2.2
        simp only at k4
        simp -implicitDefEqProofs [h0, h10, h11, h.cells, upd_len, w2, w3, upd_c h.p, e3, k4, hlt]
        refine ⟨by omega, ?_⟩
        exact cv_id
end
end Go.Proofs.Ytoghpbjllompaaa.Rc

/- Q6 -/
namespace Go.Proofs.Ytoghpbjllompaaa.Rc
open Go.Ab
def maxL (l : List Int) : Int := l.tail.foldl max (l.headD 0)
section
variable {x : SV} {H : List AO} {l : List Int}
theorem loop63 (hx : IsI H x l) (hl : l.length < 4611686018427387904) {N : Nat} {K : XE → Env → List AO → Prop}
    (hexit : ∀ env, env.get 3 = i64 (maxL l) → K (.exit 0) env H) :
    ∀ (n i : Nat) (acc : Int) (env : Env), i + n = l.length → (l.drop i).foldl max acc = maxL l → env.get 0 = x → env.get 3 = i64 acc → env.get 4 = i64 i → LI Try.prog N drawB l79_0 env H K := by
  intro n
  induction n with
  | zero =>
    intro i acc env hi ha h0 h3 h4
    refine li_go hm l79_0.eq_1 ?_
    have e : i = l.length := by omega
    subst e
    simp -implicitDefEqProofs [h0, h3, h4, hx.vd, hx.ug, hx.sl, hx.len]
    rw [List.drop_length] at ha
    exact hexit _ (by simp [h3]; exact congrArg i64 ha)
  | succ n ih =>
    intro i acc env hi ha h0 h3 h4
    refine li_go hm l79_0.eq_1 ?_
    have hlt : i < l.length := by omega
    rw [List.drop_eq_getElem_cons hlt, List.foldl_cons] at ha
    simp -implicitDefEqProofs [h0, h3, h4, hlt, hx.vd, hx.ug, hx.sl, hx.len, hx.v hlt, hx.ok hlt]
    refine ih (i + 1) (max acc l[i]) _ (by omega) ha ?_ ?_ ?_
    · simp [h0]
    · simp
    · simp [wrap_suc (show i < 9223372036854775807 by omega)]
theorem ok79 (hx : IsI H x l) (hl : l.length < 4611686018427387904) (hne : 0 < l.length) : Ok Try.prog 79 [x] H (.ret (i64 (maxL l))) H := by
  refine ok_fn hm Try.func79 c79 (by simp [hx.und]) fun hcl => ?_
  simp -implicitDefEqProofs [i79, r79, hx.vd, hx.ug, hx.sl, hx.len, show ¬ (l.length : Int) < 1 by omega, hx.v hne, hx.ok hne]
  refine ⟨by omega, ?_⟩
  refine loop63 hx hl (fun env h3 => ?_) (l.length - 1) 1 l[0] _ (by omega) ?_ (by simp) (by simp) (by simp)
  · simp -implicitDefEqProofs [h3]
    exact cv_id
  · cases l with
    | nil => simp at hne
    | cons y r => rfl
/-- The first place of v, or -1. -/
def fstAt (v : Int) (l : List Int) : Int := match l.findIdx? (· == v) with | some i => i | none => -1
theorem loop82 (hx : IsI H x l) (hl : l.length < 4611686018427387904) {v : Int} {N : Nat} {K : XE → Env → List AO → Prop}
    (hret : ∀ env (i : Nat), l.findIdx? (· == v) = some i → env.get 4 = i64 i → K .ret env H) (hexit : l.findIdx? (· == v) = none → ∀ env, K (.exit 0) env H) :
    ∀ (n i : Nat) (env : Env), i + n = l.length → (∀ j (h : j < l.length), j < i → ¬ l[j] = v) → env.get 0 = x → env.get 1 = i64 v → env.get 7 = i64 l.length → env.get 8 = i64 i →
      LI Try.prog N drawB l90_0 env H K := by
  intro n
  induction n with
  | zero =>
    intro i env hi hp h0 h1 h7 h8
    refine li_go hm l90_0.eq_1 ?_
    have e : i = l.length := by omega
    simp -implicitDefEqProofs [h7, h8, e]
    refine hexit ?_ _
    rw [List.findIdx?_eq_none_iff]
    intro y hy
    obtain ⟨j, hj, rfl⟩ := List.getElem_of_mem hy
    simpa using hp j hj (by omega)
  | succ n ih =>
    intro i env hi hp h0 h1 h7 h8
    refine li_go hm l90_0.eq_1 ?_
    have hlt : i < l.length := by omega
    by_cases ho : l[i] = v
    · simp -implicitDefEqProofs [h0, h1, h7, h8, hlt, hx.vd, hx.ug, hx.sl, hx.len, hx.v hlt, hx.ok hlt, ho]
      refine hret _ i ?_ (by simp)
      rw [List.findIdx?_eq_some_iff_getElem]
      exact ⟨hlt, by simpa using ho, fun j hj => by simpa using hp j (by omega) hj⟩
    · simp -implicitDefEqProofs [h0, h1, h7, h8, hlt, hx.vd, hx.ug, hx.sl, hx.len, hx.v hlt, hx.ok hlt, show ¬ v = l[i] from fun e => ho e.symm]
      refine ih (i + 1) _ (by omega) ?_ ?_ ?_ ?_ ?_
      rotate_left
      · simp [h0]
      · simp [h1]
      · simp [h7]
      · simp [h8, wrap_suc (show i < 9223372036854775807 by omega)]
      intro j hj hji
      by_cases e : j = i
      · subst e; exact ho
      · exact hp j hj (by omega)
theorem ok90 (hx : IsI H x l) (hl : l.length < 4611686018427387904) (v : Int) : Ok Try.prog 90 [x, i64 v] H (.ret (i64 (fstAt v l))) H := by
  refine ok_fn hm Try.func90 c90 (by simp [hx.und]) fun hcl => ?_
  simp -implicitDefEqProofs [i90, r90, hx.vd, hx.ug, hx.sl, hx.len]
  refine loop82 hx hl (v := v) (fun env i h1 h2 => ?_) (fun h1 env => ?_) l.length 0 _ (by omega) (by omega) (by simp) (by simp) (by simp) (by simp)
  · simp [h2, fstAt, h1]
    exact cv_id
  · simp [fstAt, h1]
    exact cv_id
theorem fstAt_ge {v : Int} {l : List Int} : decide (0 ≤ fstAt v l) = decide (v ∈ l) := by
  rw [Bool.eq_iff_iff, decide_eq_true_iff, decide_eq_true_iff]
  unfold fstAt
  cases h : l.findIdx? (· == v) with
  | some i =>
    simp only [Int.natCast_nonneg, true_iff]
    obtain ⟨hi, h1, h2⟩ := List.findIdx?_eq_some_iff_getElem.1 h
    rw [← eq_of_beq h1]; exact List.getElem_mem hi
  | none =>
    rw [List.findIdx?_eq_none_iff] at h
    have : v ∉ l := fun hv => by simpa using h v hv
    simp [this]
theorem ok87 (hx : IsI H x l) (hl : l.length < 4611686018427387904) (v : Int) : Ok Try.prog 87 [x, i64 v] H (.ret (bl (decide (v ∈ l)))) H := by
  refine ok_fn hm Try.func87 c87 (by simp [hx.und]) fun hcl => ?_
  simp -implicitDefEqProofs [i87, r87, hx.vd, hx.ug, hx.sl, hx.len]
  refine call_go (ok90 hx hl v) ?_
  simp -implicitDefEqProofs
  rw [fstAt_ge]
  exact cv_id
theorem ok94 (n : Int) : Ok Try.prog 94 [i64 n] H (.ret (bl false)) H := by
  refine ok_fn hm Try.func94 c94 (by simp) fun hcl => ?_
  simp -implicitDefEqProofs [i94, r94]
  exact cv_id
theorem ok91 (m n : Int) : Ok Try.prog 91 [i64 m, i64 n] H (.ret (bl (decide (m < n)))) H := by
  refine ok_fn hm Try.func91 c91 (by simp) fun hcl => ?_
  simp -implicitDefEqProofs [i91, r91]
  refine call_go (ok94 m) ?_
  simp -implicitDefEqProofs
  refine callq_off _ _ _ _ ?_
  simp -implicitDefEqProofs
  exact cv_id
def Srt (l : List Int) : Prop := ∀ k, k < l.length - 1 → ¬ l.getD (k + 1) 0 < l.getD k 0
instance (l : List Int) : Decidable (Srt l) := by unfold Srt; infer_instance
theorem srt_iff {l : List Int} : Srt l ↔ ∀ k (h : k + 1 < l.length), ¬ l[k + 1] < l[k] := by
  constructor
  · intro h k hk
    have := h k (by omega)
    simpa only [List.getD_eq_getElem?_getD, List.getElem?_eq_getElem hk, List.getElem?_eq_getElem (show k < l.length by omega), Option.getD_some] using this
  · intro h k hk
    simp only [List.getD_eq_getElem?_getD, List.getElem?_eq_getElem (show k + 1 < l.length by omega), List.getElem?_eq_getElem (show k < l.length by omega), Option.getD_some]
    exact h k (by omega)
theorem loop80 (hx : IsI H x l) (hl : l.length < 4611686018427387904) {N : Nat} {K : XE → Env → List AO → Prop}
    (hret : ¬ Srt l → ∀ env, env.get 2 = bl false → K .ret env H) (hexit : Srt l → ∀ env, K (.exit 0) env H) :
    ∀ (n : Nat) (env : Env), n < l.length → (∀ k (h : k + 1 < l.length), n ≤ k → ¬ l[k + 1] < l[k]) → env.get 0 = x → env.get 3 = i64 n → LI Try.prog N drawB l88_0 env H K := by
  intro n
  induction n with
  | zero =>
    intro env hi hp h0 h3
    refine li_go hm l88_0.eq_1 ?_
    simp -implicitDefEqProofs [h0, h3]
    exact hexit (srt_iff.2 fun k hk => hp k hk (by omega)) _
  | succ n ih =>
    intro env hi hp h0 h3
    refine li_go hm l88_0.eq_1 ?_
    have w1 : IntKind.i64.wrap (n : Int) = n := wrap_nat (by omega)
    have hlt : n < l.length := by omega
    simp -implicitDefEqProofs [h0, h3, hi, hlt, w1, hx.vd, hx.ug, hx.sl, hx.len, hx.v hlt, hx.ok hlt, hx.v hi, hx.ok hi]
    refine ⟨by omega, ?_⟩
    refine callq_go (fun _ => ok91 _ _) ?_
    by_cases hc : l[n + 1] < l[n]
    · simp -implicitDefEqProofs [hc]
      exact hret (fun h => srt_iff.1 h n hi hc) _ (by simp)
    · simp -implicitDefEqProofs [hc, h3, w1]
      refine ih _ (by omega) ?_ ?_ ?_
      rotate_left
      · simp [h0]
      · simp
      intro k hk hnk
      by_cases e : k = n
      · subst e; exact hc
      · exact hp k hk (by omega)
theorem ok88 (hx : IsI H x l) (hl : l.length < 4611686018427387904) : Ok Try.prog 88 [x] H (.ret (bl (decide (Srt l)))) H := by
  refine ok_fn hm Try.func88 c88 (by simp [hx.und]) fun hcl => ?_
  by_cases h0 : l.length = 0
  · have : l = [] := List.eq_nil_of_length_eq_zero h0
    subst this
    simp -implicitDefEqProofs [i88, r88, hx.vd, hx.ug, hx.sl, hx.len, show IntKind.i64.wrap (-1) = -1 by rfl]
    refine li_go hm l88_0.eq_1 ?_
    simp -implicitDefEqProofs [show Srt [] from srt_iff.2 (fun k h => by simp at h)]
    exact cv_id
  · have w1 : IntKind.i64.wrap ((l.length : Int) - 1) = ((l.length - 1 : Nat) : Int) := by rw [wrap_id (by omega) (by omega)]; omega
    simp -implicitDefEqProofs [i88, r88, hx.vd, hx.ug, hx.sl, hx.len, w1]
    refine loop80 hx hl (fun h1 env h2 => ?_) (fun h1 env => ?_) (l.length - 1) _ (by omega) (by omega) (by simp) (by simp)
    · simp -implicitDefEqProofs [h2, h1]
      exact cv_id
    · simp -implicitDefEqProofs [h1]
      exact cv_id
end
end Go.Proofs.Ytoghpbjllompaaa.Rc

/- Q7 -/
namespace Go.Proofs.Ytoghpbjllompaaa.Rc
open Go.Ab
/-- The first node of each set, and 1; 0 where there is none. -/
def fst1 : List Nd → Nat → List Int → List Int
  | [], _, z => z
  | x :: r, o, z => if x.k = 2 then (fst1 r (o + 1) z).set x.i.toNat (o + 1) else fst1 r (o + 1) z
@[simp] theorem fst1_len (z : List Int) : ∀ (l : List Nd) (o : Nat), (fst1 l o z).length = z.length
  | [], o => rfl
  | x :: r, o => by unfold fst1; split <;> simp [fst1_len z r (o + 1)]
def ro (l : List Int) : AO := ⟨ints l, 3, 0, true⟩
def Nd.tyBad (g : Gm) (x : Nd) : Prop := x.k = 2 ∧ g.is[x.i.toNat]? ≠ some (x.p, (x.nx.length : Int))
instance (g : Gm) (x : Nd) : Decidable (x.tyBad g) := by unfold Nd.tyBad; infer_instance
def Gm.firsts (g : Gm) : List Int := fst1 g.ns 0 (List.replicate g.is.length 0)
def Gm.setsE (g : Gm) : Int := if ∃ x ∈ g.ns, x.tyBad g then 10 else if 0 ∈ g.firsts then 18 else if Srt g.firsts then 0 else 9
/-- The nodes are well formed, each by itself. -/
structure Gd (g : Gm) : Prop where
  p1 : 1 ≤ g.pl
  p4 : g.pl ≤ 4
  n1 : 1 ≤ g.ns.length
  n : g.ns.length ≤ 2000
  i : g.is.length ≤ 200
  e : ∀ x ∈ g.ns, x.err g = 0
theorem Gd.inf {g : Gm} (h : Gd g) {x : Nd} (hx : x ∈ g.ns) (hk : x.k = 2) : 0 ≤ x.i ∧ x.i < g.is.length := by
  have := h.e x hx
  unfold Nd.err Nd.move at this
  rw [if_neg (by omega), if_neg (by omega), if_pos hk] at this
  split at this
  · omega
  · rw [within1, within1] at this
    split at this
    · split at this <;> omega
    · split at this <;> omega
theorem infs_drop : ∀ {l : List (Int × Int)} {k : Nat} (h : k < l.length), (infs l).drop (2 * k) = i64 l[k].1 :: i64 l[k].2 :: infs (l.drop (k + 1))
  | [], k, h => by simp at h
  | x :: r, 0, h => rfl
  | x :: r, k + 1, h => by
    rw [show 2 * (k + 1) = 2 * k + 2 by omega]
    simp only [infs, List.drop_succ_cons]
    rw [infs_drop (l := r) (k := k) (by simpa using h)]
    simp
theorem nds_drop' : ∀ {l : List Nd} {k : Nat} (h : k < l.length), (nds l).drop (6 * k) = l[k].cells ++ nds (l.drop (k + 1))
  | [], k, h => by simp at h
  | x :: r, 0, h => rfl
  | x :: r, k + 1, h => by
    rw [show 6 * (k + 1) = 6 * k + 6 by omega]
    simp only [nds, Nd.cells, List.drop_succ_cons, List.cons_append, List.nil_append]
    rw [nds_drop' (l := r) (k := k) (by simpa using h)]
    simp [Nd.cells]
theorem infs_len : ∀ l : List (Int × Int), (infs l).length = 2 * l.length
  | [] => rfl
  | x :: r => by simp [infs, infs_len r]; omega
theorem nds_at {l : List Nd} {k : Nat} (h : k < l.length) : (nds l).drop (k * 6) = i64 l[k].k :: i64 l[k].p :: i64 l[k].i :: sl l[k].nx :: sl l[k].ws :: sl l[k].ps :: nds (l.drop (k + 1)) := by
  rw [Nat.mul_comm, nds_drop' h]; rfl
theorem nds_min {l : List Nd} {k : Nat} (h : k < l.length) : min 6 ((nds l).length - k * 6) = 6 := by rw [nds_len]; omega
theorem nds_ge {l : List Nd} {k : Nat} (h : k < l.length) : 6 ≤ (nds l).length - k * 6 := by rw [nds_len]; omega
theorem infs_at {l : List (Int × Int)} {k : Nat} (h : k < l.length) : (infs l).drop (k * 2) = i64 l[k].1 :: i64 l[k].2 :: infs (l.drop (k + 1)) := by
  rw [Nat.mul_comm, infs_drop h]
theorem infs_min {l : List (Int × Int)} {k : Nat} (h : k < l.length) : min 2 ((infs l).length - k * 2) = 2 := by rw [infs_len]; omega
theorem infs_ge {l : List (Int × Int)} {k : Nat} (h : k < l.length) : 2 ≤ (infs l).length - k * 2 := by rw [infs_len]; omega
section
variable {H : List AO} {j : Nat} {g : Gm} {a b c : SV}
set_option maxRecDepth 10000 in
theorem loop64_0 (h : Wk H j g a b c) (hg : Gd g) {N : Nat} {K : XE → Env → List AO → Prop}
    (hexit : ∀ env M, env.get 0 = .ptr (.own j 0 0 0 0) 0 → env.get 3 = .own H.length 0 g.is.length 1 0 → K (.exit 0) env (H ++ ro g.firsts :: M)) :
    ∀ (n : Nat) (env : Env) (M : List AO), n ≤ g.ns.length → env.get 0 = .ptr (.own j 0 0 0 0) 0 → env.get 3 = .own H.length 0 g.is.length 1 0 → env.get 4 = i64 ((n : Int) - 1) →
      LI Try.prog N drawB l80_0 env (H ++ ro (fst1 (g.ns.drop n) n (List.replicate g.is.length 0)) :: M) K := by
  intro n
  induction n with
  | zero =>
    intro env M hi h0 h3 h4
    refine li_go hm l80_0.eq_1 ?_
    simp -implicitDefEqProofs [h0, h3, h4]
    exact hexit _ _ (by simp [h0]) (by simp [h3])
  | succ n ih =>
    intro env M hi h0 h3 h4
    refine li_go hm l80_0.eq_1 ?_
    have hn := hg.n
    have hx : g.ns[n] ∈ g.ns := List.getElem_mem hi
    have w1 : IntKind.i64.wrap (n : Int) = n := wrap_nat (by omega)
    have e : ((n + 1 : Nat) : Int) - 1 = n := by omega
    rw [e] at h4
    have w2 : IntKind.i64.wrap ((n : Int) + 1) = ((n + 1 : Nat) : Int) := wrap_succ (by omega)
    have w3 : IntKind.i64.wrap ((n : Int) - 1) = (n : Int) - 1 := wrap_id (by omega) (by omega)
    by_cases hk : g.ns[n].k = 2
    · have hb := hg.inf hx hk
      have e7 : fst1 (g.ns.drop n) n (List.replicate g.is.length 0) = (fst1 (g.ns.drop (n + 1)) (n + 1) (List.replicate g.is.length 0)).set g.ns[n].i.toNat ((n + 1 : Nat) : Int) := by
        rw [List.drop_eq_getElem_cons hi, fst1, if_pos hk]; rfl
      rw [e7] at ih
      simp -implicitDefEqProofs [h0, h3, h4, (h.app _).o, hi, nds_at hi, nds_min hi, nds_ge hi, hk, sl, ro]
      refine ⟨by omega, by omega, by omega, ?_⟩
      rw [w2, ints_set (by simp; omega), w3]
      refine ih _ _ (by omega) ?_ ?_ ?_
      · simp
      · simp
      · simp
    · have e7 : fst1 (g.ns.drop n) n (List.replicate g.is.length 0) = fst1 (g.ns.drop (n + 1)) (n + 1) (List.replicate g.is.length 0) := by
        rw [List.drop_eq_getElem_cons hi, fst1, if_neg hk]
      rw [e7] at ih
      simp -implicitDefEqProofs [h0, h3, h4, (h.app _).o, hi, nds_at hi, nds_min hi, nds_ge hi, hk, sl]
      refine ⟨by omega, ?_⟩
      rw [w3]
      refine ih _ _ (by omega) ?_ ?_ ?_
      · simp
      · simp
      · simp
set_option maxRecDepth 10000 in
theorem loop64_1 (h : Wk H j g a b c) (hg : Gd g) {N : Nat} {K : XE → Env → List AO → Prop} {r : AO}
    (hret : (∃ x ∈ g.ns, x.tyBad g) → ∀ env M, env.get 2 = i64 10 → K .ret env (H ++ r :: M))
    (hexit : (¬ ∃ x ∈ g.ns, x.tyBad g) → ∀ env M, env.get 3 = .own H.length 0 g.is.length 1 0 → K (.exit 2) env (H ++ r :: M)) :
    ∀ (n i : Nat) (env : Env) (M : List AO), i + n = g.ns.length → (∀ k (h : k < g.ns.length), k < i → ¬ g.ns[k].tyBad g) → env.get 0 = .ptr (.own j 0 0 0 0) 0 → env.get 3 = .own H.length 0 g.is.length 1 0 →
      env.get 47 = .slc (nds g.ns) g.ns.length → env.get 48 = i64 g.ns.length → env.get 49 = i64 i → LI Try.prog N drawB l80_1 env (H ++ r :: M) K := by
  have hn := hg.n
  intro n
  induction n with
  | zero =>
    intro i env M hi hp h0 h3 h47 h48 h49
    refine li_go hm l80_1.eq_1 ?_
    have e : i = g.ns.length := by omega
    subst e
    simp -implicitDefEqProofs [h0, h3, h48, h49]
    refine hexit ?_ _ _ (by simp [h3])
    rintro ⟨x, hx, hb⟩
    obtain ⟨k, hk, rfl⟩ := List.getElem_of_mem hx
    exact hp k hk hk hb
  | succ n ih =>
    intro i env M hi hp h0 h3 h47 h48 h49
    refine li_go hm l80_1.eq_1 ?_
    have hlt : i < g.ns.length := by omega
    have hx : g.ns[i] ∈ g.ns := List.getElem_mem hlt
    have w1 : IntKind.i64.wrap ((i : Int) + 1) = ((i + 1 : Nat) : Int) := wrap_succ (by omega)
    by_cases hk : g.ns[i].k = 2
    · have hb := hg.inf hx hk
      have hb' : g.ns[i].i.toNat < g.is.length := by omega
      simp -implicitDefEqProofs [h0, h3, h47, h48, h49, (h.app _).o, hlt, nds_at hlt, nds_min hlt, nds_ge hlt, infs_at hb', infs_min hb', infs_ge hb', hk, sl]
      refine ⟨by omega, ?_⟩
      have hbad : (¬g.is[g.ns[i].i.toNat].fst = g.ns[i].p ∨ ¬g.is[g.ns[i].i.toNat].snd = (g.ns[i].nx.length : Int)) ↔ g.ns[i].tyBad g := by
        unfold Nd.tyBad
        rw [List.getElem?_eq_getElem hb']
        simp only [hk, true_and, ne_eq, Option.some.injEq]
        rw [← Prod.eta g.is[g.ns[i].i.toNat], Prod.mk.injEq]
        constructor
        · rintro (h | h) ⟨h1, h2⟩
          · exact h h1
          · exact h h2
        · intro h
          by_cases h1 : g.is[g.ns[i].i.toNat].fst = g.ns[i].p
          · exact .inr fun h2 => h ⟨h1, h2⟩
          · exact .inl h1
      split
      · rename_i hc
        exact hret ⟨_, hx, hbad.1 hc⟩ _ _ (by simp)
      · rename_i hc
        rw [w1]
        refine ih (i + 1) _ _ (by omega) ?_ ?_ ?_ ?_ ?_ ?_
        rotate_left
        · simp
        · simp
        · simp
        · simp
        · simp
        intro k hk hki
        by_cases e : k = i
        · subst e; exact fun hb => hc (hbad.2 hb)
        · exact hp k hk (by omega)
    · simp -implicitDefEqProofs [h0, h3, h47, h48, h49, (h.app _).o, hlt, nds_at hlt, nds_min hlt, nds_ge hlt, hk, sl]
      rw [w1]
      refine ih (i + 1) _ _ (by omega) ?_ ?_ ?_ ?_ ?_ ?_
      rotate_left
      · simp
      · simp
      · simp
      · simp
      · simp
      intro k hk' hki
      by_cases e : k = i
      · subst e; exact fun hb => hk hb.1
      · exact hp k hk' (by omega)
set_option maxRecDepth 10000 in
theorem ok80 (h : Wk H j g a b c) (hg : Gd g) : Ok Try.prog 80 [.ptr (.own j 0 0 0 0) 0] H (.ret (i64 g.setsE)) H := by
  have hn := hg.n
  have hi := hg.i
  have w1 : IntKind.i64.wrap ((g.ns.length : Int) - 1) = (g.ns.length : Int) - 1 := wrap_id (by omega) (by omega)
  refine ok_fn hm Try.func80 c80 (by simp [h.lt]) fun hcl => ?_
  simp -implicitDefEqProofs [i80, r80, h.o, (h.app _).o, w1]
  refine ⟨by omega, by omega, ?_⟩
  have e0 : [(⟨List.replicate g.is.length (i64 0), 3, 0, true⟩ : AO)] = ro (fst1 (g.ns.drop g.ns.length) g.ns.length (List.replicate g.is.length 0)) :: [] := by
    simp [ro, fst1, ints]
  rw [e0]
  refine loop64_0 h hg (fun env M h0 h3 => ?_) g.ns.length _ _ (Nat.le_refl _) (by simp) (by simp) (by simp)
  simp -implicitDefEqProofs [h0, h3, (h.app _).o]
  have hF : g.firsts.length = g.is.length := by simp [Gm.firsts]
  refine loop64_1 h hg (fun hb env M h2 => ?_) (fun hb env M h3 => ?_) g.ns.length 0 _ _ (by omega) (by omega) (by simp [h0]) (by simp [h3]) (by simp) (by simp) (by simp)
  · simp -implicitDefEqProofs [h2]
    refine cv_fz 1 hcl rfl ?_
    simp [Gm.setsE, if_pos hb]
  · have hI : ∀ M, IsI (H ++ ro g.firsts :: M) (.own H.length 0 g.is.length 1 0) g.firsts := fun M => by
      have := IsI.own0 H (ro g.firsts :: M) 0 0 g.firsts [] 3 (by simp [ro])
      rwa [hF] at this
    simp -implicitDefEqProofs [h3]
    refine call_go (ok87 (hI M) (by omega) 0) ?_
    by_cases h0 : 0 ∈ g.firsts
    · simp -implicitDefEqProofs [h0]
      refine cv_fz 1 hcl rfl ?_
      simp [Gm.setsE, if_neg hb, h0]
    · simp -implicitDefEqProofs [h0, h3]
      refine call_go (ok88 (hI M) (by omega)) ?_
      by_cases h1 : Srt g.firsts
      · simp -implicitDefEqProofs [h1]
        refine cv_fz 1 hcl rfl ?_
        simp [Gm.setsE, if_neg hb, h0, h1]
      · simp -implicitDefEqProofs [h1]
        refine cv_fz 1 hcl rfl ?_
        simp [Gm.setsE, if_neg hb, h0, h1]
end
end Go.Proofs.Ytoghpbjllompaaa.Rc

/- Q8 -/
namespace Go.Proofs.Ytoghpbjllompaaa.Rc
open Go.Ab
def Gm.rng (g : Gm) : Prop := ((((g.pl < 1 ∨ 4 < g.pl) ∨ (g.ns.length : Int) < 1) ∨ 2000 < (g.ns.length : Int)) ∨ 200 < (g.is.length : Int))
instance (g : Gm) : Decidable g.rng := by unfold Gm.rng; infer_instance
def nodesE (g : Gm) : List Nd → Int
  | [] => 0
  | x :: r => if x.err g = 0 then nodesE g r else x.err g
def Gm.w0 (g : Gm) : W3 := ⟨List.replicate g.ns.length 0, List.replicate g.ns.length 0, List.replicate g.ns.length 0⟩
def Gm.wk (g : Gm) : Option Nat × W3 := walkS g.ns (g.ns.length + 1) (-1) 0 0 g.w0
/-- The error before the sets are looked at. -/
def Gm.err0 (g : Gm) : Int := if g.rng then 2 else if nodesE g g.ns ≠ 0 then nodesE g g.ns else if g.wk.1 ≠ some g.ns.length then 9 else if 40 < maxL g.wk.2.D then 5 else 0
/-- The walker that is found. -/
def Gm.wp (g : Gm) : SV := .ptr (.slc [i64 g.pl, .slc (nds g.ns) g.ns.length, .slc (infs g.is) g.is.length, sl g.wk.2.P, sl g.wk.2.D, sl g.wk.2.L] 0) 0
def Gm.walked (g : Gm) : SV := if g.err0 ≠ 0 then .tup [.val (.pointer none), i64 g.err0] else .tup [g.wp, i64 g.setsE]
def gbox (g : Gm) : AO := ⟨[i64 g.pl, .slc (nds g.ns) g.ns.length, .slc (infs g.is) g.is.length], 25, 0, true⟩
def wbox (g : Gm) (a b c : SV) : AO := ⟨[i64 g.pl, .slc (nds g.ns) g.ns.length, .slc (infs g.is) g.is.length, a, b, c], 126, 0, true⟩
abbrev nl : SV := .val (.slice none 0 0)
theorem nds_under (n : Nat) : ∀ l : List Nd, SV.underL n (nds l) = true
  | [] => rfl
  | x :: r => by rw [nds, SV.underL_append, nds_under n r]; simp [Nd.cells, sl]
theorem infs_under (n : Nat) : ∀ l : List (Int × Int), SV.underL n (infs l) = true
  | [] => rfl
  | x :: r => by simp [infs, infs_under n r]
theorem fz_mapU {n : Nat} {ks : List Nat} {L : List AO} {d : Nat} {l : List SV} (h : SV.underL n l = true) : l.map (SV.fz n ks L (d + 1)) = l := by
  rw [SV.underL_iff] at h
  conv => rhs; rw [← List.map_id l]
  exact List.map_congr_left fun x hx => fz_under (h x hx)
@[simp] theorem fz_nds (n : Nat) (ks : List Nat) (L : List AO) (d : Nat) (l : List Nd) : (nds l).map (SV.fz n ks L (d + 1)) = nds l := fz_mapU (nds_under n l)
@[simp] theorem fz_infs (n : Nat) (ks : List Nat) (L : List AO) (d : Nat) (l : List (Int × Int)) : (infs l).map (SV.fz n ks L (d + 1)) = infs l := fz_mapU (infs_under n l)
section
variable {H : List AO} {g : Gm}
theorem wk_box {M : List AO} {a b c : SV} : Wk (H ++ gbox g :: wbox g a b c :: M) (H.length + 1) g a b c := ⟨by simp [wbox], by simp⟩
set_option maxRecDepth 10000 in
theorem loop38_0 (h1 : 1 ≤ g.pl) (h4 : g.pl ≤ 4) (h5 : g.is.length ≤ 200) (hn : g.ns.length ≤ 2000) {N : Nat} {K : XE → Env → List AO → Prop}
    (hret : nodesE g g.ns ≠ 0 → ∀ env M, env.get 2 = .val (.pointer none) → env.get 3 = i64 (nodesE g g.ns) → K .ret env (H ++ gbox g :: wbox g nl nl nl :: M))
    (hexit : (∀ x ∈ g.ns, x.err g = 0) → nodesE g g.ns = 0 → ∀ env M, env.get 1 = .ptr (.own H.length 0 0 0 0) 0 → env.get 4 = .ptr (.own (H.length + 1) 0 0 0 0) 0 → K (.exit 0) env (H ++ gbox g :: wbox g nl nl nl :: M)) :
    ∀ (n i : Nat) (env : Env) (M : List AO), i + n = g.ns.length → (∀ k (h : k < g.ns.length), k < i → g.ns[k].err g = 0) → nodesE g (g.ns.drop i) = nodesE g g.ns →
      env.get 1 = .ptr (.own H.length 0 0 0 0) 0 → env.get 4 = .ptr (.own (H.length + 1) 0 0 0 0) 0 → env.get 40 = .slc (nds g.ns) g.ns.length → env.get 41 = i64 g.ns.length → env.get 42 = i64 i →
      LI Try.prog N drawB l64_0 env (H ++ gbox g :: wbox g nl nl nl :: M) K := by
  intro n
  induction n with
  | zero =>
    intro i env M hi hp hE h1 h4 h40 h41 h42
    refine li_go hm l64_0.eq_1 ?_
    have e : i = g.ns.length := by omega
    subst e
    simp -implicitDefEqProofs [h41, h42]
    rw [List.drop_length] at hE
    refine hexit ?_ hE.symm _ _ (by simp [h1]) (by simp [h4])
    intro x hx
    obtain ⟨k, hk, rfl⟩ := List.getElem_of_mem hx
    exact hp k hk hk
  | succ n ih =>
    intro i env M hi hp hE e1 e4 h40 h41 h42
    refine li_go hm l64_0.eq_1 ?_
    have hlt : i < g.ns.length := by omega
    have w1 : IntKind.i64.wrap ((i : Int) + 1) = ((i + 1 : Nat) : Int) := wrap_succ (by omega)
    rw [List.drop_eq_getElem_cons hlt, nodesE] at hE
    simp -implicitDefEqProofs [e1, e4, h40, h41, h42, hlt, nds_at hlt, nds_min hlt, nds_ge hlt, sl]
    refine call_go (ok77 (x := g.ns[i]) (wk_box (g := g) (a := nl) (b := nl) (c := nl)) h1 h4 h5) ?_
    by_cases hc : g.ns[i].err g = 0
    · rw [if_pos hc] at hE
      simp -implicitDefEqProofs [hc, h42]
      rw [w1]
      refine ih (i + 1) _ _ (by omega) ?_ hE ?_ ?_ ?_ ?_ ?_
      rotate_left
      · simp [e1]
      · simp [e4]
      · simp [h40]
      · simp [h41]
      · simp
      intro k hk hki
      by_cases e : k = i
      · subst e; exact hc
      · exact hp k hk (by omega)
    · rw [if_neg hc] at hE
      simp -implicitDefEqProofs [hc]
      refine hret ?_ _ _ (by simp) (by simp [hE])
      rw [← hE]; exact hc
theorem nx_of {x : Nd} (h : x.err g = 0) : x.nx.length ≤ 60 := by
  unfold Nd.err at h
  split at h
  · omega
  · split at h
    · unfold Nd.chance at h
      split at h <;> omega
    · split at h
      · unfold Nd.move at h
        split at h <;> omega
      · unfold Nd.end at h
        split at h <;> omega
theorem upd_rows {M : List AO} {A B x y z : AO} {s : W3} :
    upd (H ++ A :: B :: (M ++ [x, y, z])) (H.length + (M.length + 1 + 1)) (H.length + (M.length + 1 + 1 + 1)) (H.length + (M.length + 1 + 1 + 1 + 1)) s = H ++ A :: B :: (M ++ [rr s.P, rr s.D, rr s.L]) := by
  simp [upd]
set_option maxRecDepth 10000 in
theorem ok64 : Ok Try.prog 64 [.agg g.cells] H (.ret g.walked) H := by
  refine ok_fn hm Try.func64 c64 (by simp [Gm.cells]) fun hcl => ?_
  simp -implicitDefEqProofs [i64x, r64, Gm.cells]
  have hR : g.rng = (((((g.pl < 1 ∨ 4 < g.pl) ∨ (g.ns.length : Int) < 1) ∨ 2000 < (g.ns.length : Int)) ∨ 200 < (g.is.length : Int))) := rfl
  split
  · rename_i hc
    refine cv_fz 2 hcl rfl ?_
    simp [Gm.walked, Gm.err0, hR, hc]
  · rename_i hc
    refine ⟨rfl, ?_⟩
    have g1 : 1 ≤ g.pl := by omega
    have g4 : g.pl ≤ 4 := by omega
    have gi : g.is.length ≤ 200 := by omega
    have gn : g.ns.length ≤ 2000 := by omega
    have gn1 : 1 ≤ g.ns.length := by omega
    refine loop38_0 (g := g) g1 g4 gi gn (fun hE env M e2 e3 => ?_) (fun hE hE' env M e1 e4 => ?_) g.ns.length 0 _ [] (by omega) (by omega) (by simp) (by simp) (by simp) (by simp) (by simp) (by simp)
    · simp -implicitDefEqProofs [e2, e3]
      refine cv_fz 2 hcl rfl ?_
      simp [Gm.walked, Gm.err0, hR, hc, hE]
    · have hG : Gd g := ⟨g1, g4, gn1, gn, gi, hE⟩
      simp -implicitDefEqProofs [e1, e4, gbox, wbox]
      refine ⟨by omega, by omega, by omega, by omega, by omega, by omega, ?_⟩
      have ez : (⟨List.replicate g.ns.length (i64 0), 3, 1, true⟩ : AO) = rr (List.replicate g.ns.length 0) := by simp [rr, ints]
      rw [ez]
      generalize hHx : H ++ (⟨[i64 g.pl, SV.slc (nds g.ns) g.ns.length, SV.slc (infs g.is) g.is.length], 25, 0, true⟩ : AO) :: (⟨[i64 g.pl, SV.slc (nds g.ns) g.ns.length, SV.slc (infs g.is) g.is.length,
        SV.own (H.length + (M.length + 1 + 1)) 0 g.ns.length 1 1, SV.own (H.length + (M.length + 1 + 1 + 1)) 0 g.ns.length 1 1, SV.own (H.length + (M.length + 1 + 1 + 1 + 1)) 0 g.ns.length 1 1], 126, 0, true⟩ : AO) ::
          (M ++ [rr (List.replicate g.ns.length 0), rr (List.replicate g.ns.length 0), rr (List.replicate g.ns.length 0)]) = Hx
      have hup : ∀ s, upd Hx (H.length + (M.length + 1 + 1)) (H.length + (M.length + 1 + 1 + 1)) (H.length + (M.length + 1 + 1 + 1 + 1)) s =
          H ++ gbox g :: wbox g (.own (H.length + (M.length + 1 + 1)) 0 g.ns.length 1 1) (.own (H.length + (M.length + 1 + 1 + 1)) 0 g.ns.length 1 1) (.own (H.length + (M.length + 1 + 1 + 1 + 1)) 0 g.ns.length 1 1) :: (M ++ [rr s.P, rr s.D, rr s.L]) :=
        fun s => by rw [← hHx]; exact upd_rows
      have h0 : upd Hx (H.length + (M.length + 1 + 1)) (H.length + (M.length + 1 + 1 + 1)) (H.length + (M.length + 1 + 1 + 1 + 1)) g.w0 = Hx := by rw [hup, ← hHx]; rfl
      have hWh : Wh Hx (H.length + 1) g (H.length + (M.length + 1 + 1)) (H.length + (M.length + 1 + 1 + 1)) (H.length + (M.length + 1 + 1 + 1 + 1)) := by
        refine ⟨⟨by rw [← hHx]; simp, by rw [← hHx]; simp⟩, ⟨by omega, by omega, by rw [← hHx]; simp⟩, by omega, by omega, by omega, gn, fun x hx => ?_⟩
        have := nx_of (hE x hx); omega
      have ok := ok78 hWh (g.ns.length + 1) (-1) 0 0 g.w0 (by omega) (by omega) (by omega) (by omega) ⟨by simp [Gm.w0], by simp [Gm.w0], by simp [Gm.w0]⟩
      have hwok := walkS_ok (ns := g.ns) (g.ns.length + 1) (-1) 0 0 g.w0 ⟨by simp [Gm.w0], by simp [Gm.w0], by simp [Gm.w0]⟩
      rw [h0] at ok
      refine call_go ok ?_
      have hW : walkS g.ns (g.ns.length + 1) (-1) 0 0 g.w0 = g.wk := rfl
      rw [hW] at hwok ⊢
      have hwp : g.walked = if (if g.wk.1 ≠ some g.ns.length then (9 : Int) else if 40 < maxL g.wk.2.D then 5 else 0) ≠ 0 then .tup [.val (.pointer none), i64 (if g.wk.1 ≠ some g.ns.length then (9 : Int) else if 40 < maxL g.wk.2.D then 5 else 0)] else .tup [g.wp, i64 g.setsE] := by
        unfold Gm.walked Gm.err0
        rw [if_neg (show ¬ g.rng by rw [hR]; exact hc), if_neg (show ¬ nodesE g g.ns ≠ 0 by simpa using hE')]
      cases hk : g.wk.1 with
      | none =>
        rw [hk] at hwp
        simp -implicitDefEqProofs [resW]
        rw [hup]
        refine cv_fz 2 hcl rfl ?_
        rw [hwp]; simp
      | some r =>
        rw [hk] at hwp hwok
        have hr := hwok.2 r rfl
        by_cases hrn : r = g.ns.length
        · subst hrn
          simp -implicitDefEqProofs [resW, nds, e1, e4, hWh.cells]
          have hI : IsI (upd Hx (H.length + (M.length + 1 + 1)) (H.length + (M.length + 1 + 1 + 1)) (H.length + (M.length + 1 + 1 + 1 + 1)) g.wk.2) (.own (H.length + (M.length + 1 + 1 + 1)) 0 g.ns.length 1 1) g.wk.2.D := by
            rw [hup]
            have := IsI.own0 H (gbox g :: wbox g (.own (H.length + (M.length + 1 + 1)) 0 g.ns.length 1 1) (.own (H.length + (M.length + 1 + 1 + 1)) 0 g.ns.length 1 1) (.own (H.length + (M.length + 1 + 1 + 1 + 1)) 0 g.ns.length 1 1) :: (M ++ [rr g.wk.2.P, rr g.wk.2.D, rr g.wk.2.L])) (M.length + 1 + 1 + 1) 1 g.wk.2.D [] 3 (by simp [rr])
            rwa [hwok.1.2.1] at this
          refine call_go (ok79 hI (by rw [hwok.1.2.1]; omega) (by rw [hwok.1.2.1]; omega)) ?_
          by_cases hm40 : 40 < maxL g.wk.2.D
          · simp -implicitDefEqProofs [hm40]
            rw [hup]
            refine cv_fz 2 hcl rfl ?_
            rw [hwp]; simp [hm40]
          · simp -implicitDefEqProofs [hm40, e1, e4]
            have hWk : Wk (upd Hx (H.length + (M.length + 1 + 1)) (H.length + (M.length + 1 + 1 + 1)) (H.length + (M.length + 1 + 1 + 1 + 1)) g.wk.2) (H.length + 1) g _ _ _ := ⟨hWh.cells _, by rw [upd_len]; exact hWh.w.lt⟩
            refine call_go (ok80 hWk hG) ?_
            simp -implicitDefEqProofs
            rw [hup]
            refine cv_fz 4 hcl rfl ?_
            rw [hwp]
            have k1 := hwok.1.1
            have k2 := hwok.1.2.1
            have k3 := hwok.1.2.2
            simp [hm40, gbox, wbox, rr, Gm.wp, sl, k1, k2, k3]
        · simp -implicitDefEqProofs [resW, show ¬ g.ns.length - r = 0 by omega, show 0 < g.ns.length - r by omega]
          rw [hup]
          refine cv_fz 2 hcl rfl ?_
          rw [hwp]; simp [hrn]
end
end Go.Proofs.Ytoghpbjllompaaa.Rc

/- Q9 -/
namespace Go.Proofs.Ytoghpbjllompaaa.Rc
open Go.Ab
def kidsR (w : Nat → Int → Option Nat × Int) : List Int → Nat → Int → Option Nat × Int
  | [], r, m => (some r, m)
  | c :: cs, r, m => if c = r then (match w r m with | (none, m) => (none, m) | (some r, m) => kidsR w cs r m) else (none, m)
def walkR (ns : List Nd) : Nat → Int → Nat → Int → Option Nat × Int
  | 0, _, _, m => (none, m)
  | f + 1, dep, k, m =>
    match ns[k]? with
    | none => (none, m)
    | some x => kidsR (walkR ns f (dep + 1)) x.nx (k + 1) (max m dep)
section
variable {H L : List AO} {g : Gm} {q j : Nat} {m m' : Int}
end
end Go.Proofs.Ytoghpbjllompaaa.Rc

/- Q10 -/
namespace Go.Proofs.Ytoghpbjllompaaa.Rc
open Go.Ab
def slN (l : List Int) : SV := if l = [] then nl else sl l
/-- Rows of our own, one for each list that is not empty. -/
structure Fam (b : Nat) (L : List AO) (A : List (List Int)) (cs : List SV) : Prop where
  len : cs.length = A.length
  at' : ∀ s (h : s < A.length), (A[s] = [] ∧ cs[s]? = some nl) ∨ (A[s] ≠ [] ∧ ∃ p, cs[s]? = some (.own (b + p) 0 A[s].length 1 A[s].length) ∧ L[p]? = some ⟨ints A[s], 3, A[s].length, true⟩)
  inj : ∀ (s t p m n v w : Nat), s ≠ t → cs[s]? = some (.own (b + p) 0 m 1 v) → cs[t]? = some (.own (b + p) 0 n 1 w) → False
section
variable {b : Nat} {L L' : List AO} {A : List (List Int)} {cs : List SV} {s : Nat} {i : Int}
theorem Fam.zero (b : Nat) (L : List AO) (n : Nat) : Fam b L (List.replicate n []) (List.replicate n nl) := by
  refine ⟨by simp, fun s h => .inl ?_, fun s t p m n v w hst h1 h2 => ?_⟩
  · simp at h; simp [h]
  · rw [List.getElem?_replicate] at h1
    split at h1 <;> cases h1
theorem Fam.mono (h : Fam b L A cs) (L' : List AO) : Fam b (L ++ L') A cs := by
  refine ⟨h.len, fun s hs => ?_, h.inj⟩
  rcases h.at' s hs with h1 | ⟨h1, p, h2, h3⟩
  · exact .inl h1
  · exact .inr ⟨h1, p, h2, by rw [List.getElem?_append_left (getElem?_lt h3)]; exact h3⟩
theorem Fam.new (h : Fam b L A cs) (hs : s < A.length) (he : A[s] = []) : Fam b (L ++ [⟨ints [i], 3, 1, true⟩]) (A.set s [i]) (cs.set s (.own (b + L.length) 0 1 1 1)) := by
  have hl := h.len
  have hnew : ∀ t (n w : Nat), t < A.length → cs[t]? = some (.own (b + L.length) 0 n 1 w) → False := by
    intro t n w ht hc
    rcases h.at' t ht with ⟨_, h1⟩ | ⟨_, p, h2, h3⟩
    · rw [h1] at hc; cases hc
    · rw [h2] at hc
      have hp := getElem?_lt h3
      simp only [Option.some.injEq, SV.own.injEq] at hc
      omega
  refine ⟨by simp [hl], fun t ht => ?_, fun t u p m n v w htu h1 h2 => ?_⟩
  · by_cases e : s = t
    · subst e
      refine .inr ⟨by simp, L.length, ?_, by simp⟩
      rw [List.getElem?_set_self (by omega)]; simp
    · have ht' : t < A.length := by simpa using ht
      rw [List.getElem?_set_ne e]
      simp only [List.getElem_set_ne e]
      rcases h.at' t ht' with h1 | ⟨h1, p, h2, h3⟩
      · exact .inl h1
      · exact .inr ⟨h1, p, h2, by rw [List.getElem?_append_left (getElem?_lt h3)]; exact h3⟩
  · by_cases e : s = t
    · subst e
      rw [List.getElem?_set_self (by omega)] at h1
      rw [List.getElem?_set_ne htu] at h2
      have hu : u < A.length := by have := getElem?_lt h2; omega
      simp only [Option.some.injEq, SV.own.injEq] at h1
      have : p = L.length := by omega
      subst this
      exact hnew u _ _ hu h2
    · rw [List.getElem?_set_ne e] at h1
      by_cases e' : s = u
      · subst e'
        rw [List.getElem?_set_self (by omega)] at h2
        have ht : t < A.length := by have := getElem?_lt h1; omega
        simp only [Option.some.injEq, SV.own.injEq] at h2
        have : p = L.length := by omega
        subst this
        exact hnew t _ _ ht h1
      · rw [List.getElem?_set_ne e'] at h2
        exact h.inj t u p m n v w htu h1 h2
theorem Fam.grow (h : Fam b L A cs) (hs : s < A.length) {p : Nat} (hc : cs[s]? = some (.own (b + p) 0 A[s].length 1 A[s].length)) (hp : L[p]? = some ⟨ints A[s], 3, A[s].length, true⟩) :
    Fam b (L.set p ⟨ints (A[s] ++ [i]), 3, A[s].length + 1, true⟩) (A.set s (A[s] ++ [i])) (cs.set s (.own (b + p) 0 (A[s].length + 1) 1 (A[s].length + 1))) := by
  have hl := h.len
  have hpl := getElem?_lt hp
  refine ⟨by simp [hl], fun t ht => ?_, fun t u q m n v w htu h1 h2 => ?_⟩
  · by_cases e : s = t
    · subst e
      refine .inr ⟨by simp, p, ?_, ?_⟩
      · rw [List.getElem?_set_self (by omega)]; simp
      · rw [List.getElem?_set_self hpl]; simp
    · have ht' : t < A.length := by simpa using ht
      rw [List.getElem?_set_ne e]
      simp only [List.getElem_set_ne e]
      rcases h.at' t ht' with h1 | ⟨h1, q, h2, h3⟩
      · exact .inl h1
      · refine .inr ⟨h1, q, h2, ?_⟩
        rw [List.getElem?_set_ne (fun hqp => ?_)]; exact h3
        subst hqp
        exact h.inj s t p _ _ _ _ e hc h2
  · by_cases e : s = t
    · subst e
      rw [List.getElem?_set_self (by omega)] at h1
      rw [List.getElem?_set_ne htu] at h2
      simp only [Option.some.injEq, SV.own.injEq] at h1
      have : q = p := by omega
      subst this
      exact h.inj s u q _ _ _ _ htu hc h2
    · rw [List.getElem?_set_ne e] at h1
      by_cases e' : s = u
      · subst e'
        rw [List.getElem?_set_self (by omega)] at h2
        simp only [Option.some.injEq, SV.own.injEq] at h2
        have : q = p := by omega
        subst this
        exact h.inj s t q _ _ _ _ (fun h => e h) hc h1
      · rw [List.getElem?_set_ne e'] at h2
        exact h.inj t u q m n v w htu h1 h2
theorem Fam.fz (h : Fam b L A cs) {n k d : Nat} {F : List AO} (hb : b = n + k) (hF : ∀ p, F[k + p]? = L[p]?) : cs.map (SV.fz n [] F (d + 2)) = A.map slN := by
  apply List.ext_getElem?
  intro s
  rw [List.getElem?_map, List.getElem?_map]
  by_cases hs : s < A.length
  · rw [List.getElem?_eq_getElem hs]
    rcases h.at' s hs with ⟨h1, h2⟩ | ⟨h1, p, h2, h3⟩
    · rw [h2]; simp [slN, h1, nl]
    · rw [h2]
      have e : b + p = n + (k + p) := by omega
      simp only [Option.map_some, slN, if_neg h1, sl, e, fz_own, hF, h3, placeOf]
      simp
  · have h1 := h.len
    rw [List.getElem?_eq_none (by omega), List.getElem?_eq_none (by omega)]
    rfl
end
def setsA : List Nd → Nat → List (List Int) → List (List Int)
  | [], _, A => A
  | x :: r, o, A => setsA r (o + 1) (if x.k = 2 then A.set x.i.toNat (A.getD x.i.toNat [] ++ [(o : Int)]) else A)
def Gm.sets (g : Gm) : List (List Int) := setsA g.ns 0 (List.replicate g.is.length [])
section
variable {H : List AO} {g : Gm}
theorem setsA_len : ∀ (l : List Nd) (o : Nat) (A : List (List Int)), (setsA l o A).length = A.length
  | [], o, A => rfl
  | x :: r, o, A => by rw [setsA, setsA_len r]; split <;> simp
theorem sets_len : g.sets.length = g.is.length := by simp [Gm.sets, setsA_len]
end
end Go.Proofs.Ytoghpbjllompaaa.Rc

/- Q11 -/
namespace Go.Proofs.Ytoghpbjllompaaa.Rc
open Go.Ab
def Gm.wr (g : Gm) : Option Nat × Int := walkR g.ns (g.ns.length + 1) 0 0 0
def SrtS (A : List (List Int)) : Prop := ∀ k, k < A.length - 1 → ¬ (A.getD (k + 1) []).getD 0 0 < (A.getD k []).getD 0 0
instance (A : List (List Int)) : Decidable (SrtS A) := by unfold SrtS; infer_instance
def Gm.setsR (g : Gm) : Int := if ∃ x ∈ g.ns, x.tyBad g then 10 else if [] ∈ g.sets then 18 else if SrtS g.sets then 0 else 9
def Gm.formR (g : Gm) : Int := if g.rng then 2 else if nodesE g g.ns ≠ 0 then nodesE g g.ns else if g.wr.1 ≠ some g.ns.length then 9 else if 40 < g.wr.2 then 5 else g.setsR
theorem infs_g1 {l : List (Int × Int)} {k : Nat} (h : k < l.length) : (infs l)[k * 2 + 1]? = some (i64 l[k].2) := by
  rw [← List.getElem?_drop, infs_at h]; rfl
section
variable {H : List AO} {g : Gm}
end
end Go.Proofs.Ytoghpbjllompaaa.Rc

/- Q12 -/
namespace Go.Proofs.Ytoghpbjllompaaa.Rc
open Go.Ab
theorem maxL_le {l : List Int} (h : 0 < l.length) {x : Int} : maxL l ≤ x ↔ ∀ i, i < l.length → l.getD i 0 ≤ x := by
  have hf : ∀ (r : List Int) (a : Int), r.foldl max a ≤ x ↔ a ≤ x ∧ ∀ y ∈ r, y ≤ x := by
    intro r
    induction r with
    | nil => intro a; simp
    | cons y r ih =>
      intro a
      rw [List.foldl_cons, ih]
      simp only [List.mem_cons, forall_eq_or_imp]
      constructor
      · rintro ⟨h1, h2⟩; exact ⟨by omega, by omega, h2⟩
      · rintro ⟨h1, h2, h3⟩; exact ⟨by omega, h3⟩
  cases l with
  | nil => simp at h
  | cons y r =>
    rw [maxL, List.tail_cons, List.headD_cons, hf]
    constructor
    · rintro ⟨h1, h2⟩ i hi
      cases i with
      | zero => simpa using h1
      | succ i =>
        have hi' : i < r.length := by simpa using hi
        have := h2 _ (List.getElem_mem hi')
        simpa [List.getD_eq_getElem?_getD, hi'] using this
    · intro h1
      refine ⟨by simpa using h1 0 (by simp), fun y hy => ?_⟩
      obtain ⟨k, hk, rfl⟩ := List.getElem_of_mem hy
      have := h1 (k + 1) (by simpa using hk)
      simpa [List.getD_eq_getElem?_getD, hk] using this
def MxR (D : List Int) (a b : Nat) (m m' : Int) : Prop := ∀ x, m' ≤ x ↔ (m ≤ x ∧ ∀ i, a ≤ i → i < b → D.getD i 0 ≤ x)
theorem kids_rel {n : Nat} {w : Nat → W3 → Option Nat × W3} {v : Nat → Int → Option Nat × Int} (hok : ∀ r s, s.ok n → (w r s).2.ok n ∧ ∀ r', (w r s).1 = some r' → r < r' ∧ r' ≤ n)
    (h : ∀ r s m, s.ok n → (w r s).1 = (v r m).1 ∧ ∀ r', (w r s).1 = some r' → (∀ i, i < r → (w r s).2.D.getD i 0 = s.D.getD i 0) ∧ MxR (w r s).2.D r r' m (v r m).2) :
    ∀ (l : List Int) (r : Nat) (s : W3) (m : Int), s.ok n → (kids w l r s).1 = (kidsR v l r m).1 ∧ ∀ r', (kids w l r s).1 = some r' → (∀ i, i < r → (kids w l r s).2.D.getD i 0 = s.D.getD i 0) ∧ MxR (kids w l r s).2.D r r' m (kidsR v l r m).2
  | [], r, s, m, hs => by
    refine ⟨rfl, fun r' h' => ⟨fun _ _ => rfl, fun x => ?_⟩⟩
    simp only [kids, Option.some.injEq] at h'
    subst h'
    simp only [kidsR]
    exact ⟨fun h => ⟨h, fun i h1 h2 => by omega⟩, fun h => h.1⟩
  | c :: cs, r, s, m, hs => by
    unfold kids kidsR
    by_cases hc : c = r
    · rw [if_pos hc, if_pos hc]
      obtain ⟨h1, h2⟩ := h r s m hs
      have h3 := hok r s hs
      cases hw : w r s with
      | mk o s1 =>
        cases hv : v r m with
        | mk o' m1 =>
          rw [hw, hv] at h1
          rw [hw] at h2 h3
          rw [hv] at h2
          simp only at h1
          subst h1
          cases o with
          | none => exact ⟨rfl, fun r' h' => by simp at h'⟩
          | some r1 =>
            obtain ⟨h4, h5⟩ := h2 r1 rfl
            have h6 := h3.2 r1 rfl
            obtain ⟨h7, h8⟩ := kids_rel hok h cs r1 s1 m1 h3.1
            refine ⟨h7, fun r' h' => ?_⟩
            obtain ⟨h9, h10⟩ := h8 r' h'
            refine ⟨fun i hi => ?_, fun x => ?_⟩
            · simp only
              rw [h9 i (by omega)]; exact h4 i hi
            · simp only
              rw [h10 x, h5 x]
              constructor
              · rintro ⟨⟨k1, k2⟩, k3⟩
                refine ⟨k1, fun i h1 h2 => ?_⟩
                by_cases hi : i < r1
                · rw [h9 i hi]; exact k2 i h1 hi
                · exact k3 i (by omega) h2
              · rintro ⟨k1, k2⟩
                have hr' : r1 ≤ r' := (kids_ok (m := 0) (fun r s _ hs => hok r s hs) cs r1 s1 (by omega) h6.2 h3.1).2 r' h' |>.1
                refine ⟨⟨k1, fun i h1 h2 => ?_⟩, fun i h1 h2 => k2 i (by omega) h2⟩
                have := k2 i h1 (by omega)
                rwa [h9 i h2] at this
    · rw [if_neg hc, if_neg hc]
      exact ⟨rfl, fun r' h' => by simp at h'⟩
theorem getD_set_ne {l : List Int} {i k : Nat} {v : Int} (h : i ≠ k) : (l.set k v).getD i 0 = l.getD i 0 := by
  rw [List.getD_eq_getElem?_getD, List.getD_eq_getElem?_getD, List.getElem?_set_ne (fun e => h e.symm)]
theorem getD_set_eq {l : List Int} {k : Nat} {v : Int} (h : k < l.length) : (l.set k v).getD k 0 = v := by
  rw [List.getD_eq_getElem?_getD, List.getElem?_set_self h]; rfl
theorem walk_rel {ns : List Nd} : ∀ (f : Nat) (par dep : Int) (k : Nat) (s : W3) (m : Int), s.ok ns.length →
    (walkS ns f par dep k s).1 = (walkR ns f dep k m).1 ∧ ∀ r, (walkS ns f par dep k s).1 = some r →
      ((∀ i, i < k → (walkS ns f par dep k s).2.D.getD i 0 = s.D.getD i 0) ∧ MxR (walkS ns f par dep k s).2.D k r m (walkR ns f dep k m).2) ∧ (walkS ns f par dep k s).2.D.getD k 0 = dep
  | 0, par, dep, k, s, m, hs => ⟨rfl, fun r h => by simp [walkS] at h⟩
  | f + 1, par, dep, k, s, m, hs => by
    unfold walkS walkR
    cases hk : ns[k]? with
    | none => exact ⟨rfl, fun r h => by simp at h⟩
    | some x =>
      have hlt := getElem?_lt hk
      have hs' : W3.ok ⟨s.P.set k par, s.D.set k dep, s.L⟩ ns.length := ⟨by simpa using hs.1, by simpa using hs.2.1, hs.2.2⟩
      have hr := kids_rel (n := ns.length) (w := walkS ns f k (dep + 1)) (v := walkR ns f (dep + 1)) (fun r s hs => walkS_ok f k (dep + 1) r s hs)
        (fun r s m hs => ⟨(walk_rel f k (dep + 1) r s m hs).1, fun r' h => ((walk_rel f k (dep + 1) r s m hs).2 r' h).1⟩) x.nx (k + 1) ⟨s.P.set k par, s.D.set k dep, s.L⟩ (max m dep) hs'
      have hk2 := kids_ok (n := ns.length) (w := walkS ns f k (dep + 1)) (m := 0) (fun r s _ hs => walkS_ok f k (dep + 1) r s hs) x.nx (k + 1) ⟨s.P.set k par, s.D.set k dep, s.L⟩ (by omega) (by omega) hs'
      simp only
      cases hh : kids (walkS ns f k (dep + 1)) x.nx (k + 1) ⟨s.P.set k par, s.D.set k dep, s.L⟩ with
      | mk o s1 =>
        cases hv : kidsR (walkR ns f (dep + 1)) x.nx (k + 1) (max m dep) with
        | mk o' m1 =>
          rw [hh, hv] at hr
          rw [hh] at hk2
          obtain ⟨h1, h2⟩ := hr
          simp only at h1
          subst h1
          cases o with
          | none => exact ⟨rfl, fun r' h' => by simp at h'⟩
          | some r1 =>
            obtain ⟨h3, h4⟩ := h2 r1 rfl
            have hr1 := hk2.2 r1 rfl
            have hD : s.D.length = ns.length := hs.2.1
            have hk0 : s1.D.getD k 0 = dep := by rw [h3 k (by omega)]; exact getD_set_eq (by omega)
            refine ⟨rfl, fun r h' => ?_⟩
            simp only [Option.some.injEq] at h'
            subst h'
            refine ⟨⟨fun i hi => ?_, fun x => ?_⟩, hk0⟩
            · show s1.D.getD i 0 = _
              rw [h3 i (by omega)]; exact getD_set_ne (by omega)
            · show m1 ≤ x ↔ _
              rw [h4 x]
              constructor
              · rintro ⟨k1, k2⟩
                refine ⟨by omega, fun i h1 h2 => ?_⟩
                by_cases e : i = k
                · subst e; show s1.D.getD i 0 ≤ x; rw [hk0]; omega
                · exact k2 i (by omega) h2
              · rintro ⟨k1, k2⟩
                have := k2 k (by omega) (by omega)
                have this : s1.D.getD k 0 ≤ x := this
                rw [hk0] at this
                exact ⟨by omega, fun i h1 h2 => k2 i (by omega) h2⟩
/-- The places of a set's nodes. -/
def occ (s : Nat) : List Nd → Nat → List Int
  | [], _ => []
  | x :: r, o => if x.k = 2 ∧ x.i.toNat = s then (o : Int) :: occ s r (o + 1) else occ s r (o + 1)
theorem occ_ge {s : Nat} : ∀ {l : List Nd} {o : Nat} {a : Int}, a ∈ occ s l o → 0 ≤ a
  | [], o, a, h => by simp [occ] at h
  | x :: r, o, a, h => by
    unfold occ at h
    split at h
    · rcases List.mem_cons.1 h with rfl | h
      · omega
      · exact occ_ge h
    · exact occ_ge h
theorem setsA_at {s : Nat} : ∀ (l : List Nd) (o : Nat) (A : List (List Int)), s < A.length → (setsA l o A).getD s [] = A.getD s [] ++ occ s l o
  | [], o, A, h => by simp [setsA, occ]
  | x :: r, o, A, h => by
    unfold setsA occ
    by_cases hk : x.k = 2
    · rw [if_pos hk, setsA_at r (o + 1) _ (by simpa using h)]
      by_cases e : x.i.toNat = s
      · rw [if_pos ⟨hk, e⟩, e]
        simp [List.getD_eq_getElem?_getD, h]
      · rw [if_neg (fun h => e h.2)]
        simp [List.getD_eq_getElem?_getD, List.getElem?_set_ne e]
    · rw [if_neg hk, if_neg (fun h => hk h.1), setsA_at r (o + 1) A h]
theorem fst1_at {s : Nat} {z : List Int} (hz : s < z.length) : ∀ (l : List Nd) (o : Nat), (fst1 l o z).getD s 0 = (match occ s l o with | [] => z.getD s 0 | a :: _ => a + 1)
  | [], o => by simp [fst1, occ]
  | x :: r, o => by
    unfold fst1 occ
    by_cases hk : x.k = 2
    · rw [if_pos hk]
      by_cases e : x.i.toNat = s
      · rw [if_pos ⟨hk, e⟩, e, getD_set_eq (by simpa using hz)]
      · rw [if_neg (fun h => e h.2), getD_set_ne (fun h => e h.symm)]
        exact fst1_at hz r (o + 1)
    · rw [if_neg hk, if_neg (fun h => hk h.1)]
      exact fst1_at hz r (o + 1)
section
variable {g : Gm}
theorem sets_at {s : Nat} (hs : s < g.is.length) : g.sets.getD s [] = occ s g.ns 0 := by
  rw [Gm.sets, setsA_at _ _ _ (by simpa using hs)]
  simp [List.getD_eq_getElem?_getD, hs]
theorem firsts_at {s : Nat} (hs : s < g.is.length) : g.firsts.getD s 0 = (match g.sets.getD s [] with | [] => 0 | a :: _ => a + 1) := by
  rw [Gm.firsts, fst1_at (by simpa using hs), sets_at hs]
  simp [List.getD_eq_getElem?_getD, hs]
theorem none_iff : (0 : Int) ∈ g.firsts ↔ [] ∈ g.sets := by
  have hl : g.sets.length = g.is.length := sets_len
  have hf : g.firsts.length = g.is.length := by simp [Gm.firsts]
  constructor
  · intro h
    obtain ⟨s, hs, e⟩ := List.getElem_of_mem h
    have := firsts_at (g := g) (s := s) (by omega)
    rw [List.getD_eq_getElem?_getD, List.getElem?_eq_getElem hs, Option.getD_some, e] at this
    have hs' : s < g.sets.length := by omega
    have h2 : g.sets.getD s [] = g.sets[s] := by rw [List.getD_eq_getElem?_getD, List.getElem?_eq_getElem hs']; rfl
    cases hc : g.sets.getD s [] with
    | nil => rw [← hc, h2]; exact List.getElem_mem hs'
    | cons a r =>
      rw [hc] at this
      have h3 : 0 ≤ a := occ_ge (s := s) (l := g.ns) (o := 0) (by rw [← sets_at (by omega), hc]; simp)
      simp only at this; omega
  · intro h
    obtain ⟨s, hs, e⟩ := List.getElem_of_mem h
    have := firsts_at (g := g) (s := s) (by omega)
    rw [List.getD_eq_getElem?_getD (l := g.sets), List.getElem?_eq_getElem hs, Option.getD_some, e] at this
    have hs' : s < g.firsts.length := by omega
    rw [List.getD_eq_getElem?_getD, List.getElem?_eq_getElem hs', Option.getD_some] at this
    simp only at this
    rw [← this]; exact List.getElem_mem hs'
theorem srt_same (h : ¬ [] ∈ g.sets) : Srt g.firsts ↔ SrtS g.sets := by
  have hl : g.sets.length = g.is.length := sets_len
  have hf : g.firsts.length = g.is.length := by simp [Gm.firsts]
  have hv : ∀ s, s < g.is.length → g.firsts.getD s 0 = (g.sets.getD s []).getD 0 0 + 1 := by
    intro s hs
    rw [firsts_at hs]
    cases hc : g.sets.getD s [] with
    | nil =>
      exfalso; apply h
      have hs' : s < g.sets.length := by omega
      rw [List.getD_eq_getElem?_getD, List.getElem?_eq_getElem hs', Option.getD_some] at hc
      rw [← hc]; exact List.getElem_mem hs'
    | cons a r => simp
  unfold Srt SrtS
  rw [hf, hl]
  constructor
  · intro h1 k hk
    have := h1 k hk
    rw [hv _ (by omega), hv _ (by omega)] at this
    omega
  · intro h1 k hk
    have := h1 k hk
    rw [hv _ (by omega), hv _ (by omega)]
    omega
theorem setsE_eq : g.setsE = g.setsR := by
  unfold Gm.setsE Gm.setsR
  by_cases hb : ∃ x ∈ g.ns, x.tyBad g
  · rw [if_pos hb, if_pos hb]
  · rw [if_neg hb, if_neg hb]
    by_cases h0 : [] ∈ g.sets
    · rw [if_pos h0, if_pos (none_iff.2 h0)]
    · rw [if_neg h0, if_neg (fun h => h0 (none_iff.1 h))]
      by_cases hs : SrtS g.sets
      · rw [if_pos hs, if_pos ((srt_same h0).2 hs)]
      · rw [if_neg hs, if_neg (fun h => hs ((srt_same h0).1 h))]
def Gm.formE (g : Gm) : Int := if g.err0 ≠ 0 then g.err0 else g.setsE
theorem w0_ok : g.w0.ok g.ns.length := ⟨by simp [Gm.w0], by simp [Gm.w0], by simp [Gm.w0]⟩
theorem wk_eq : g.wk.1 = g.wr.1 := (walk_rel (ns := g.ns) (g.ns.length + 1) (-1) 0 0 g.w0 0 w0_ok).1
theorem wk_max (h1 : 1 ≤ g.ns.length) (h : g.wk.1 = some g.ns.length) : maxL g.wk.2.D = g.wr.2 := by
  have hr := (walk_rel (ns := g.ns) (g.ns.length + 1) (-1) 0 0 g.w0 0 w0_ok).2 g.ns.length h
  have hok := (walkS_ok (ns := g.ns) (g.ns.length + 1) (-1) 0 0 g.w0 w0_ok).1
  have hD : g.wk.2.D.length = g.ns.length := hok.2.1
  have hx : ∀ x, maxL g.wk.2.D ≤ x ↔ g.wr.2 ≤ x := by
    intro x
    rw [maxL_le (by omega)]
    have := hr.1.2 x
    have h0 : g.wk.2.D.getD 0 0 = 0 := hr.2
    show _ ↔ (walkR g.ns (g.ns.length + 1) 0 0 0).2 ≤ x
    rw [this, hD]
    constructor
    · intro k
      have := k 0 (by omega)
      rw [h0] at this
      exact ⟨this, fun i _ hi => k i hi⟩
    · rintro ⟨_, k⟩ i hi
      exact k i (by omega) hi
  have := (hx (maxL g.wk.2.D)).1 (Int.le_refl _)
  have := (hx g.wr.2).2 (Int.le_refl _)
  omega
/-- THE TWO FORMS ARE ONE. -/
theorem form_eq : g.formE = g.formR := by
  have hR : g.rng = (((((g.pl < 1 ∨ 4 < g.pl) ∨ (g.ns.length : Int) < 1) ∨ 2000 < (g.ns.length : Int)) ∨ 200 < (g.is.length : Int))) := rfl
  unfold Gm.formE Gm.err0 Gm.formR
  by_cases hr : g.rng
  · simp [hr]
  · rw [if_neg hr, if_neg hr]
    by_cases hn : nodesE g g.ns = 0
    · have hn' : ¬ nodesE g g.ns ≠ 0 := by simpa using hn
      rw [if_neg hn', if_neg hn', wk_eq]
      by_cases hk : g.wr.1 = some g.ns.length
      · have hk' : ¬ g.wr.1 ≠ some g.ns.length := by simpa using hk
        rw [if_neg hk', if_neg hk']
        rw [hR] at hr
        rw [wk_max (by omega) (by rw [wk_eq]; exact hk), setsE_eq]
        by_cases hm : 40 < g.wr.2
        · simp [hm]
        · simp [hm]
      · simp [hk]
    · simp [hn]
end
end Go.Proofs.Ytoghpbjllompaaa.Rc

/- Q13 -/
namespace Go.Proofs.Ytoghpbjllompaaa.Rc
open Go.Ab
theorem hm' : Try.prog.follows .mixedOrders = true := Try.checked.mixed
end Go.Proofs.Ytoghpbjllompaaa.Rc

/- Q14 -/
namespace Go.Proofs.Ytoghpbjllompaaa.Rc
open Go.Ab
/-- Cells of nodes whose rows are our own. -/
def NO (b : Nat) (M : List AO) : List Nd → List SV → Prop
  | [], cs => cs = []
  | x :: r, cs => ∃ p1 p2 p3 rest, cs = i64 x.k :: i64 x.p :: i64 x.i :: .own (b + p1) 0 x.nx.length 1 2 :: .own (b + p2) 0 x.ws.length 1 2 :: .own (b + p3) 0 x.ps.length 1 2 :: rest ∧
      M[p1]? = some (⟨ints x.nx, 3, 2, true⟩ : AO) ∧ M[p2]? = some (⟨ints x.ws, 3, 2, true⟩ : AO) ∧ M[p3]? = some (⟨ints x.ps, 3, 2, true⟩ : AO) ∧ NO b M r rest
theorem NO.mono {b : Nat} {M M' : List AO} (h : ∀ (p : Nat) (l : List Int), M[p]? = some (⟨ints l, 3, 2, true⟩ : AO) → M'[p]? = some (⟨ints l, 3, 2, true⟩ : AO)) : ∀ {l : List Nd} {cs : List SV}, NO b M l cs → NO b M' l cs
  | [], cs, hn => hn
  | x :: r, cs, ⟨p1, p2, p3, rest, h0, h1, h2, h3, h4⟩ => ⟨p1, p2, p3, rest, h0, h _ _ h1, h _ _ h2, h _ _ h3, NO.mono h h4⟩
theorem NO.len {b : Nat} {M : List AO} : ∀ {l : List Nd} {cs : List SV}, NO b M l cs → cs.length = 6 * l.length
  | [], cs, hn => by cases hn; rfl
  | x :: r, cs, ⟨p1, p2, p3, rest, h0, h1, h2, h3, h4⟩ => by subst h0; simp [NO.len h4]; omega
theorem NO.cell {b : Nat} {M : List AO} : ∀ {l : List Nd} {cs : List SV}, NO b M l cs → cellsOk cs
  | [], cs, hn => by cases hn; intro s hs; simp at hs
  | x :: r, cs, ⟨p1, p2, p3, rest, h0, h1, h2, h3, h4⟩ => by
    subst h0
    intro s hs
    simp only [List.mem_cons] at hs
    rcases hs with rfl | rfl | rfl | rfl | rfl | rfl | hs
    · rfl
    · rfl
    · rfl
    · rfl
    · rfl
    · rfl
    · exact NO.cell h4 s hs
theorem NO.fz {b n k d : Nat} {M F : List AO} (hb : b = n + k) (hF : ∀ p, F[k + p]? = M[p]?) : ∀ {l : List Nd} {cs : List SV}, NO b M l cs → cs.map (SV.fz n [] F (d + 2)) = nds l
  | [], cs, hn => by cases hn; rfl
  | x :: r, cs, ⟨p1, p2, p3, rest, h0, h1, h2, h3, h4⟩ => by
    subst h0
    have e : ∀ p, b + p = n + (k + p) := fun p => by omega
    simp only [List.map_cons, NO.fz hb hF h4, nds, Nd.cells, e, fz_own, hF, h1, h2, h3, placeOf, fz_i64]
    simp [sl]
section
variable {H : List AO} {g : Gm}
end
end Go.Proofs.Ytoghpbjllompaaa.Rc

/- Q15 -/
namespace Go.Proofs.Ytoghpbjllompaaa.Rc
open Go.Ab
section
variable {H : List AO} {x y : SV} {l m : List Int}
theorem loop23 (hx : IsI H x l) (hy : IsI H y m) (hl : l.length < 4611686018427387904) (hlm : l.length = m.length) {N : Nat} {K : XE → Env → List AO → Prop}
    (hret : l ≠ m → ∀ env, env.get 4 = bl false → K .ret env H) (hexit : l = m → ∀ env, K (.exit 0) env H) :
    ∀ (n i : Nat) (env : Env), i + n = l.length → (∀ k (h : k < l.length), k < i → l[k] = m[k]'(by omega)) → env.get 0 = x → env.get 1 = y → env.get 5 = i64 i →
      LI Try.prog N drawB l73_0 env H K := by
  intro n
  induction n with
  | zero =>
    intro i env hi hp h0 h1 h5
    refine li_go hm l73_0.eq_1 ?_
    have e : i = l.length := by omega
    subst e
    simp -implicitDefEqProofs [h0, h1, h5, hx.vd, hx.ug, hx.sl, hx.len]
    exact hexit (List.ext_getElem hlm fun k h1 h2 => hp k h1 h1) _
  | succ n ih =>
    intro i env hi hp h0 h1 h5
    refine li_go hm l73_0.eq_1 ?_
    have hlt : i < l.length := by omega
    have hlt' : i < m.length := by omega
    simp -implicitDefEqProofs [h0, h1, h5, hlt, hlt', hx.vd, hx.ug, hx.sl, hx.len, hx.v hlt, hx.ok hlt, hy.vd, hy.ug, hy.sl, hy.len, hy.v hlt', hy.ok hlt']
    by_cases hc : l[i] = m[i]
    · rw [if_pos hc]
      refine ih (i + 1) _ (by omega) ?_ ?_ ?_ ?_
      rotate_left
      · simp [h0]
      · simp [h1]
      · simp [wrap_suc (show i < 9223372036854775807 by omega)]
      intro k hk hki
      by_cases e : k = i
      · subst e; exact hc
      · exact hp k hk (by omega)
    · rw [if_neg hc]
      exact hret (fun e => hc (by subst e; rfl)) _ (by simp)
theorem ok73 (hx : IsI H x l) (hy : IsI H y m) (hl : l.length < 4611686018427387904) : Ok Try.prog 73 [x, y] H (.ret (bl (decide (l = m)))) H := by
  refine ok_fn hm Try.func73 c73 (by simp) fun hcl => ?_
  by_cases hlm : l.length = m.length
  · simp -implicitDefEqProofs [i73, r73, hx.vd, hx.ug, hx.sl, hx.len, hy.vd, hy.ug, hy.sl, hy.len, hlm]
    refine loop23 hx hy hl hlm (fun hne env h4 => ?_) (fun he env => ?_) l.length 0 _ (by omega) (by omega) (by simp) (by simp) (by simp)
    · simp -implicitDefEqProofs [h4, hne]
      exact cv_id
    · simp -implicitDefEqProofs [he]
      exact cv_id
  · simp -implicitDefEqProofs [i73, r73, hx.vd, hx.ug, hx.sl, hx.len, hy.vd, hy.ug, hy.sl, hy.len, show ¬ ((l.length : Int) = m.length) by omega, hlm]
    have : l ≠ m := fun e => hlm (by rw [e])
    simp [this]
    exact cv_id
theorem ok73s (hx : IsI H x l) (hy : IsI H y l) (hl : l.length < 4611686018427387904) : Ok Try.prog 73 [x, y] H (.ret (bl true)) H := by simpa using ok73 hx hy hl
end
section
variable {H : List AO} {g : Gm} {x : Nd} {is : List (Int × Int)}
theorem isc (H : List AO) (l : List Int) : IsI H (.slc (ints l) l.length) l := IsI.slc H l
theorem ok36 : Ok Try.prog 36 [.agg g.cells] H (.ret (i64 g.formE)) H := by
  refine ok_fn hm Try.func36 c36 (by simp) fun hcl => ?_
  simp -implicitDefEqProofs [i36, r36, Gm.cells]
  have hh := fun H => ok64 (H := H) (g := g)
  simp only [Gm.cells] at hh
  refine call_go (hh _) ?_
  unfold Gm.walked Gm.formE
  by_cases h : g.err0 = 0
  · simp -implicitDefEqProofs [h]
    exact cv_fz 1 hcl rfl (by simp)
  · simp -implicitDefEqProofs [h]
    exact cv_fz 1 hcl rfl (by simp)
end
end Go.Proofs.Ytoghpbjllompaaa.Rc

/- Q16 -/
namespace Go.Proofs.Ytoghpbjllompaaa.Rc
open Go.Ab Go.WideShapes
theorem within_mem {lo hi : Int} {l : List Int} (h : within lo hi l = 0) : ∀ w ∈ l, lo ≤ w ∧ w ≤ hi := by
  unfold within at h
  split at h
  · cases h
  · rename_i hh
    intro w hw
    have : ¬ outR lo hi w = true := fun h2 => hh (List.any_eq_true.2 ⟨w, hw, h2⟩)
    simp [outR] at this; omega
section
variable {g : Gm} {x : Nd}
theorem Gd.kk (h : Gd g) (hx : x ∈ g.ns) : 1 ≤ x.k ∧ x.k ≤ 3 := by
  have := h.e x hx
  unfold Nd.err at this
  split at this
  · cases this
  · omega
theorem Gd.ch (h : Gd g) (hx : x ∈ g.ns) (hk : x.k = 1) : 1 ≤ x.nx.length ∧ x.nx.length ≤ 60 ∧ x.ws.length = x.nx.length ∧ ∀ w ∈ x.ws, 1 ≤ w ∧ w ≤ 1000 := by
  have := h.e x hx
  unfold Nd.err at this
  rw [if_neg (by omega), if_pos hk] at this
  unfold Nd.chance at this
  split at this
  · cases this
  · exact ⟨by omega, by omega, by omega, within_mem this⟩
theorem Gd.en (h : Gd g) (hx : x ∈ g.ns) (hk : x.k = 3) : x.nx = [] ∧ x.ws = [] := by
  have := h.e x hx
  unfold Nd.err at this
  rw [if_neg (by omega), if_neg (by omega), if_neg (by omega)] at this
  unfold Nd.end at this
  split at this
  · cases this
  · exact ⟨List.eq_nil_of_length_eq_zero (by omega), List.eq_nil_of_length_eq_zero (by omega)⟩
theorem Gd.mv (h : Gd g) (hx : x ∈ g.ns) (hk : x.k = 2) : 1 ≤ x.nx.length ∧ x.nx.length ≤ 10 ∧ x.ws = [] := by
  have := h.e x hx
  unfold Nd.err at this
  rw [if_neg (by omega), if_neg (by omega), if_pos hk] at this
  unfold Nd.move at this
  split at this
  · cases this
  · exact ⟨by omega, by omega, List.eq_nil_of_length_eq_zero (by omega)⟩
theorem form0 (h : g.formR = 0) : Gd g ∧ g.wr.1 = some g.ns.length := by
  unfold Gm.formR at h
  split at h
  · cases h
  · rename_i h1
    unfold Gm.rng at h1
    split at h
    · rename_i h2; exact absurd h h2
    · rename_i h2
      split at h
      · cases h
      · rename_i h3
        refine ⟨⟨by omega, by omega, by omega, by omega, by omega, ?_⟩, by simpa using h3⟩
        have h2 : nodesE g g.ns = 0 := by simpa using h2
        have : ∀ l : List Nd, nodesE g l = 0 → ∀ x ∈ l, x.err g = 0 := by
          intro l
          induction l with
          | nil => intro _ x hx; simp at hx
          | cons y r ih =>
            intro h x hx
            unfold nodesE at h
            split at h
            · rename_i hy
              rcases List.mem_cons.1 hx with rfl | hx
              · exact hy
              · exact ih h x hx
            · rename_i hy; exact absurd h hy
        exact this g.ns h2
end
def Nd.fitB (x : Nd) : Prop := x.nx.length * 8 ≤ reachBytes ∧ x.ws.length * 8 ≤ reachBytes ∧ x.ps.length * 8 ≤ reachBytes
theorem ints_fit {d : Dt} {l : List Int} (h : d.sv = .slc (ints l) l.length) (hf : (Sh.sl (.int .i64)).fit d) (hh : (Sh.sl (.int .i64)).has d) : l.length * 8 ≤ reachBytes := by
  simp only [Sh.has] at hh
  obtain ⟨m, rfl, _, _⟩ := hh
  rw [Sh.fit] at hf
  have h1 := (hf m rfl).1
  simp only [Dt.sv, Dt.cells, List.headD_cons, SV.slc.injEq] at h
  have : (Sh.int IntKind.i64).by = 8 := rfl
  rw [this] at h1
  omega
/-- A game that came in, its lists no larger than a process holds. -/
structure Gm.fitB (g : Gm) : Prop where
  is : g.is.length * 16 ≤ reachBytes
  ns : ∀ x ∈ g.ns, x.fitB
end Go.Proofs.Ytoghpbjllompaaa.Rc

/- P8 -/
namespace Go.Proofs.Ytoghpbjllompaaa.Rc
open Go.Ab
def u8w (n : Int) : Int := IntKind.u8.wrap n
theorem u8w_eq (n : Int) : IntKind.u8.wrap n = u8w n := rfl
theorem u8w_rng (n : Int) : 0 ≤ u8w n ∧ u8w n < 256 := by
  show 0 ≤ IntKind.u8.wrap n ∧ IntKind.u8.wrap n < 256
  simp [IntKind.wrap, IntKind.signed, IntKind.bits]; omega
def zig (x : Int) : Int := if x < 0 then -2 * x - 1 else 2 * x
def infB (p : Int × Int) : List Int := [u8w p.1, u8w p.2]
def Nd.byt (x : Nd) : List Int := u8w x.k :: (if x.k = 1 then u8w x.nx.length :: x.ws.flatMap putB else if x.k = 2 then putB x.i else x.ps.flatMap fun y => putB (zig y))
def headB (c : Int) (p n : Int) : List Int := [80, c, 1, u8w p] ++ putB n
def Gm.byt (g : Gm) : List Int := headB 71 g.pl g.is.length ++ g.is.flatMap infB ++ g.ns.flatMap Nd.byt
def sh8 (n : Int) (k : Nat) : Int := n.fdiv (2 ^ min k IntKind.i64.bits)
def tailB (n : Int) : List Int := [u8w (sh8 n 24), u8w (sh8 n 16), u8w (sh8 n 8), u8w n]
def sealB (l : List Int) : List Int := l ++ tailB (sumV l)
theorem putB_len (n : Int) : 1 ≤ (putB n).length ∧ (putB n).length ≤ 10 := putF_len 9 n
theorem fm_len {α : Type} {f : α → List Int} {b : Nat} : ∀ {l : List α}, (∀ x ∈ l, (f x).length ≤ b) → (l.flatMap f).length ≤ b * l.length
  | [], _ => by simp
  | x :: l, h => by
    have h1 := h x (by simp)
    have h2 := fm_len (l := l) fun y hy => h y (by simp [hy])
    simp only [List.flatMap_cons, List.length_append, List.length_cons, Nat.mul_add]; omega
section
variable {A H : List AO}
theorem ok39 {j v : Nat} {l : List Int} (ho : H[j]? = some (rwB 5 v l)) (hl : l.length < 10000000000) {n : Int} (h0 : -1000000 ≤ n) (hn : n ≤ 1000000) :
    Ok Try.prog 39 [.own j 0 l.length 1 v, i64 n] H (.ret (.own j 0 (l ++ putB (zig n)).length 1 (v + (putB (zig n)).length))) (H.set j (rwB 5 (v + (putB (zig n)).length) (l ++ putB (zig n)))) := by
  have hj := getElem?_lt ho
  refine ok_fn hm Try.func39 c39 (by simp [SV.under, hj]) fun hcl => ?_
  by_cases hs : n < 0
  · have e : zig n = -2 * n - 1 := if_pos hs
    have w1 : IntKind.i64.wrap (-2 * n) = -2 * n := wrap_id (by omega) (by omega)
    have w2 : IntKind.i64.wrap (-2 * n - 1) = -2 * n - 1 := wrap_id (by omega) (by omega)
    rw [e]
    simp -implicitDefEqProofs [i39, r39, hs, w1, w2]
    refine call_go (ok38 ho hl (n := -2 * n - 1) (by omega) (by omega)) ?_
    simp -implicitDefEqProofs
    exact cv_id
  · have e : zig n = 2 * n := if_neg hs
    have w1 : IntKind.i64.wrap (2 * n) = 2 * n := wrap_id (by omega) (by omega)
    rw [e]
    simp -implicitDefEqProofs [i39, r39, hs, w1]
    refine call_go (ok38 ho hl (n := 2 * n) (by omega) (by omega)) ?_
    simp -implicitDefEqProofs
    exact cv_id
theorem loopW {ws R : List Int} (hw : ∀ w ∈ ws, 0 ≤ w ∧ w < 9223372036854775808) (hwl : ws.length ≤ 100000) (hR : R.length < 10000000000) {e52 e53 e54 : SV} {N : Nat} {K : XE → Env → List AO → Prop}
    (hexit : ∀ env v M, env.get 6 = .own A.length 0 R.length 1 v → env.get 52 = e52 → env.get 53 = e53 → env.get 54 = e54 → K (.exit 5) env (A ++ rwB 5 v R :: M)) :
    ∀ (n i : Nat) (l : List Int) (v : Nat) (env : Env) (M : List AO), i + n = ws.length → l ++ (ws.drop i).flatMap putB = R → env.get 6 = .own A.length 0 l.length 1 v → env.get 52 = e52 → env.get 53 = e53 → env.get 54 = e54 →
      env.get 76 = sl ws → env.get 77 = i64 ws.length → env.get 78 = i64 i → LI Try.prog N drawB l11_2 env (A ++ rwB 5 v l :: M) K := by
  intro n
  induction n with
  | zero =>
    intro i l v env M hi hr h6 h52 h53 h54 h76 h77 h78
    refine li_go hm l11_2.eq_1 ?_
    have e : i = ws.length := by omega
    subst e
    have hr : l = R := by simpa using hr
    subst hr
    simp -implicitDefEqProofs [h6, h52, h53, h54, h76, h77, h78]
    refine hexit _ v M ?_ ?_ ?_ ?_ <;> simp [h6, h52, h53, h54]
  | succ n ih =>
    intro i l v env M hi hr h6 h52 h53 h54 h76 h77 h78
    refine li_go hm l11_2.eq_1 ?_
    have hlt : i < ws.length := by omega
    have hwi := hw _ (List.getElem_mem hlt)
    rw [List.drop_eq_getElem_cons hlt, List.flatMap_cons, ← List.append_assoc] at hr
    have hll : (l ++ putB ws[i]).length ≤ R.length := by rw [← hr]; simp
    have hll2 : l.length ≤ R.length := by rw [List.length_append] at hll; omega
    have w1 : IntKind.i64.wrap ((i : Int) + 1) = ((i + 1 : Nat) : Int) := wrap_succ (by omega)
    have h38 := ok38 (H := A ++ rwB 5 v l :: M) (j := A.length) (v := v) (l := l) (by simp) (by omega) hwi.1 hwi.2
    simp -implicitDefEqProofs [h6, h52, h53, h54, h76, h77, h78, hlt, sl]
    repeat (refine And.intro (by omega) ?_)
    refine call_go h38 ?_
    simp -implicitDefEqProofs [h6, h52, h53, h54, h76, h77, h78, hlt, sl, w1]
    refine LI.cong (by simp [set_app0]) (ih (i + 1) (l ++ putB ws[i]) (v + (putB ws[i]).length) _ M (by omega) hr ?_ ?_ ?_ ?_ ?_ ?_ ?_) <;> simp [h52, h53, h54, h76, h77, sl, w1]
theorem loopP {ws R : List Int} (hw : ∀ w ∈ ws, -1000000 ≤ w ∧ w ≤ 1000000) (hwl : ws.length ≤ 100000) (hR : R.length < 10000000000) {e52 e53 e54 : SV} {N : Nat} {K : XE → Env → List AO → Prop}
    (hexit : ∀ env v M, env.get 6 = .own A.length 0 R.length 1 v → env.get 52 = e52 → env.get 53 = e53 → env.get 54 = e54 → K (.exit 7) env (A ++ rwB 5 v R :: M)) :
    ∀ (n i : Nat) (l : List Int) (v : Nat) (env : Env) (M : List AO), i + n = ws.length → l ++ (ws.drop i).flatMap (fun y => putB (zig y)) = R → env.get 6 = .own A.length 0 l.length 1 v → env.get 52 = e52 → env.get 53 = e53 → env.get 54 = e54 →
      env.get 95 = sl ws → env.get 96 = i64 ws.length → env.get 97 = i64 i → LI Try.prog N drawB l11_3 env (A ++ rwB 5 v l :: M) K := by
  intro n
  induction n with
  | zero =>
    intro i l v env M hi hr h6 h52 h53 h54 h95 h96 h97
    refine li_go hm l11_3.eq_1 ?_
    have e : i = ws.length := by omega
    subst e
    have hr : l = R := by simpa using hr
    subst hr
    simp -implicitDefEqProofs [h6, h52, h53, h54, h95, h96, h97]
    refine hexit _ v M ?_ ?_ ?_ ?_ <;> simp [h6, h52, h53, h54]
  | succ n ih =>
    intro i l v env M hi hr h6 h52 h53 h54 h95 h96 h97
    refine li_go hm l11_3.eq_1 ?_
    have hlt : i < ws.length := by omega
    have hwi := hw _ (List.getElem_mem hlt)
    rw [List.drop_eq_getElem_cons hlt, List.flatMap_cons, ← List.append_assoc] at hr
    have hll : (l ++ putB (zig ws[i])).length ≤ R.length := by rw [← hr]; simp
    have hll2 : l.length ≤ R.length := by rw [List.length_append] at hll; omega
    have w1 : IntKind.i64.wrap ((i : Int) + 1) = ((i + 1 : Nat) : Int) := wrap_succ (by omega)
    have h39 := ok39 (H := A ++ rwB 5 v l :: M) (j := A.length) (v := v) (l := l) (by simp) (by omega) hwi.1 hwi.2
    simp -implicitDefEqProofs [h6, h52, h53, h54, h95, h96, h97, hlt, sl]
    repeat (refine And.intro (by omega) ?_)
    refine call_go h39 ?_
    simp -implicitDefEqProofs [h6, h52, h53, h54, h95, h96, h97, hlt, sl, w1]
    refine LI.cong (by simp [set_app0]) (ih (i + 1) (l ++ putB (zig ws[i])) (v + (putB (zig ws[i])).length) _ M (by omega) hr ?_ ?_ ?_ ?_ ?_ ?_ ?_) <;> simp [h52, h53, h54, h95, h96, sl, w1]
theorem loopI {is : List (Int × Int)} {R : List Int} (hwl : is.length ≤ 100000) (hR : R.length < 10000000000) {e1 : SV} {N : Nat} {K : XE → Env → List AO → Prop}
    (hexit : ∀ env v M, env.get 6 = .own A.length 0 R.length 1 v → env.get 1 = e1 → K (.exit 0) env (A ++ rwB 5 v R :: M)) :
    ∀ (n i : Nat) (l : List Int) (v : Nat) (env : Env) (M : List AO), i + n = is.length → l ++ (is.drop i).flatMap infB = R → env.get 6 = .own A.length 0 l.length 1 v → env.get 1 = e1 →
      env.get 35 = .slc (infs is) is.length → env.get 36 = i64 is.length → env.get 37 = i64 i → LI Try.prog N drawB l11_0 env (A ++ rwB 5 v l :: M) K := by
  intro n
  induction n with
  | zero =>
    intro i l v env M hi hr h6 h1 h35 h36 h37
    refine li_go hm l11_0.eq_1 ?_
    have e : i = is.length := by omega
    subst e
    have hr : l = R := by simpa using hr
    subst hr
    simp -implicitDefEqProofs [h6, h1, h35, h36, h37]
    refine hexit _ v M ?_ ?_ <;> simp [h6, h1]
  | succ n ih =>
    intro i l v env M hi hr h6 h1 h35 h36 h37
    refine li_go hm l11_0.eq_1 ?_
    have hlt : i < is.length := by omega
    rw [List.drop_eq_getElem_cons hlt, List.flatMap_cons, ← List.append_assoc] at hr
    have hll : (l ++ infB is[i]).length ≤ R.length := by rw [← hr]; simp
    have hll2 : l.length + 2 ≤ R.length := by rw [List.length_append] at hll; simp only [infB, List.length_cons, List.length_nil] at hll; omega
    have w1 : IntKind.i64.wrap ((i : Int) + 1) = ((i + 1 : Nat) : Int) := wrap_succ (by omega)
    simp -implicitDefEqProofs [h6, h1, h35, h36, h37, hlt, infs_at hlt, infs_min hlt, infs_ge hlt, u8w_eq, rwB, w1]
    repeat (refine And.intro (by omega) ?_)
    refine LI.cong (by simp [rwB, infB, byts]) (ih (i + 1) (l ++ infB is[i]) (v + 1) _ (M ++ [⟨[i64 is[i].1, i64 is[i].2], 72, 0, true⟩, ⟨[u8 (u8w is[i].1), u8 (u8w is[i].2)], 5, 0, true⟩]) (by omega) hr ?_ ?_ ?_ ?_ ?_) <;> simp [h1, h35, h36, infB]
end
end Go.Proofs.Ytoghpbjllompaaa.Rc

/- P9 -/
namespace Go.Proofs.Ytoghpbjllompaaa.Rc
open Go.Ab
theorem Gd.pay {g : Gm} (h : Gd g) {x : Nd} (hx : x ∈ g.ns) (hk : x.k = 3) : x.ps.length ≤ 4 ∧ ∀ w ∈ x.ps, -1000000 ≤ w ∧ w ≤ 1000000 := by
  have := h.e x hx
  have hp := h.p4
  unfold Nd.err at this
  rw [if_neg (by omega), if_neg (by omega), if_neg (by omega)] at this
  unfold Nd.end at this
  split at this
  · cases this
  · exact ⟨by omega, within_mem this⟩
theorem Nd.byt_len {g : Gm} (h : Gd g) {x : Nd} (hx : x ∈ g.ns) : x.byt.length ≤ 700 := by
  have hk := h.kk hx
  unfold Nd.byt
  simp only [List.length_cons]
  by_cases h1 : x.k = 1
  · rw [if_pos h1]
    obtain ⟨a, b, c, d⟩ := h.ch hx h1
    have := fm_len (f := putB) (b := 10) (l := x.ws) fun y _ => (putB_len y).2
    simp only [List.length_cons]; omega
  · by_cases h2 : x.k = 2
    · rw [if_neg h1, if_pos h2]
      have := putB_len x.i; omega
    · rw [if_neg h1, if_neg h2]
      have h3 := h.pay hx (by omega)
      have := fm_len (f := fun y => putB (zig y)) (b := 10) (l := x.ps) fun y _ => (putB_len (zig y)).2
      omega
section
variable {A : List AO} {g : Gm}
theorem loopN (hg : Gd g) {R : List Int} (hR : R.length < 10000000000) {N : Nat} {K : XE → Env → List AO → Prop}
    (hexit : ∀ env v M, env.get 6 = .own A.length 0 R.length 1 v → K (.exit 2) env (A ++ rwB 5 v R :: M)) :
    ∀ (n i : Nat) (l : List Int) (v : Nat) (env : Env) (M : List AO), i + n = g.ns.length → l ++ (g.ns.drop i).flatMap Nd.byt = R → env.get 6 = .own A.length 0 l.length 1 v →
      env.get 52 = .slc (nds g.ns) g.ns.length → env.get 53 = i64 g.ns.length → env.get 54 = i64 i → LI Try.prog N drawB l11_1 env (A ++ rwB 5 v l :: M) K := by
  have hgn := hg.n
  have hgi := hg.i
  intro n
  induction n with
  | zero =>
    intro i l v env M hi hr h6 h52 h53 h54
    refine li_go hm l11_1.eq_1 ?_
    have e : i = g.ns.length := by omega
    subst e
    have hr : l = R := by simpa using hr
    subst hr
    simp -implicitDefEqProofs [h6, h52, h53, h54]
    refine hexit _ v M ?_ <;> simp [h6]
  | succ n ih =>
    intro i l v env M hi hr h6 h52 h53 h54
    refine li_go hm l11_1.eq_1 ?_
    have hlt : i < g.ns.length := by omega
    have hmem := List.getElem_mem hlt
    have hkk := hg.kk hmem
    have hinf := fun h => hg.inf hmem h
    have hch := fun h => hg.ch hmem h
    have hpay := fun h => hg.pay hmem h
    have hbl := Nd.byt_len hg hmem
    rw [List.drop_eq_getElem_cons hlt, List.flatMap_cons, ← List.append_assoc] at hr
    have hll : (l ++ g.ns[i].byt).length ≤ R.length := by rw [← hr]; simp
    have w1 : IntKind.i64.wrap ((i : Int) + 1) = ((i + 1 : Nat) : Int) := wrap_succ (by omega)
    have n1 := nds_at hlt
    have n2 := nds_min hlt
    have n3 := nds_ge hlt
    simp only [Nd.byt] at hr hll hbl
    generalize g.ns[i] = x at *
    rw [List.length_append, List.length_cons] at hll
    have hl1 : l.length + 1 ≤ R.length := by omega
    simp -implicitDefEqProofs [h6, h52, h53, h54, hlt, n1, n2, n3, sl, u8w_eq, rwB]
    repeat (refine And.intro (by omega) ?_)
    by_cases h1 : x.k = 1
    · obtain ⟨a, b, c, d⟩ := hch h1
      rw [if_pos h1] at hr hll
      rw [List.length_cons] at hll
      simp -implicitDefEqProofs [h1, sl, u8w_eq, rwB]
      repeat (refine And.intro (by omega) ?_)
      refine LI.cong (by simp [rwB, byts, h1, Nd.cells, sl]) (loopW (A := A) (ws := x.ws) (R := l ++ (u8w x.k :: u8w x.nx.length :: x.ws.flatMap putB)) (fun w hw => by have := d w hw; omega) (by omega) (by simp only [List.length_append, List.length_cons]; omega) (e52 := .slc (nds g.ns) g.ns.length) (e53 := i64 g.ns.length) (e54 := i64 i) (fun env v M k6 k52 k53 k54 => ?_)
        x.ws.length 0 (l ++ [u8w x.k, u8w x.nx.length]) (v + 1 + 1) _ (M ++ [⟨x.cells, 74, 0, true⟩, ⟨[u8 (u8w x.k)], 5, 0, true⟩, ⟨[u8 (u8w x.nx.length)], 5, 0, true⟩]) (by omega) ?_ ?_ ?_ ?_ ?_ ?_ ?_ ?_)
      · simp -implicitDefEqProofs [k6, k52, k53, k54, w1]
        refine ih (i + 1) _ v _ M (by omega) hr ?_ ?_ ?_ ?_ <;> simp [k6, k52, k53]
      all_goals simp [h1, sl]
    · rw [if_neg h1] at hr hll
      by_cases h2 : x.k = 2
      · rw [if_pos h2] at hr hll
        obtain ⟨i0, i1⟩ := hinf h2
        have hpl := putB_len x.i
        have h38 := ok38 (H := A ++ rwB 5 (v + 1) (l ++ [u8w x.k]) :: (M ++ [⟨x.cells, 74, 0, true⟩, ⟨[u8 (u8w x.k)], 5, 0, true⟩])) (j := A.length) (v := v + 1) (l := l ++ [u8w x.k]) (by simp) (by simp; omega) (n := x.i) i0 (by omega)
        simp -implicitDefEqProofs [h1, h2, sl, u8w_eq, rwB]
        refine call_go (Ok.cast (by simp) (by simp [rwB, byts, Nd.cells, sl, h2]) rfl rfl h38) ?_
        simp -implicitDefEqProofs [w1]
        refine LI.cong (by simp [set_app0]) (ih (i + 1) (l ++ (u8w x.k :: putB x.i)) (v + 1 + (putB x.i).length) _ (M ++ [⟨x.cells, 74, 0, true⟩, ⟨[u8 (u8w x.k)], 5, 0, true⟩]) (by omega) hr ?_ ?_ ?_ ?_) <;> simp
      · rw [if_neg h2] at hr hll
        have h3 : x.k = 3 := by omega
        obtain ⟨a, b⟩ := hpay h3
        simp -implicitDefEqProofs [h3, sl, u8w_eq, rwB]
        refine LI.cong (by simp [rwB, byts, h3, Nd.cells, sl]) (loopP (A := A) (ws := x.ps) (R := l ++ (u8w x.k :: x.ps.flatMap fun y => putB (zig y))) b (by omega) (by simp only [List.length_append, List.length_cons]; omega) (e52 := .slc (nds g.ns) g.ns.length) (e53 := i64 g.ns.length) (e54 := i64 i) (fun env v M k6 k52 k53 k54 => ?_)
          x.ps.length 0 (l ++ [u8w x.k]) (v + 1) _ (M ++ [⟨x.cells, 74, 0, true⟩, ⟨[u8 (u8w x.k)], 5, 0, true⟩]) (by omega) ?_ ?_ ?_ ?_ ?_ ?_ ?_ ?_)
        · simp -implicitDefEqProofs [k6, k52, k53, k54, w1]
          refine ih (i + 1) _ v _ M (by omega) hr ?_ ?_ ?_ ?_ <;> simp [k6, k52, k53]
        all_goals simp [h3, sl]
end
end Go.Proofs.Ytoghpbjllompaaa.Rc

/- P10 -/
namespace Go.Ab
@[simp] theorem cutA_own (sz l h i off n z ver k : Nat) : SV.cutA sz l h (.ptr (.own i off n z ver) k) = .own i (off + k + l * sz) (h - l) sz ver := rfl
end Go.Ab
namespace Go.Proofs.Ytoghpbjllompaaa.Rc
open Go.Ab
section
variable {A H : List AO} {g : Gm}
theorem sealB_len (l : List Int) : (sealB l).length = l.length + 4 := by simp [sealB, tailB]
theorem ok37 (c : Int) : Ok Try.prog 37 [u8 c] H (.ret (.agg [u8 80, u8 c, u8 1])) H := by
  refine ok_fn hm Try.func37 c37 (by simp) fun hcl => ?_
  simp -implicitDefEqProofs [i37, r37]
  exact cv_fz 2 hcl rfl (by simp)
theorem closed_rw {v v' : Nat} {l l' : List Int} {M : List AO} (h : closed (A ++ rwB 5 v l :: M)) : closed (A ++ rwB 5 v' l' :: M) := by
  have := closed_set h A.length (o := rwB 5 v' l') (by simp [rwB])
  rwa [set_app0] at this
theorem ok40 {l : List Int} {v : Nat} {M : List AO} (ho : Oct l) (hl : l.length < 10000000000) :
    Ok Try.prog 40 [.own A.length 0 l.length 1 v] (A ++ rwB 5 v l :: M) (.ret (.own A.length 0 (sealB l).length 1 (v + 1))) (A ++ rwB 5 (v + 1) (sealB l) :: M) := by
  refine ok_fn hm Try.func40 c40 (by simp [SV.under]) fun hcl => ?_
  have hx : IsB (A ++ rwB 5 v l :: M) (.own A.length 0 l.length 1 v) l := IsL.at_ (j := A.length) (T := 5) (by simp [rwB, byts]) rfl
  simp -implicitDefEqProofs [i40, r40]
  refine call_go (ok20 hx ho (by omega)) ?_
  simp -implicitDefEqProofs [rwB, u8w_eq, sealB_len]
  refine ⟨by omega, ?_⟩
  refine cv_drop (L := [⟨[u8 (u8w (sh8 (sumV l) 24)), u8 (u8w (sh8 (sumV l) 16)), u8 (u8w (sh8 (sumV l) 8)), u8 (u8w (sumV l))], 109, 0, true⟩]) ?_ (by simp) (closed_rw hcl) (by simp [SV.under])
  simp [sealB, tailB, sh8, rwB, byts]
end
end Go.Proofs.Ytoghpbjllompaaa.Rc

/- P11 -/
namespace Go.Proofs.Ytoghpbjllompaaa.Rc
open Go.Ab
theorem Oct.app {a b : List Int} (h : Oct a) (h' : Oct b) : Oct (a ++ b) := fun c hc => by
  rcases List.mem_append.1 hc with hc | hc
  · exact h c hc
  · exact h' c hc
theorem Oct.cons {a : Int} {b : List Int} (h : 0 ≤ a ∧ a < 256) (h' : Oct b) : Oct (a :: b) := fun c hc => by
  rcases List.mem_cons.1 hc with rfl | hc
  · exact h
  · exact h' c hc
theorem Oct.nil : Oct [] := fun c hc => by simp at hc
theorem Oct.put {n : Int} (h0 : 0 ≤ n) (hn : n < 9223372036854775808) : Oct (putB n) := putF_oct 9 n h0 (by omega)
theorem Oct.fm {α : Type} {f : α → List Int} {l : List α} (h : ∀ x ∈ l, Oct (f x)) : Oct (l.flatMap f) := fun c hc => by
  obtain ⟨x, hx, hc⟩ := List.mem_flatMap.1 hc
  exact h x hx c hc
theorem zig_rng {n : Int} (h0 : -1000000 ≤ n) (hn : n ≤ 1000000) : 0 ≤ zig n ∧ zig n ≤ 2000000 := by unfold zig; split <;> omega
theorem Nd.byt_oct {g : Gm} (h : Gd g) {x : Nd} (hx : x ∈ g.ns) : Oct x.byt := by
  have hk := h.kk hx
  unfold Nd.byt
  refine Oct.cons (u8w_rng _) ?_
  by_cases h1 : x.k = 1
  · rw [if_pos h1]
    obtain ⟨a, b, c, d⟩ := h.ch hx h1
    exact Oct.cons (u8w_rng _) (Oct.fm fun y hy => Oct.put (by have := d y hy; omega) (by have := d y hy; omega))
  · by_cases h2 : x.k = 2
    · rw [if_neg h1, if_pos h2]
      obtain ⟨a, b⟩ := h.inf hx h2
      have := h.i
      exact Oct.put a (by omega)
    · rw [if_neg h1, if_neg h2]
      have h3 := h.pay hx (by omega)
      refine Oct.fm fun y hy => ?_
      have := h3.2 y hy
      have := zig_rng this.1 this.2
      exact Oct.put (by omega) (by omega)
theorem headB_len (c p n : Int) : 5 ≤ (headB c p n).length ∧ (headB c p n).length ≤ 14 := by
  have := putB_len n
  simp only [headB, List.length_append, List.length_cons, List.length_nil]; omega
theorem Gm.byt_len {g : Gm} (h : Gd g) : g.byt.length < 10000000 := by
  have h1 := headB_len 71 g.pl g.is.length
  have h2 := fm_len (f := infB) (b := 2) (l := g.is) fun y _ => by simp [infB]
  have h3 := fm_len (f := Nd.byt) (b := 700) (l := g.ns) fun y hy => Nd.byt_len h hy
  have h4 := h.n
  have h5 := h.i
  simp only [Gm.byt, List.length_append]; omega
theorem Gm.byt_oct {g : Gm} (h : Gd g) : Oct g.byt := by
  have h5 := h.i
  refine Oct.app (Oct.app (Oct.app ?_ (Oct.put (by omega) (by omega))) (Oct.fm fun y _ => ?_)) (Oct.fm fun y hy => Nd.byt_oct h hy)
  · exact Oct.cons (by omega) (Oct.cons (by omega) (Oct.cons (by omega) (Oct.cons (u8w_rng _) Oct.nil)))
  · exact Oct.cons (u8w_rng _) (Oct.cons (u8w_rng _) Oct.nil)
def gameR (g : Gm) : List Int × Int := if g.formR ≠ 0 then ([], g.formR) else (sealB g.byt, 0)
section
variable {H : List AO} {g : Gm}
def hdO (c : Int) : AO := ⟨[u8 80, u8 c, u8 1], 68, 0, true⟩
theorem ok11 : Ok Try.prog 11 [.agg g.cells] H (.ret (bl2 (gameR g))) H := by
  refine ok_fn hm Try.func11 c11 (by simp) fun hcl => ?_
  have hh := fun H => ok36 (H := H) (g := g)
  rw [form_eq] at hh
  simp only [Gm.cells] at hh
  simp -implicitDefEqProofs [i11, r11, Gm.cells]
  refine call_go (hh _) ?_
  unfold gameR
  by_cases hf : g.formR = 0
  · obtain ⟨hg, hw⟩ := form0 hf
    have hgi := hg.i
    have hgn := hg.n
    have hbl := Gm.byt_len hg
    have hbo := Gm.byt_oct hg
    have hpl := putB_len g.is.length
    have hR : (headB 71 g.pl g.is.length ++ g.is.flatMap infB).length ≤ g.byt.length := by simp [Gm.byt]
    simp -implicitDefEqProofs [hf]
    refine call_go (ok37 71) ?_
    simp -implicitDefEqProofs [u8w_eq]
    have h38 := ok38 (H := H ++ gbox g :: hdO 71 :: rwB 5 2 [80, 71, 1, u8w g.pl] :: [⟨[u8 (u8w g.pl)], 5, 0, true⟩]) (j := H.length + 2) (v := 2) (l := [80, 71, 1, u8w g.pl]) (by simp) (by simp) (n := g.is.length) (by omega) (by omega)
    refine call_go (Ok.cast (by simp) (by simp [rwB, byts, gbox, hdO]) rfl rfl h38) ?_
    simp -implicitDefEqProofs [gbox]
    refine LI.cong (H' := (H ++ [gbox g, hdO 71]) ++ rwB 5 (2 + (putB g.is.length).length) (headB 71 g.pl g.is.length) :: [⟨[u8 (u8w g.pl)], 5, 0, true⟩]) ?_ (loopI (A := H ++ [gbox g, hdO 71]) (is := g.is) (R := headB 71 g.pl g.is.length ++ g.is.flatMap infB) (by omega) (by omega) (e1 := .ptr (.own H.length 0 0 0 0) 0) (fun env v M k6 k1 => ?_) g.is.length 0 (headB 71 g.pl g.is.length) (2 + (putB g.is.length).length) _ [⟨[u8 (u8w g.pl)], 5, 0, true⟩] (by omega) (by simp) ?_ ?_ ?_ ?_ ?_)
    · simp [gbox, headB]
    · simp -implicitDefEqProofs [k6, k1, gbox]
      refine LI.cong (H' := (H ++ [gbox g, hdO 71]) ++ rwB 5 v (headB 71 g.pl g.is.length ++ g.is.flatMap infB) :: M) (by simp [gbox]) (loopN (A := H ++ [gbox g, hdO 71]) hg (R := g.byt) (by omega) (fun env v M k6 => ?_) g.ns.length 0 _ v _ M (by omega) (by simp [Gm.byt]) ?_ ?_ ?_ ?_)
      · simp -implicitDefEqProofs [k6]
        have h40 := ok40 (A := H ++ [gbox g, hdO 71]) (l := g.byt) (v := v) (M := M) hbo (by omega)
        refine call_go (Ok.cast (by simp) (by simp) rfl rfl h40) ?_
        simp -implicitDefEqProofs
        refine cv_fz 3 hcl rfl ?_
        simp [hf, bl2, rwB]
      all_goals simp [k6]
    all_goals simp [headB]
  · simp -implicitDefEqProofs [hf]
    refine Cv.le (cv_fz 4 hcl rfl rfl) ?_
    simp [hf, bl2, byts]
    exact le_tup (leL.cons le_nil (leL.cons (SV.le.refl _) leL.nil))
end
end Go.Proofs.Ytoghpbjllompaaa.Rc

/- P12 -/
namespace Go.Proofs.Ytoghpbjllompaaa.Rc
open Go.Ab
section
variable {H : List AO} {g : Gm}
end
end Go.Proofs.Ytoghpbjllompaaa.Rc

/- P13 -/
namespace Go.Proofs.Ytoghpbjllompaaa.Rc
open Go.Ab
section
variable {H : List AO} {g : Gm}
end
end Go.Proofs.Ytoghpbjllompaaa.Rc

/- P14 -/
namespace Go.Proofs.Ytoghpbjllompaaa.Rc
open Go.Ab
structure Tb where
  b : Int
  r : List (List Int)
def rowsV (l : List (List Int)) : List SV := l.map sl
def Tb.cells (t : Tb) : List SV := [i64 t.b, .slc (rowsV t.r) t.r.length]
def Tb.tot (t : Tb) : Int := 2 ^ t.b.toNat
def shE (tot : Int) : List Int → Bool
  | [] => false
  | s :: l => (decide (s < 0) || decide (tot < s)) || shE tot l
def rowE (tot : Int) (row : List Int) : Int := if row.length < 1 ∨ 10 < row.length then 3 else if shE tot row then 2 else if row.sum ≠ tot then 14 else 0
def rowsE (tot : Int) : List (List Int) → Int
  | [] => 0
  | r :: l => if rowE tot r ≠ 0 then rowE tot r else rowsE tot l
def Tb.err (t : Tb) : Int := if t.b < 1 ∨ 30 < t.b then 2 else if 200 < t.r.length then 4 else rowsE t.tot t.r
theorem tot_rng {t : Tb} (h1 : 1 ≤ t.b) (h2 : t.b ≤ 30) : 1 ≤ t.tot ∧ t.tot ≤ 1073741824 := by
  unfold Tb.tot
  obtain ⟨k, hk⟩ : ∃ k : Nat, t.b = k := ⟨t.b.toNat, by omega⟩
  rw [hk]
  have hk30 : k ≤ 30 := by omega
  have h3 : 2 ^ k ≤ 2 ^ 30 := Nat.pow_le_pow_right (by omega) hk30
  have h4 : 1 ≤ 2 ^ k := Nat.one_le_two_pow
  have e : (2 : Int) ^ (k : Int).toNat = ((2 ^ k : Nat) : Int) := by simp
  rw [e]; omega
theorem tot_shl {t : Tb} (h1 : 1 ≤ t.b) (h2 : t.b ≤ 30) : IntKind.i64.wrap (2 ^ min t.b.toNat IntKind.i64.bits) = t.tot := by
  have := tot_rng h1 h2
  have e : min t.b.toNat IntKind.i64.bits = t.b.toNat := by
    have : IntKind.i64.bits = 64 := rfl
    omega
  rw [e]
  exact wrap_id (by show -9223372036854775808 ≤ t.tot; omega) (by show t.tot ≤ _; omega)
theorem shE_sum {tot : Int} (ht : 0 ≤ tot) : ∀ {l : List Int}, shE tot l = false → 0 ≤ l.sum ∧ l.sum ≤ tot * l.length
  | [], _ => by simp
  | s :: l, h => by
    simp only [shE, Bool.or_eq_false_iff, decide_eq_false_iff_not] at h
    have := shE_sum ht (l := l) h.2
    simp only [List.sum_cons, List.length_cons]
    rw [show ((l.length + 1 : Nat) : Int) = l.length + 1 by omega, Int.mul_add]
    omega
theorem shE_app (tot : Int) : ∀ (a b : List Int), shE tot (a ++ b) = (shE tot a || shE tot b)
  | [], b => by simp [shE]
  | s :: a, b => by simp only [List.cons_append, shE, shE_app tot a b, Bool.or_assoc]
theorem shE_take {tot : Int} {l : List Int} {i : Nat} (h : i < l.length) : shE tot (l.take (i + 1)) = (shE tot (l.take i) || (decide (l[i] < 0) || decide (tot < l[i]))) := by
  rw [List.take_succ_eq_append_getElem h, shE_app]; simp [shE]
theorem shE_le {tot : Int} {l : List Int} {i : Nat} (h : shE tot (l.take i) = true) : shE tot l = true := by
  conv => lhs; rw [← List.take_append_drop i l]
  rw [shE_app, h]; rfl
section
variable {H : List AO} {t : Tb}
def tbox (t : Tb) : AO := ⟨[i64 t.b, .slc (rowsV t.r) t.r.length], 28, 0, true⟩
def rsO (e : Int) : AO := ⟨[i64 e], 32, 0, true⟩
theorem loop44_0 (h1 : 1 ≤ t.b) (h2 : t.b ≤ 30) {row : List Int} (hl : row.length ≤ 10) {R : List AO} {N : Nat} {K : XE → Env → List AO → Prop}
    (hret : shE t.tot row = true → ∀ env, K .ret env (H ++ tbox t :: rsO 2 :: R)) (hexit : shE t.tot row = false → ∀ env, env.get 1 = .ptr (.own H.length 0 0 0 0) 0 → env.get 2 = .ptr (.own (H.length + 1) 0 0 0 0) 0 → env.get 4 = i64 row.sum → K (.exit 2) env (H ++ tbox t :: rsO 0 :: R)) :
    ∀ (n i : Nat) (env : Env), i + n = row.length → shE t.tot (row.take i) = false → env.get 1 = .ptr (.own H.length 0 0 0 0) 0 → env.get 2 = .ptr (.own (H.length + 1) 0 0 0 0) 0 → env.get 4 = i64 (row.take i).sum → env.get 31 = sl row → env.get 32 = i64 row.length → env.get 33 = i64 i →
      LI Try.prog N drawB l44_0 env (H ++ tbox t :: rsO 0 :: R) K := by
  have htot := tot_rng h1 h2
  intro n
  induction n with
  | zero =>
    intro i env hi hs g1 g2 g4 g31 g32 g33
    refine li_go hm l44_0.eq_1 ?_
    have e : i = row.length := by omega
    subst e
    rw [List.take_length] at g4 hs
    simp -implicitDefEqProofs [g1, g2, g4, g31, g32, g33]
    refine hexit hs _ ?_ ?_ ?_ <;> simp [g1, g2, g4]
  | succ n ih =>
    intro i env hi hs g1 g2 g4 g31 g32 g33
    refine li_go hm l44_0.eq_1 ?_
    have hlt : i < row.length := by omega
    have hsh := tot_shl h1 h2
    have ht := shE_take (tot := t.tot) hlt
    have hsum := shE_sum (by omega) hs
    have hm10 : t.tot * (row.take i).length ≤ 1073741824 * 10 := Int.mul_le_mul htot.2 (by simp; omega) (by omega) (by omega)
    have w1 : IntKind.i64.wrap ((i : Int) + 1) = ((i + 1 : Nat) : Int) := wrap_succ (by omega)
    simp -implicitDefEqProofs [g1, g2, g4, g31, g32, g33, hlt, sl, tbox, hsh, pickI]
    by_cases c1 : row[i] < 0
    · have hbad : shE t.tot row = true := shE_le (i := i + 1) (by rw [ht]; simp [c1])
      simp -implicitDefEqProofs [c1, rsO]
      repeat (refine And.intro (by omega) ?_)
      exact hret hbad _
    · by_cases c2 : t.tot < row[i]
      · have hbad : shE t.tot row = true := shE_le (i := i + 1) (by rw [ht]; simp [c2])
        simp -implicitDefEqProofs [c1, c2, rsO]
        repeat (refine And.intro (by omega) ?_)
        exact hret hbad _
      · have w2 : IntKind.i64.wrap ((row.take i).sum + row[i]) = (row.take (i + 1)).sum := by
          rw [List.take_succ_eq_append_getElem hlt, List.sum_append]; simp only [List.sum_cons, List.sum_nil, Int.add_zero]
          exact wrap_id (by omega) (by omega)
        simp -implicitDefEqProofs [c1, c2, w1, w2]
        repeat (refine And.intro (by omega) ?_)
        refine ih (i + 1) _ (by omega) (by rw [ht, hs]; simp [c1, c2]) ?_ ?_ ?_ ?_ ?_ ?_ <;> simp [g1, g2, sl]
end
end Go.Proofs.Ytoghpbjllompaaa.Rc

/- P15 -/
namespace Go.Proofs.Ytoghpbjllompaaa.Rc
open Go.Ab
section
variable {H : List AO} {t : Tb}
theorem rowsV_at {l : List (List Int)} {k : Nat} (h : k < l.length) : (rowsV l)[k]? = some (sl l[k]) := by simp [rowsV, h]
theorem rowsV_G {l : List (List Int)} {k : Nat} (h : k < (rowsV l).length) : (rowsV l)[k] = sl (l[k]'(by simpa [rowsV] using h)) := by simp [rowsV]
theorem rowsV_len (l : List (List Int)) : (rowsV l).length = l.length := by simp [rowsV]
theorem rowsV_under (n : Nat) (l : List (List Int)) : SV.underL n (rowsV l) = true := by
  rw [SV.underL_iff]
  intro x hx
  obtain ⟨r, _, rfl⟩ := List.mem_map.1 hx
  simp [sl]
theorem loopT82 {J : Nat → List AO → Prop} {E : List AO → Prop} {n : Nat} {rs : List (List Int)} (hl : rs.length ≤ 200)
    (hy : ∀ i (h : i < rs.length) H, J i H → YlP Try.prog n [sl rs[i]] H fun o H' => (o = .ret (bl true) ∧ J (i + 1) H') ∨ (o = .ret (bl false) ∧ E H'))
    {N : Nat} {K : XE → Env → List AO → Prop} (hexit : ∀ env H', J rs.length H' → K (.exit 0) env H') (hret : ∀ env H', E H' → K .ret env H') :
    ∀ (m i : Nat) (env : Env) (H : List AO), i + m = rs.length → J i H → env.get 0 = .yl n → env.get 5 = .slc (rowsV rs) rs.length → env.get 6 = i64 rs.length → env.get 7 = i64 i → LI Try.prog N drawB l82_0 env H K := by
  intro m
  induction m with
  | zero =>
    intro i env H hi hJ h0 h5 h6 h7
    refine li_go hm l82_0.eq_1 ?_
    have e : i = rs.length := by omega
    subst e
    simp -implicitDefEqProofs [h0, h5, h6, h7]
    exact hexit _ _ hJ
  | succ m ih =>
    intro i env H hi hJ h0 h5 h6 h7
    refine li_go hm l82_0.eq_1 ?_
    have hlt : i < rs.length := by omega
    have w1 : IntKind.i64.wrap ((i : Int) + 1) = ((i + 1 : Nat) : Int) := wrap_succ (by omega)
    have hyi := hy i hlt H hJ
    simp only [sl] at hyi
    simp -implicitDefEqProofs [h0, h5, h6, h7, hlt, rowsV_at hlt, rowsV_G, rowsV_len, sl]
    repeat (refine And.intro (by omega) ?_)
    refine call_yl hyi ?_
    rintro o H' (⟨rfl, hJ'⟩ | ⟨rfl, hE⟩)
    · simp -implicitDefEqProofs [h0, h5, h6, h7, w1]
      refine ih (i + 1) _ H' (by omega) hJ' ?_ ?_ ?_ ?_ <;> simp [h0, h5, h6]
    · simp -implicitDefEqProofs [h0, h5, h6, h7, w1]
      exact hret _ _ hE
theorem ok82 {J : Nat → List AO → Prop} {E : List AO → Prop} {n a : Nat} {rs : List (List Int)} (hl : rs.length ≤ 200)
    (hb : objCells H a 0 = [.slc (rowsV rs) rs.length]) (ha : a < H.length)
    (hy : ∀ i (h : i < rs.length) H, J i H → YlP Try.prog n [sl rs[i]] H fun o H' => (o = .ret (bl true) ∧ J (i + 1) H') ∨ (o = .ret (bl false) ∧ E H'))
    (hJ : J 0 H) : OkP Try.prog 82 [.yl n, .ptr (.own a 0 0 0 0) 0] H fun o H' => (∃ v, o = .ret v) ∧ (J rs.length H' ∨ E H') := by
  refine okP_fn hm Try.func82 c82 (by simp [ha]) fun hcl => ?_
  simp -implicitDefEqProofs [i82, r82, hb]
  refine loopT82 (J := J) (E := E) hl hy (fun env H' hJ' => ?_) (fun env H' hE => ?_) rs.length 0 _ H (by omega) hJ ?_ ?_ ?_ ?_
  · simp -implicitDefEqProofs
    exact ⟨_, _, ⟨⟨_, rfl⟩, .inl hJ'⟩, cv_id⟩
  · simp -implicitDefEqProofs
    exact ⟨_, _, ⟨⟨_, rfl⟩, .inr hE⟩, cv_id⟩
  all_goals simp
theorem ok69 {rs : List (List Int)} : Ok Try.prog 69 [.slc (rowsV rs) rs.length] H (.ret (.fn (.func 82) [] [.ptr (.own H.length 0 0 0 0) 0])) (H ++ [⟨[.slc (rowsV rs) rs.length], 26, 0, true⟩]) := by
  refine ok_fn hm Try.func69 c69 (by simp [rowsV_under]) fun hcl => ?_
  simp -implicitDefEqProofs [i69, r69]
  exact cv_id
def e44 (H : List AO) : Env := [(1, .ptr (.own H.length 0 0 0 0) 0), (2, .ptr (.own (H.length + 1) 0 0 0 0) 0), (21, .fn (.func 82) [] [.ptr (.own (H.length + 2) 0 0 0 0) 0])]
def rec44 (H : List AO) (st : LSt) : AO := lpo Try.prog 55 drawB 1 [22] ya44_0 yb44_0 ((e44 H).vals 55) st
def bxR (t : Tb) : AO := ⟨[.slc (rowsV t.r) t.r.length], 26, 0, true⟩
def sT (H : List AO) (t : Tb) (e : Int) (lo : AO) : List AO := H ++ [tbox t, rsO e, bxR t, lo]
theorem rowsE_snoc (tot : Int) : ∀ (l : List (List Int)) (r : List Int), rowsE tot l = 0 → rowsE tot (l ++ [r]) = rowE tot r
  | [], r, _ => by simp only [List.nil_append, rowsE]; split <;> omega
  | x :: l, r, h => by
    simp only [rowsE] at h
    by_cases hx : rowE tot x = 0
    · rw [if_neg (by omega)] at h
      simp only [List.cons_append, rowsE, if_neg (show ¬ rowE tot x ≠ 0 by omega)]
      exact rowsE_snoc tot l r h
    · rw [if_pos hx] at h; omega
theorem rowsE_le (tot : Int) : ∀ (l m : List (List Int)), rowsE tot l ≠ 0 → rowsE tot (l ++ m) = rowsE tot l
  | [], m, h => by simp [rowsE] at h
  | x :: l, m, h => by
    simp only [List.cons_append, rowsE] at h ⊢
    by_cases hx : rowE tot x = 0
    · rw [if_neg (by omega)] at h ⊢
      rw [if_neg (by omega)]
      exact rowsE_le tot l m h
    · rw [if_pos hx, if_pos hx]
theorem round44 (h1 : 1 ≤ t.b) (h2 : t.b ≤ 30) (row : List Int) (hrow : row.length < 9223372036854775808) :
    YlP Try.prog (H.length + 3) [sl row] (sT H t 0 (rec44 H .ready)) fun o H' => (o = .ret (bl true) ∧ rowE t.tot row = 0 ∧ H' = sT H t 0 (rec44 H .ready)) ∨ (o = .ret (bl false) ∧ rowE t.tot row ≠ 0 ∧ H' = sT H t (rowE t.tot row) (rec44 H .ret)) := by
  have hsh := tot_shl h1 h2
  refine yl_go (N := 55) (env := e44 H) hm ya44_0.eq_1 yb44_0.eq_1 (by simp [sT]; rfl) (by simp [e44]) (by decide) rfl fun hcl => ?_
  simp -implicitDefEqProofs [e44, sT, sl, pickI, rsO]
  refine ⟨_, rfl, ?_⟩
  unfold rowE
  by_cases c1 : row.length < 1
  · have c1' : (row.length : Int) < 1 := by omega
    simp -implicitDefEqProofs [c1, c1']
    exact ⟨_, by simp; rfl, .ret, false, _, ⟨rfl, rfl⟩, ⟨rfl, rfl⟩, cv_idq (by simp [rec44, e44])⟩
  · have c1' : ¬ (row.length : Int) < 1 := by omega
    by_cases c2 : 10 < row.length
    · have c2' : 10 < (row.length : Int) := by omega
      simp -implicitDefEqProofs [c1, c1', c2, c2']
      exact ⟨_, by simp; rfl, .ret, false, _, ⟨rfl, rfl⟩, ⟨rfl, rfl⟩, cv_idq (by simp [rec44, e44])⟩
    · have c2' : ¬ 10 < (row.length : Int) := by omega
      have hor : ¬ (row.length < 1 ∨ 10 < row.length) := by omega
      simp -implicitDefEqProofs [c1', c2']
      refine LI.cong (H' := H ++ tbox t :: rsO 0 :: [bxR t, lpo Try.prog 55 drawB 1 [22] ya44_0 yb44_0 ((e44 H).vals 55) .busy]) (by simp [rsO]) (loop44_0 h1 h2 (row := row) (by omega) (fun hb env => ?_) (fun hb env k1 k2 k4 => ?_) row.length 0 _ (by omega) rfl ?_ ?_ ?_ ?_ ?_ ?_)
      · rw [if_neg hor, if_pos hb]
        simp -implicitDefEqProofs
        exact ⟨_, by simp; rfl, .ret, false, _, ⟨rfl, rfl⟩, ⟨rfl, rfl⟩, cv_idq (by simp [rec44, e44, sT])⟩
      · rw [if_neg hor, if_neg (by simp [hb])]
        simp -implicitDefEqProofs [k1, k2, k4, tbox, hsh]
        by_cases c3 : row.sum = t.tot
        · simp -implicitDefEqProofs [c3]
          exact ⟨by omega, _, by simp; rfl, .ready, true, _, ⟨rfl, rfl⟩, ⟨rfl, rfl⟩, cv_idq (by simp [rec44, e44, sT, tbox])⟩
        · simp -implicitDefEqProofs [c3, rsO]
          exact ⟨by omega, _, by simp; rfl, .ret, false, _, ⟨rfl, rfl⟩, ⟨rfl, rfl⟩, cv_idq (by simp [rec44, e44, sT, tbox, rsO])⟩
      all_goals simp [sl]
theorem ok44 (hs : ∀ i (h : i < t.r.length), t.r[i].length < 9223372036854775808) : Ok Try.prog 44 [.agg t.cells] H (.ret (i64 t.err)) H := by
  refine ok_fn hm Try.func44 c44 (by simp [Tb.cells, rowsV_under]) fun hcl => ?_
  simp -implicitDefEqProofs [i44, r44, Tb.cells, pickI]
  unfold Tb.err
  by_cases hb : t.b < 1 ∨ 30 < t.b
  · rw [if_pos hb]
    by_cases c1 : t.b < 1
    · simp -implicitDefEqProofs [c1]
      exact cv_fz 1 hcl rfl (by simp)
    · have c2 : 30 < t.b := by omega
      simp -implicitDefEqProofs [c1, c2]
      exact cv_fz 1 hcl rfl (by simp)
  · rw [if_neg hb]
    have c1 : ¬ t.b < 1 := by omega
    have c2 : ¬ 30 < t.b := by omega
    by_cases hr : 200 < t.r.length
    · have hr' : 200 < (t.r.length : Int) := by omega
      simp -implicitDefEqProofs [c1, c2, hr, hr']
      exact cv_fz 1 hcl rfl (by simp)
    · have hr' : ¬ 200 < (t.r.length : Int) := by omega
      simp -implicitDefEqProofs [c1, c2, hr, hr']
      refine call_go ok69 ?_
      simp -implicitDefEqProofs
      have hl0 : t.r.length ≤ 200 := by omega
      refine rg_go (Pt := fun o H' => (∃ v, o = .ret v) ∧ ((rowsE t.tot t.r = 0 ∧ H' = sT H t 0 (rec44 H .ready)) ∨ (rowsE t.tot t.r ≠ 0 ∧ H' = sT H t (rowsE t.tot t.r) (rec44 H .ret)))) ?_ ?_
      · refine OkP.cast (args' := [.yl (H.length + 3), .ptr (.own (H.length + 2) 0 0 0 0) 0]) (H' := sT H t 0 (rec44 H .ready)) (by simp) (by simp [sT, rec44, e44, tbox, rsO, bxR]) ?_
        refine (ok82 (J := fun i H' => rowsE t.tot (t.r.take i) = 0 ∧ H' = sT H t 0 (rec44 H .ready)) (E := fun H' => rowsE t.tot t.r ≠ 0 ∧ H' = sT H t (rowsE t.tot t.r) (rec44 H .ret)) hl0 (by simp [sT, bxR]) (by simp [sT]) ?_ ⟨rfl, rfl⟩).mono ?_
        · rintro i hi H' ⟨hz, rfl⟩
          have hrow : t.r[i].length < 9223372036854775808 := hs i hi
          refine YlP.mono (round44 (by omega) (by omega) t.r[i] hrow) ?_
          rintro o H' (⟨rfl, hz', rfl⟩ | ⟨rfl, hz', rfl⟩)
          · refine .inl ⟨rfl, ?_, rfl⟩
            rw [List.take_succ_eq_append_getElem hi, rowsE_snoc _ _ _ hz]; exact hz'
          · have e : rowsE t.tot t.r = rowE t.tot t.r[i] := by
              have h3 := rowsE_snoc t.tot (t.r.take i) t.r[i] hz
              rw [← List.take_succ_eq_append_getElem hi] at h3
              have h4 := rowsE_le t.tot (t.r.take (i + 1)) (t.r.drop (i + 1)) (by rw [h3]; exact hz')
              rw [List.take_append_drop] at h4
              rw [h4, h3]
            rw [e]
            exact .inr ⟨rfl, hz', rfl⟩
        · rintro o H' ⟨hv, h⟩
          rw [List.take_length] at h
          exact ⟨hv, h⟩
      · rintro out H' ⟨⟨v, rfl⟩, (⟨hz, rfl⟩ | ⟨hz, rfl⟩)⟩
        · refine ⟨.ready, _, by simp [sT]; rfl, ?_⟩
          simp -implicitDefEqProofs [sT, rsO]
          rw [hz]
          exact cv_fz 1 hcl rfl (by simp [c1, c2, hr])
        · refine ⟨.ret, _, by simp [sT]; rfl, ?_⟩
          simp -implicitDefEqProofs [sT, rsO]
          exact cv_fz 1 hcl rfl (by simp [c1, c2, hr])
end
end Go.Proofs.Ytoghpbjllompaaa.Rc

/- P16 -/
namespace Go.Proofs.Ytoghpbjllompaaa.Rc
open Go.Ab
section
variable {H : List AO} {t : Tb}
end
end Go.Proofs.Ytoghpbjllompaaa.Rc

/- P17 -/
namespace Go.Proofs.Ytoghpbjllompaaa.Rc
open Go.Ab
def rowB (row : List Int) : List Int := u8w row.length :: row.flatMap putB
def Tb.byt (t : Tb) : List Int := headB 84 t.b t.r.length ++ t.r.flatMap rowB
theorem rowE_ok {tot : Int} {row : List Int} (h : rowE tot row = 0) : 1 ≤ row.length ∧ row.length ≤ 10 ∧ shE tot row = false ∧ row.sum = tot := by
  unfold rowE at h
  split at h
  · cases h
  · split at h
    · cases h
    · rename_i h2
      split at h
      · cases h
      · rename_i h3
        exact ⟨by omega, by omega, by simpa using h2, Classical.byContradiction h3⟩
theorem shE_mem {tot : Int} : ∀ {l : List Int}, shE tot l = false → ∀ s ∈ l, 0 ≤ s ∧ s ≤ tot
  | [], _, s, hs => by simp at hs
  | x :: l, h, s, hs => by
    simp only [shE, Bool.or_eq_false_iff, decide_eq_false_iff_not] at h
    rcases List.mem_cons.1 hs with rfl | hs
    · omega
    · exact shE_mem h.2 s hs
theorem rowsE_mem {tot : Int} : ∀ {l : List (List Int)}, rowsE tot l = 0 → ∀ r ∈ l, rowE tot r = 0
  | [], _, s, hs => by simp at hs
  | x :: l, h, s, hs => by
    simp only [rowsE] at h
    by_cases hx : rowE tot x = 0
    · rw [if_neg (by omega)] at h
      rcases List.mem_cons.1 hs with rfl | hs
      · exact hx
      · exact rowsE_mem h s hs
    · rw [if_pos hx] at h; omega
/-- What is known of a table without a fault. -/
structure Td (t : Tb) : Prop where
  b1 : 1 ≤ t.b
  b2 : t.b ≤ 30
  n : t.r.length ≤ 200
  r : ∀ r ∈ t.r, 1 ≤ r.length ∧ r.length ≤ 10 ∧ ∀ s ∈ r, 0 ≤ s ∧ s ≤ 1073741824
theorem Td.of {t : Tb} (h : t.err = 0) : Td t := by
  unfold Tb.err at h
  split at h
  · cases h
  · split at h
    · cases h
    · have htot := tot_rng (t := t) (by omega) (by omega)
      refine ⟨by omega, by omega, by omega, fun r hr => ?_⟩
      obtain ⟨a, b, c, d⟩ := rowE_ok (rowsE_mem h r hr)
      exact ⟨a, b, fun s hs => by have := shE_mem c s hs; omega⟩
theorem rowB_len {row : List Int} (h : row.length ≤ 10) : (rowB row).length ≤ 101 := by
  have := fm_len (f := putB) (b := 10) (l := row) fun y _ => (putB_len y).2
  simp only [rowB, List.length_cons]; omega
theorem Tb.byt_len {t : Tb} (h : Td t) : t.byt.length < 10000000 := by
  have h1 := headB_len 84 t.b t.r.length
  have h2 := fm_len (f := rowB) (b := 101) (l := t.r) fun y hy => rowB_len (h.r y hy).2.1
  have h3 := h.n
  simp only [Tb.byt, List.length_append]; omega
theorem Tb.byt_oct {t : Tb} (h : Td t) : Oct t.byt := by
  have h5 := h.n
  refine Oct.app (Oct.app ?_ (Oct.put (by omega) (by omega))) (Oct.fm fun y hy => ?_)
  · exact Oct.cons (by omega) (Oct.cons (by omega) (Oct.cons (by omega) (Oct.cons (u8w_rng _) Oct.nil)))
  · exact Oct.cons (u8w_rng _) (Oct.fm fun s hs => by have := (h.r y hy).2.2 s hs; exact Oct.put (by omega) (by omega))
def tabR (t : Tb) : List Int × Int := if t.err ≠ 0 then ([], t.err) else (sealB t.byt, 0)
section
variable {A H : List AO} {t : Tb}
theorem loopC13_1 {ws R : List Int} (hw : ∀ w ∈ ws, 0 ≤ w ∧ w < 9223372036854775808) (hwl : ws.length ≤ 100000) (hR : R.length < 10000000000) {e31 e32 e33 : SV} {N : Nat} {K : XE → Env → List AO → Prop}
    (hexit : ∀ env v M, env.get 6 = .own A.length 0 R.length 1 v → env.get 31 = e31 → env.get 32 = e32 → env.get 33 = e33 → K (.exit 2) env (A ++ rwB 5 v R :: M)) :
    ∀ (n i : Nat) (l : List Int) (v : Nat) (env : Env) (M : List AO), i + n = ws.length → l ++ (ws.drop i).flatMap putB = R → env.get 6 = .own A.length 0 l.length 1 v → env.get 31 = e31 → env.get 32 = e32 → env.get 33 = e33 →
      env.get 43 = sl ws → env.get 44 = i64 ws.length → env.get 45 = i64 i → LI Try.prog N drawB l13_1 env (A ++ rwB 5 v l :: M) K := by
  intro n
  induction n with
  | zero =>
    intro i l v env M hi hr h6 h31 h32 h33 h43 h44 h45
    refine li_go hm l13_1.eq_1 ?_
    have e : i = ws.length := by omega
    subst e
    have hr : l = R := by simpa using hr
    subst hr
    simp -implicitDefEqProofs [h6, h31, h32, h33, h43, h44, h45]
    refine hexit _ v M ?_ ?_ ?_ ?_ <;> simp [h6, h31, h32, h33]
  | succ n ih =>
    intro i l v env M hi hr h6 h31 h32 h33 h43 h44 h45
    refine li_go hm l13_1.eq_1 ?_
    have hlt : i < ws.length := by omega
    have hwi := hw _ (List.getElem_mem hlt)
    rw [List.drop_eq_getElem_cons hlt, List.flatMap_cons, ← List.append_assoc] at hr
    have hll : (l ++ putB ws[i]).length ≤ R.length := by rw [← hr]; simp
    have hll2 : l.length ≤ R.length := by rw [List.length_append] at hll; omega
    have w1 : IntKind.i64.wrap ((i : Int) + 1) = ((i + 1 : Nat) : Int) := wrap_succ (by omega)
    have h38 := ok38 (H := A ++ rwB 5 v l :: M) (j := A.length) (v := v) (l := l) (by simp) (by omega) hwi.1 hwi.2
    simp -implicitDefEqProofs [h6, h31, h32, h33, h43, h44, h45, hlt, sl]
    repeat (refine And.intro (by omega) ?_)
    refine call_go h38 ?_
    simp -implicitDefEqProofs [h6, h31, h32, h33, h43, h44, h45, hlt, sl, w1]
    refine LI.cong (by simp [set_app0]) (ih (i + 1) (l ++ putB ws[i]) (v + (putB ws[i]).length) _ M (by omega) hr ?_ ?_ ?_ ?_ ?_ ?_ ?_) <;> simp [h31, h32, h33, h43, h44, sl, w1]
theorem loopC13_0 (ht : Td t) {R : List Int} (hR : R.length < 10000000000) {N : Nat} {K : XE → Env → List AO → Prop}
    (hexit : ∀ env v M, env.get 6 = .own A.length 0 R.length 1 v → K (.exit 0) env (A ++ rwB 5 v R :: M)) :
    ∀ (n i : Nat) (l : List Int) (v : Nat) (env : Env) (M : List AO), i + n = t.r.length → l ++ (t.r.drop i).flatMap rowB = R → env.get 6 = .own A.length 0 l.length 1 v → env.get 31 = .slc (rowsV t.r) t.r.length → env.get 32 = i64 t.r.length → env.get 33 = i64 i →
      LI Try.prog N drawB l13_0 env (A ++ rwB 5 v l :: M) K := by
  have htn := ht.n
  intro n
  induction n with
  | zero =>
    intro i l v env M hi hr h6 h31 h32 h33
    refine li_go hm l13_0.eq_1 ?_
    have e : i = t.r.length := by omega
    subst e
    have hr : l = R := by simpa using hr
    subst hr
    simp -implicitDefEqProofs [h6, h31, h32, h33]
    refine hexit _ v M ?_ <;> simp [h6]
  | succ n ih =>
    intro i l v env M hi hr h6 h31 h32 h33
    refine li_go hm l13_0.eq_1 ?_
    have hlt : i < t.r.length := by omega
    have hrow := ht.r _ (List.getElem_mem hlt)
    rw [List.drop_eq_getElem_cons hlt, List.flatMap_cons, ← List.append_assoc] at hr
    have hll : (l ++ rowB t.r[i]).length ≤ R.length := by rw [← hr]; simp
    have w1 : IntKind.i64.wrap ((i : Int) + 1) = ((i + 1 : Nat) : Int) := wrap_succ (by omega)
    simp -implicitDefEqProofs [h6, h31, h32, h33, hlt, rowsV_at hlt, rowsV_G, rowsV_len, sl, u8w_eq, rwB]
    generalize t.r[i] = row at *
    have hll2 : l.length + (rowB row).length ≤ R.length := by rw [List.length_append] at hll; omega
    have hll3 : 1 ≤ (rowB row).length := by simp [rowB]
    repeat (refine And.intro (by omega) ?_)
    refine LI.cong (by simp [rwB, byts]) (loopC13_1 (A := A) (ws := row) (R := l ++ rowB row) (fun w hw => by have := hrow.2.2 w hw; omega) (by omega) (by omega) (e31 := .slc (rowsV t.r) t.r.length) (e32 := i64 t.r.length) (e33 := i64 i) (fun env v M k6 k31 k32 k33 => ?_)
      row.length 0 (l ++ [u8w row.length]) (v + 1) _ (M ++ [⟨[u8 (u8w row.length)], 5, 0, true⟩]) (by omega) (by simp [rowB]) ?_ ?_ ?_ ?_ ?_ ?_ ?_)
    · simp -implicitDefEqProofs [k6, k31, k32, k33, w1]
      refine ih (i + 1) _ v _ M (by omega) hr ?_ ?_ ?_ ?_ <;> simp [k6, k31, k32]
    all_goals simp [h31, h32, h33, sl]
theorem ok13 (hs : ∀ i (h : i < t.r.length), t.r[i].length < 9223372036854775808) : Ok Try.prog 13 [.agg t.cells] H (.ret (bl2 (tabR t))) H := by
  refine ok_fn hm Try.func13 c13 (by simp [Tb.cells, rowsV_under]) fun hcl => ?_
  have hh := fun H => ok44 (H := H) (t := t) hs
  simp only [Tb.cells] at hh
  simp -implicitDefEqProofs [i13, r13, Tb.cells]
  refine call_go (hh _) ?_
  unfold tabR
  by_cases hf : t.err = 0
  · have ht := Td.of hf
    have hn := ht.n
    have hbl := Tb.byt_len ht
    have hbo := Tb.byt_oct ht
    have hpl := putB_len t.r.length
    simp -implicitDefEqProofs [hf]
    refine call_go (ok37 84) ?_
    simp -implicitDefEqProofs [u8w_eq]
    have h38 := ok38 (H := H ++ tbox t :: hdO 84 :: rwB 5 2 [80, 84, 1, u8w t.b] :: [⟨[u8 (u8w t.b)], 5, 0, true⟩]) (j := H.length + 2) (v := 2) (l := [80, 84, 1, u8w t.b]) (by simp) (by simp) (n := t.r.length) (by omega) (by omega)
    refine call_go (Ok.cast (by simp) (by simp [rwB, byts, tbox, hdO]) rfl rfl h38) ?_
    simp -implicitDefEqProofs [tbox]
    refine LI.cong (H' := (H ++ [tbox t, hdO 84]) ++ rwB 5 (2 + (putB t.r.length).length) (headB 84 t.b t.r.length) :: [⟨[u8 (u8w t.b)], 5, 0, true⟩]) ?_ (loopC13_0 (A := H ++ [tbox t, hdO 84]) ht (R := t.byt) (by omega) (fun env v M k6 => ?_) t.r.length 0 (headB 84 t.b t.r.length) (2 + (putB t.r.length).length) _ [⟨[u8 (u8w t.b)], 5, 0, true⟩] (by omega) (by simp [Tb.byt]) ?_ ?_ ?_ ?_)
    · simp [tbox, headB]
    · simp -implicitDefEqProofs [k6]
      have h40 := ok40 (A := H ++ [tbox t, hdO 84]) (l := t.byt) (v := v) (M := M) hbo (by omega)
      refine call_go (Ok.cast (by simp) (by simp) rfl rfl h40) ?_
      simp -implicitDefEqProofs
      refine cv_fz 3 hcl rfl ?_
      simp [hf, bl2, rwB]
    all_goals simp [headB]
  · simp -implicitDefEqProofs [hf]
    refine Cv.le (cv_fz 4 hcl rfl rfl) ?_
    simp [hf, bl2, byts]
    exact le_tup (leL.cons le_nil (leL.cons (SV.le.refl _) leL.nil))
end
end Go.Proofs.Ytoghpbjllompaaa.Rc

/- P18 -/
namespace Go.Proofs.Ytoghpbjllompaaa.Rc
open Go.Ab Go.WideShapes
section
variable {H : List AO} {t : Tb}
end
end Go.Proofs.Ytoghpbjllompaaa.Rc

/- Q17 -/
namespace Go.Proofs.Ytoghpbjllompaaa.Rc
open Go.Ab
end Go.Proofs.Ytoghpbjllompaaa.Rc

/- P19 -/
namespace Go.Proofs.Ytoghpbjllompaaa.Rc
open Go.Ab Go.WideShapes
section
variable {H : List AO} {t : Tb} {g : Gm}
end
end Go.Proofs.Ytoghpbjllompaaa.Rc

/- P20 -/
namespace Go.Proofs.Ytoghpbjllompaaa.Rc
open Go.Ab
abbrev Fl := Int × Int
def fltV (f : Fl) : SV := .ifc 47 (.agg [i64 f.1, i64 f.2])
def rdO (l : List Int) (a : Nat) : AO := ⟨[.slc (byts l) l.length, i64 a], 86, 0, true⟩
def rp (j : Nat) : SV := .ptr (.own j 0 0 0 0) 0
def octR (l : List Int) (lo hi : Int) (a : Nat) : Except Fl (Int × Nat) :=
  if l.length ≤ a then .error (16, a) else if l.getD a 0 < lo ∨ hi < l.getD a 0 then .error (2, a) else .ok (l.getD a 0, a + 1)
/-- All objects but these are as they were. -/
structure Keep (H : List AO) (js : List Nat) (H' : List AO) : Prop where
  len : H.length ≤ H'.length
  at_ : ∀ i, i < H.length → i ∉ js → H'[i]? = H[i]?
theorem Keep.refl (H : List AO) (js : List Nat) : Keep H js H := ⟨Nat.le_refl _, fun _ _ _ => rfl⟩
theorem Keep.set {H : List AO} {js : List Nat} {j : Nat} (hj : j ∈ js) (o : AO) : Keep H js (H.set j o) := by
  refine ⟨by simp, fun i _ hi => ?_⟩
  rw [List.getElem?_set_ne]
  rintro rfl; exact hi hj
theorem Keep.trans {H H' H'' : List AO} {js : List Nat} (h : Keep H js H') (h' : Keep H' js H'') : Keep H js H'' :=
  ⟨Nat.le_trans h.len h'.len, fun i hi hj => (h'.at_ i (Nat.lt_of_lt_of_le hi h.len) hj).trans (h.at_ i hi hj)⟩
theorem Keep.mono {H H' : List AO} {js ks : List Nat} (h : Keep H js H') (hs : ∀ j ∈ js, j ∈ ks) : Keep H ks H' :=
  ⟨h.len, fun i hi hj => h.at_ i hi fun hj' => hj (hs i hj')⟩
/-- What a reader's call comes to. -/
def RdP {α : Type} (H : List AO) (l : List Int) (j : Nat) (f : α → SV) (r : Except Fl (α × Nat)) (o : Out) (H' : List AO) : Prop :=
  match r with
  | .ok (v, a) => o = .ret (f v) ∧ H' = H.set j (rdO l a)
  | .error e => o = .pan (fltV e) ∧ Keep H [j] H'
theorem objCells_set1 {H : List AO} {j : Nat} (hj : j < H.length) (c : List SV) (T : TypeId) (v : Nat) : objCells (H.set j ⟨c, T, v, true⟩) j v = c :=
  objCells_of (o := ⟨c, T, v, true⟩) (by rw [List.getElem?_set_self hj]) rfl
section
variable {H : List AO} {l : List Int} {j a : Nat}
theorem ok53 (e p : Int) : Ok Try.prog 53 [i64 e, i64 p] H (.pan (fltV (e, p))) H := by
  refine ok_fn hm Try.func53 c53 (by simp) fun hcl => ?_
  simp -implicitDefEqProofs [i53, r53]
  exact cv_id
theorem ok70 (v lo hi p : Int) : Ok Try.prog 70 [i64 v, i64 lo, i64 hi, i64 p] H (if v < lo ∨ hi < v then .pan (fltV (2, p)) else .ret (i64 v)) H := by
  refine ok_fn hm Try.func70 c70 (by simp) fun hcl => ?_
  by_cases h1 : v < lo
  · rw [if_pos (.inl h1)]
    simp -implicitDefEqProofs [i70, r70, h1, pickI]
    refine call_go (ok53 2 p) ?_
    simp -implicitDefEqProofs
    exact cv_id
  · by_cases h2 : hi < v
    · rw [if_pos (.inr h2)]
      simp -implicitDefEqProofs [i70, r70, h1, h2, pickI]
      refine call_go (ok53 2 p) ?_
      simp -implicitDefEqProofs
      exact cv_id
    · rw [if_neg (by omega)]
      simp -implicitDefEqProofs [i70, r70, h1, h2, pickI]
      exact cv_id
theorem byts_at {l : List Int} {k : Nat} (h : k < l.length) : (byts l)[k]? = some (u8 l[k]) := by simp [byts, h]
theorem ok49 (ho : H[j]? = some (rdO l a)) (hoct : Oct l) (hl : l.length ≤ 100000) (ha : a ≤ l.length) (lo hi : Int) :
    OkP Try.prog 49 [rp j, i64 lo, i64 hi] H (RdP H l j i64 (octR l lo hi a)) := by
  have hj := getElem?_lt ho
  have e1 : objCells H j 0 = (rdO l a).cells := objCells_of (o := rdO l a) ho rfl
  have e2 : ∀ f : AO → AO, Ab.setObj H j f = H.set j (f (rdO l a)) := fun f => setObj_some ho f
  refine okP_fn hm Try.func49 c49 (by simp [rp, SV.under, hj]) fun hcl => ?_
  unfold octR
  by_cases h1 : l.length ≤ a
  · have e : a = l.length := by omega
    subst e
    rw [if_pos (Nat.le_refl _)]
    simp -implicitDefEqProofs [i49, r49, rp, e1, rdO]
    refine call_go (ok53 16 l.length) ?_
    simp -implicitDefEqProofs
    exact ⟨_, H, ⟨rfl, Keep.refl _ _⟩, cv_id⟩
  · rw [if_neg h1]
    have hlt : a < l.length := by omega
    have hne : ¬ (a : Int) = (l.length : Int) := by omega
    have hne' : ¬ a = l.length := by omega
    have hb := hoct _ (List.getElem_mem hlt)
    have w1 : IntKind.i64.wrap ((a : Int) + 1) = (a : Int) + 1 := wrap_id (by omega) (by omega)
    have w2 : IntKind.i64.wrap (a : Int) = a := wrap_nat (by omega)
    have w3 : IntKind.i64.wrap l[a] = l[a] := wrap_id (by omega) (by omega)
    have hg : l.getD a 0 = l[a] := by simp [hlt]
    rw [hg]
    have h70 := ok70 (H := H.set j (rdO l (a + 1))) l[a] lo hi a
    simp only [rdO] at h70
    simp -implicitDefEqProofs [i49, r49, rp, e1, e2, rdO, hne, hne', w1, objCells_set1 hj, w2, hlt, byts_at hlt, w3]
    refine ⟨by omega, call_go (by simpa using h70) ?_⟩
    by_cases hr : l[a] < lo ∨ hi < l[a]
    · rw [if_pos hr, if_pos hr]
      simp -implicitDefEqProofs
      exact ⟨_, _, ⟨rfl, Keep.set (by simp) _⟩, cv_id⟩
    · rw [if_neg hr, if_neg hr]
      simp -implicitDefEqProofs [objCells_set1 hj, w2, hlt, byts_at hlt, w3]
      exact ⟨_, _, ⟨rfl, rfl⟩, cv_idq (by simp [rdO])⟩
/-- A number, from lo to hi. -/
def numR (l : List Int) (lo hi : Int) (a : Nat) : Except Fl (Int × Nat) :=
  if (getV l a).2.2 ≠ 0 then .error ((getV l a).2.2, a) else if (getV l a).1 < lo ∨ hi < (getV l a).1 then .error (2, a) else .ok ((getV l a).1, (getV l a).2.1.toNat)
theorem getR_next : ∀ (k : Nat) (r : List Int) (p n i v nx : Int), getR k r p n i = (v, nx, 0) → i < nx ∧ nx ≤ i + r.length
  | 0, r, p, n, i, v, nx, h => by simp [getR] at h
  | k + 1, [], p, n, i, v, nx, h => by simp [getR] at h
  | k + 1, c :: r, p, n, i, v, nx, h => by
    simp only [getR] at h
    split at h
    · have := getR_next k r _ _ _ v nx h
      simp only [List.length_cons]; omega
    · split at h
      · simp at h
      · simp only [Prod.mk.injEq, and_true] at h
        simp only [List.length_cons]; omega
theorem getV_next {l : List Int} {a : Nat} (h : (getV l a).2.2 = 0) (ha : a ≤ l.length) : (a : Int) < (getV l a).2.1 ∧ (getV l a).2.1 ≤ l.length := by
  obtain ⟨v, nx, e, hv⟩ : ∃ v nx e, getV l a = (v, nx, e) := ⟨_, _, _, rfl⟩
  rw [hv] at h ⊢
  simp only at h ⊢
  subst h
  unfold getV at hv
  split at hv
  · simp at hv
  · have := getR_next _ _ _ _ _ _ _ hv
    simp only [Int.toNat_natCast, List.length_drop] at this
    omega
theorem ok50 (ho : H[j]? = some (rdO l a)) (hoct : Oct l) (hl : l.length ≤ 100000) (ha : a ≤ l.length) (lo hi : Int) :
    OkP Try.prog 50 [rp j, i64 lo, i64 hi] H (RdP H l j i64 (numR l lo hi a)) := by
  have hj := getElem?_lt ho
  have e1 : objCells H j 0 = (rdO l a).cells := objCells_of (o := rdO l a) ho rfl
  have e2 : ∀ f : AO → AO, Ab.setObj H j f = H.set j (f (rdO l a)) := fun f => setObj_some ho f
  refine okP_fn hm Try.func50 c50 (by simp [rp, SV.under, hj]) fun hcl => ?_
  have h18 := ok18 (IsB.slc H l) hoct (by omega) a
  have hnx := fun h => getV_next (l := l) (a := a) h ha
  unfold numR
  generalize getV l a = g at *
  obtain ⟨v, nx, e⟩ := g
  simp only [tup3] at *
  simp -implicitDefEqProofs [i50, r50, rp, e1, rdO]
  refine call_go h18 ?_
  by_cases he : e = 0
  · subst he
    have hnx := hnx rfl
    have h70 := ok70 (H := H.set j (rdO l nx.toNat)) v lo hi a
    have hto : ((nx.toNat : Nat) : Int) = nx := by omega
    simp only [rdO, hto] at h70
    simp -implicitDefEqProofs [e1, e2, rdO]
    refine call_go (by simpa using h70) ?_
    by_cases hr : v < lo ∨ hi < v
    · rw [if_pos hr, if_pos hr]
      simp -implicitDefEqProofs
      exact ⟨_, _, ⟨rfl, Keep.set (by simp) _⟩, cv_id⟩
    · rw [if_neg hr, if_neg hr]
      simp -implicitDefEqProofs
      exact ⟨_, _, ⟨rfl, rfl⟩, cv_idq (by simp [rdO, hto])⟩
  · simp -implicitDefEqProofs [e1, e2, rdO, he]
    refine call_go (ok53 e a) ?_
    simp -implicitDefEqProofs [he]
    exact ⟨_, H, ⟨rfl, Keep.refl _ _⟩, cv_id⟩
/-- A signed number, from lo to hi. -/
def unz (n : Int) : Int := if n % 2 = 1 then -(n / 2) - 1 else n / 2
def sgnR (l : List Int) (lo hi : Int) (a : Nat) : Except Fl (Int × Nat) :=
  match numR l 0 4611686018427387903 a with
  | .error e => .error e
  | .ok (n, a') => if unz n < lo ∨ hi < unz n then .error (2, a) else .ok (unz n, a')
theorem numR_rng {l : List Int} {lo hi : Int} {a a' : Nat} {n : Int} (h : numR l lo hi a = .ok (n, a')) : lo ≤ n ∧ n ≤ hi := by
  unfold numR at h
  split at h
  · cases h
  · split at h
    · cases h
    · simp only [Except.ok.injEq, Prod.mk.injEq] at h; omega
theorem numR_next {l : List Int} {lo hi : Int} {a a' : Nat} {n : Int} (h : numR l lo hi a = .ok (n, a')) (ha : a ≤ l.length) : a < a' ∧ a' ≤ l.length := by
  unfold numR at h
  split at h
  · cases h
  · rename_i h1
    have := getV_next (l := l) (a := a) (Classical.byContradiction h1) ha
    split at h
    · cases h
    · simp only [Except.ok.injEq, Prod.mk.injEq] at h; omega
theorem octR_next {l : List Int} {lo hi : Int} {a a' : Nat} {n : Int} (h : octR l lo hi a = .ok (n, a')) : a < a' ∧ a' ≤ l.length ∧ lo ≤ n ∧ n ≤ hi := by
  unfold octR at h
  split at h
  · cases h
  · split at h
    · cases h
    · simp only [Except.ok.injEq, Prod.mk.injEq] at h; omega
theorem ok83 (ho : H[j]? = some (rdO l a)) (hoct : Oct l) (hl : l.length ≤ 100000) (ha : a ≤ l.length) (lo hi : Int) :
    OkP Try.prog 83 [rp j, i64 lo, i64 hi] H (RdP H l j i64 (sgnR l lo hi a)) := by
  have hj := getElem?_lt ho
  have e1 : objCells H j 0 = (rdO l a).cells := objCells_of (o := rdO l a) ho rfl
  refine okP_fn hm Try.func83 c83 (by simp [rp, SV.under, hj]) fun hcl => ?_
  have h50 := ok50 ho hoct hl ha 0 4611686018427387903
  have hrg := fun n a' => numR_rng (l := l) (lo := 0) (hi := 4611686018427387903) (a := a) (a' := a') (n := n)
  unfold sgnR
  generalize numR l 0 4611686018427387903 a = r at *
  simp -implicitDefEqProofs [i83, r83, rp, e1, rdO]
  refine call_goP h50 ?_
  rintro o H' ho'
  cases r with
  | error e =>
    obtain ⟨rfl, hk⟩ := ho'
    simp -implicitDefEqProofs
    exact ⟨_, _, ⟨rfl, hk⟩, cv_id⟩
  | ok p =>
    obtain ⟨n, a'⟩ := p
    obtain ⟨rfl, rfl⟩ := ho'
    have hn := hrg n a' rfl
    have t1 : n.tdiv 2 = n / 2 := Int.tdiv_eq_ediv_of_nonneg hn.1
    have t2 : n.tmod 2 = n % 2 := Int.tmod_eq_emod_of_nonneg hn.1
    have w1 : IntKind.i64.wrap (n / 2) = n / 2 := wrap_id (by omega) (by omega)
    have w2 : IntKind.i64.wrap (-(n / 2)) = -(n / 2) := wrap_id (by omega) (by omega)
    have w3 : IntKind.i64.wrap (-(n / 2) - 1) = -(n / 2) - 1 := wrap_id (by omega) (by omega)
    simp only []
    by_cases hodd : n % 2 = 1
    · have eu : unz n = -(n / 2) - 1 := if_pos hodd
      rw [eu]
      simp -implicitDefEqProofs [t1, t2, w1, w2, w3, hodd]
      refine call_go (ok70 _ lo hi a) ?_
      by_cases hr : -(n / 2) - 1 < lo ∨ hi < -(n / 2) - 1
      · rw [if_pos hr, if_pos hr]
        simp -implicitDefEqProofs
        exact ⟨_, _, ⟨rfl, Keep.set (by simp) _⟩, cv_id⟩
      · rw [if_neg hr, if_neg hr]
        simp -implicitDefEqProofs
        exact ⟨_, _, ⟨rfl, rfl⟩, cv_id⟩
    · have eu : unz n = n / 2 := if_neg hodd
      rw [eu]
      simp -implicitDefEqProofs [t1, t2, w1, w2, w3, hodd]
      refine call_go (ok70 _ lo hi a) ?_
      by_cases hr : n / 2 < lo ∨ hi < n / 2
      · rw [if_pos hr, if_pos hr]
        simp -implicitDefEqProofs
        exact ⟨_, _, ⟨rfl, Keep.set (by simp) _⟩, cv_id⟩
      · rw [if_neg hr, if_neg hr]
        simp -implicitDefEqProofs
        exact ⟨_, _, ⟨rfl, rfl⟩, cv_id⟩
theorem ok52 (ho : H[j]? = some (rdO l a)) (ha : a ≤ l.length) : Ok Try.prog 52 [rp j] H (if a < l.length then .pan (fltV (4, a)) else .ret (.tup [])) H := by
  have hj := getElem?_lt ho
  have e1 : objCells H j 0 = (rdO l a).cells := objCells_of (o := rdO l a) ho rfl
  refine ok_fn hm Try.func52 c52 (by simp [rp, SV.under, hj]) fun hcl => ?_
  by_cases h : a < l.length
  · rw [if_pos h]
    simp -implicitDefEqProofs [i52, r52, rp, e1, rdO, h]
    refine call_go (ok53 4 a) ?_
    simp -implicitDefEqProofs
    exact cv_id
  · rw [if_neg h]
    simp -implicitDefEqProofs [i52, r52, rp, e1, rdO, h]
    exact cv_id
end
end Go.Proofs.Ytoghpbjllompaaa.Rc

/- P21 -/
namespace Go.Proofs.Ytoghpbjllompaaa.Rc
open Go.Ab
theorem set_hS {H : List AO} {j : Nat} (hj : j < H.length) (L : List AO) (x y : AO) : (H.set j x ++ L).set j y = H.set j y ++ L := by
  rw [List.set_append_left _ _ (by simpa using hj), List.set_set]
theorem Keep.app {H : List AO} {js : List Nat} {j : Nat} (hj : j ∈ js) (o : AO) (L : List AO) : Keep H js (H.set j o ++ L) := by
  refine ⟨by simp, fun i hi hn => ?_⟩
  rw [List.getElem?_append_left (by simpa using hi), List.getElem?_set_ne]
  rintro rfl; exact hn hj
def listR (f : Nat → Except Fl (Int × Nat)) : Nat → Nat → Except Fl (List Int × Nat)
  | 0, a => .ok ([], a)
  | n + 1, a => match f a with
    | .error e => .error e
    | .ok (v, a') => match listR f n a' with
      | .error e => .error e
      | .ok (vs, a'') => .ok (v :: vs, a'')
def preR (vs : List Int) : Except Fl (List Int × Nat) → Except Fl (List Int × Nat)
  | .error e => .error e
  | .ok (ws, a) => .ok (vs ++ ws, a)
theorem preR_nil (r : Except Fl (List Int × Nat)) : preR [] r = r := by cases r <;> rfl
theorem preR_step (f : Nat → Except Fl (Int × Nat)) (n a : Nat) (vs : List Int) : preR vs (listR f (n + 1) a) = match f a with
    | .error e => .error e
    | .ok (v, a') => preR (vs ++ [v]) (listR f n a') := by
  simp only [listR]
  cases f a with
  | error e => rfl
  | ok p =>
    obtain ⟨v, a'⟩ := p
    simp only []
    cases listR f n a' with
    | error e => rfl
    | ok q => obtain ⟨ws, b⟩ := q; simp [preR]
def ndO (k p i : Int) (nx ws ps : SV) : AO := ⟨[i64 k, i64 p, i64 i, nx, ws, ps], 74, 0, true⟩
section
variable {H : List AO} {l : List Int} {jr : Nat}
def sW (H : List AO) (jr : Nat) (l : List Int) (a : Nat) (vs : List Int) (M : List AO) : List AO :=
  H.set jr (rdO l a) ++ ndO 1 0 0 nl (.own (H.length + 1) 0 vs.length 1 vs.length) nl :: ⟨ints vs, 3, vs.length, true⟩ :: M
def sP (H : List AO) (jr : Nat) (l : List Int) (a : Nat) (vs : List Int) (M : List AO) : List AO :=
  H.set jr (rdO l a) ++ ndO 3 0 0 nl nl (.own (H.length + 1) 0 vs.length 1 vs.length) :: ⟨ints vs, 3, vs.length, true⟩ :: M
theorem sgnR_next {l : List Int} {lo hi : Int} {a a' : Nat} {n : Int} (h : sgnR l lo hi a = .ok (n, a')) (ha : a ≤ l.length) : a < a' ∧ a' ≤ l.length := by
  unfold sgnR at h
  split at h
  · cases h
  · rename_i hn
    have := numR_next hn ha
    split at h
    · cases h
    · simp only [Except.ok.injEq, Prod.mk.injEq] at h; omega
theorem loop72_0 (hoct : Oct l) (hl : l.length ≤ 100000) (hj : jr < H.length) {cnt : Nat} (hc : cnt ≤ 1000) {e5 : SV} {r : Except Fl (List Int × Nat)} {N : Nat} {K : XE → Env → List AO → Prop}
    (herr : ∀ e, r = .error e → ∀ env H', Keep H [jr] H' → K (.panic (fltV e)) env H')
    (hexit : ∀ vs a, r = .ok (vs, a) → ∀ env M, env.get 4 = .ptr (.own H.length 0 0 0 0) 0 → env.get 5 = e5 → K (.exit 1) env (sW H jr l a vs M)) :
    ∀ (n i a : Nat) (vs : List Int) (env : Env) (M : List AO), i + n = cnt → a ≤ l.length → vs.length = i → preR vs (listR (numR l 1 1000) n a) = r → env.get 0 = rp jr → env.get 4 = .ptr (.own H.length 0 0 0 0) 0 → env.get 5 = e5 →
      env.get 22 = i64 cnt → env.get 23 = i64 i → LI Try.prog N drawB l72_0 env (sW H jr l a vs M) K := by
  intro n
  induction n with
  | zero =>
    intro i a vs env M hi ha hvs hr h0 h4 h5 h22 h23
    refine li_go hm l72_0.eq_1 ?_
    have e : i = cnt := by omega
    subst e
    have hr : r = .ok (vs, a) := by rw [← hr]; simp [listR, preR]
    simp -implicitDefEqProofs [h0, h4, h5, h22, h23]
    exact hexit vs a hr _ M (by simp [h4]) (by simp [h5])
  | succ n ih =>
    intro i a vs env M hi ha hvs hr h0 h4 h5 h22 h23
    refine li_go hm l72_0.eq_1 ?_
    have hlt : i < cnt := by omega
    have w1 : IntKind.i64.wrap ((i : Int) + 1) = ((i + 1 : Nat) : Int) := wrap_succ (by omega)
    rw [preR_step] at hr
    have h50 := ok50 (H := sW H jr l a vs M) (j := jr) (l := l) (a := a) (by unfold sW; exact get_hS hj _ _) hoct hl ha 1 1000
    have hnx := fun v a' h => numR_next (l := l) (lo := 1) (hi := 1000) (a := a) (a' := a') (n := v) h ha
    generalize numR l 1 1000 a = q at *
    simp only [rp] at h0 h50
    unfold sW at h50 ⊢
    simp -implicitDefEqProofs [h0, h4, h5, h22, h23, hlt, ndO]
    refine call_goP h50 ?_
    rintro o H' ho
    cases q with
    | error e =>
      obtain ⟨rfl, hk⟩ := ho
      simp -implicitDefEqProofs
      exact herr e hr.symm _ _ ((Keep.app (by simp) _ _).trans (hk.mono (by simp)))
    | ok p =>
      obtain ⟨v, a'⟩ := p
      obtain ⟨rfl, rfl⟩ := ho
      have hn := hnx v a' rfl
      rw [set_hS hj]
      simp only [] at hr
      simp -implicitDefEqProofs [h0, h4, h5, h22, h23, ndO, w1]
      repeat (refine And.intro (by omega) ?_)
      refine LI.cong (by simp [sW, ndO, ints]) (ih (i + 1) a' (vs ++ [v]) _ (M ++ [⟨[i64 v], 3, 0, true⟩]) (by omega) hn.2 (by simp; omega) hr ?_ ?_ ?_ ?_ ?_) <;> simp [rp, h4, h5, h22]
theorem loop72_1 (hoct : Oct l) (hl : l.length ≤ 100000) (hj : jr < H.length) {cnt : Nat} (hc : cnt ≤ 1000) {e5 : SV} {r : Except Fl (List Int × Nat)} {N : Nat} {K : XE → Env → List AO → Prop}
    (herr : ∀ e, r = .error e → ∀ env H', Keep H [jr] H' → K (.panic (fltV e)) env H')
    (hexit : ∀ vs a, r = .ok (vs, a) → ∀ env M, env.get 4 = .ptr (.own H.length 0 0 0 0) 0 → env.get 5 = e5 → K (.exit 3) env (sP H jr l a vs M)) :
    ∀ (n i a : Nat) (vs : List Int) (env : Env) (M : List AO), i + n = cnt → a ≤ l.length → vs.length = i → preR vs (listR (sgnR l (-1000000) 1000000) n a) = r → env.get 0 = rp jr → env.get 4 = .ptr (.own H.length 0 0 0 0) 0 → env.get 5 = e5 →
      env.get 68 = i64 cnt → env.get 69 = i64 i → LI Try.prog N drawB l72_1 env (sP H jr l a vs M) K := by
  intro n
  induction n with
  | zero =>
    intro i a vs env M hi ha hvs hr h0 h4 h5 h68 h69
    refine li_go hm l72_1.eq_1 ?_
    have e : i = cnt := by omega
    subst e
    have hr : r = .ok (vs, a) := by rw [← hr]; simp [listR, preR]
    simp -implicitDefEqProofs [h0, h4, h5, h68, h69]
    exact hexit vs a hr _ M (by simp [h4]) (by simp [h5])
  | succ n ih =>
    intro i a vs env M hi ha hvs hr h0 h4 h5 h68 h69
    refine li_go hm l72_1.eq_1 ?_
    have hlt : i < cnt := by omega
    have w1 : IntKind.i64.wrap ((i : Int) + 1) = ((i + 1 : Nat) : Int) := wrap_succ (by omega)
    rw [preR_step] at hr
    have h83 := ok83 (H := sP H jr l a vs M) (j := jr) (l := l) (a := a) (by unfold sP; exact get_hS hj _ _) hoct hl ha (-1000000) 1000000
    have hnx := fun v a' h => sgnR_next (l := l) (lo := -1000000) (hi := 1000000) (a := a) (a' := a') (n := v) h ha
    generalize sgnR l (-1000000) 1000000 a = q at *
    simp only [rp] at h0 h83
    unfold sP at h83 ⊢
    simp -implicitDefEqProofs [h0, h4, h5, h68, h69, hlt, ndO]
    refine call_goP h83 ?_
    rintro o H' ho
    cases q with
    | error e =>
      obtain ⟨rfl, hk⟩ := ho
      simp -implicitDefEqProofs
      exact herr e hr.symm _ _ ((Keep.app (by simp) _ _).trans (hk.mono (by simp)))
    | ok p =>
      obtain ⟨v, a'⟩ := p
      obtain ⟨rfl, rfl⟩ := ho
      have hn := hnx v a' rfl
      rw [set_hS hj]
      simp only [] at hr
      simp -implicitDefEqProofs [h0, h4, h5, h68, h69, ndO, w1]
      repeat (refine And.intro (by omega) ?_)
      refine LI.cong (by simp [sP, ndO, ints]) (ih (i + 1) a' (vs ++ [v]) _ (M ++ [⟨[i64 v], 3, 0, true⟩]) (by omega) hn.2 (by simp; omega) hr ?_ ?_ ?_ ?_ ?_) <;> simp [rp, h4, h5, h68]
end
end Go.Proofs.Ytoghpbjllompaaa.Rc

/- P22 -/
namespace Go.Proofs.Ytoghpbjllompaaa.Rc
open Go.Ab
theorem Keep.pre {H L H' : List AO} {js : List Nat} (h : Keep (H ++ L) js H') : Keep H js H' :=
  ⟨by have := h.len; simp at this; omega, fun i hi hn => (h.at_ i (by simp; omega) hn).trans (List.getElem?_append_left hi)⟩
theorem listR_next {f : Nat → Except Fl (Int × Nat)} {b : Nat} (hf : ∀ a v a', a ≤ b → f a = .ok (v, a') → a < a' ∧ a' ≤ b) : ∀ (n a : Nat) (vs : List Int) (a' : Nat), a ≤ b → listR f n a = .ok (vs, a') → a ≤ a' ∧ a' ≤ b ∧ vs.length = n
  | 0, a, vs, a', ha, h => by simp only [listR, Except.ok.injEq, Prod.mk.injEq] at h; obtain ⟨rfl, rfl⟩ := h; exact ⟨Nat.le_refl _, ha, rfl⟩
  | n + 1, a, vs, a', ha, h => by
    simp only [listR] at h
    split at h
    · cases h
    · rename_i v a1 h1
      have h2 := hf _ _ _ ha h1
      split at h
      · cases h
      · rename_i ws a2 h3
        have h4 := listR_next hf n a1 ws a2 h2.2 h3
        simp only [Except.ok.injEq, Prod.mk.injEq] at h
        obtain ⟨rfl, rfl⟩ := h
        exact ⟨by omega, h4.2.1, by simp [h4.2.2]⟩
def infAt (is : List (Int × Int)) (i : Int) : Int × Int := is.getD i.toNat (0, 0)
def ndR (pl : Int) (is : List (Int × Int)) (l : List Int) (a : Nat) : Except Fl ((Nd × Int) × Nat) :=
  match octR l 0 255 a with
  | .error e => .error e
  | .ok (k, a1) =>
    if k = 1 then match octR l 1 60 a1 with
      | .error e => .error e
      | .ok (m, a2) => match listR (numR l 1 1000) m.toNat a2 with
        | .error e => .error e
        | .ok (ws, a3) => .ok ((⟨1, 0, 0, [], ws, []⟩, m), a3)
    else if k = 2 then match numR l 0 (is.length - 1) a1 with
      | .error e => .error e
      | .ok (i, a2) => .ok ((⟨2, (infAt is i).1, i, [], [], []⟩, (infAt is i).2), a2)
    else if k = 3 then match listR (sgnR l (-1000000) 1000000) pl.toNat a1 with
      | .error e => .error e
      | .ok (ps, a2) => .ok ((⟨3, 0, 0, [], [], ps⟩, 0), a2)
    else .error (3, a)
def ndV (p : Nd × Int) : SV := .tup [.agg [i64 p.1.k, i64 p.1.p, i64 p.1.i, nl, sl p.1.ws, sl p.1.ps], i64 p.2]
def gO (pl : Int) (nv : SV) (is : List (Int × Int)) : AO := ⟨[i64 pl, nv, .slc (infs is) is.length], 25, 0, true⟩
section
variable {H : List AO} {l : List Int} {jr jg a : Nat} {pl : Int} {nv : SV} {is : List (Int × Int)}
theorem ok72 (hoct : Oct l) (hl : l.length ≤ 100000) (hr : H[jr]? = some (rdO l a)) (hg : H[jg]? = some (gO pl nv is)) (hne : jr ≠ jg) (ha : a ≤ l.length) (hpl0 : 0 ≤ pl) (hpl : pl ≤ 4) (his : is.length ≤ 200) :
    OkP Try.prog 72 [rp jr, rp jg] H (RdP H l jr ndV (ndR pl is l a)) := by
  have hj := getElem?_lt hr
  have hjg := getElem?_lt hg
  have e1 : objCells H jr 0 = (rdO l a).cells := objCells_of (o := rdO l a) hr rfl
  refine okP_fn hm Try.func72 c72 (by simp [rp, SV.under, hj, hjg]) fun hcl => ?_
  have h49 := ok49 (H := H ++ [ndO 0 0 0 nl nl nl]) (j := jr) (l := l) (a := a) (by rw [List.getElem?_append_left hj]; exact hr) hoct hl ha 0 255
  have hnx := fun v a' h => octR_next (l := l) (lo := 0) (hi := 255) (a := a) (a' := a') (n := v) h
  unfold ndR
  generalize octR l 0 255 a = q at *
  have e2 := fun L => objCells_app L hj (H := H) (ver := 0)
  have e3 := fun L => objCells_app L hjg (H := H) (ver := 0)
  have e4 : objCells H jg 0 = (gO pl nv is).cells := objCells_of (o := gO pl nv is) hg rfl
  simp only [rp] at h49 ⊢
  simp -implicitDefEqProofs [i72, r72, e1, e2, rdO]
  refine call_goP (OkP.cast (by simp) (by simp [ndO]) h49) ?_
  rintro o H' ho
  cases q with
  | error e =>
    obtain ⟨rfl, hk⟩ := ho
    simp -implicitDefEqProofs
    exact ⟨_, _, ⟨rfl, hk.pre⟩, cv_id⟩
  | ok p =>
    obtain ⟨k, a1⟩ := p
    obtain ⟨rfl, rfl⟩ := ho
    have hn := hnx k a1 rfl
    rw [List.set_append_left _ _ hj]
    simp only []
    have e5 : ∀ (o : AO) (L : List AO), objCells (H.set jr o ++ L) jg 0 = (gO pl nv is).cells := fun o L => by
      rw [objCells_app L (by simpa using hjg)]
      exact objCells_of (o := gO pl nv is) (by rw [List.getElem?_set_ne hne]; exact hg) rfl
    by_cases k1 : k = 1
    · subst k1
      rw [if_pos rfl]
      have h49b := ok49 (H := H.set jr (rdO l a1) ++ [ndO 1 0 0 nl nl nl]) (j := jr) (l := l) (a := a1) (get_hS hj _ _) hoct hl hn.2.1 1 60
      have hnx2 := fun v a' h => octR_next (l := l) (lo := 1) (hi := 60) (a := a1) (a' := a') (n := v) h
      generalize octR l 1 60 a1 = q2 at *
      simp only [rp] at h49b
      simp -implicitDefEqProofs [ndO]
      refine call_goP (OkP.cast (by simp) (by simp [ndO]) h49b) ?_
      rintro o H' ho
      cases q2 with
      | error e =>
        obtain ⟨rfl, hk⟩ := ho
        simp -implicitDefEqProofs
        exact ⟨_, _, ⟨rfl, (Keep.app (by simp) _ _).trans hk⟩, cv_id⟩
      | ok p2 =>
        obtain ⟨m, a2⟩ := p2
        obtain ⟨rfl, rfl⟩ := ho
        have hn2 := hnx2 m a2 rfl
        rw [set_hS hj]
        simp only []
        obtain ⟨c, rfl⟩ : ∃ c : Nat, m = c := ⟨m.toNat, by omega⟩
        have hln := fun vs a' h => listR_next (f := numR l 1 1000) (b := l.length) (fun a v a' ha h => numR_next h ha) c a2 vs a' hn2.2.1 h
        simp only [Int.toNat_natCast]
        generalize hlr : listR (numR l 1 1000) c a2 = lr at *
        simp -implicitDefEqProofs [ndO]
        refine LI.tell (Tell.own0 (j := H.length) (p := 4) (o := ndO 1 0 0 nl nl nl) (by simp [ndO]) rfl rfl 3 1) (LI.cong (H' := sW H jr l a2 [] []) (by simp [sW, ndO, set_app0, ints]) (loop72_0 hoct hl hj (cnt := c) (by omega) (e5 := i64 c) (r := lr) (fun e he env H' hk => ?_) (fun vs a' he env M k4 k5 => ?_) c 0 a2 [] _ [] (by omega) hn2.2.1 rfl (by rw [preR_nil]; exact hlr) ?_ ?_ ?_ ?_ ?_))
        · subst he
          simp -implicitDefEqProofs
          exact ⟨_, _, ⟨rfl, hk⟩, cv_id⟩
        · subst he
          have hlv := (hln vs a' rfl).2.2
          simp -implicitDefEqProofs [sW, ndO, k4, k5]
          refine ⟨rfl, _, H.set jr (rdO l a'), ⟨rfl, rfl⟩, Cv.le (cv_fz 5 (closed_set hcl jr (by simp [rdO])) (by simp) rfl) ?_⟩
          simp [ndV, Nd.cells, sl]
          exact le_tup (leL.cons (le_agg (leL.cons (SV.le.refl _) (leL.cons (SV.le.refl _) (leL.cons (SV.le.refl _) (leL.cons (SV.le.refl _) (leL.cons (SV.le.refl _) (leL.cons le_nil leL.nil))))))) (leL.cons (SV.le.refl _) leL.nil))
        all_goals simp [rp]
    · by_cases k2 : k = 2
      · subst k2
        rw [if_neg (by omega), if_pos rfl]
        have h50 := ok50 (H := H.set jr (rdO l a1) ++ [ndO 2 0 0 nl nl nl]) (j := jr) (l := l) (a := a1) (get_hS hj _ _) hoct hl hn.2.1 0 (is.length - 1)
        have hrg := fun v a' h => numR_rng (l := l) (lo := 0) (hi := is.length - 1) (a := a1) (a' := a') (n := v) h
        generalize numR l 0 (is.length - 1) a1 = q2 at *
        have w1 : IntKind.i64.wrap ((is.length : Int) - 1) = (is.length : Int) - 1 := wrap_id (by omega) (by omega)
        simp only [rp] at h50
        simp -implicitDefEqProofs [ndO, e5, gO, w1]
        refine call_goP (OkP.cast (by simp) (by simp [ndO]) h50) ?_
        rintro o H' ho
        cases q2 with
        | error e =>
          obtain ⟨rfl, hk⟩ := ho
          simp -implicitDefEqProofs
          exact ⟨_, _, ⟨rfl, (Keep.app (by simp) _ _).trans hk⟩, cv_id⟩
        | ok p2 =>
          obtain ⟨i, a2⟩ := p2
          obtain ⟨rfl, rfl⟩ := ho
          have hi := hrg i a2 rfl
          rw [set_hS hj]
          obtain ⟨c, rfl⟩ : ∃ c : Nat, i = c := ⟨i.toNat, by omega⟩
          have hlt : c < is.length := by omega
          have hia : infAt is c = is[c] := by simp [infAt, hlt]
          simp only [hia]
          have hil := infs_len is
          simp -implicitDefEqProofs [ndO, e5, gO, hlt, infs_at hlt, infs_min hlt, infs_ge hlt, infs_g1 hlt]
          repeat (refine And.intro (by omega) ?_)
          refine ⟨rfl, _, H.set jr (rdO l a2), ⟨rfl, rfl⟩, Cv.le (cv_fz 5 (closed_set hcl jr (by simp [rdO])) (by simp) rfl) ?_⟩
          simp [ndV, Nd.cells, sl]
          exact le_tup (leL.cons (le_agg (leL.cons (SV.le.refl _) (leL.cons (SV.le.refl _) (leL.cons (SV.le.refl _) (leL.cons (SV.le.refl _) (leL.cons le_nil (leL.cons le_nil leL.nil))))))) (leL.cons (SV.le.refl _) leL.nil))
      · by_cases k3 : k = 3
        · subst k3
          rw [if_neg (by omega), if_neg (by omega), if_pos rfl]
          obtain ⟨c, rfl⟩ : ∃ c : Nat, pl = c := ⟨pl.toNat, by omega⟩
          have hln := fun vs a' h => listR_next (f := sgnR l (-1000000) 1000000) (b := l.length) (fun a v a' ha h => sgnR_next h ha) c a1 vs a' hn.2.1 h
          simp only [Int.toNat_natCast]
          generalize hlr : listR (sgnR l (-1000000) 1000000) c a1 = lr at *
          simp -implicitDefEqProofs [ndO, e5, gO]
          refine LI.tell (Tell.own0 (j := H.length) (p := 5) (o := ndO 3 0 0 nl nl nl) (by simp [ndO]) rfl rfl 3 1) (LI.cong (H' := sP H jr l a1 [] []) (by simp [sP, ndO, set_app0, ints]) (loop72_1 hoct hl hj (cnt := c) (by omega) (e5 := i64 0) (r := lr) (fun e he env H' hk => ?_) (fun vs a' he env M k4 k5 => ?_) c 0 a1 [] _ [] (by omega) hn.2.1 rfl (by rw [preR_nil]; exact hlr) ?_ ?_ ?_ ?_ ?_))
          · subst he
            simp -implicitDefEqProofs
            exact ⟨_, _, ⟨rfl, hk⟩, cv_id⟩
          · subst he
            have hlv := (hln vs a' rfl).2.2
            simp -implicitDefEqProofs [sP, ndO, k4, k5]
            refine ⟨rfl, _, H.set jr (rdO l a'), ⟨rfl, rfl⟩, Cv.le (cv_fz 5 (closed_set hcl jr (by simp [rdO])) (by simp) rfl) ?_⟩
            simp [ndV, Nd.cells, sl]
            exact le_tup (leL.cons (le_agg (leL.cons (SV.le.refl _) (leL.cons (SV.le.refl _) (leL.cons (SV.le.refl _) (leL.cons (SV.le.refl _) (leL.cons le_nil (leL.cons (SV.le.refl _) leL.nil))))))) (leL.cons (SV.le.refl _) leL.nil))
          all_goals simp [rp]
        · rw [if_neg k1, if_neg k2, if_neg k3]
          simp -implicitDefEqProofs [k1, k2, k3, ndO]
          refine call_go (ok53 3 a) ?_
          simp -implicitDefEqProofs
          exact ⟨_, _, ⟨rfl, Keep.app (by simp) _ _⟩, cv_id⟩
end
end Go.Proofs.Ytoghpbjllompaaa.Rc

