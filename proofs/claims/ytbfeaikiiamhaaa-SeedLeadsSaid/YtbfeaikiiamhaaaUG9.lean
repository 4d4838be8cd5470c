/-
  Steps of the proof: contracts of functions and plain facts that the statement rests on.
-/
import Derived.Test.YtbfeaikiiamhaaaUG8
set_option linter.all false
namespace Go.Proofs.Ytbfeaikiiamhaaa.Rc
open Go.Ab
def IC.nth : Nat → IC → IC
  | 0, .seq a _ => a
  | n + 1, .seq _ b => IC.nth n b
  | _, i => i
def IC.tl : Nat → IC → IC
  | n + 1, .seq _ b => IC.tl n b
  | _, i => i
def t60 : IC := IC.tl 8 i42
section
variable {A B : List AO} {c : Mc} {s s2 : Ms} {level info many : Nat} {x0 x1 x2 : Int} {seen : List (List Int)}
set_option maxRecDepth 10000 in
theorem tail60 {env : Env} {g : AO} {N : Nat} (hc : c.Good) (hi : MInv c s level) (hp1 : 1 ≤ s.pend) (hm : MMid c s s2 level x0 info many) (hb : BuildOk c (level + 1)) (hcl : closed (c.hp A B s)) (hg : Cl 0 [g]) (hlv : level < c.lv.length)
    (hs : (seen.length : Int) = c.pl) (hsl : ∀ l ∈ seen, l.length ≤ level) (h0 : env.get 0 = .ptr (.own (A.length + 1) 0 0 0 0) 0) (h1 : env.get 1 = i64 level) (h2 : env.get 2 = seenV seen) (h7 : env.get 7 = i64 s.ns.length) (h8 : env.get 8 = .ptr (.own (A.length + (B.length + 7)) 0 0 0 0) 0)
    (h9 : env.get 9 = i64 many) (h10 : env.get 10 = i64 info) :
    X Try.prog N drawB t60 env (c.hp A (B ++ [g, ⟨[i64 x0, i64 x1, i64 x2], 78, 0, true⟩]) s2) (FinP (A.length + (B.length + 6)) r42 (buildP c A B s level)) := by
  have hcm := hc.m
  have hml := hi.ml
  have m3 := hm.m3
  have hpe := hm.pend
  have hcp := hc.p2
  have w1 : IntKind.i64.wrap ((s.ns.length : Int) + 1) = s.ns.length + 1 := wrap_id (by omega) (by omega)
  have w2 : IntKind.i64.wrap ((s.ns.length : Int) + 1 + s2.pend) = s.ns.length + 1 + s2.pend := wrap_id (by omega) (by omega)
  have w3 : IntKind.i64.wrap ((s.ns.length : Int) + 1 + s2.pend + many) = s.ns.length + 1 + s2.pend + many := wrap_id (by omega) (by omega)
  have w4 : IntKind.i64.wrap (s2.pend + many) = s2.pend + many := wrap_id (by omega) (by omega)
  by_cases hgt : c.most < (s.ns.length : Int) + 1 + s2.pend + many
  · simp -implicitDefEqProofs [t60, IC.tl, i42, r42, h0, h1, h2, h7, h8, h9, h10, Mc.hp, Mc.M, w1, w2, w3, w4, hgt]
    obtain ⟨i1, v1, e1, e2, hv1, hv2, hv3⟩ := hm.set' hi
    have hvl := hi.vl
    have hil := hi.il
    have hn2 : s2.ns.length = s.ns.length + 1 := by simp [hm.ns]
    have hd := ok57 (A := A) (B := B ++ [g, ⟨[i64 x0, i64 x1, i64 x2], 78, 0, true⟩]) (c := c) (s := s2) (info := info) (pl := x0) (by omega) (by rw [e1]; simp; omega) (fun h => by
      rcases hm.set with ⟨h', _⟩ | ⟨_, h', _⟩
      · omega
      · have := getElem?_lt h'; omega) (by rw [e1, e2]; simp; omega)
    refine call_goP hd ?_
    rintro o G' ⟨rfl, hcase⟩
    obtain ⟨s3, rfl, k1, k2, k3, k4, k5⟩ : ∃ s3, G' = c.hp A (B ++ [g, ⟨[i64 x0, i64 x1, i64 x2], 78, 0, true⟩]) s3 ∧ s3.ns = s.ns ++ [phN] ∧ s3.pend = s.pend - 1 ∧ s3.is = s.is ∧ s3.vs = s.vs ∧ 0 ≤ s3.at' := by
      rcases hcase with ⟨hcond, rfl⟩ | ⟨hx, hcond, hno, rfl⟩
      · refine ⟨s2, rfl, hm.ns, hm.pend, ?_, ?_, hm.a0⟩ <;> rcases hm.set with ⟨_, _, h, h'⟩ | ⟨hx, _, ⟨h, h', _⟩ | ⟨_, h4, h, sn, _, h'⟩⟩
        all_goals first
          | exact h
          | exact h'
          | skip
        all_goals
          exfalso
          rcases hcond with hh | hh | ⟨x, hx1, hx2, hx3⟩
          · omega
          · rw [h] at hh; simp at hh; omega
          · rw [hm.ns] at hx1
            rcases List.mem_append.1 hx1 with hx1 | hx1
            · have := hi.nsr x hx1 hx2; omega
            · simp [phN] at hx1; subst hx1; simp at hx2
      · refine ⟨s2.cut, rfl, hm.ns, hm.pend, ?_, ?_, hm.a0⟩ <;> rcases hm.set with ⟨hx', _⟩ | ⟨_, h6, ⟨h, h', hlt, hlv'⟩ | ⟨_, h4, h, sn, _, h'⟩⟩
        · omega
        · exfalso
          obtain ⟨x, hx1, hx2, hx3⟩ := hi.used info hlt (by rw [hlv']; exact Int.le_refl _)
          exact hno x (by rw [hm.ns]; exact List.mem_append_left _ hx1) ⟨hx2, hx3⟩
        · simp [Ms.cut, h]
        · omega
        · exfalso
          obtain ⟨x, hx1, hx2, hx3⟩ := hi.used info hlt (by rw [hlv']; exact Int.le_refl _)
          exact hno x (by rw [hm.ns]; exact List.mem_append_left _ hx1) ⟨hx2, hx3⟩
        · simp [Ms.cut, h']
    simp -implicitDefEqProofs [h0, h1, h2, h7, h8, h9, h10]
    refine call_goP (ok55 (k := s.ns.length) hc.l k5 hc.p1 hc.p2 (by rw [k1]; simp) (by rw [k1]; simp; omega)) ?_
    rintro o G' ⟨rfl, ps, a, p1, p2, p3, rfl⟩
    simp -implicitDefEqProofs [h0, h1, h2, h7, h8, h9, h10]
    exact ⟨_, _, ⟨rfl, _, _, _, _, post_end hc hi hp1 k1 k2 k3 k4 p1 p2 p3, rfl⟩, by rw [← hp_len]; exact hp_fin hcl rfl (fz_i64 _ _ _ _ _)⟩
  · simp -implicitDefEqProofs [t60, IC.tl, i42, r42, h0, h1, h2, h7, h8, h9, h10, Mc.hp, Mc.M, w1, w2, w3, w4, hgt]
    have hfin : ∀ (ch : Bool), ch = decide (x0 < 0) → ∀ (env : Env) (L : List AO) (s' : Ms) (nx ws : List Int) (subs : List Nd) (isN : List (Int × Int)) (vsN : List Vw), nx.length = many → KPost c { s2 with pend := s2.pend + many } s' (level + 1) (c.lv.length - (level + 1)) nx subs isN vsN → (ws.length = if ch = true then many else 0) → (∀ w ∈ ws, 1 ≤ w ∧ w ≤ 3) → Cl 0 L →
      env.get 0 = .ptr (.own (A.length + 1) 0 0 0 0) 0 → env.get 7 = i64 s.ns.length → env.get 11 = .ptr (.own (A.length + (B.length + 8)) 0 0 0 0) 0 →
      X Try.prog N drawB (IC.tl 5 t60) env (c.hp A (B ++ g :: ⟨[i64 x0, i64 x1, i64 x2], 78, 0, true⟩ :: nodX A B ch x0 info nx ws :: intO nx :: intO ws :: L) s') (FinP (A.length + (B.length + 6)) r42 (buildP c A B s level)) := by
      intro ch hch env L s' nx ws subs isN vsN hnx hk hws hw hL g0 g7 g11
      obtain ⟨isM, vsM, hpo⟩ := post_node hc hi hp1 hm hch hk hnx hws hw
      have hlt : s.ns.length < s'.ns.length := by rw [hk.ns]; simp [hm.ns]
      have hle := rws_le Nd.lenN hlt
      simp -implicitDefEqProofs [t60, IC.tl, i42, r42, g0, g7, g11, Mc.hp, Mc.M, nodX]
      refine ⟨hlt, ⟨by cases ch <;> rfl, rfl⟩, by simpa [Mc.N] using hle, _, _, ⟨rfl, _, _, _, _, (by rw [show c.lv.length - level = c.lv.length - (level + 1) + 1 by omega]; exact hpo), rfl⟩, ?_⟩
      have f1 := fz_own (n := A.length + (B.length + 6)) (ks := []) (L := g :: ⟨[i64 x0, i64 x1, i64 x2], 78, 0, true⟩ :: nodX A B ch x0 info nx ws :: intO nx :: intO ws :: L) (d := 1) 3 0 nx.length 1 nx.length
      have f2 := fz_own (n := A.length + (B.length + 6)) (ks := []) (L := g :: ⟨[i64 x0, i64 x1, i64 x2], 78, 0, true⟩ :: nodX A B ch x0 info nx ws :: intO nx :: intO ws :: L) (d := 1) 4 0 ws.length 1 ws.length
      have z1 : (ints nx).length = nx.length := by simp [ints]
      have z2 : (ints ws).length = ws.length := by simp [ints]
      have hne : nx ≠ [] := by intro e; subst e; simp at hnx; omega
      have hcl2 : closed (c.hp A B s') := closed_hp hcl
      have := fin_node (A := A) (B := B) (c := c) (s := s') (n0 := A.length + (B.length + 6)) (k := s.ns.length) (L := g :: ⟨[i64 x0, i64 x1, i64 x2], 78, 0, true⟩ :: nodX A B ch x0 info nx ws :: intO nx :: intO ws :: L) (r := i64 s.ns.length) (x := nodeN ch x0 info nx ws)
        (cx := [i64 (if ch = true then 1 else 2), i64 (if ch = true then 0 else x0), i64 (if ch = true then 0 else info), .own (A.length + (B.length + 9)) 0 nx.length 1 nx.length, if ch = true then .own (A.length + (B.length + 10)) 0 ws.length 1 ws.length else .val (.slice none 0 0), .val (.slice none 0 0)]) hcl2 (Nat.le_refl _) hlt (by
          rw [show A.length + (B.length + 9) = A.length + (B.length + 6) + 3 by omega, show A.length + (B.length + 10) = A.length + (B.length + 6) + 4 by omega]
          simp [placeOf, intO, z1, z2, List.take_of_length_le] at f1 f2
          cases ch with
          | true =>
            have hne2 : ws ≠ [] := by intro e; subst e; simp at hws; omega
            simp [nodeN, Nd.cN, slN, hne, hne2, sl, f1, f2, intO, placeOf, z1, z2, List.take_of_length_le]
          | false => simp [nodeN, Nd.cN, slN, hne, sl, f1, f2, intO, placeOf, z1, z2, List.take_of_length_le])
      simp [Mc.hp, Mc.D, Mc.L, Mc.M, Mc.V, Mc.N, Mc.I, nodX] at this ⊢
      exact this
    have hinv := hm.inv hc hi hp1 (by omega)
    have hA : Cl (A.length + (B.length + 6)) A := by have := closed_iff.1 hcl; rw [hp_len] at this; exact this.left
    have hB : Cl (A.length + (B.length + 6)) B := by have := closed_iff.1 hcl; rw [hp_len] at this; exact this.right.tail.tail.tail.tail.tail.tail
    have hloop : ∀ (ch : Bool), ch = decide (x0 < 0) → ∀ (env : Env) (K' : XE → Env → List AO → Prop), (∀ env H, X Try.prog N drawB (IC.tl 5 t60) env H (FinP (A.length + (B.length + 6)) r42 (buildP c A B s level)) → K' (.exit 0) env H) →
      env.get 0 = .ptr (.own (A.length + 1) 0 0 0 0) 0 → env.get 1 = i64 level → env.get 2 = seenV seen → env.get 7 = i64 s.ns.length → env.get 8 = .ptr (.own (A.length + (B.length + 7)) 0 0 0 0) 0 → env.get 9 = i64 many → env.get 11 = .ptr (.own (A.length + (B.length + 8)) 0 0 0 0) 0 → env.get 12 = i64 0 →
      LI Try.prog N drawB l42_0 env (c.hp A (B ++ g :: ⟨[i64 x0, i64 x1, i64 x2], 78, 0, true⟩ :: nodX A B ch x0 info [] [] :: intO [] :: intO [] :: []) { s2 with pend := s2.pend + many }) K' := by
      intro ch hch env K' hK' g0 g1 g2 g7 g8 g9 g11 g12
      refine loop60_0 (s1 := { s2 with pend := s2.pend + many }) (level := level) (many := many) (seen := seen) hc hb hA hB hg hs hsl hlv m3.2 hch (by show (many : Int) ≤ s2.pend + many; omega) (at' := s.ns.length) (fun env L s' nx ws subs isN vsN hnx hk hws hw hL k0 k7 k11 => hK' _ _ (hfin ch hch env L s' nx ws subs isN vsN hnx hk hws hw hL k0 k7 k11)) many env [] _ [] [] [] [] [] (by simp) (KPost.zero hinv) (by cases ch <;> rfl) (by simp) (Cl.nil _) g0 g1 g2 g7 g8 g9 g11 g12
    refine ⟨rfl, ?_⟩
    by_cases hx : 0 ≤ x0
    · rw [if_pos hx]
      refine ⟨rfl, LI.tell (Tell.own0 (j := A.length + (B.length + 8)) (p := 3) (o := ⟨[i64 2, i64 x0, i64 info, .val (.slice none 0 0), .val (.slice none 0 0), .val (.slice none 0 0)], 39, 0, true⟩) ?_ rfl rfl 3 1) (LI.tell (Tell.nil 3) (LI.cong (H' := c.hp A (B ++ g :: ⟨[i64 x0, i64 x1, i64 x2], 78, 0, true⟩ :: nodX A B false x0 info [] [] :: intO [] :: intO [] :: []) { s2 with pend := s2.pend + many }) ?_ (hloop false (by simpa using hx) _ _ (fun env H h => h) ?_ ?_ ?_ ?_ ?_ ?_ ?_ ?_)))⟩
      · simp only [get_app, get_c2, List.getElem?_cons_succ, get_app0, List.getElem?_cons_zero]
      · simp [Mc.hp, Mc.M, nodX, intO, set_app, set_c2]
        exact ⟨rfl, rfl, rfl, rfl, rfl⟩
      all_goals simp [h0, h1, h2, h7, h8, h9]
    · rw [if_neg hx]
      refine LI.tell (Tell.own0 (j := A.length + (B.length + 8)) (p := 3) (o := ⟨[i64 1, i64 0, i64 0, .val (.slice none 0 0), .val (.slice none 0 0), .val (.slice none 0 0)], 39, 0, true⟩) ?_ rfl rfl 3 1) (LI.tell (Tell.own0 (j := A.length + (B.length + 8)) (p := 4) (o := ⟨[i64 1, i64 0, i64 0, .own (A.length + (B.length + 9)) 0 0 1 0, .val (.slice none 0 0), .val (.slice none 0 0)], 39, 0, true⟩) ?_ rfl rfl 3 1)
        (LI.cong (H' := c.hp A (B ++ g :: ⟨[i64 x0, i64 x1, i64 x2], 78, 0, true⟩ :: nodX A B true x0 info [] [] :: intO [] :: intO [] :: []) { s2 with pend := s2.pend + many }) ?_ (hloop true (by simpa using hx) _ _ (fun env H h => h) ?_ ?_ ?_ ?_ ?_ ?_ ?_ ?_)))
      · simp only [get_app, get_c2, List.getElem?_cons_succ, get_app0, List.getElem?_cons_zero]
      · simp only [get_app, set_app, set_c2, get_c2, List.set_cons_succ, List.getElem?_cons_succ, set_app0, List.set_cons_zero, List.append_assoc, List.cons_append, get_app0, List.getElem?_cons_zero]
        simp
      · simp [Mc.hp, Mc.M, nodX, intO, set_app, set_c2]
        exact ⟨rfl, rfl, rfl, rfl, rfl⟩
      all_goals simp [h0, h1, h2, h7, h8, h9]
end
end Go.Proofs.Ytbfeaikiiamhaaa.Rc

