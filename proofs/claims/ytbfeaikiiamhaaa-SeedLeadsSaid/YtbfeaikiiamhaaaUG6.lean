/-
  Steps of the proof: contracts of functions and plain facts that the statement rests on.
-/
import Derived.Test.YtbfeaikiiamhaaaUG5
set_option linter.all false
namespace Go.Proofs.Ytbfeaikiiamhaaa.Rc
open Go.Ab
section
variable {A B : List AO} {c : Mc} {s : Ms}
def nowO (l : List (List Int)) : AO := ⟨l.map sl, 35, l.length, true⟩
def seenV (l : List (List Int)) : SV := .slc (l.map sl) l.length
set_option maxRecDepth 10000 in
theorem loop60_1 {seen : List (List Int)} {jp : Nat} {x0 x1 x2 i : Int} {N : Nat} {K : XE → Env → List AO → Prop} {y1 y7 y9 : Int} {y11 : Nat} {m : Nat} (hcl : closed (c.hp A B s)) (hs : seen.length ≤ 1000) (hsl : ∀ l ∈ seen, l.length ≤ m) (hm : m ≤ 1000)
    (hpb : B[jp]? = some ⟨[i64 x0, i64 x1, i64 x2], 78, 0, true⟩)
    (hexit : ∀ env L l, Cl 0 L → l.length = seen.length → (∀ x ∈ l, x.length ≤ m + 1) → env.get 0 = .ptr (.own (A.length + 1) 0 0 0 0) 0 → env.get 1 = i64 y1 → env.get 2 = seenV seen → env.get 7 = i64 y7 → env.get 8 = .ptr (.own (A.length + (jp + 6)) 0 0 0 0) 0 → env.get 9 = i64 y9 → env.get 11 = .ptr (.own y11 0 0 0 0) 0 → env.get 12 = i64 i →
      env.get 13 = .own (A.length + (B.length + 6)) 0 seen.length 1 seen.length → K (.exit 2) env (c.hp A (B ++ nowO l :: L) s)) :
    ∀ (n : Nat) (env : Env) (l : List (List Int)) (L : List AO), l.length + n = seen.length → Cl 0 L → (∀ x ∈ l, x.length ≤ m + 1) → env.get 0 = .ptr (.own (A.length + 1) 0 0 0 0) 0 → env.get 1 = i64 y1 → env.get 2 = seenV seen → env.get 7 = i64 y7 → env.get 8 = .ptr (.own (A.length + (jp + 6)) 0 0 0 0) 0 → env.get 9 = i64 y9 → env.get 11 = .ptr (.own y11 0 0 0 0) 0 → env.get 12 = i64 i →
      env.get 13 = .own (A.length + (B.length + 6)) 0 l.length 1 l.length → env.get 14 = i64 l.length → LI Try.prog N drawB l42_1 env (c.hp A (B ++ nowO l :: L) s) K := by
  intro n
  induction n with
  | zero =>
    intro env l L hn hL hl h0 h1 h2 h7 h8 h9 h11 h12 h13 h14
    refine li_go hm' l42_1.eq_1 ?_
    have e : l.length = seen.length := by omega
    simp -implicitDefEqProofs [h0, h1, h2, h7, h8, h9, h11, h12, h13, h14, seenV, e]
    refine hexit _ L l hL e hl ?_ ?_ ?_ ?_ ?_ ?_ ?_ ?_ ?_ <;> simp [h0, h1, h2, h7, h8, h9, h11, h12, h13, e, seenV]
  | succ n ih =>
    intro env l L hn hL hl h0 h1 h2 h7 h8 h9 h11 h12 h13 h14
    refine li_go hm' l42_1.eq_1 ?_
    have hlt : l.length < seen.length := by omega
    have ep : ∀ X, objCells (B ++ X) jp 0 = [i64 x0, i64 x1, i64 x2] := fun X => by rw [objCells_app X (getElem?_lt hpb)]; exact objCells_of hpb rfl
    have hle := hsl _ (List.getElem_mem hlt)
    have w1 : IntKind.i64.wrap ((l.length : Int) + 1) = ((l.length + 1 : Nat) : Int) := wrap_succ (by omega)
    have key : ∀ (v : Int) (env : Env), env.get 0 = .ptr (.own (A.length + 1) 0 0 0 0) 0 → env.get 1 = i64 y1 → env.get 2 = seenV seen → env.get 7 = i64 y7 → env.get 8 = .ptr (.own (A.length + (jp + 6)) 0 0 0 0) 0 → env.get 9 = i64 y9 → env.get 11 = .ptr (.own y11 0 0 0 0) 0 → env.get 12 = i64 i →
        env.get 13 = .own (A.length + (B.length + 6)) 0 (l.length + 1) 1 (l.length + 1) → env.get 14 = i64 ((l.length + 1 : Nat) : Int) →
        LI Try.prog N drawB l42_1 env (A ++ (c.D s :: c.M A.length s :: c.L :: Mc.V s :: Mc.N s :: Mc.I s :: (B ++ ⟨l.map sl ++ [.own (A.length + (B.length + (L.length + 7))) 0 (seen[l.length].length + 1) 1 2], 35, l.length + 1, true⟩ ::
          (L ++ [⟨ints seen[l.length] ++ [i64 v], 3, 2, true⟩, ⟨[i64 v], 3, 0, true⟩, ⟨[.own (A.length + (B.length + (L.length + 7))) 0 (seen[l.length].length + 1) 1 2], 35, 0, true⟩])))) K := by
      intro v env g0 g1 g2 g7 g8 g9 g11 g12 g13 g14
      have el : ints seen[l.length] ++ [i64 v] = ints (seen[l.length] ++ [v]) := by simp [ints]
      rw [el]
      refine LI.cong (H' := c.hp A B s ++ (⟨l.map sl ++ [.own (A.length + (B.length + (L.length + 7))) 0 (seen[l.length].length + 1) 1 2], 35, l.length + 1, true⟩ ::
          (L ++ [⟨ints (seen[l.length] ++ [v]), 3, 2, true⟩, ⟨[i64 v], 3, 0, true⟩, ⟨[.own (A.length + (B.length + (L.length + 7))) 0 (seen[l.length].length + 1) 1 2], 35, 0, true⟩]))) (by simp [Mc.hp]) ?_
      refine LI.tell (Tell.give hcl (L.length + 1) 1 (o := ⟨ints (seen[l.length] ++ [v]), 3, 2, true⟩) (by simp) rfl) ?_
      have hk : (c.hp A B s).length + (L.length + 1) = A.length + (B.length + (L.length + 7)) := by rw [hp_len]; omega
      have hg : SV.gv (A.length + (B.length + (L.length + 7))) 2 (ints (seen[l.length] ++ [v])) 1 (.own (A.length + (B.length + (L.length + 7))) 0 (seen[l.length].length + 1) 1 2) = sl (seen[l.length] ++ [v]) := by
        simp [sl, show (ints (seen[l.length] ++ [v])).length = seen[l.length].length + 1 by simp [ints], List.take_of_length_le]
      have hgi : ∀ k : Int, SV.gv (A.length + (B.length + (L.length + 7))) 2 (ints (seen[l.length] ++ [v])) 1 (i64 k) = i64 k := fun k => rfl
      have hgl : (l.map sl).map (SV.gv (A.length + (B.length + (L.length + 7))) 2 (ints (seen[l.length] ++ [v])) 1) = l.map sl := by simp [Function.comp_def, sl]
      refine LI.cong (H' := c.hp A B s ++ (nowO (l ++ [seen[l.length] ++ [v]]) :: (L ++ [⟨[], 3, 3, false⟩, ⟨[i64 v], 3, 0, true⟩, ⟨[sl (seen[l.length] ++ [v])], 35, 0, true⟩]))) ?_ ?_
      · rw [hk]
        simp [AO.gv_cl (Nat.zero_le _) hL, hg, hgi, hgl, nowO, AO.dead]
      · refine LI.cong (H' := c.hp A (B ++ (nowO (l ++ [seen[l.length] ++ [v]]) :: (L ++ [⟨[], 3, 3, false⟩, ⟨[i64 v], 3, 0, true⟩, ⟨[sl (seen[l.length] ++ [v])], 35, 0, true⟩]))) s) (by simp [Mc.hp]) ?_
        rw [hk]
        refine ih _ _ _ (by simp; omega) ?_ ?_ ?_ ?_ ?_ ?_ ?_ ?_ ?_ ?_ ?_ ?_
        · exact hL.app (Cl.cons rfl (Cl.cons rfl (Cl.cons (by simp [SV.underL, sl, SV.under]) (Cl.nil _))))
        · intro x hx
          rcases List.mem_append.1 hx with h | h
          · exact hl x h
          · simp at h; subst h; simp; omega
        all_goals rw [get_map _ (SV.gv _ _ _ _) (gv_any _ _ _ _)]; simp [g0, g1, g2, g7, g8, g9, g11, g12, g13, g14, seenV]
    simp -implicitDefEqProofs [h0, h1, h2, h7, h8, h9, h11, h12, h13, h14, seenV, hlt, Mc.hp, sl, ep, nowO, Nat.add_assoc]
    refine ⟨by omega, by omega, by omega, ?_⟩
    split
    · refine ⟨by omega, by omega, by omega, by omega, ?_⟩
      refine key i _ ?_ ?_ ?_ ?_ ?_ ?_ ?_ ?_ ?_ ?_ <;> simp [h0, h1, h2, h7, h8, h9, h11, h12, h13, h14, w1, seenV]
    · refine ⟨by omega, by omega, by omega, by omega, ?_⟩
      refine key (-1) _ ?_ ?_ ?_ ?_ ?_ ?_ ?_ ?_ ?_ ?_ <;> simp [h0, h1, h2, h7, h8, h9, h11, h12, h13, h14, w1, seenV]
end
end Go.Proofs.Ytbfeaikiiamhaaa.Rc

