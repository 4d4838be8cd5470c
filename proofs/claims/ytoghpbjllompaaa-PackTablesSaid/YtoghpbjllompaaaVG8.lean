/-
  Steps of the proof: contracts of functions and plain facts that the statement rests on.
-/
import Derived.Test.YtoghpbjllompaaaVG7
set_option linter.all false
namespace Go.Proofs.Ytoghpbjllompaaa.Rc
open Go.Ab
def phN : Nd := ⟨0, 0, 0, [], [], []⟩
/-- The state behind the choice of a set. -/
structure MMid (c : Mc) (s s2 : Ms) (level : Nat) (x0 : Int) (info many : Nat) : Prop where
  ns : s2.ns = s.ns ++ [phN]
  pend : s2.pend = s.pend - 1
  a0 : 0 ≤ s2.at'
  m3 : 1 ≤ many ∧ many ≤ 3
  set : (x0 < 0 ∧ info = 0 ∧ s2.is = s.is ∧ s2.vs = s.vs) ∨
    (0 ≤ x0 ∧ s2.is[info]? = some (x0, (many : Int)) ∧ ((s2.is = s.is ∧ s2.vs = s.vs ∧ ∃ h : info < s.vs.length, s.vs[info].lv = level) ∨
      (x0 < c.pl ∧ info = s.is.length ∧ s2.is = s.is ++ [(x0, (many : Int))] ∧ ∃ sn : List Int, sn.length ≤ 100 ∧ s2.vs = s.vs ++ [⟨x0, level, sn, info⟩])))
section
variable {c : Mc} {s s2 s3 : Ms} {level info many : Nat} {x0 : Int}
theorem MMid.set' (hm : MMid c s s2 level x0 info many) (hi : MInv c s level) : ∃ i1 v1, s2.is = s.is ++ i1 ∧ s2.vs = s.vs ++ v1 ∧ (∀ v ∈ v1, v.lv = level ∧ v.sn.length ≤ 100 ∧ i1 = [(v.pl, (many : Int))] ∧ v.inf = s.is.length ∧ 0 ≤ v.pl ∧ v.pl < c.pl) ∧ i1.length = v1.length ∧ i1.length ≤ 1 := by
  rcases hm.set with ⟨_, _, h1, h2⟩ | ⟨h0, _, ⟨h1, h2, _⟩ | ⟨h3, h4, h1, sn, h5, h2⟩⟩
  · exact ⟨[], [], by simp [h1], by simp [h2], by simp, rfl, by simp⟩
  · exact ⟨[], [], by simp [h1], by simp [h2], by simp, rfl, by simp⟩
  · exact ⟨_, _, h1, h2, by simp [h5, h0, h3, h4], rfl, by simp⟩
/-- What holds while the children are made. -/
theorem MMid.inv (hm : MMid c s s2 level x0 info many) (hc : c.Good) (hi : MInv c s level) (hp1 : 1 ≤ s.pend) (hle : (s.ns.length : Int) + 1 + s2.pend + many ≤ c.most) : MInv c { s2 with pend := s2.pend + many } (level + 1) := by
  obtain ⟨i1, v1, e1, e2, h1, h2, h3⟩ := hm.set' hi
  have hvl := hi.vl
  refine ⟨hm.a0, ?_, ?_, ?_, ?_, ?_, ?_, ?_, ?_⟩
  · simp only [e1, e2, List.length_append]; omega
  · intro j hj
    simp only [e2, List.length_append] at hj
    simp only [e1, e2]
    by_cases hj' : j < s.vs.length
    · rw [List.getElem_append_left hj', List.getElem_append_left (by omega)]
      exact hi.vi j hj'
    · have hj2 : j - s.vs.length < v1.length := by omega
      rw [List.getElem_append_right (by omega), List.getElem_append_right (by omega)]
      obtain ⟨k1, k2, k3, k4, k5, k6⟩ := h1 _ (List.getElem_mem hj2)
      have : j = s.vs.length := by omega
      refine ⟨by rw [k4]; omega, ?_⟩
      simp only [k3]; simp
  · intro v hv
    simp only [e2] at hv
    rcases List.mem_append.1 hv with h | h
    · exact hi.vsn v h
    · exact (h1 v h).2.1
  · intro j hj hl
    simp only [e2, List.length_append] at hj hl
    by_cases hj' : j < s.vs.length
    · rw [List.getElem_append_left hj'] at hl
      obtain ⟨x, k1, k2⟩ := hi.used j hj' (by omega)
      exact ⟨x, by simp only [hm.ns]; exact List.mem_append_left _ k1, k2⟩
    · rw [List.getElem_append_right (by omega)] at hl
      have := (h1 _ (List.getElem_mem (show j - s.vs.length < v1.length by omega))).1
      omega
  · intro q hq
    simp only [e1] at hq
    rcases List.mem_append.1 hq with h | h
    · exact hi.isr q h
    · cases hv : v1 with
      | nil => rw [hv] at h2; simp at h2; rw [h2] at h; simp at h
      | cons v r =>
        obtain ⟨k1, k2, k3, k4, k5, k6⟩ := h1 v (by rw [hv]; simp)
        rw [k3] at h; simp at h; subst h
        have := hm.m3
        exact ⟨k5, k6, by omega, by omega⟩
  · intro x hx hk
    simp only [hm.ns] at hx
    rcases List.mem_append.1 hx with h | h
    · have := hi.nsr x h hk
      simp only [e1, List.length_append]; omega
    · simp [phN] at h; subst h; simp at hk
  · have := hi.il
    simp only [e1, hm.ns, List.length_append, List.length_singleton]; omega
  · simp only [hm.ns, List.length_append, List.length_singleton]; have := hm.pend; omega
end
end Go.Proofs.Ytoghpbjllompaaa.Rc

