/-
  Steps of the proof: contracts of functions and plain facts that the statement rests on.
-/
import Derived.Test.YtbfeaikiiamhaaaUG7
set_option linter.all false
namespace Go.Proofs.Ytbfeaikiiamhaaa.Rc
open Go.Ab
def phN : Nd := ⟨0, 0, 0, [], [], []⟩
/-- The state behind the choice of a set. -/
structure MMid (c : Mc) (s s2 : Ms) (level : Nat) (x0 : Int) (info many : Nat) : Prop where
  ns : s2.ns = s.ns ++ [phN]
  pend : s2.pend = s.pend - 1
  a0 : 0 ≤ s2.at'
  m3 : 1 ≤ many ∧ many ≤ 3
  set : (x0 < 0 ∧ info = 0 ∧ s2.is = s.is ∧ s2.vs = s.vs) ∨
    (0 ≤ x0 ∧ s2.is[info]? = some (x0, (many : Int)) ∧ ((s2.is = s.is ∧ s2.vs = s.vs ∧ ∃ h : info < s.vs.length, s.vs[info].lv = level) ∨
      (x0 < c.pl ∧ info = s.is.length ∧ s2.is = s.is ++ [(x0, (many : Int))] ∧ ∃ sn : List Int, sn.length ≤ 100 ∧ s2.vs = s.vs ++ [⟨x0, level, sn, info⟩])))
section
variable {c : Mc} {s s2 s3 : Ms} {level info many : Nat} {x0 : Int}
theorem set_last {α : Type} (l : List α) (p x : α) (r : List α) : (l ++ p :: r).set l.length x = l ++ x :: r := by
  rw [List.set_append_right _ _ (Nat.le_refl _)]; simp
/-- An end that has been made. -/
theorem post_end {ps : List Int} {a : Int} {h : Nat} (hc : c.Good) (hi : MInv c s level) (hp1 : 1 ≤ s.pend) (hns : s3.ns = s.ns ++ [phN]) (hpe : s3.pend = s.pend - 1) (his : s3.is = s.is) (hvs : s3.vs = s.vs) (hps : (ps.length : Int) = c.pl) (hw : ∀ w ∈ ps, -3 ≤ w ∧ w ≤ 3) (ha : 0 ≤ a) :
    MPost c s (s3.endN s.ns.length ps a) level h [⟨3, 0, 0, [], [], ps⟩] [] [] := by
  have e : (s3.endN s.ns.length ps a).ns = s.ns ++ [⟨3, 0, 0, [], [], ps⟩] := by simp only [Ms.endN, hns]; exact set_last _ _ _ _
  have ei : (s3.endN s.ns.length ps a).is = s.is := his
  have ev : (s3.endN s.ns.length ps a).vs = s.vs := hvs
  refine ⟨e, by rw [ei]; simp, by rw [ev]; simp, hpe, by simp, Wlk.leaf _ _ rfl, by simp [rg, ei], ?_, ⟨ha, ?_, ?_, ?_, ?_, ?_, ?_, ?_, ?_⟩⟩
  · intro x hx
    simp at hx; subst hx
    exact .inr (.inr ⟨rfl, rfl, rfl, rfl, rfl, hps, fun w h => by have := hw w h; omega⟩)
  · rw [ei, ev]; exact hi.vl
  · intro j hj
    have hj' : j < s.vs.length := by rw [← ev]; exact hj
    have := hi.vi j hj'
    simp only [ei, ev]; exact this
  · rw [ev]; exact hi.vsn
  · intro j hj hl
    have hj' : j < s.vs.length := by rw [← ev]; exact hj
    simp only [ev] at hl
    obtain ⟨x, h1, h2⟩ := hi.used j hj' hl
    exact ⟨x, by rw [e]; exact List.mem_append_left _ h1, h2⟩
  · rw [ei]; exact hi.isr
  · intro x hx hk
    rw [e] at hx
    rcases List.mem_append.1 hx with h | h
    · rw [ei]; exact hi.nsr x h hk
    · simp at h; subst h; simp at hk
  · rw [ei, e]; have := hi.il; simp; omega
  · rw [e]; have := hi.ml; have : (s3.endN s.ns.length ps a).pend = s.pend - 1 := hpe; simp; omega
theorem MMid.set' (hm : MMid c s s2 level x0 info many) (hi : MInv c s level) : ∃ i1 v1, s2.is = s.is ++ i1 ∧ s2.vs = s.vs ++ v1 ∧ (∀ v ∈ v1, v.lv = level ∧ v.sn.length ≤ 100 ∧ i1 = [(v.pl, (many : Int))] ∧ v.inf = s.is.length ∧ 0 ≤ v.pl ∧ v.pl < c.pl) ∧ i1.length = v1.length ∧ i1.length ≤ 1 := by
  rcases hm.set with ⟨_, _, h1, h2⟩ | ⟨h0, _, ⟨h1, h2, _⟩ | ⟨h3, h4, h1, sn, h5, h2⟩⟩
  · exact ⟨[], [], by simp [h1], by simp [h2], by simp, rfl, by simp⟩
  · exact ⟨[], [], by simp [h1], by simp [h2], by simp, rfl, by simp⟩
  · exact ⟨_, _, h1, h2, by simp [h5, h0, h3, h4], rfl, by simp⟩
/-- What holds while the children are made. -/
theorem MMid.inv (hm : MMid c s s2 level x0 info many) (hc : c.Good) (hi : MInv c s level) (hp1 : 1 ≤ s.pend) (hle : (s.ns.length : Int) + 1 + s2.pend + many ≤ c.most) : MInv c { s2 with pend := s2.pend + many } (level + 1) := by
  obtain ⟨i1, v1, e1, e2, h1, h2, h3⟩ := hm.set' hi
  have hvl := hi.vl
  refine ⟨hm.a0, ?_, ?_, ?_, ?_, ?_, ?_, ?_, ?_⟩
  · simp only [e1, e2, List.length_append]; omega
  · intro j hj
    simp only [e2, List.length_append] at hj
    simp only [e1, e2]
    by_cases hj' : j < s.vs.length
    · rw [List.getElem_append_left hj', List.getElem_append_left (by omega)]
      exact hi.vi j hj'
    · have hj2 : j - s.vs.length < v1.length := by omega
      rw [List.getElem_append_right (by omega), List.getElem_append_right (by omega)]
      obtain ⟨k1, k2, k3, k4, k5, k6⟩ := h1 _ (List.getElem_mem hj2)
      have : j = s.vs.length := by omega
      refine ⟨by rw [k4]; omega, ?_⟩
      simp only [k3]; simp
  · intro v hv
    simp only [e2] at hv
    rcases List.mem_append.1 hv with h | h
    · exact hi.vsn v h
    · exact (h1 v h).2.1
  · intro j hj hl
    simp only [e2, List.length_append] at hj hl
    by_cases hj' : j < s.vs.length
    · rw [List.getElem_append_left hj'] at hl
      obtain ⟨x, k1, k2⟩ := hi.used j hj' (by omega)
      exact ⟨x, by simp only [hm.ns]; exact List.mem_append_left _ k1, k2⟩
    · rw [List.getElem_append_right (by omega)] at hl
      have := (h1 _ (List.getElem_mem (show j - s.vs.length < v1.length by omega))).1
      omega
  · intro q hq
    simp only [e1] at hq
    rcases List.mem_append.1 hq with h | h
    · exact hi.isr q h
    · cases hv : v1 with
      | nil => rw [hv] at h2; simp at h2; rw [h2] at h; simp at h
      | cons v r =>
        obtain ⟨k1, k2, k3, k4, k5, k6⟩ := h1 v (by rw [hv]; simp)
        rw [k3] at h; simp at h; subst h
        have := hm.m3
        exact ⟨k5, k6, by omega, by omega⟩
  · intro x hx hk
    simp only [hm.ns] at hx
    rcases List.mem_append.1 hx with h | h
    · have := hi.nsr x h hk
      simp only [e1, List.length_append]; omega
    · simp [phN] at h; subst h; simp at hk
  · have := hi.il
    simp only [e1, hm.ns, List.length_append, List.length_singleton]; omega
  · simp only [hm.ns, List.length_append, List.length_singleton]; have := hm.pend; omega
/-- The node itself, behind its children. -/
def nodeN (ch : Bool) (x0 : Int) (info : Nat) (nx ws : List Int) : Nd := if ch = true then ⟨1, 0, 0, nx, ws, []⟩ else ⟨2, x0, info, nx, [], []⟩
theorem post_node {s4 : Ms} {ch : Bool} {nx ws : List Int} {subs : List Nd} {isN : List (Int × Int)} {vsN : List Vw} {h' : Nat} (hc : c.Good) (hi : MInv c s level) (hp1 : 1 ≤ s.pend) (hm : MMid c s s2 level x0 info many) (hch : ch = decide (x0 < 0))
    (hk : KPost c { s2 with pend := s2.pend + many } s4 (level + 1) h' nx subs isN vsN) (hnx : nx.length = many) (hws : ws.length = if ch = true then many else 0) (hw : ∀ w ∈ ws, 1 ≤ w ∧ w ≤ 3) :
    ∃ isM vsM, MPost c s { s4 with ns := s4.ns.set s.ns.length (nodeN ch x0 info nx ws) } level (h' + 1) (nodeN ch x0 info nx ws :: subs) isM vsM := by
  obtain ⟨i1, v1, e1, e2, h1, h2, h3⟩ := hm.set' hi
  have hvl := hi.vl
  have m3 := hm.m3
  have hns4 : s4.ns = s.ns ++ phN :: subs := by rw [hk.ns]; simp [hm.ns]
  have his4 : s4.is = s.is ++ (i1 ++ isN) := by rw [hk.is]; simp [e1]
  have hvs4 : s4.vs = s.vs ++ (v1 ++ vsN) := by rw [hk.vs]; simp [e2]
  have e : s4.ns.set s.ns.length (nodeN ch x0 info nx ws) = s.ns ++ nodeN ch x0 info nx ws :: subs := by rw [hns4]; exact set_last _ _ _ _
  have hkn : (nodeN ch x0 info nx ws).nx = nx := by unfold nodeN; split <;> rfl
  have hkd : Kds (s.ns.length + 1) h' nx subs := by have := hk.kds; simp only [hm.ns, List.length_append, List.length_singleton] at this; exact this
  have hinfo : ch = false → s4.is[info]? = some (x0, (many : Int)) ∧ 0 ≤ x0 ∧ x0 < c.pl := by
    intro hf
    have hx : ¬ x0 < 0 := by rw [hf] at hch; simpa using hch.symm
    have key : s2.is[info]? = some (x0, (many : Int)) := by
      rcases hm.set with ⟨h, _⟩ | ⟨_, h, _⟩
      · exact absurd h hx
      · exact h
    refine ⟨by rw [hk.is, List.getElem?_append_left (getElem?_lt key)]; exact key, by omega, ?_⟩
    have := hk.inv.isr (x0, (many : Int)) (by rw [hk.is]; exact List.mem_append_left _ (List.mem_of_getElem? key))
    exact this.2.1
  refine ⟨i1 ++ isN, v1 ++ vsN, e, his4, hvs4, ?_, ?_, Wlk.node (by rw [hkn]; exact hkd), ?_, ?_, ?_⟩
  · show s4.pend = _
    rw [hk.pend]; simp only [hm.pend, hnx]; omega
  · intro v hv
    rcases List.mem_append.1 hv with h | h
    · rw [(h1 v h).1]; exact Int.le_refl _
    · have := hk.lv v h; omega
  · have hr := hk.rg
    simp only [e1] at hr
    cases ch with
    | true =>
      have hx : x0 < 0 := by simpa using hch.symm
      have hi1 : i1 = [] := by
        rcases hm.set with ⟨_, _, h, _⟩ | ⟨h, _⟩
        · rw [e1] at h; simpa using h
        · omega
      rw [hi1] at hr; simp at hr
      simp [rg, nodeN]; exact hr
    | false =>
      have hx : ¬ x0 < 0 := by simpa using hch.symm
      rcases hm.set with ⟨h, _⟩ | ⟨_, _, ⟨h4, _, hlt, _⟩ | ⟨_, h4, h5, _⟩⟩
      · omega
      · have hi1 : i1 = [] := by rw [e1] at h4; simpa using h4
        rw [hi1] at hr; simp at hr
        rw [show nodeN false x0 info nx ws = ⟨2, x0, info, nx, [], []⟩ from rfl]
        simp only [rg]
        rw [if_pos trivial, if_neg (by omega), if_pos (by omega)]; exact hr
      · have hi1 : i1 = [(x0, (many : Int))] := by rw [e1] at h5; simpa using h5
        rw [hi1] at hr; simp at hr
        rw [show nodeN false x0 info nx ws = ⟨2, x0, info, nx, [], []⟩ from rfl]
        simp only [rg]
        rw [if_pos trivial, if_pos (by omega)]; exact hr
  · intro x hx
    rcases List.mem_cons.1 hx with rfl | hx
    · cases ch with
      | true => exact .inl ⟨rfl, rfl, rfl, rfl, by simp [nodeN]; omega, by simp [nodeN]; omega, by simp at hws; simp [nodeN]; omega, fun w h => by have := hw w h; omega⟩
      | false =>
        obtain ⟨k1, k2, k3⟩ := hinfo rfl
        exact .inr (.inl ⟨rfl, rfl, rfl, by simp [nodeN]; omega, by simp [nodeN]; omega, k2, k3, by simp [nodeN], by simp [nodeN, hnx]; exact k1⟩)
    · exact hk.good x hx
  · have hin : ∀ y ∈ s4.ns, y.k = 2 → y ∈ s4.ns.set s.ns.length (nodeN ch x0 info nx ws) := by
      intro y hy hy2
      rw [hns4] at hy; rw [e]
      rcases List.mem_append.1 hy with h | h
      · exact List.mem_append_left _ h
      · rcases List.mem_cons.1 h with rfl | h
        · simp [phN] at hy2
        · exact List.mem_append_right _ (List.mem_cons_of_mem _ h)
    refine ⟨hk.inv.a0, hk.inv.vl, hk.inv.vi, hk.inv.vsn, ?_, hk.inv.isr, ?_, ?_, ?_⟩
    · intro j hj hl
      by_cases hj2 : ((level + 1 : Nat) : Int) ≤ s4.vs[j].lv
      · obtain ⟨x, k1, k2, k3⟩ := hk.inv.used j hj hj2
        exact ⟨x, hin x k1 k2, k2, k3⟩
      · have hlv : s4.vs[j].lv = level := by show s4.vs[j].lv = _; have : (level : Int) ≤ s4.vs[j].lv := hl; omega
        by_cases hj3 : j < s.vs.length
        · have ej : s4.vs[j] = s.vs[j] := by simp only [hvs4]; rw [List.getElem_append_left hj3]
          obtain ⟨x, k1, k2, k3⟩ := hi.used j hj3 (by rw [← ej, hlv]; exact Int.le_refl _)
          exact ⟨x, by show x ∈ s4.ns.set _ _; rw [e]; exact List.mem_append_left _ k1, k2, k3⟩
        · by_cases hj4 : j - s.vs.length < v1.length
          · have hv1 : v1.length = 1 := by omega
            rcases hm.set with ⟨_, _, _, h⟩ | ⟨hx0, _, ⟨_, h, _⟩ | ⟨_, h4, _, sn, _, h⟩⟩
            · rw [e2] at h; simp at h; rw [h] at hv1; simp at hv1
            · rw [e2] at h; simp at h; rw [h] at hv1; simp at hv1
            · have hcf : ch = false := by rw [hch]; simpa using hx0
              refine ⟨nodeN ch x0 info nx ws, by show _ ∈ s4.ns.set _ _; rw [e]; simp, by rw [hcf]; rfl, ?_⟩
              rw [hcf]; show (info : Int) = j; omega
          · exfalso
            have hj5 : j - s.vs.length - v1.length < vsN.length := by
              have : j < s4.vs.length := hj
              rw [hvs4] at this; simp at this; omega
            have ej : s4.vs[j] = vsN[j - s.vs.length - v1.length] := by
              simp only [hvs4]; rw [List.getElem_append_right (by omega), List.getElem_append_right (by omega)]
            have := hk.lv _ (List.getElem_mem hj5)
            rw [← ej] at this; omega
    · intro x hx hx2
      have hx' : x ∈ s.ns ++ nodeN ch x0 info nx ws :: subs := by rw [← e]; exact hx
      rcases List.mem_append.1 hx' with h | h
      · exact hk.inv.nsr x (by rw [hns4]; exact List.mem_append_left _ h) hx2
      · rcases List.mem_cons.1 h with rfl | h
        · cases hcc : ch with
          | true => rw [hcc] at hx2; simp [nodeN] at hx2
          | false =>
            have := getElem?_lt (hinfo hcc).1
            show 0 ≤ (info : Int) ∧ (info : Int) < s4.is.length
            omega
        · exact hk.inv.nsr x (by rw [hns4]; exact List.mem_append_right _ (List.mem_cons_of_mem _ h)) hx2
    · show s4.is.length ≤ (s4.ns.set _ _).length
      rw [List.length_set]; exact hk.inv.il
    · show ((s4.ns.set _ _).length : Int) + s4.pend ≤ _
      rw [List.length_set]; exact hk.inv.ml
end
end Go.Proofs.Ytbfeaikiiamhaaa.Rc

